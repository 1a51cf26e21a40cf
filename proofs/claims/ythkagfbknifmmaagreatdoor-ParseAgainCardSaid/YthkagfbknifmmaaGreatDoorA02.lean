/-
  Texts joined by program: PfOpH, PfOpI, PfOpJ, PfOpK, PfOpL, PfStep, PfFz, PfExec, PfKeep, PfFn, PfCall, PfSimp.
-/
import Derived.Test.YthkagfbknifmmaaGreatDoorA01
import Derived.Laws.AppendOwn
import Derived.Laws.BytesString
import Derived.Laws.Runes
import Derived.Orders
import Derived.Recover
import Derived.RowKit3
set_option linter.unusedVariables false
set_option linter.unusedSectionVars false
set_option linter.unusedSimpArgs false
open Array renaming append_assoc→yFa,eq_empty_of_size_eq_zero→ypa,getD_eq_getD_getElem?→yda,getElem?_append_left→yba,getElem?_append_right→yka,getElem?_eq_getElem→yD,getElem?_eq_some_iff→yu,getElem?_setIfInBounds→yja
open Bool renaming and_eq_true→ya,false_eq_true→yi,not_eq_true'→yC,or_eq_true→yF
open Eq renaming trans→yf
open List renaming all_eq_true→yr,append_assoc→ym,eq_nil_of_length_eq_zero→yy,ext_getElem?→yBa,getElem?_append_left→yq,getElem?_append_right→yv,getElem?_cons_succ→yva,getElem?_cons_zero→yna,getElem?_drop→yN,getElem?_eq_getElem→yj,getElem?_eq_none→yfa,getElem?_eq_some_iff→yc,getElem?_map→yn,getElem?_set_ne→yB,getElem?_set_self→yx,getElem?_take→yH,getElem?_toArray→yG,length_append→ye,length_cons→yd,length_map→yea,length_nil→yg,map_cons→yz,map_nil→yW,mem_cons→yia,mem_iff_getElem?→yR,nil_append→yp,range→yQ,replicate→yya,size_toArray→yCa,toArray→yAa
open Nat renaming add_assoc→yEa,add_mul→yE,div_lt_iff_lt_mul→yJa,le_max_left→yS,le_max_right→yL,le_refl→yh,le_trans→yha,lt_or_ge→yA,mul_le_mul_left→yxa,mul_le_mul_right→yo,zero_add→yV
open Option renaming bind_eq_some_iff→yaa,ext→yUa,getD_some→yma,map_eq_some_iff→yb,map_some→yZ
open Go.Result renaming andThen_ok→yl
open UInt8 renaming ofNat→yY
namespace PE
open Go
section
variable {P:Program} {G G':Gh} {N:Nat} {s:St} {a:Act} {w w':World} {oper:Oper} {b b':Bx} {st':ze} {v:PV}
theorem op_next{k:Nat}{x:Arg}(hS:Sim G N s a w)(hd:∀t,oper.dst=some t->t<N)(hc:zj P oper.op (.next k x)=true)(h:(IOp.next k x).sem s.fr (s.bx k) s.st=some (v,b',st')):Box3 P oper N G s a w k b' v st':=by
 simp only[zj]at hc;split at hc
 case h_2=>cases hc
 rename_i y ho;simp only[IOp.sem]at h;split at h
 case h_2=>cases h
 rename_i str pos k' hb hv;split at h
 case isFalse=>cases h
 rename_i hk;subst hk;have hbx:=hS.box k;rw[hb]at hbx;obtain⟨e1,e2,e3⟩:=hbx;have hev:=ztd hS hc hv;have hget:(getObj (G.box k)).run P w= .ok (.stringIter ⟨str.toArray⟩ pos) w:=by simp[getObj,Sem.run,e3]
 split at h
 ·rename_i hlt;cases h;let o':Go.Obj:= .stringIter ⟨str.toArray⟩ (pos+(Utf8.decode ⟨str.toArray⟩ pos).2)
  have hset:∀o',(setObj (G.box k) o').run P w= .ok () {w with heap:=w.heap.setIfInBounds (G.box k) o'}:=by intro o';simp[setObj,Sem.run,e3]
  have hb0:G.box k<w.heap.size:=(yu.1 e3).1;have ht:Turned w {w with heap:=w.heap.setIfInBounds (G.box k) o'} (G.box k) o':=
   ⟨by simp[hb0],fun b hb=>by simp[yja,Ne.symm hb],by simp,rfl,rfl,fun x=>by
    by_cases hx:x.block=G.box k
    ·rw[zce (o:=o') (by simp[hb0]) trivial x hx,zce e3 trivial x hx]
    ·exact World.frozen?_of_block (by simp[yja,Ne.symm hx])⟩
  obtain⟨hS',hI⟩:=hS.writeBox (bn:= .iter str (pos+(Utf8.decode ⟨str.toArray⟩ pos).2)) ht e1 e2 ⟨e1,e2,ht.here⟩ (by simp);refine zub (s1:={s with bx:=upd s.bx k _}) (mv:= .tuple #[.bool true,.int .i64 pos,.int .i32 (Utf8.decode ⟨str.toArray⟩ pos).1]) hd ?_ hS' (zqc ht e1 (by simp) hI (Loc.le_refl _)) (fun κ=>VR.tr ?_) (by simp)
  ·have hlt':pos<(⟨str.toArray⟩:ByteArray).size:=by rw[zie];exact hlt
   simp only[execOp,ho,hev,Instr.next,Sem.run_bind,hget,yl,hlt',if_true,hset,Sem.run_pure,goInt];rfl
  ·refine .tup (by simp) ?_;intro j c x hc hx
   match j with
   |0=>simp at hc hx;subst hc;subst hx;exact .bool _
   |1=>simp at hc hx;subst hc;subst hx;exact .int _ _
   |2=>simp at hc hx;subst hc;subst hx;exact .int _ _
   |j+3=>simp at hc
 ·rename_i hlt;cases h;have hS':Sim G N {s with bx:=upd s.bx k (.iter str pos)} a w:=by
   have:upd s.bx k (.iter str pos)=s.bx:=by funext q;unfold upd;split;rename_i e;rw[e,hb];rfl
   rw[this];exact hS
  rw[hb];refine zub (s1:={s with bx:=upd s.bx k _}) (mv:= .tuple #[.bool false]) hd ?_ hS' (Ext.refl _ _ _) (fun κ=>VR.tr ?_) (by simp)
  ·have hlt':¬pos<(⟨str.toArray⟩:ByteArray).size:=by rw[zie];exact hlt
   simp only[execOp,ho,hev,Instr.next,Sem.run_bind,hget,yl,hlt',if_false,Sem.run_pure]
  ·refine .tup (by simp) ?_;intro j c x hc hx
   match j with
   |0=>simp at hc hx;subst hc;subst hx;exact .bool _
   |j+1=>simp at hc
theorem sameBits_key{I:Im}{L:Loc}{ks:Bool}{p q:PV}{x y:Value}(hp:VR I L p x)(hq:VR I L q y)(h:keyEq ks p q=some true)(n:Nat):Instr.sameBits n y x=true/\VR I L p x/\y=x:=by
 unfold keyEq at h;split at h
 ·split at h<;>simp at h
  rename_i hc;obtain⟨rfl,rfl⟩:=hc;subst h;rw[hp.int_inv,hq.int_inv];exact⟨by simp[Instr.sameBits],.int _ _,rfl⟩
 ·split at h<;>simp at h
  subst h;rw[hp.str_inv,hq.str_inv];exact⟨by simp only[Instr.sameBits,beq_toListBytes];simp,.str _,rfl⟩
 ·cases h
theorem mapSet_found{ks:Bool}{p v:PV}:∀(es:List (PV×PV)) (es':List (PV×PV)) (u:PV),mapSet ks p v es=some es'->zqb ks p es=some (some u)→
  ∃j k',es[j]? =some (k',u)/\keyEq ks p k'=some true/\(∀i k'' v'',i<j->es[i]? =some (k'',v'')->keyEq ks p k''=some false)/\es'=es.set j (p,v)
 | [],es',u,_,h=>by simp[zqb]at h
 |(k,x)::es,es',u,h1,h2=>by
  simp only[mapSet]at h1;simp only[zqb]at h2;split at h1
  ·rename_i hk;cases h1;rw[hk]at h2;simp at h2;subst h2;exact⟨0,k,by simp,hk,by intro i _ _ hi;omega,by simp⟩
  ·rename_i hk;rw[hk]at h2;simp at h2;simp only[yb]at h1;obtain⟨es1,h3,rfl⟩:=h1;obtain⟨j,k',f1,f2,f3,f4⟩:=mapSet_found es es1 u h3 h2;refine⟨j+1,k',by simpa using f1,f2,?_,by simp[f4]⟩;intro i k'' v'' hi he;cases i with
   |zero=>simp at he;obtain⟨rfl,rfl⟩:=he;exact hk
   |succ i=>exact f3 i k'' v'' (by omega) (by simpa using he)
  ·cases h1
theorem mapSet_new{ks:Bool}{p v:PV}:∀(es:List (PV×PV)) (es':List (PV×PV)),mapSet ks p v es=some es'->zqb ks p es=some none->es'=es++[(p,v)]
 | [],es',h,_=>by simp[mapSet]at h;simp[<-h]
 |(k,x)::es,es',h1,h2=>by
  simp only[mapSet]at h1;simp only[zqb]at h2;split at h1
  ·rename_i hk;rw[hk]at h2;simp at h2
  ·rename_i hk;rw[hk]at h2;simp at h2;simp only[yb]at h1;obtain⟨es1,h3,rfl⟩:=h1;rw[mapSet_new es es1 h3 h2];simp
  ·cases h1
theorem mapSet_find{ks:Bool}{p v:PV}:∀(es es':List (PV×PV)),mapSet ks p v es=some es'->∃r,zqb ks p es=some r
 | [],_,_=>⟨none,rfl⟩
 |(k,x)::es,es',h=>by
  simp only[mapSet]at h;simp only[zqb];split at h
  ·exact⟨_,rfl⟩
  ·rename_i hk;simp only[yb]at h;obtain⟨es1,h1,_⟩:=h;exact mapSet_find es es1 h1
  ·cases h
theorem mapFind_first{I:Im}{L:Loc}{ks:Bool}{dsc:TypeDesc}(hk:(ks=false/\∃k,dsc= .int k)\/(ks=true/\dsc= .string)){p:PV}{x:Value}(hp:VR I L p x):
  ∀(j:Nat) (es:List (PV×PV)) (ents:List MapEntry) (i:Nat) (k' u:PV),ents.length=es.length→
   (∀(j:Nat) k v,es[j]? =some (k,v)->∃en,ents[j]? =some en/\VR I L k en.key/\VR I L v en.val)->es[j]? =some (k',u)->keyEq ks p k'=some true→
   (∀i k'' v'',i<j->es[i]? =some (k'',v'')->keyEq ks p k''=some false)->∃mv,Instr.findNow dsc x ents i=some (some (i+j,mv))
 |0,[],_,_,_,_,_,_,h,_,_=>by simp at h
 |0,(k,v)::es,[],_,_,_,hl,_,_,_,_=>by simp at hl
 |0,(k,v)::es,en::ents,i,k',u,hl,hr,h1,h2,h3=>by
  obtain⟨en',e1,e2,e3⟩:=hr 0 k v (by simp);simp at e1 h1;subst e1;obtain⟨rfl,rfl⟩:=h1;exact⟨en.val,by simp[Instr.findNow,keyEq_now hk hp e2 h2]⟩
 |j+1,[],_,_,_,_,_,_,h,_,_=>by simp at h
 |j+1,(k,v)::es,[],_,_,_,hl,_,_,_,_=>by simp at hl
 |j+1,(k,v)::es,en::ents,i,k',u,hl,hr,h1,h2,h3=>by
  obtain⟨en',e1,e2,e3⟩:=hr 0 k v (by simp);simp at e1;subst e1;obtain⟨mv,hm⟩:=mapFind_first hk hp j es ents (i+1) k' u (by simpa using hl) (fun j k' v' hj=>by
   obtain⟨en',a1,a2⟩:=hr (j+1) k' v' (by simpa using hj);exact⟨en',by simpa using a1,a2⟩) (by simpa using h1) h2 (fun i' k'' v'' hi he=>h3 (i'+1) k'' v'' (by omega) (by simpa using he))
  refine⟨mv,?_⟩;simp only[Instr.findNow,keyEq_now hk hp e2 (h3 0 k v (by omega) (by simp)),hm];congr 3;omega
theorem op_mapset{ks:Bool}{m k x:Arg}(hS:Sim G N s a w)(hd:∀t,oper.dst=some t->t<N)(hc:zj P oper.op (.mapset ks m k x)=true)(h:(IOp.mapset ks m k x).sem s.fr b s.st=some (v,b',st')):
  v= .undef/\b'=b/\zYa P oper N G s a w v s.fr s.bx st':=by
 simp only[zj]at hc;obtain⟨t,m',k',x',hrun0,hT,hm,hk,hx⟩:∃t m' k' x',(execOp a.eval oper)=(do Instr.mapUpdate t (a.eval m') (a.eval k') (a.eval x');pure .skip)/\(match mapT P t with
   |some (ks',_)=>ks==ks'
   |none=>false)=true/\zO m' m=true/\zO k' k=true/\zO x' x=true:=by
  split at hc
  ·rename_i t m' k' x' ho;simp only[ya]at hc;exact⟨t,m',k',x',by simp[execOp,ho],hc.1.1.1,hc.1.1.2,hc.1.2,hc.2⟩
  ·rename_i t m' k' x' ho;simp only[ya]at hc;exact⟨t,m',k',x',by simp[execOp,ho],hc.1.1.1,hc.1.1.2,hc.1.2,hc.2⟩
  ·cases hc
 split at hT
 case h_2=>cases hT
 rename_i ks' e hmt;have hks:ks=ks':=by simpa using hT
 subst hks;obtain⟨kt,hu,hkt⟩:=mapT_info hmt;simp only[IOp.sem]at h;split at h
 case isFalse=>cases h
 rename_i hvar;simp only[ya]at hvar;obtain⟨hvar,hko⟩:=hvar;have hkey:VR (G.im w) (zi G.lc s.st) (k.val s.fr) (a.eval k'):=by
  refine zba hS hk rfl ?_ ?_
  ·intro sz l e;rw[e]at hko;cases hko
  ·intro q off e;rw[e]at hko;cases hko
 have hval:=(arg_vr hS hx (zac hvar)).stripA;split at h
 case h_2=>cases h
 rename_i r hv;split at h
 case h_2=>cases h
 rename_i es hst;simp only[yb,Prod.mk.injEq]at h;obtain⟨es',hes,rfl,rfl,rfl⟩:=h;have hr:=zba hS hm hv (by simp) (by simp);obtain⟨c1,c2,ents,clock,c3,c4,c5⟩:=hS.store.obj r _ hst;have e1:a.eval m'= .map (some (G.loc r)):=by
  generalize a.eval m'=mm at hr;cases hr with
  |mp hh=>simp[zi,Gh.lc,hst]at hh;rw[hh.1]
 have hget:(getObj (G.loc r)).run P w= .ok (.map ents clock) w:=by simp[getObj,Sem.run,c3]
 have hck:=run_checkKey (P:=P) hkt false 9999 (a.eval k') w;obtain⟨rr,hrr⟩:=mapSet_find es es' hes;have hf:=run_findKey hkt hkey (es:=es) (ents:=ents.toList) (by simpa using c4) (fun j k0 v0 hj=>by
  obtain⟨en,m1,m2⟩:=c5 j k0 v0 hj;exact⟨en,by simpa using m1,m2⟩) hrr w
 have hset:∀o',(setObj (G.loc r) o').run P w= .ok () {w with heap:=w.heap.setIfInBounds (G.loc r) o'}:=by intro o';simp[setObj,Sem.run,c3]
 have hb0:G.loc r<w.heap.size:=(yu.1 c3).1;have ht:∀es' clock',Turned w {w with heap:=w.heap.setIfInBounds (G.loc r) (.map es' clock')} (G.loc r) (.map es' clock'):=fun es' clock'=>
  ⟨by simp[hb0],fun b hb=>by simp[yja,Ne.symm hb],by simp,rfl,rfl,fun x=>by
    by_cases hx:x.block=G.loc r
    ·rw[zce (o:= .map es' clock') (by simp[hb0]) trivial x hx,zce c3 trivial x hx]
    ·exact World.frozen?_of_block (by simp[yja,Ne.symm hx])⟩
 have hI:∀es' clock',(G.im w).le (G.im {w with heap:=w.heap.setIfInBounds (G.loc r) (.map es' clock')}):=fun es' clock'=>zbc (ht es' clock') (fun j hj=>by rw[c2]at hj;omega)
 have fin:∀(ents':Array MapEntry) (clock':Nat),(Instr.mapUpdate t (a.eval m') (a.eval k') (a.eval x')).run P w= .ok () {w with heap:=w.heap.setIfInBounds (G.loc r) (.map ents' clock')}->ents'.size=es'.length→
   (∀(i:Nat) k v,es'[i]? =some (k,v)->∃en,ents'[i]? =some en/\VR (G.im w) (zi G.lc s.st) k en.key/\VR (G.im w) (zi G.lc s.st) v en.val)->zYa P oper N G s a w .undef s.fr s.bx (s.st.set r (.mp es')):=by
  intro ents' clock' hrun hsz hrel;obtain⟨hS',_⟩:=hS.writeObj (on:= .mp es') hst rfl (ht ents' clock') c1 c2 ⟨c1,c2,ents',clock',(ht _ _).here,hsz,fun i k v hi=>by
   obtain⟨en,q1,q2,q3⟩:=hrel i k v hi;exact⟨en,q1,q2.mono (hI _ _) (Loc.le_refl _),q3.mono (hI _ _) (Loc.le_refl _)⟩⟩
  refine zJd (s1:={s with st:=s.st.set r _}) hd ?_ hS' (zqc (ht _ _) c1 (by simp) (hI _ _) (zyc G.lc s.st hst rfl));rw[hrun0];simp only[Sem.run_bind,hrun,yl,Sem.run_pure]
 refine⟨rfl,rfl,?_⟩;cases rr with
 |none=>
  have hnew:=mapSet_new es es' hes hrr;subst hnew;refine fin (ents.push {key:=a.eval k',val:=a.eval x',born:=clock}) (clock+1) ?_ (by simp[c4]) ?_
  ·simp only at hf;simp only[e1,Instr.mapUpdate,Sem.run_bind,run_underlying hu,yl,hget,hck,hf,hset]
  ·intro i k0 v0 hi;rcases yA i es.length with hlt|hge
   ·rw[yq hlt]at hi;obtain⟨en,q1,q2,q3⟩:=c5 i k0 v0 hi;exact⟨en,by rw[Array.getElem?_push,if_neg (by omega)];exact q1,q2,q3⟩
   ·have:i=es.length:=by
     have:=(yc.1 hi).1;simp at this;omega
    subst this;simp at hi;obtain⟨rfl,rfl⟩:=hi;exact⟨_,by rw[Array.getElem?_push,if_pos c4.symm],hkey,hval⟩
 |some u=>
  obtain⟨j,k1,f1,f2,f3,f4⟩:=mapSet_found es es' u hes hrr;have hk':∀dsc,P.underlying kt=some dsc->((ks=false/\∃k,dsc= .int k)\/(ks=true/\dsc= .string)):=by
   intro dsc hd;rcases hkt with⟨a,k,e⟩|⟨a,e⟩
   ·rw[e]at hd;cases hd;exact .inl ⟨a,k,rfl⟩
   ·rw[e]at hd;cases hd;exact .inr ⟨a,rfl⟩
  obtain⟨dsc,hdsc⟩:∃dsc,P.underlying kt=some dsc:=by
   rcases hkt with⟨_,k,e⟩|⟨_,e⟩<;>exact⟨_,e⟩
  obtain⟨mv,hfn⟩:=mapFind_first (hk' dsc hdsc) hkey j es ents.toList 0 k1 u (by simpa using c4) (fun j k0 v0 hj=>by
   obtain⟨en,m1,m2⟩:=c5 j k0 v0 hj;exact⟨en,by simpa using m1,m2⟩) f1 f2 f3
  rw[yV]at hfn;have hfk:(Instr.findKey kt (a.eval k') ents.toList).run P w= .ok (some (j,mv)) w:=by simp[Instr.findKey,run_underlying hdsc,hfn]
  obtain⟨en,q1,q2,q3⟩:=c5 j k1 u f1;obtain⟨sb,_,hkk⟩:=sameBits_key hkey q2 f2 10000;have hjlt:j<ents.size:=(yu.1 q1).1;have hkts:(Instr.keyThatStays (((ents[j]?).map (·.key)).getD (a.eval k')) (a.eval k')).run P w= .ok (a.eval k') w:=by
   rw[q1];simp only[yZ,yma,Instr.keyThatStays];rw[if_pos sb];rfl
  subst f4;refine fin (ents.modify j fun e=>{e with key:=a.eval k',val:=a.eval x'}) clock ?_ (by simp[c4]) ?_
  ·simp only[e1,Instr.mapUpdate,Sem.run_bind,run_underlying hu,yl,hget,hck,hfk,hkts,hset]
  ·intro i k0 v0 hi;by_cases hij:j=i
   ·subst hij;rw[yx (by rw[<-c4];exact hjlt)]at hi;cases hi;exact⟨{en with key:=a.eval k',val:=a.eval x'},by simp[Array.getElem?_modify,q1],hkey,hval⟩
   ·rw[yB hij]at hi;obtain⟨en',p1,p2,p3⟩:=c5 i k0 v0 hi;exact⟨en',by simp[Array.getElem?_modify,hij,p1],p2,p3⟩
theorem vr_row{I:Im}{L:Loc}{k:SK}{sz:Nat}{l:List PV}{mv:Value}(hpos:0<sz)(h:VR I L (.slice k sz l) mv):∃ad cap,mv= .slice ad l.length cap/\l.length<=cap∧
  ((l=[])\/∃b o,ad=some ⟨b,o,none⟩/\∃news:List Value,news.length=l.length*sz/\(∀(q:Nat) x,news[q]? =some x->I b (o+q)=some x)/\RowR I L sz l news.toArray):=by
 cases h with
 |slice0=>exact⟨_,_,rfl,by simp,.inl rfl⟩
 |slice hk hf hc f hz hi hv=>
  rename_i b o cap;refine⟨_,_,rfl,hc,.inr ⟨b,o,rfl,(yQ (l.length*sz)).map (fun q=>f (q/sz) (q%sz)),by simp,?_,by simp,hz,?_,?_⟩⟩
  ·intro q x hq;simp only[yn,yb]at hq;obtain⟨q',h1,h2⟩:=hq;obtain⟨h3,h4⟩:=yc.1 h1;simp at h3 h4;subst h4;have hlt:q/sz<l.length:=(yJa hpos).2 h3;have e1:l[q/sz]? =some l[q/sz]:=by simp[hlt]
   have hm:q%sz<(cellsOf l[q/sz]).length:=by rw[(hz _ _ e1).1];exact Nat.mod_lt _ hpos
   have:=(hi (q/sz) _ (q%sz) _ e1 (yj hm)).1;have e2:o+q/sz*sz+q%sz=o+q:=by rw[yEa,Nat.mul_comm,Nat.div_add_mod]
   rw[e2,h2]at this;exact this
  ·intro q x hq;simp only[yG,yn,yb]at hq;obtain⟨q',h1,h2⟩:=hq;obtain⟨h3,h4⟩:=yc.1 h1;simp at h3 h4;subst h4;have hlt:q/sz<l.length:=(yJa hpos).2 h3;have e1:l[q/sz]? =some l[q/sz]:=by simp[hlt]
   have hm:q%sz<(cellsOf l[q/sz]).length:=by rw[(hz _ _ e1).1];exact Nat.mod_lt _ hpos
   have:=(hi (q/sz) _ (q%sz) _ e1 (yj hm)).2;rw[h2]at this;exact this
  ·intro i e j c x he hc' hx;have hj:j<sz:=by rw[<-(hz i e he).1];exact(yc.1 hc').1
   simp only[yG,yn,yb]at hx;obtain⟨q',h1,h2⟩:=hx;obtain⟨h3,h4⟩:=yc.1 h1;simp at h4;subst h4;have d1:(i*sz+j)/sz=i:=by rw[Nat.add_comm,Nat.add_mul_div_right _ _ hpos,Nat.div_eq_of_lt hj,yV]
   have d2:(i*sz+j)%sz=j:=by rw[Nat.add_comm,Nat.add_mul_mod_self_right,Nat.mod_eq_of_lt hj]
   rw[d1,d2]at h2;rw[<-h2];exact hv i e j c he hc'
theorem zab(p:PV):cellsOf (stripA p)=(cellsOf p).map canon1:=by
 cases p with
 |agg cs=>rfl
 |slice k _ _=>cases k<;>rfl
 |_=>rfl
theorem stripA_var{p:PV}(h:zG p=true):zG (stripA p)=true:=by
 cases p with
 |slice k _ _=>cases k<;>rfl
 |_=>first|rfl|exact h
theorem src_run{y:Operand}{g:Arg}{sz:Nat}{l':List PV}(hS:Sim G N s a w)(hy:zO y g=true)(hpos:0<sz)(h:zJb s.st sz (g.val s.fr)=some l'):
  (Builtin.lenOf (a.eval y)).run P w= .ok l'.length w/\∃news:List Value,news.length=l'.length*sz/\RowR (G.im w) (zi G.lc s.st) sz l' news.toArray∧
   ∀W:World,(∀b,b<w.heap.size->W.heap[b]? =w.heap[b]?)->(Builtin.firstCells sz l'.length (a.eval y)).run P W= .ok news.toArray W:=by
 have same:∀{W:World},(∀b,b<w.heap.size->W.heap[b]? =w.heap[b]?)->∀{bk o:Nat} {x:Value},w.cell? ⟨bk,o,none⟩=some x->W.cell? ⟨bk,o,none⟩=some x:=by
  intro W hW bk o x hx;have:=World.block_lt_of_cell? w _ hx;rw[World.cell?_of_block (a:=⟨bk,o,none⟩) (hW bk this)];exact hx
 have emptyRow:RowR (G.im w) (zi G.lc s.st) sz [] (([]:List Value).toArray):=⟨by simp,by simp,by simp,by simp⟩
 unfold zJb at h;split at h
 ·rename_i k sz' l hv;split at h
  case isFalse=>cases h
  rename_i hz;subst hz;cases h;obtain⟨κ,hk⟩:=arg_tr hS hy;rw[hv]at hk;have hp:VR (G.im w) (zi G.lc s.st) (.slice (if k= .own then .plain else k) sz l') (a.eval y):=by
   cases k with
   |own=>simpa using zid hk
   |plain=>exact hk
   |fit=>exact hk
   |firm=>exact hk
  obtain⟨ad,cap,e,hcap,hcase⟩:=vr_row hpos hp;refine⟨by rw[e];simp[Builtin.lenOf],?_⟩;rcases hcase with rfl|⟨bk,o,rfl,news,h1,h2,h3⟩
  ·refine⟨[],by simp,emptyRow,fun W _=>?_⟩;rw[e];cases ad<;>simp[Builtin.firstCells,loadCells,loadCellsFrom]
  ·refine⟨news,h1,h3,fun W hW=>?_⟩;rw[e];exact run_firstCells_some W sz l'.length ⟨bk,o,none⟩ l'.length cap news h1 (fun j x hj=>by rw[zob];exact same hW (im_cell (h2 j x hj)))
 ·rename_i l off ln sz' hv;split at h
  case isFalse=>cases h
  rename_i hz;subst hz;split at h
  case h_2=>cases h
  rename_i s0 es hst;split at h
  case isFalse=>cases h
  rename_i hc;simp only[ya,beq_iff_eq,decide_eq_true_eq]at hc;obtain⟨rfl,hle⟩:=hc;cases h;have hr:=zba hS hy hv (by simp) (by simp);obtain⟨c1,c2,arr,e,c3,c4,c5⟩:=hS.store.obj l _ hst;have hlen:(((es.drop off).take ln).map stripA).length=ln:=by simp;omega
  have hev:∃ad cap,a.eval y= .slice ad ln cap/\(ln≠0->ad=some ⟨G.loc l,off*s0,none⟩):=by
   generalize a.eval y=m at hr;cases hr with
   |mslice hL hc' _=>simp[zi,Gh.lc,hst,Obj.sz]at hL;obtain⟨rfl⟩:=hL;exact⟨_,_,rfl,fun _=>rfl⟩
   |mslice0 ad hL=>exact⟨_,_,rfl,fun hh=>absurd rfl hh⟩
  obtain⟨ad,cap,e1,e2⟩:=hev;refine⟨by rw[e1,hlen];simp[Builtin.lenOf],?_⟩;rw[hlen];by_cases h0:ln=0
  ·subst h0;refine⟨[],by simp,by simpa using emptyRow,fun W _=>?_⟩;rw[e1];cases ad<;>simp[Builtin.firstCells,loadCells,loadCellsFrom]
  ·have hb:off*s0+ln*s0<=arr.size:=by
    refine yha ?_ c4.2;rw[<-yE];exact yo _ hle
   have hget:∀(q:Nat) x,(arr.toList.drop (off*s0)|>.take (ln*s0))[q]? =some x->q<ln*s0/\arr[off*s0+q]? =some x:=by
    intro q x hq;rw[yH]at hq;split at hq
    ·rename_i hlt;rw[yN]at hq;exact⟨hlt,by simpa using hq⟩
    ·cases hq
   have hlen2:((arr.toList.drop (off*s0)).take (ln*s0)).length=ln*s0:=by simp;omega
   refine⟨(arr.toList.drop (off*s0)).take (ln*s0),hlen2,⟨by rw[yCa,hlen2,hlen],?_,?_,?_⟩,fun W hW=>?_⟩
   ·intro i p hp;simp only[yn,yH,yN,yb]at hp;obtain⟨p0,hp0,rfl⟩:=hp;split at hp0
    ·obtain⟨q1,q2,q3⟩:=c5 _ p0 hp0;exact⟨by rw[zab,yea,q1],stripA_var q2⟩
    ·cases hp0
   ·intro q x hq;obtain⟨h1,h2⟩:=hget q x (by simpa using hq);have hlt:off*s0+q<arr.size:=(yu.1 h2).1;have hdiv:(off*s0+q)/s0<es.length:=(yJa hpos).2 (by have:=yo s0 hle;rw[yE]at this;omega);have e3:es[(off*s0+q)/s0]? =some es[(off*s0+q)/s0]:=by simp[hdiv]
    obtain⟨q1,q2,q3⟩:=c5 _ _ e3;have hm:(off*s0+q)%s0<(cellsOf es[(off*s0+q)/s0]).length:=by rw[q1];exact Nat.mod_lt _ hpos
    obtain⟨mv,m1,m2⟩:=q3 _ _ (yj hm);rw[Nat.mul_comm,Nat.div_add_mod,h2]at m1;cases m1;exact m2.1
   ·intro i p j c x hp hc' hx;simp only[yn,yH,yN,yb]at hp;obtain⟨p0,hp0,rfl⟩:=hp;split at hp0
    case isFalse=>cases hp0
    rename_i hi;obtain⟨q1,q2,q3⟩:=c5 _ p0 hp0;obtain⟨h1,h2⟩:=hget _ x (by simpa using hx);rw[zab,yn,yb]at hc';obtain⟨c0,hc0,rfl⟩:=hc';obtain⟨mv,m1,m2⟩:=q3 j c0 hc0;rw[show(off+i)*s0+j=off*s0+(i*s0+j)from by rw[yE];omega,h2]at m1;cases m1;exact m2.strip.canon1
   ·rw[e1,e2 h0];have:=run_firstCells_some (P:=P) W s0 ln ⟨G.loc l,off*s0,none⟩ ln cap ((arr.toList.drop (off*s0)).take (ln*s0)) hlen2 (fun j x hj=>by
     rw[zob];exact same hW (by rw[zyb c3];exact(hget j x hj).2))
    exact this
 ·rename_i str hv;split at h
  case isFalse=>cases h
  rename_i hz;subst hz;cases h;have e:=arg_str hS hy hv;refine⟨by rw[e];simp[Builtin.lenOf,zie],str.map (fun b=>Value.int .u8 b.toNat),by simp,⟨by simp,?_,?_,?_⟩,fun W _=>?_⟩
  ·intro i p hp;simp only[yn,yb]at hp;obtain⟨c,_,rfl⟩:=hp;exact⟨rfl,rfl⟩
  ·intro j x hx;simp only[yG,yn,yb]at hx;obtain⟨c,_,rfl⟩:=hx;rfl
  ·intro i p j c x hp hc hx;simp only[yn,yb]at hp;obtain⟨c0,hc0,rfl⟩:=hp;cases j with
   |succ j=>simp[cellsOf]at hc
   |zero=>
    simp[cellsOf]at hc;subst hc;simp only[Nat.mul_one,Nat.add_zero,yG,yn,hc0,yZ]at hx;cases hx;exact .int _ _
  ·rw[e];simp only[Builtin.firstCells,Sem.run_pure,yea];congr 1;apply Array.ext';simp[ByteArray.data_extract]
 ·cases h
end
section
variable {P:Program} {G G':Gh} {N:Nat} {s:St} {a:Act} {w w':World} {oper:Oper} {b b':Bx} {st':ze} {v:PV}
theorem zld{t u ty e sz e0:Nat}(ht:P.underlying t=some (.slice e))(hu:∃d,P.underlying u=some d/\(d matches .int _)=false)(hsz:szT P e sz=true){bk n cap:Nat}{arr:Array Value}(hg:w.heap[bk]? =some (.cells arr e0 (0,0)))
  {y:Value} {m:Nat} {news:List Value} (hl:(Builtin.lenOf y).run P w= .ok m w) (hf:(Builtin.firstCells sz m y).run P w= .ok news.toArray w) (hn:news.length=m*sz) (h1:∀x∈news,x.oneCell'=true)
  (hroom:n+m<=cap) (hfit:n*sz+news.length<=arr.size):
  (Builtin.append_ #[t,u] ty #[.slice (some ⟨bk,0,none⟩) n cap,y]).run P w= .ok (.slice (some ⟨bk,0,none⟩) (n+m) cap) (w.setRow bk (zBa arr (n*sz) news)):=by
 obtain⟨d,hd,hd'⟩:=hu;have hst:=run_storeCells_at P bk (n*sz) e0 news 0 arr w hg (by simpa using hfit) h1;simp only[Nat.add_zero]at hst;have hz:(decide False)=false:=rfl;unfold Builtin.append_;simp only[yG,yna,yva,Sem.run_bind,run_underlying ht,yl,zia hsz,run_underlying hd,Sem.run_pure];cases d<;>first|(simp at hd';done)|skip
 all_goals
  simp only[yi,if_false,hl,yl,Bool.not_false,if_true,hroom,Sem.run_bind,hf,zob,yV,Sem.run_pure,hst];rfl
theorem zhb{t u ty e sz:Nat}{i:TypeInfo}{z:Value}(ht:P.underlying t=some (.slice e))(hu:∃d,P.underlying u=some d/\(d matches .int _)=false)(hsz:szT P e sz=true)(hi:P.info? e=some i)(hz:i.zero=some z)
  {ad:Option Addr} {n cap:Nat} {y:Value} {m:Nat} {olds news:List Value} (hl:(Builtin.lenOf y).run P w= .ok m w) (hf:(Builtin.firstCells sz m y).run P w.drew= .ok news.toArray w.drew)
  (ho:(Builtin.firstCells sz n (.slice ad n cap)).run P w.drew= .ok olds.toArray w.drew) (hb:0<i.bytes) (hroom:cap<n+m) (hby:(n+m)*i.bytes<=140737488355328):
  (Builtin.append_ #[t,u] ty #[.slice ad n cap,y]).run P w= .ok (.slice (some ⟨w.heap.size,0,none⟩) (n+m) (grownCap w (n+m) cap e))
   (w.drew.alloc (.cells (olds.toArray++news.toArray++Builtin.zeroCells z.cells (grownCap w (n+m) cap e-(n+m))) e)):=by
 obtain⟨d,hd,hd'⟩:=hu;have hn:¬(n+m<=cap):=by omega
 have h48:¬(Builtin.nextslicecap (n+m) cap*i.bytes>2^48):=by
  have:=growslice_fits hroom hby;omega
 have hti:(typeInfo e).run P w= .ok i w:=by simp[typeInfo,hi]
 have htd:∀W,(typeInfo e).run P W= .ok i W:=fun W=>by simp[typeInfo,hi]
 have hzv:∀W,(zeroValue e).run P W= .ok z W:=fun W=>by simp[zeroValue,typeInfo,hi,hz]
 have hch:(choose (.appendCap (n+m) cap e)).run P w= .ok (grownCap w (n+m) cap e) w.drew:=by simp[Question.forced,grownCap]
 have hb0:¬(i.bytes=0):=by omega
 unfold Builtin.append_;simp only[yG,yna,yva,Sem.run_bind,run_underlying ht,yl,zia hsz,run_underlying hd,Sem.run_pure];cases d<;>first|(simp at hd';done)|skip
 all_goals
  simp only[yi,if_false,hl,yl,Bool.not_false,if_true,hn,Sem.run_bind,htd,hb0,false_or,and_false,Sem.run_pure,h48,hch,run_askRoom,ho,hf,hzv,newRow,run_newObj];rfl
theorem zBc{t u ty e sz:Nat}(ht:P.underlying t=some (.slice e))(hu:∃d,P.underlying u=some d/\(d matches .int _)=false)(hsz:szT P e sz=true){ad:Option Addr}{n cap:Nat}
  {y:Value} (hl:(Builtin.lenOf y).run P w= .ok 0 w) (hf:(Builtin.firstCells sz 0 y).run P w= .ok #[] w) (hroom:n<=cap):
  (Builtin.append_ #[t,u] ty #[.slice ad n cap,y]).run P w= .ok (.slice ad n cap) w:=by
 obtain⟨d,hd,hd'⟩:=hu;unfold Builtin.append_;simp only[yG,yna,yva,Sem.run_bind,run_underlying ht,yl,zia hsz,run_underlying hd,Sem.run_pure];cases d<;>first|(simp at hd';done)|skip
 all_goals
  simp only[yi,if_false,hl,yl,Bool.not_false,if_true,Nat.add_zero,hroom,Sem.run_bind,hf];cases ad<;>simp[storeCells]
theorem RowR.append{I:Im}{L:Loc}{sz:Nat}{l l':List PV}{xs ys:List Value}(h:RowR I L sz l xs.toArray)(h':RowR I L sz l' ys.toArray):RowR I L sz (l++l') (xs++ys).toArray:=by
 obtain⟨a1,a2,a3,a4⟩:=h;obtain⟨b1,b2,b3,b4⟩:=h';simp only[yCa]at a1 b1;refine⟨by simp[a1,b1,yE],?_,?_,?_⟩
 ·intro i e he;rw[List.getElem?_append]at he;split at he
  ·exact a2 i e he
  ·exact b2 _ e he
 ·intro j x hx;simp only[yG]at hx;rw[List.getElem?_append]at hx;split at hx
  ·exact a3 j x (by simpa using hx)
  ·exact b3 _ x (by simpa using hx)
 ·intro i e j c x he hc hx;simp only[yG]at hx;rw[List.getElem?_append]at he;split at he
  ·rename_i hi;have hj:j<sz:=by rw[<-(a2 i e he).1];exact(yc.1 hc).1
   have hb:(i+1)*sz<=l.length*sz:=yo _ hi;rw[yE]at hb;rw[yq (by omega)]at hx;exact a4 i e j c x he hc (by simpa using hx)
  ·rename_i hi;have hb:l.length*sz<=i*sz:=yo _ (by omega);rw[yv (by omega)]at hx;refine b4 (i-l.length) e j c x he hc ?_;simp only[yG];rw[<-hx];congr 1;rw[Nat.sub_mul];omega
theorem slice_of_row{I I':Im}{L:Loc}{sz:Nat}{l:List PV}{xs:List Value}{bk cap:Nat}(h:RowR I L sz l xs.toArray)(hI:I.le I')(hc:l.length<=cap)(hcells:∀(q:Nat) x,xs[q]? =some x->I' bk q=some x){k:SK}(hk:k≠ .own)(hf:k.full=true->cap=l.length):
  VR I' L (.slice k sz l) (.slice (some ⟨bk,0,none⟩) l.length cap):=by
 obtain⟨a1,a2,a3,a4⟩:=h;have hlt:∀(i:Nat) e (j:Nat) c,l[i]? =some e->(cellsOf e)[j]? =some c->i*sz+j<xs.length:=by
  intro i e j c he hcj;have h1:=(yc.1 he).1;have h2:=(yc.1 hcj).1;rw[(a2 i e he).1]at h2;have:(i+1)*sz<=l.length*sz:=yo _ h1;rw[yE]at this;simp only[yCa]at a1;omega
 refine .slice hk hf hc (fun i j=>xs.getD (i*sz+j) Go.undef) a2 ?_ ?_
 ·intro i e j c he hcj;have h1:=hlt i e j c he hcj;have e1:xs[i*sz+j]? =some xs[i*sz+j]:=by simp[h1]
  refine⟨by rw[yV,hcells _ _ e1];simp[h1],?_⟩;have:=a3 (i*sz+j) xs[i*sz+j] (by simp);simpa[h1]using this
 ·intro i e j c he hcj;have h1:=hlt i e j c he hcj;have e1:xs[i*sz+j]? =some xs[i*sz+j]:=by simp[h1]
  have:=a4 i e j c xs[i*sz+j] he hcj (by simp);simp only[List.getD_eq_getElem?_getD,e1,yma];exact this.mono hI (Loc.le_refl _)
theorem okVal_own{z:Nat}{l:List PV}{v:Value}(h:zZb (.slice .own z l) v=true):False:=
 VR.not_own (zpd (I:=fun _ _=>none) (L:=fun _=>none) _ _ h)
theorem Sim.drew(hS:Sim G N s a w):Sim G N s a w.drew:=by
 have hK:∀κ,zic G w G w.drew κ:=fun κ bk hb=>⟨hb,rfl,rfl⟩
 have hI:(G.im w).le (G.im w.drew):=fun bk of x hx=>hx
 exact⟨hS.defers,hS.size,fun t ht=>(hS.tmp t ht).mono (G':=G) (w':=w.drew) hI (Loc.le_refl _) (hK _) (fun _ _ _=>rfl),hS.hi,hS.lp,
  fun k=>(hS.box k).mono (G':=G) (w':=w.drew) hI (Loc.le_refl _) rfl (hK _) (fun _=>hK _),
  ⟨fun l o hl=>(hS.store.obj l o hl).mono (G':=G) (w':=w.drew) hI (Loc.le_refl _) rfl (hK _) (fun _ _=>hK _),hS.store.fresh⟩⟩
theorem okAppT_info{ts:List Nat}{sz by_:Nat}(h:okAppT P ts sz by_=true):∃t u e i z,ts=[t,u]/\P.underlying t=some (.slice e)/\(∃d,P.underlying u=some d/\(d matches .int _)=false)/\szT P e sz=true/\P.info? e=some i/\i.bytes=by_/\0<by_/\0<sz/\i.zero=some z/\z.cells.size=sz:=by
 unfold okAppT at h;split at h
 case h_2=>cases h
 rename_i t u;simp only[ya]at h;obtain⟨h1,h2⟩:=h;split at h1
 case h_2=>cases h1
 rename_i e he;simp only[ya,decide_eq_true_eq]at h1;obtain⟨⟨⟨⟨q1,q2⟩,q3⟩,q4⟩,q5⟩:=h1;split at q5
 case h_2=>cases q5
 rename_i i hi;split at q5
 case h_2=>cases q5
 rename_i z hz;refine⟨t,u,e,i,z,rfl,zSd he,?_,q1,hi,?_,q3,q4,hz,by simpa using q5⟩
 ·unfold okSlcT at h2;split at h2
  ·rename_i hh;exact⟨_,hh,rfl⟩
  ·rename_i hh;exact⟨_,hh,rfl⟩
  ·cases h2
 ·unfold bytesT at q2;rw[hi]at q2;simpa using q2
theorem append_new(hS:Sim G N s a w)(hd:∀t,oper.dst=some t->t<N){d:Nat}(hdd:oper.dst=some d){sz e:Nat}{l l':List PV}{olds news rest:List Value}{cap:Nat}(hpos:0<sz)
  (hrun:(execOp a.eval oper).run P w= .ok (.value (.slice (some ⟨w.heap.size,0,none⟩) (l.length+l'.length) cap)) (w.drew.alloc (.cells (olds++news++rest).toArray e)))
  (hro:RowR (G.im w) (zi G.lc s.st) sz l olds.toArray) (hrn:RowR (G.im w) (zi G.lc s.st) sz l' news.toArray) (hcap:l.length+l'.length<=cap) (hmax:cap<=maxLen) (hsize:(olds++news++rest).length=cap*sz)
  {fr':Fr} (hfr:fr'=s.fr\/∃t0,fr'=upd s.fr t0 (strip (s.fr t0))):zYa P oper N G s a w (.slice .own sz (l++l')) fr' s.bx s.st:=by
 have hSd:Sim G N s a w.drew:=hS.drew;obtain⟨hS',hE⟩:=hSd.alloc (.cells (olds++news++rest).toArray e) (by first|rfl|trivial) (G':={G with fz:=upd G.fz w.heap.size ((l++l').length*sz),cl:=upd G.cl w.heap.size (some (.ownT d))}) (fun b hb=>zEa _ _ hb) (fun b hb=>zEa _ _ hb) (fun _ _ _=>rfl) (fun _ _=>rfl);have hrow:=hro.append hrn;have hlen:(olds++news).length=(l++l').length*sz:=by
  have:=hrow.1;simpa using this
 have hvr:=slice_of_row (bk:=w.heap.size) (cap:=cap) (k:= .plain) hrow hE.im (by simp;omega) (fun q x hq=>by
  have hlt:q<(l++l').length*sz:=by rw[<-hlen];exact(yc.1 hq).1
  unfold Gh.im;simp only[upd,if_true];rw[if_pos hlt];refine(World.cell?_alloc_new w.drew _ e q).trans ?_;simp only[yG];rw[yq (yc.1 hq).1];exact hq) (by simp) (by simp)
 have hown:TR {G with fz:=upd G.fz w.heap.size ((l++l').length*sz),cl:=upd G.cl w.heap.size (some (.ownT d))} (w.drew.alloc (.cells (olds++news++rest).toArray e)) (zi G.lc s.st) (.ownT d) (.slice .own sz (l++l')) (.slice (some ⟨w.heap.size,0,none⟩) (l.length+l'.length) cap):=by
  refine⟨w.heap.size,cap,_,e,by simp,by simp[upd],heap_alloc_new w.drew _,by rw[yCa,hsize],by simp;omega,hmax,by simp[upd],hpos,by rw[<-ye];exact hvr⟩
 have fin:∀{s1:St},s1.bx=s.bx->s1.st=s.st->Sim {G with fz:=upd G.fz w.heap.size ((l++l').length*sz),cl:=upd G.cl w.heap.size (some (.ownT d))} N s1 a (w.drew.alloc (.cells (olds++news++rest).toArray e))→
   zYa P oper N G s a w (.slice .own sz (l++l')) s1.fr s.bx s.st:=by
  intro s1 e1 e2 hS1;refine⟨_,_,_,{G with fz:=upd G.fz w.heap.size ((l++l').length*sz),cl:=upd G.cl w.heap.size (some (.ownT d))},hrun,.inl rfl,?_,⟨hE.im,hE.loc,hE.prot,hE.size,hE.os,hE.output,hE.frozen,hE.dfr⟩⟩;have:=hS1.put hd (v:= .slice .own sz (l++l')) (mv:= .slice (some ⟨w.heap.size,0,none⟩) (l.length+l'.length) cap) (fun t ht=>by
   rw[hdd]at ht;cases ht;rw[e2];exact hown) (by simp)
  rw[e1,e2]at this;exact this
 rcases hfr with rfl|⟨t0,rfl⟩
 ·exact fin rfl rfl hS'
 ·exact fin (s1:={s with fr:=upd s.fr t0 (strip (s.fr t0))}) rfl rfl (hS'.stripTmp t0)
theorem op_append{sz by_:Nat}{x y:Arg}(hS:Sim G N s a w)(hd:∀t,oper.dst=some t->t<N)(hdn:oper.dst≠none)(hc:zj P oper.op (.append sz by_ x y)=true)(h:(IOp.append sz by_ x y).sem s.fr b s.st=some (v,b',st')):
  b'=b/\st'=s.st/\zYa P oper N G s a w v (zRa s.fr (IOp.append sz by_ x y).takes) s.bx s.st:=by
 simp only[zj]at hc;split at hc
 case h_2=>cases hc
 rename_i c ho;split at hc
 case h_2=>cases hc
 rename_i hcal;simp only[ya]at hc;obtain⟨hargs,hT⟩:=hc;split at hargs
 case h_2=>cases hargs
 rename_i x' y' hxy;simp only[ya]at hargs;obtain⟨hx,hy⟩:=hargs;obtain⟨t,u,e,i,z,hts,ht,hu,hsz,hi,hby,hbp,hpos,hz,hzs⟩:=okAppT_info hT;have hargs':c.args= #[x',y']:=by
  have:=congrArg yAa hxy;simpa using this
 have hts':c.argTypes= #[t,u]:=by
  have:=congrArg yAa hts;simpa using this
 have hrun:(execOp a.eval oper).run P w=((Builtin.append_ #[t,u] oper.type #[a.eval x',a.eval y']).run P w).andThen fun v w'=> .ok (.value v) w':=by
  simp[execOp,ho,resolve,hcal,hargs',hts',invoke,builtin]
 obtain⟨d,hdd⟩:=Option.ne_none_iff_exists'.1 hdn;have hfrs:zRa s.fr (IOp.append sz by_ x y).takes=s.fr\/∃t0,zRa s.fr (IOp.append sz by_ x y).takes=upd s.fr t0 (strip (s.fr t0)):=by
  cases x with
  |t t0=>exact .inr ⟨t0,rfl⟩
  |c p=>exact .inl rfl
 subst hby;simp only[IOp.sem]at h;split at h
 ·
  rename_i sz' l hv;split at h
  case isFalse=>cases h
  rename_i hz';obtain rfl:sz=sz':=hz'.symm;simp only[yaa]at h;obtain⟨l',hl',h⟩:=h;split at h
  case isFalse=>cases h
  rename_i hbound;cases h;refine⟨rfl,rfl,?_⟩;obtain⟨s1,news,s2,s3,s4⟩:=src_run (P:=P) hS hy hpos hl';cases x with
  |c p=>
   simp only[Arg.val]at hv;subst hv;cases x'<;>simp[zO]at hx
   exact(okVal_own hx).elim
  |t t0=>
  simp only[Arg.val]at hv;cases x'<;>simp[zO]at hx
  rename_i t0';subst hx;have htN:t0'<N:=by
   rcases yA t0' N with h|h
   ·exact h
   ·rw[hS.hi t0' h]at hv;cases hv
  have htr:=hS.tmp t0' htN;rw[hv]at htr;have hev:a.eval (.tmp t0')=a.tmps.getD t0' Go.undef:=rfl;obtain⟨b0,cap,arr,e',h1,h2,h3,h5,h6,h7,h8,h9,h10⟩:=htr;obtain⟨ad,cap',q1,q2,q3⟩:=vr_row hpos h10;rw[h1]at q1;cases q1;have hol:∃olds:List Value,olds.length=l.length*sz/\(∀(q:Nat) x,olds[q]? =some x->G.im w b0 q=some x)/\RowR (G.im w) (zi G.lc s.st) sz l olds.toArray:=by
   rcases q3 with rfl|⟨bb,oo,r1,olds,r2,r3,r4⟩
   ·exact⟨[],by simp,by simp,⟨by simp,by simp,by simp,by simp⟩⟩
   ·cases r1;exact⟨olds,r2,fun q x hq=>by have:=r3 q x hq;rwa[yV]at this,r4⟩
  obtain⟨olds,o1,o2,o3⟩:=hol;by_cases hroom:l.length+l'.length<=cap
  ·have hfit:l.length*sz+news.length<=arr.size:=by rw[s2,h5,<-yE];exact yo _ hroom
   have hr:=zld (P:=P) (ty:=oper.type) ht hu hsz h3 s1 (s4 w (fun _ _=>rfl)) s2 (fun x hx=>by
    obtain⟨j,hj⟩:=yR.1 hx;exact s3.2.2.1 j x (by simpa using hj)) hroom hfit
   let w1:=w.setRow b0 (zBa arr (l.length*sz) news)
   let G1:Gh:={G with cl:=upd G.cl b0 (some (.ownT d)),fz:=upd G.fz b0 ((l++l').length*sz)}
   have htn:=zcb h3 (zBa arr (l.length*sz) news);have hI:(G.im w).le (G1.im w1):=by
    intro bk of x hx;unfold Gh.im at hx ⊢;split at hx
    ·rename_i hlt;by_cases hbb:bk=b0
     ·subst hbb;rw[h8]at hlt;have hfz:G1.fz bk=(l++l').length*sz:=by simp[G1,upd]
      rw[if_pos (by rw[hfz];simp only[ye,yE];omega)];show(w.setRow bk _).cell? _=_
      rw[zyb htn.here,zpb hfit,if_neg (by omega),<-zyb h3];exact hx
     ·have hfz:G1.fz bk=G.fz bk:=zEa _ _ hbb;rw[if_pos (by rw[hfz];exact hlt)];show(w.setRow b0 _).cell? _=_
      rw[World.cell?_of_block (a:=⟨bk,of,none⟩) (htn.other bk hbb)];exact hx
    ·cases hx
   have hK:∀κ,κ≠ .ownT t0'->zic G w G1 w1 κ:=by
    intro κ hne bk hb;have hbb:bk≠b0:=by rintro rfl;rw[h2]at hb;cases hb;exact hne rfl
    exact⟨by simp only[G1];rw[zEa _ _ hbb];exact hb,by simp only[G1];rw[zEa _ _ hbb],htn.other bk hbb⟩
   have hS1:Sim G1 N {s with fr:=upd s.fr t0' (strip (s.fr t0'))} a w1:=by
    refine⟨hS.defers,hS.size,?_,?_,?_,?_,?_,?_⟩
    ·intro q hq;simp only[upd];split
     ·rename_i eq;subst eq;rw[hv];have:VR (G.im w) (zi G.lc s.st) (.slice .plain sz l) (a.tmps.getD q Go.undef):=h10;exact this.mono hI (Loc.le_refl _)
     ·rename_i eq;exact(hS.tmp q hq).mono (G':=G1) (w':=w1) hI (Loc.le_refl _) (hK _ (by simp[eq])) (fun _ _ _=>rfl)
    ·intro q hq;simp only[upd];split
     ·rename_i eq;subst eq;exact absurd htN (Nat.not_lt.2 hq)
     ·exact hS.hi q hq
    ·intro q k off hk;simp only[upd]at hk;split at hk
     ·rw[hv]at hk;cases hk
     ·exact hS.lp q k off hk
    ·exact fun k=>(hS.box k).mono (G':=G1) (w':=w1) hI (Loc.le_refl _) rfl (hK _ (by simp)) (fun _=>hK _ (by simp))
    ·exact fun l0 ob hl0=>(hS.store.obj l0 ob hl0).mono (G':=G1) (w':=w1) hI (Loc.le_refl _) rfl (hK _ (by simp)) (fun _ _=>hK _ (by simp))
    ·intro bk hb;have hb':w.heap.size<=bk:=by
      have:=htn.size;show w.heap.size<=bk
      rw[<-this];exact hb
     have hbb:bk≠b0:=by
      rintro rfl
      have:=(yu.1 h3).1;omega
     simp only[G1];rw[zEa _ _ hbb,zEa _ _ hbb];exact hS.store.fresh bk hb'
   have hE:Ext G s.st w G1 s.st w1:=⟨hI,Loc.le_refl _,fun bk hb=>hK .prot (by simp) bk hb,by show _<=w1.heap.size;rw[htn.size];exact yh _,rfl,rfl,fun x _=>htn.frozen x,rfl⟩
   refine⟨_,.slice (some ⟨b0,0,none⟩) (l.length+l'.length) cap,w1,G1,?_,.inl rfl,?_,hE⟩
   ·rw[hrun,hev,h1,hr];rfl
   ·refine hS1.put hd (fun q hq=>?_) (by simp);rw[hdd]at hq;cases hq;have hrow:=o3.append s3;have hlen:(olds++news).length=(l++l').length*sz:=by
     have:=hrow.1;simpa using this
    have hvr:=slice_of_row (bk:=b0) (cap:=cap) (k:= .plain) hrow hI (by simpa using hroom) (fun q x hq=>by
     have hlt:q<(l++l').length*sz:=by rw[<-hlen];exact(yc.1 hq).1
     by_cases hq1:q<olds.length
     ·rw[yq hq1]at hq;exact hI _ _ _ (o2 q x hq)
     ·rw[yv (by omega)]at hq;unfold Gh.im;have hfz:G1.fz b0=(l++l').length*sz:=by simp[G1,upd]
      rw[if_pos (by rw[hfz];exact hlt)];show(w.setRow b0 _).cell? _=_
      have hq2:=(yc.1 hq).1;rw[zyb htn.here,zpb hfit,if_pos ⟨by omega,by omega⟩,<-o1];exact hq) (by simp) (by simp)
    rw[<-ye];refine⟨b0,cap,_,e',rfl,by simp[G1,upd],htn.here,by rw[zza hfit,h5],by simpa using hroom,h7,by simp[G1,upd],hpos,hvr⟩
  ·
   have hfo:(Builtin.firstCells sz l.length (.slice (some ⟨b0,0,none⟩) l.length cap)).run P w.drew= .ok olds.toArray w.drew:=
    run_firstCells_some w.drew sz l.length ⟨b0,0,none⟩ l.length cap olds o1 (fun j x hj=>by rw[zob,yV];exact im_cell (o2 j x hj))
   have hr:=zhb (P:=P) (ty:=oper.type) ht hu hsz hi hz s1 (s4 w.drew (fun _ _=>rfl)) hfo hbp (by omega) hbound;have hneed:l.length+l'.length<=maxLen:=by
    have:(l.length+l'.length)*1<=(l.length+l'.length)*i.bytes:=yxa _ hbp;simp only[zU]at hbound;simp only[maxLen];omega
   refine append_new hS hd hdd (cap:=grownCap w (l.length+l'.length) cap e) (e:=e) (olds:=olds) (news:=news) (rest:=(Builtin.zeroCells z.cells (grownCap w (l.length+l'.length) cap e-(l.length+l'.length))).toList) hpos ?_ o3 s3 (grownCap_ge _ _ _ _) (grownCap_le_maxLen _ _ _ _ hneed) ?_ hfrs
   ·rw[hrun,hev,h1,hr];simp only[yl];congr 3;apply Array.ext';simp
   ·have:=size_zeroCells z.cells (grownCap w (l.length+l'.length) cap e-(l.length+l'.length));simp only[ye,o1,s2,Array.length_toList,this,hzs];have hge:=grownCap_ge w (l.length+l'.length) cap e;rw[Nat.sub_mul,yE];have:=yo sz hge;rw[yE]at this;omega
 ·
  rename_i sz' l hv;split at h
  case isFalse=>cases h
  rename_i hz';obtain rfl:sz=sz':=hz'.symm;simp only[yaa]at h;obtain⟨l',hl',h⟩:=h;obtain⟨s1,news,s2,s3,s4⟩:=src_run (P:=P) hS hy hpos hl';have hvr:=zba hS hx hv (by simp) (by simp);obtain⟨ad,cap,q1,q2,q3⟩:=vr_row hpos hvr;have hcap:cap=l.length:=by
   rw[q1]at hvr;cases hvr with
   |slice0 _ _ _ _ hk hf=>exact hf rfl
   |slice hk hf=>exact hf rfl
  have hS':∃s1:St,s1.fr=zRa s.fr (IOp.append sz i.bytes x y).takes/\s1.bx=s.bx/\s1.st=s.st/\Sim G N s1 a w:=by
   rcases hfrs with h|⟨t0,h⟩
   ·exact⟨s,h.symm,rfl,rfl,hS⟩
   ·exact⟨{s with fr:=upd s.fr t0 (strip (s.fr t0))},h.symm,rfl,rfl,hS.stripTmp t0⟩
  split at h
  ·rename_i hnil;cases h;subst hnil;refine⟨rfl,rfl,?_⟩;have hn0:news=[]:=yy (by simpa using s2);subst hn0;have hr:=zBc (P:=P) (ty:=oper.type) ht hu hsz (ad:=ad) (n:=l.length) (cap:=cap) s1 (s4 w (fun _ _=>rfl)) q2;obtain⟨s1',f1,f2,f3,f4⟩:=hS';refine⟨_,.slice ad l.length cap,w,G,by rw[hrun,q1,hr];rfl,.inl rfl,?_,Ext.refl _ _ _⟩;have:=f4.put hd (v:= .slice .fit sz l) (mv:= .slice ad l.length cap) (fun q hq=>by rw[f3];rw[q1]at hvr;exact hvr) (by simp);rw[f1,f2,f3]at this;exact this
  ·rename_i hnil;split at h
   case isFalse=>cases h
   rename_i hbound;cases h;refine⟨rfl,rfl,?_⟩;have hl0:0<l'.length:=List.length_pos_iff.2 hnil;have hol:∃olds:List Value,RowR (G.im w) (zi G.lc s.st) sz l olds.toArray/\(Builtin.firstCells sz l.length (.slice ad l.length cap)).run P w.drew= .ok olds.toArray w.drew/\olds.length=l.length*sz:=by
    rcases q3 with rfl|⟨bb,oo,rfl,olds,r2,r3,r4⟩
    ·refine⟨[],⟨by simp,by simp,by simp,by simp⟩,?_,by simp⟩;cases ad<;>simp[Builtin.firstCells,loadCells,loadCellsFrom]
    ·exact⟨olds,r4,run_firstCells_some w.drew sz l.length ⟨bb,oo,none⟩ l.length cap olds r2 (fun j x hj=>by rw[zob];exact im_cell (r3 j x hj)),r2⟩
   obtain⟨olds,o3,hfo,o1⟩:=hol;have hr:=zhb (P:=P) (ty:=oper.type) ht hu hsz hi hz s1 (s4 w.drew (fun _ _=>rfl)) hfo hbp (by omega) hbound;have hneed:l.length+l'.length<=maxLen:=by
    have:(l.length+l'.length)*1<=(l.length+l'.length)*i.bytes:=yxa _ hbp;simp only[zU]at hbound;simp only[maxLen];omega
   refine append_new hS hd hdd (cap:=grownCap w (l.length+l'.length) cap e) (e:=e) (olds:=olds) (news:=news) (rest:=(Builtin.zeroCells z.cells (grownCap w (l.length+l'.length) cap e-(l.length+l'.length))).toList) hpos ?_ o3 s3 (grownCap_ge _ _ _ _) (grownCap_le_maxLen _ _ _ _ hneed) ?_ hfrs
   ·rw[hrun,q1,hr];simp only[yl];congr 3;apply Array.ext';simp
   ·have:=size_zeroCells z.cells (grownCap w (l.length+l'.length) cap e-(l.length+l'.length));simp only[ye,o1,s2,Array.length_toList,this,hzs];have hge:=grownCap_ge w (l.length+l'.length) cap e;rw[Nat.sub_mul,yE];have:=yo sz hge;rw[yE]at this;omega
 ·
  rename_i sz' l hv;split at h
  case isFalse=>cases h
  rename_i hz';obtain rfl:sz=sz':=hz'.symm;simp only[yaa]at h;obtain⟨l',hl',h⟩:=h;obtain⟨s1,news,s2,s3,s4⟩:=src_run (P:=P) hS hy hpos hl';have hvr:=zba hS hx hv (by simp) (by simp);obtain⟨ad,cap,q1,q2,q3⟩:=vr_row hpos hvr;have hcap:cap=l.length:=by
   rw[q1]at hvr;cases hvr with
   |slice0 _ _ _ _ hk hf=>exact hf rfl
   |slice hk hf=>exact hf rfl
  have hS':∃s1:St,s1.fr=zRa s.fr (IOp.append sz i.bytes x y).takes/\s1.bx=s.bx/\s1.st=s.st/\Sim G N s1 a w:=by
   rcases hfrs with h|⟨t0,h⟩
   ·exact⟨s,h.symm,rfl,rfl,hS⟩
   ·exact⟨{s with fr:=upd s.fr t0 (strip (s.fr t0))},h.symm,rfl,rfl,hS.stripTmp t0⟩
  split at h
  ·rename_i hnil;cases h;subst hnil;refine⟨rfl,rfl,?_⟩;have hn0:news=[]:=yy (by simpa using s2);subst hn0;have hr:=zBc (P:=P) (ty:=oper.type) ht hu hsz (ad:=ad) (n:=l.length) (cap:=cap) s1 (s4 w (fun _ _=>rfl)) q2;obtain⟨s1',f1,f2,f3,f4⟩:=hS';refine⟨_,.slice ad l.length cap,w,G,by rw[hrun,q1,hr];rfl,.inl rfl,?_,Ext.refl _ _ _⟩;have:=f4.put hd (v:= .slice .firm sz l) (mv:= .slice ad l.length cap) (fun q hq=>by rw[f3];rw[q1]at hvr;exact hvr) (by simp);rw[f1,f2,f3]at this;exact this
  ·rename_i hnil;split at h
   case isFalse=>cases h
   rename_i hbound;cases h;refine⟨rfl,rfl,?_⟩;have hl0:0<l'.length:=List.length_pos_iff.2 hnil;have hol:∃olds:List Value,RowR (G.im w) (zi G.lc s.st) sz l olds.toArray/\(Builtin.firstCells sz l.length (.slice ad l.length cap)).run P w.drew= .ok olds.toArray w.drew/\olds.length=l.length*sz:=by
    rcases q3 with rfl|⟨bb,oo,rfl,olds,r2,r3,r4⟩
    ·refine⟨[],⟨by simp,by simp,by simp,by simp⟩,?_,by simp⟩;cases ad<;>simp[Builtin.firstCells,loadCells,loadCellsFrom]
    ·exact⟨olds,r4,run_firstCells_some w.drew sz l.length ⟨bb,oo,none⟩ l.length cap olds r2 (fun j x hj=>by rw[zob];exact im_cell (r3 j x hj)),r2⟩
   obtain⟨olds,o3,hfo,o1⟩:=hol;have hr:=zhb (P:=P) (ty:=oper.type) ht hu hsz hi hz s1 (s4 w.drew (fun _ _=>rfl)) hfo hbp (by omega) hbound;have hneed:l.length+l'.length<=maxLen:=by
    have:(l.length+l'.length)*1<=(l.length+l'.length)*i.bytes:=yxa _ hbp;simp only[zU]at hbound;simp only[maxLen];omega
   refine append_new hS hd hdd (cap:=grownCap w (l.length+l'.length) cap e) (e:=e) (olds:=olds) (news:=news) (rest:=(Builtin.zeroCells z.cells (grownCap w (l.length+l'.length) cap e-(l.length+l'.length))).toList) hpos ?_ o3 s3 (grownCap_ge _ _ _ _) (grownCap_le_maxLen _ _ _ _ hneed) ?_ hfrs
   ·rw[hrun,q1,hr];simp only[yl];congr 3;apply Array.ext';simp
   ·have:=size_zeroCells z.cells (grownCap w (l.length+l'.length) cap e-(l.length+l'.length));simp only[ye,o1,s2,Array.length_toList,this,hzs];have hge:=grownCap_ge w (l.length+l'.length) cap e;rw[Nat.sub_mul,yE];have:=yo sz hge;rw[yE]at this;omega
 ·cases h
theorem setAt_one{cs:List PV}{off:Nat}(h:off<cs.length)(p:PV):zzd cs off [p]=cs.set off p:=by
 apply yBa;intro i;rw[setAt_get (by simp;omega)];by_cases hi:i=off
 ·subst hi;rw[if_pos (by simp),yx h];simp
 ·rw[if_neg (by simp;omega),yB (Ne.symm hi)]
theorem run_storeOne{t:Nat}(hsz:szT P t 1=true){mv:Value}(hm:mv.cells= #[mv])(ho:mv.oneCell'=true){w:World}{g o:Nat}{cur:Array Value}{e:Nat}(hg:w.heap[g]? =some (.cells cur e (0,0)))(hle:o<cur.size):
  (storeVar t ⟨g,o,none⟩ mv).run P w= .ok () (w.setRow g (zBa cur o [mv])):=by
 have:=run_storeVar (P:=P) hsz (mv:=mv) (by rw[hm];rfl) (fun j x hx=>by
  rw[hm]at hx
  match j with
  |0=>simp at hx;subst hx;exact ho
  |j+1=>simp at hx) hg (o:=o) (by omega)
 rw[hm]at this;exact this
theorem op_storeT{wh:Where}{x:Arg}{t0:Nat}(hS:Sim G N s a w)(hd:∀t,oper.dst=some t->t<N)(hc:zj P oper.op (.storeT wh x t0)=true)
  (h:(IOp.storeT wh x t0).sem s.fr (zY s.bx wh.box?) s.st=some (v,b',st')):v= .undef/\zYa P oper N G s a w v (upd s.fr t0 (strip (s.fr t0))) (zGb s.bx wh.box? b') st':=by
 simp only[zj]at hc;split at hc
 case h_2=>cases hc
 rename_i t ad vl ho;simp only[ya]at hc;obtain⟨⟨h1,h2⟩,h3⟩:=hc;have h':=h;simp only[IOp.sem]at h;split at h
 ·rename_i hno;have hst:strip (s.fr t0)=s.fr t0:=by
   cases hv:s.fr t0 with
   |slice k z l=>cases k<;>first|rfl|(rw[hv]at hno;cases hno)
   |_=>rfl
  have hfr:upd s.fr t0 (strip (s.fr t0))=s.fr:=by
   rw[hst];funext q;simp only[upd];split<;>simp_all
  rw[hfr];refine op_store (sz:=1) (y:= .t t0) hS hd ?_ (by simpa only[IOp.sem,Arg.val]using h);simp only[zj,ho,ya];exact⟨⟨h1,h2⟩,h3⟩
 rename_i z l hv0';have hv0:s.fr t0= .slice .own z l:=by
  cases hv:s.fr t0 with
  |slice k z' l'=>rw[hv]at hv0';cases k<;>first|(cases hv0';rfl)|cases hv0'
  |_=>rw[hv]at hv0';cases hv0'
 cases vl<;>simp[zO]at h2
 rename_i t0';subst h2;have htN:t0'<N:=by
  rcases yA t0' N with h|h
  ·exact h
  ·rw[hS.hi t0' h]at hv0;cases hv0
 have htr:=hS.tmp t0' htN;rw[hv0]at htr;have hev:a.eval (.tmp t0')=a.tmps.getD t0' Go.undef:=rfl;have hmv:∃ad n c,a.tmps.getD t0' Go.undef= .slice ad n c:=by
  obtain⟨b0,cap,arr,e',q1,_⟩:=htr;exact⟨_,_,_,q1⟩
 obtain⟨sa,sn,sc,hmv⟩:=hmv;have hone:(a.tmps.getD t0' Go.undef).oneCell'=true:=by rw[hmv];rfl
 have hcells:(a.tmps.getD t0' Go.undef).cells= #[a.tmps.getD t0' Go.undef]:=by rw[hmv];rfl
 split at h
 ·rename_i k k' off hv;split at h
  case isFalse=>cases h
  rename_i hk;subst hk;split at h
  case h_2=>cases h
  rename_i cs hb;split at h
  case isFalse=>cases h
  rename_i hle;cases h;simp only[zY,Where.box?]at hb;obtain⟨b0,h0,hnew⟩:=zFd (κ':= .ownB k off) htr;have hS1:=hS.handOn (κ':= .ownB k off) h0;have hbx:=hS1.box k;simp only[hb]at hbx;obtain⟨e1,e2,arr,e,e3,e4,e5⟩:=hbx;have hrun:=run_storeOne (P:=P) h3 hcells hone e3 (o:=off) (by rw[e4];exact hle);have ht:=zcb e3 (zBa arr off [a.tmps.getD t0' Go.undef]);have hI:((PE.handOn G b0 (.ownB k off)).im w).le ((PE.handOn G b0 (.ownB k off)).im (w.setRow (G.box k) (zBa arr off [a.tmps.getD t0' Go.undef]))):=zbc ht (fun j hj=>by rw[e2]at hj;omega);have hown:OwnR (PE.handOn G b0 (.ownB k off)) w (zi G.lc s.st) (.ownB k off) z l (a.tmps.getD t0' Go.undef):=hnew _ (by simp[PE.handOn,upd]) rfl;have hcs:=zrd (G:=PE.handOn G b0 (.ownB k off)) (κ:=fun j=> .ownB k j) (L:=zi G.lc s.st) (base:=0) (off:=off) (xs:=[a.tmps.getD t0' Go.undef]) (vs:=[.slice .own z l]) hI ht e1 (by simp)
   (fun j c hj=>by have:=e5 j c hj;rw[yV];exact this) (by simp;omega) (by rw[e4];simp;omega) rfl
   (fun j c x hc hx=>by
    match j with
    |0=>
     simp only[yna,Option.some.injEq]at hc hx;subst hc;subst hx;exact⟨hone,hown.mono hI (Loc.le_refl _) (zha ht e1 (by simp))⟩
    |j+1=>simp at hc)
  simp only[yV]at hcs;rw[setAt_one hle]at hcs;obtain⟨hS',_⟩:=hS1.writeBox (bn:= .cells (cs.set off (.slice .own z l))) ht e1 e2 ⟨e1,e2,_,e,ht.here,by rw[zza (by rw[e4];simp;omega),List.length_set,e4],hcs⟩ (by simp);refine⟨rfl,zJd (s1:={s with fr:=upd s.fr t0' (strip (s.fr t0')),bx:=upd s.bx k _}) hd ?_ hS' ((zKd h0 (by simp) (Loc.le_refl _)).trans (zqc ht e1 (by simp) hI (Loc.le_refl _)))⟩;simp[execOp,ho,Instr.storeAt,ztd hS h1 hv,Instr.sureAddr,hev];have:(PE.handOn G b0 (.ownB k off)).box k=G.box k:=rfl;rw[this]at hrun;simp only[yda]at hrun;rw[hrun];rfl
 ·rename_i l' i off hv;split at h
  case h_2=>cases h
  rename_i sz' es hst;split at h
  case h_2=>cases h
  rename_i e0 he0;split at h
  case isFalse=>cases h
  rename_i hle;cases h;obtain⟨b0,h0,hnew⟩:=zFd (κ':= .ownS l' i off) htr;have hS1:=hS.handOn (κ':= .ownS l' i off) h0;have hptr:=zba hS h1 hv (by simp) (by simp);obtain⟨e1,e2,arr,e,e3,e4,e5⟩:=hS1.store.obj l' _ hst;obtain⟨d1,d2,d3⟩:=e5 i e0 he0;have hloc:zi G.lc s.st l'=some (G.loc l',sz',G.room l'):=by simp[zi,Gh.lc,hst,Obj.sz]
  have heval:a.eval ad= .pointer (some ⟨G.loc l',i*sz'+off,none⟩):=by
   generalize a.eval ad=m at hptr;cases hptr with
   |ptr hh=>rw[hloc]at hh;cases hh;rfl
  have hi:i<es.length:=(yc.1 he0).1;have hbound:(i+1)*sz'<=es.length*sz':=yo _ hi;rw[yE,Nat.one_mul]at hbound;have hle2:i*sz'+off<arr.size:=by have:=e4.2;rw[d1]at hle;omega
  have hrun:=run_storeOne (P:=P) h3 hcells hone e3 (o:=i*sz'+off) hle2;have ht:=zcb e3 (zBa arr (i*sz'+off) [a.tmps.getD t0' Go.undef]);have hI:((PE.handOn G b0 (.ownS l' i off)).im w).le ((PE.handOn G b0 (.ownS l' i off)).im (w.setRow (G.loc l') (zBa arr (i*sz'+off) [a.tmps.getD t0' Go.undef]))):=zbc ht (fun j hj=>by rw[e2]at hj;omega);have hown:OwnR (PE.handOn G b0 (.ownS l' i off)) w (zi G.lc s.st) (.ownS l' i off) z l (a.tmps.getD t0' Go.undef):=hnew _ (by simp[PE.handOn,upd]) rfl;have hcs:=zrd (G:=PE.handOn G b0 (.ownS l' i off)) (κ:=fun j=> .ownS l' i j) (L:=zi G.lc s.st) (base:=i*sz') (off:=off) (xs:=[a.tmps.getD t0' Go.undef]) (vs:=[.slice .own z l]) hI ht e1 (by simp)
   (fun j c hj=>d3 j c hj) (by simp;omega) (by simp;omega) rfl
   (fun j c x hc hx=>by
    match j with
    |0=>
     simp only[yna,Option.some.injEq]at hc hx;subst hc;subst hx;exact⟨hone,hown.mono hI (Loc.le_refl _) (zha ht e1 (by simp))⟩
    |j+1=>simp at hc)
  rw[setAt_one hle]at hcs;have hreb:cellsOf (zCa e0 ((cellsOf e0).set off (.slice .own z l)))=(cellsOf e0).set off (.slice .own z l)/\zG (zCa e0 ((cellsOf e0).set off (.slice .own z l)))=true:=by
   cases e0 with
   |agg cs0=>exact⟨rfl,rfl⟩
   |_=>
    simp only[cellsOf,yd,yg]at hle;have h0:off=0:=by omega
    subst h0;exact⟨rfl,rfl⟩
  obtain⟨hS',_⟩:=hS1.writeObj (on:= .arr sz' (es.set i (zCa e0 ((cellsOf e0).set off (.slice .own z l))))) hst rfl ht e1 e2 (by
   refine⟨e1,e2,_,e,ht.here,⟨by rw[zza (by simp;omega)];exact e4.1,by rw[zza (by simp;omega)];simpa using e4.2⟩,?_⟩;intro i' p hp;by_cases hii:i=i'
   ·subst hii;rw[yx hi]at hp;cases hp;rw[hreb.1];exact⟨by rw[List.length_set,d1],hreb.2,hcs⟩
   ·rw[yB hii]at hp;obtain⟨q1,q2,q3⟩:=e5 i' p hp;refine⟨q1,q2,fun j c hj=>?_⟩;obtain⟨mv,m1,m2⟩:=q3 j c hj;refine⟨mv,?_,cr_keep hI ht e1 (by simp) m2⟩;rw[zpb (by simp;omega),if_neg,m1];have hj':j<sz':=by rw[<-q1];exact(yc.1 hj).1
    rw[d1]at hle;simp only[yd,yg];rcases yA i i' with hlt|hge
    ·have:(i+1)*sz'<=i'*sz':=yo _ hlt;rw[yE]at this;omega
    ·have:(i'+1)*sz'<=i*sz':=yo _ (by omega);rw[yE]at this;omega)
  refine⟨rfl,zJd (s1:={s with fr:=upd s.fr t0' (strip (s.fr t0')),st:=s.st.set l' _}) hd ?_ hS' ((zKd h0 (by simp) (Loc.le_refl _)).trans (zqc ht e1 (by simp) hI (zyc G.lc s.st hst rfl)))⟩;simp[execOp,ho,Instr.storeAt,heval,Instr.sureAddr,hev];have:(PE.handOn G b0 (.ownS l' i off)).loc l'=G.loc l':=rfl;rw[this]at hrun;simp only[yda]at hrun;rw[hrun];rfl
 ·cases h
theorem strip_not_own(p:PV):(∃z l,p= .slice .own z l)\/strip p=p:=by
 cases p with
 |slice k z l=>cases k<;>first|exact .inl ⟨_,_,rfl⟩|exact .inr rfl
 |_=>exact .inr rfl
theorem keeps_fresh{b0:Nat}{κ0 κ':Cl}(hS:SimS G s.st w)(h0:G.cl b0=some κ0):∀bk,w.heap.size<=bk->(handOn G b0 κ').fz bk=0/\(handOn G b0 κ').cl bk=none:=by
 intro bk hb;refine⟨(hS.fresh bk hb).1,?_⟩;unfold handOn;simp only;rw[zEa]
 ·exact(hS.fresh bk hb).2
 ·rintro rfl;rw[(hS.fresh _ hb).2]at h0;cases h0
theorem op_loadT{wh:Where}{x:Arg}(hS:Sim G N s a w)(hd:∀t,oper.dst=some t->t<N)(hdn:oper.dst≠none)(hc:zj P oper.op (.loadT wh x)=true)
  (h:(IOp.loadT wh x).sem s.fr (zY s.bx wh.box?) s.st=some (v,b',st')):zYa P oper N G s a w v s.fr (zGb s.bx wh.box? b') st':=by
 simp only[zj]at hc;split at hc
 case h_2=>cases hc
 rename_i t y ho;simp only[ya]at hc;obtain⟨⟨⟨h1,h2⟩,h3⟩,h4⟩:=hc;obtain⟨d,hdd⟩:=Option.ne_none_iff_exists'.1 hdn;have key:∀{bk off:Nat} {mv:Value},a.eval y= .pointer (some ⟨bk,off,none⟩)->w.cell? ⟨bk,off,none⟩=some mv->(execOp a.eval oper).run P w= .ok (.value mv) w:=by
  intro bk off mv e hl;have hl':zEb (fun j=>w.cell? ⟨bk,j,none⟩) false 1 off mv:=hl;simp[execOp,ho,Instr.loadAt,Instr.sureAddr,e,zUd h2 h3 h4 hl']
 simp only[IOp.sem]at h;split at h
 ·rename_i k k' off hv;split at h
  case isFalse=>cases h
  rename_i hk;subst hk;split at h
  case h_2=>cases h
  rename_i cs hb;simp only[yb,Prod.mk.injEq]at h;obtain⟨u,hu,rfl,rfl,rfl⟩:=h;simp only[zY,Where.box?]at hb;have hbx:=hS.box k;rw[hb]at hbx;obtain⟨e1,e2,arr,e,e3,e4,e5⟩:=hbx;obtain⟨mv,m1,m2⟩:=e5 off u hu;have hrun:=key (ztd hS h1 hv) (by rw[zyb e3];exact m1);have hlt:off<cs.length:=(yc.1 hu).1;rcases strip_not_own u with⟨z,l,rfl⟩|hst
  ·obtain⟨b0,h0,hnew⟩:=zFd (κ':= .ownT d) m2.2;have hK:∀κ,κ≠ .ownB k off->zic G w (handOn G b0 (.ownT d)) w κ:=fun κ hne=>zbb h0 hne
   have hS1:Sim (handOn G b0 (.ownT d)) N {s with bx:=upd s.bx k (.cells (cs.set off (.slice .plain z l)))} a w:=by
    refine⟨hS.defers,hS.size,fun t ht=>(hS.tmp t ht).mono (G:=G) (G':=handOn G b0 (.ownT d)) (w:=w) (w':=w) (Im.le_refl _) (Loc.le_refl _) (hK _ (by simp)) (fun _ _ _=>rfl),hS.hi,?_,?_,?_⟩
    ·intro t k' o' hk';simp only[upd];split
     ·simp
     ·exact hS.lp t k' o' hk'
    ·intro k';simp only[upd];split
     ·rename_i ek;subst ek;obtain⟨k1,k2,k3⟩:=hK (.box k') (by simp) _ e1;refine⟨k1,e2,arr,e,e3,by rw[List.length_set,e4],fun j c hj=>?_⟩;by_cases hjo:off=j
      ·subst hjo;rw[yx hlt]at hj;cases hj;exact⟨mv,m1,m2.1,zid (G:=G) m2.2⟩
      ·rw[yB hjo]at hj;obtain⟨mv',n1,n2⟩:=e5 j c hj;exact⟨mv',n1,n2.mono (G:=G) (G':=handOn G b0 (.ownT d)) (w:=w) (w':=w) (Im.le_refl _) (Loc.le_refl _) (hK _ (by simp;omega))⟩
     ·rename_i ek;exact(hS.box k').mono (G:=G) (G':=handOn G b0 (.ownT d)) (w:=w) (w':=w) (Im.le_refl _) (Loc.le_refl _) rfl (hK _ (by simp)) (fun j=>hK _ (by simp[ek]))
    ·exact⟨fun l0 ob hl0=>(hS.store.obj l0 ob hl0).mono (G:=G) (G':=handOn G b0 (.ownT d)) (w:=w) (w':=w) (Im.le_refl _) (Loc.le_refl _) rfl (hK _ (by simp)) (fun _ _=>hK _ (by simp)),keeps_fresh hS.store h0⟩
   refine⟨_,mv,w,handOn G b0 (.ownT d),hrun,.inl rfl,?_,zKd h0 (by simp) (Loc.le_refl _)⟩;exact hS1.put hd (fun q hq=>by rw[hdd]at hq;cases hq;exact hnew _ (by simp[handOn,upd]) rfl) (by simp)
  ·have hvr:=m2.strip;rw[hst]at hvr ⊢;have hset:cs.set off u=cs:=by
    apply yBa;intro i;by_cases hi:off=i
    ·subst hi;rw[yx hlt,hu]
    ·rw[yB hi]
   have hsame:zGb s.bx (Where.box k).box? (.cells (cs.set off u))=s.bx:=by
    rw[hset];funext q;simp only[zGb,Where.box?,upd];split
    ·rename_i eq;rw[eq,hb]
    ·rfl
   rw[hsame];exact zz hS hd hrun hvr
 ·rename_i l' i off hv;split at h
  case h_2=>cases h
  rename_i sz' es hst;split at h
  case h_2=>cases h
  rename_i e0 he0;simp only[yb,Prod.mk.injEq]at h;obtain⟨u,hu,rfl,rfl,rfl⟩:=h;have hptr:=zba hS h1 hv (by simp) (by simp);obtain⟨e1,e2,arr,e,e3,e4,e5⟩:=hS.store.obj l' _ hst;obtain⟨d1,d2,d3⟩:=e5 i e0 he0;have hloc:zi G.lc s.st l'=some (G.loc l',sz',G.room l'):=by simp[zi,Gh.lc,hst,Obj.sz]
  have heval:a.eval y= .pointer (some ⟨G.loc l',i*sz'+off,none⟩):=by
   generalize a.eval y=m at hptr;cases hptr with
   |ptr hh=>rw[hloc]at hh;cases hh;rfl
  obtain⟨mv,m1,m2⟩:=d3 off u hu;have hrun:=key heval (by rw[zyb e3];exact m1);have hi:i<es.length:=(yc.1 he0).1;have hlt:off<(cellsOf e0).length:=(yc.1 hu).1;rcases strip_not_own u with⟨z,l,rfl⟩|hst'
  ·obtain⟨b0,h0,hnew⟩:=zFd (κ':= .ownT d) m2.2;have hK:∀κ,κ≠ .ownS l' i off->zic G w (handOn G b0 (.ownT d)) w κ:=fun κ hne=>zbb h0 hne
   have hreb:cellsOf (zCa e0 ((cellsOf e0).set off (.slice .plain z l)))=(cellsOf e0).set off (.slice .plain z l)/\zG (zCa e0 ((cellsOf e0).set off (.slice .plain z l)))=true:=by
    cases e0 with
    |agg cs0=>exact⟨rfl,rfl⟩
    |_=>
     simp only[cellsOf,yd,yg]at hlt;have h0:off=0:=by omega
     subst h0;exact⟨rfl,rfl⟩
   have hLs:zi G.lc (s.st.set l' (.arr sz' (es.set i (zCa e0 ((cellsOf e0).set off (.slice .plain z l))))))=zi G.lc s.st:=locOf_set G.lc s.st hst rfl;have hS1:Sim (handOn G b0 (.ownT d)) N {s with st:=s.st.set l' (.arr sz' (es.set i (zCa e0 ((cellsOf e0).set off (.slice .plain z l)))))} a w:=by
    refine⟨hS.defers,hS.size,?_,hS.hi,hS.lp,?_,?_⟩
    ·intro t ht;show TR _ _ (zi G.lc (s.st.set l' _)) _ _ _
     rw[hLs];exact(hS.tmp t ht).mono (G:=G) (G':=handOn G b0 (.ownT d)) (w:=w) (w':=w) (Im.le_refl _) (Loc.le_refl _) (hK _ (by simp)) (fun _ _ _=>rfl)
    ·intro k;show BxR _ _ (zi G.lc (s.st.set l' _)) _ _
     rw[hLs];exact(hS.box k).mono (G:=G) (G':=handOn G b0 (.ownT d)) (w:=w) (w':=w) (Im.le_refl _) (Loc.le_refl _) rfl (hK _ (by simp)) (fun j=>hK _ (by simp))
    ·refine⟨fun l0 ob hl0=>?_,keeps_fresh hS.store h0⟩;show ObjR _ _ (zi G.lc (s.st.set l' _)) _ _
     rw[hLs];simp only at hl0;by_cases hll:l'=l0
     ·subst hll;rw[yx (yc.1 hst).1]at hl0;cases hl0;obtain⟨k1,k2,k3⟩:=hK (.loc l') (by simp) _ e1;refine⟨k1,e2,arr,e,e3,⟨e4.1,by simpa using e4.2⟩,fun i' p hp=>?_⟩;by_cases hii:i=i'
      ·subst hii;rw[yx hi]at hp;cases hp;rw[hreb.1];refine⟨by rw[List.length_set,d1],hreb.2,fun j c hj=>?_⟩;by_cases hjo:off=j
       ·subst hjo;rw[yx hlt]at hj;cases hj;exact⟨mv,m1,m2.1,zid (G:=G) m2.2⟩
       ·rw[yB hjo]at hj;obtain⟨mv',n1,n2⟩:=d3 j c hj;exact⟨mv',n1,n2.mono (G:=G) (G':=handOn G b0 (.ownT d)) (w:=w) (w':=w) (Im.le_refl _) (Loc.le_refl _) (hK _ (by simp;omega))⟩
      ·rw[yB hii]at hp;obtain⟨q1,q2,q3⟩:=e5 i' p hp;refine⟨q1,q2,fun j c hj=>?_⟩;obtain⟨mv',n1,n2⟩:=q3 j c hj;exact⟨mv',n1,n2.mono (G:=G) (G':=handOn G b0 (.ownT d)) (w:=w) (w':=w) (Im.le_refl _) (Loc.le_refl _) (hK _ (by simp;omega))⟩
     ·rw[yB hll]at hl0;exact(hS.store.obj l0 ob hl0).mono (G:=G) (G':=handOn G b0 (.ownT d)) (w:=w) (w':=w) (Im.le_refl _) (Loc.le_refl _) rfl (hK _ (by simp)) (fun i0 j0=>hK _ (by simp;omega))
   refine⟨_,mv,w,handOn G b0 (.ownT d),hrun,.inl rfl,?_,zKd h0 (by simp) (zyc G.lc s.st hst rfl)⟩;exact hS1.put hd (fun q hq=>by
    rw[hdd]at hq;cases hq;show TR _ _ (zi G.lc (s.st.set l' _)) _ _ _
    rw[hLs];exact hnew _ (by simp[handOn,upd]) rfl) (by simp)
  ·have hvr:=m2.strip;rw[hst']at hvr ⊢;have hset:(cellsOf e0).set off u=cellsOf e0:=by
    apply yBa;intro i;by_cases hi:off=i
    ·subst hi;rw[yx hlt,hu]
    ·rw[yB hi]
   have hreb:zCa e0 (cellsOf e0)=e0:=by cases e0<;>rfl
   have hes:es.set i e0=es:=by
    apply yBa;intro j;by_cases hj:i=j
    ·subst hj;rw[yx hi,he0]
    ·rw[yB hj]
   have hsame:s.st.set l' (.arr sz' es)=s.st:=by
    apply yBa;intro j;by_cases hj:l'=j
    ·subst hj;rw[yx (yc.1 hst).1,hst]
    ·rw[yB hj]
   rw[hset,hreb,hes,hsame];exact zz hS hd hrun hvr
 ·cases h
end
section
variable {P:Program} {G G':Gh} {N:Nat} {s:St} {a:Act} {w w':World} {oper:Oper} {b b':Bx} {st':ze} {v:PV}
theorem obj_row{l off ln sz:Nat}{es:List PV}{arr:Array Value}{e:Nat}(hS:SimS G s.st w)(hst:s.st[l]? =some (.arr sz es))(hpos:0<sz)(hle:off+ln<=es.length)(c3:w.heap[G.loc l]? =some (.cells arr e (0,0))):
  off*sz+ln*sz<=arr.size/\((arr.toList.drop (off*sz)).take (ln*sz)).length=ln*sz/\RowR (G.im w) (zi G.lc s.st) sz (((es.drop off).take ln).map stripA) ((arr.toList.drop (off*sz)).take (ln*sz)).toArray:=by
 obtain⟨c1,c2,arr',e',c3',c4,c5⟩:=hS.obj l _ hst;rw[c3]at c3';cases c3';have hlen:(((es.drop off).take ln).map stripA).length=ln:=by simp;omega
 have hb:off*sz+ln*sz<=arr.size:=by
  refine yha ?_ c4.2;rw[<-yE];exact yo _ hle
 have hget:∀(q:Nat) x,(arr.toList.drop (off*sz)|>.take (ln*sz))[q]? =some x->q<ln*sz/\arr[off*sz+q]? =some x:=by
  intro q x hq;rw[yH]at hq;split at hq
  ·rename_i hlt;rw[yN]at hq;exact⟨hlt,by simpa using hq⟩
  ·cases hq
 have hlen2:((arr.toList.drop (off*sz)).take (ln*sz)).length=ln*sz:=by simp;omega
 refine⟨hb,hlen2,by rw[yCa,hlen2,hlen],?_,?_,?_⟩
 ·intro i p hp;simp only[yn,yH,yN,yb]at hp;obtain⟨p0,hp0,rfl⟩:=hp;split at hp0
  ·obtain⟨q1,q2,q3⟩:=c5 _ p0 hp0;exact⟨by rw[zab,yea,q1],stripA_var q2⟩
  ·cases hp0
 ·intro q x hq;obtain⟨h1,h2⟩:=hget q x (by simpa using hq);have hdiv:(off*sz+q)/sz<es.length:=(yJa hpos).2 (by have:=yo sz hle;rw[yE]at this;omega);have e3:es[(off*sz+q)/sz]? =some es[(off*sz+q)/sz]:=by simp[hdiv]
  obtain⟨q1,q2,q3⟩:=c5 _ _ e3;have hm:(off*sz+q)%sz<(cellsOf es[(off*sz+q)/sz]).length:=by rw[q1];exact Nat.mod_lt _ hpos
  obtain⟨mv,m1,m2⟩:=q3 _ _ (yj hm);rw[Nat.mul_comm,Nat.div_add_mod,h2]at m1;cases m1;exact m2.1
 ·intro i p j c x hp hc' hx;simp only[yn,yH,yN,yb]at hp;obtain⟨p0,hp0,rfl⟩:=hp;split at hp0
  case isFalse=>cases hp0
  rename_i hi;obtain⟨q1,q2,q3⟩:=c5 _ p0 hp0;obtain⟨h1,h2⟩:=hget _ x (by simpa using hx);rw[zab,yn,yb]at hc';obtain⟨c0,hc0,rfl⟩:=hc';obtain⟨mv,m1,m2⟩:=q3 j c0 hc0;rw[show(off+i)*sz+j=off*sz+(i*sz+j)from by rw[yE];omega,h2]at m1;cases m1;exact m2.strip.canon1
theorem Sim.kill(hS:Sim G N s a w){l:Nat}{ob:Obj}(hl:s.st[l]? =some ob):Sim G N {s with st:=s.st.set l (.dead ob.sz)} a w/\zi G.lc (s.st.set l (.dead ob.sz))=zi G.lc s.st:=by
 have hL:zi G.lc (s.st.set l (.dead ob.sz))=zi G.lc s.st:=locOf_set G.lc s.st hl rfl;refine⟨⟨hS.defers,hS.size,?_,hS.hi,hS.lp,?_,?_,hS.store.fresh⟩,hL⟩
 ·intro t ht;show TR _ _ (zi G.lc (s.st.set l (.dead ob.sz))) _ _ _
  rw[hL];exact hS.tmp t ht
 ·intro k;show BxR _ _ (zi G.lc (s.st.set l (.dead ob.sz))) _ _
  rw[hL];exact hS.box k
 ·intro l' ob' hl';show ObjR _ _ (zi G.lc (s.st.set l (.dead ob.sz))) _ _
  rw[hL];simp only at hl';by_cases e:l=l'
  ·subst e;rw[yx (yc.1 hl).1]at hl';cases hl';trivial
  ·rw[yB e]at hl';exact hS.store.obj l' ob' hl'
theorem good_grown{sz n cap:Nat}{es:List PV}{arr0 arr:Array Value}{e:Nat}{s1:St}(hS:Sim G N s1 a w)(hL0:(zi G.lc s.st).le (zi G.lc s1.st))(hd:∀t,oper.dst=some t->t<N)
  (hrow:RowR (G.im w) (zi G.lc s1.st) sz es arr0) (hp:∀(q:Nat) x,arr0[q]? =some x->arr[q]? =some x) (hlen:es.length=n) (hcap:n<=cap) (hsz:arr.size=cap*sz)
  (hrun:(execOp a.eval oper).run P w= .ok (.value (.slice (some ⟨w.heap.size,0,none⟩) n cap)) (w.drew.alloc (.cells arr e))):
  zYa P oper N G s a w (.mslice s1.st.length 0 n sz) s1.fr s1.bx (s1.st++[.arr sz es]):=by
 have hSd:=hS.drew;obtain⟨hS',hE⟩:=hSd.alloc (.cells arr e) (by first|rfl|trivial) (G':={G with cl:=upd G.cl w.heap.size (some (.loc s1.st.length)),loc:=upd G.loc s1.st.length w.heap.size,room:=upd G.room s1.st.length arr.size}) (fun _ _=>rfl) (fun b hb=>zEa _ _ hb)
  (fun l o hl=>pair_upd (by have:=(yc.1 hl).1;omega)) (fun _ _=>rfl)
 have hpush:=hS'.push (.arr sz es) (by
  refine rowR_obj (e:=e) hrow hp hE.im (Loc.le_trans hE.loc (zkb _ _ _)) (by simp[upd]) ?_ (by simp only[upd,if_true];exact heap_alloc_new w.drew _) (by simp[upd]) (by rw[hsz,hlen];exact yo _ hcap);simp only[upd,if_true];exact(hS.store.fresh _ (yh _)).1)
 refine zub (s1:={s1 with st:=s1.st++[_]}) hd hrun hpush ⟨hE.im,Loc.le_trans hL0 (Loc.le_trans hE.loc (zkb _ _ _)),hE.prot,hE.size,hE.os,hE.output,hE.frozen,hE.dfr⟩ (fun κ=>VR.tr ?_) (by simp);have hL:zi ({G with cl:=upd G.cl w.heap.size (some (.loc s1.st.length)),loc:=upd G.loc s1.st.length w.heap.size,room:=upd G.room s1.st.length arr.size}:Gh).lc (s1.st++[.arr sz es]) s1.st.length=some (w.heap.size,sz,arr.size):=by
  simp[zi,Gh.lc,upd,Obj.sz]
 have:=VR.mslice (I:=({G with cl:=upd G.cl w.heap.size (some (.loc s1.st.length)),loc:=upd G.loc s1.st.length w.heap.size,room:=upd G.room s1.st.length arr.size}:Gh).im (w.drew.alloc (.cells arr e))) (off:=0) (len:=n) (cap:=cap) hL hcap (by rw[hsz,yV];exact yh _);simpa using this
theorem op_appendS{sz by_:Nat}{x y:Arg}(hS:Sim G N s a w)(hd:∀t,oper.dst=some t->t<N)(hc:zj P oper.op (.appendS sz by_ x y)=true)(h:(IOp.appendS sz by_ x y).sem s.fr b s.st=some (v,b',st')):
  b'=b/\zYa P oper N G s a w v s.fr s.bx st':=by
 simp only[zj]at hc;split at hc
 case h_2=>cases hc
 rename_i c ho;split at hc
 case h_2=>cases hc
 rename_i hcal;simp only[ya]at hc;obtain⟨hargs,hT⟩:=hc;split at hargs
 case h_2=>cases hargs
 rename_i x' y' hxy;simp only[ya]at hargs;obtain⟨hx,hy⟩:=hargs;obtain⟨t,u,e,i,z,hts,ht,hu,hsz,hi,hby,hbp,hpos,hz,hzs⟩:=okAppT_info hT;have hargs':c.args= #[x',y']:=by
  have:=congrArg yAa hxy;simpa using this
 have hts':c.argTypes= #[t,u]:=by
  have:=congrArg yAa hts;simpa using this
 have hrun:(execOp a.eval oper).run P w=((Builtin.append_ #[t,u] oper.type #[a.eval x',a.eval y']).run P w).andThen fun v w'=> .ok (.value v) w':=by
  simp[execOp,ho,resolve,hcal,hargs',hts',invoke,builtin]
 subst hby;simp only[IOp.sem]at h;split at h
 ·
  rename_i sz' hv;split at h
  case isFalse=>cases h
  rename_i hz';obtain rfl:sz=sz':=hz'.symm;simp only[yaa]at h;obtain⟨l',hl',h⟩:=h;obtain⟨s1,news,s2,s3,s4⟩:=src_run (P:=P) hS hy hpos hl';have hvr:=zba hS hx hv (by simp) (by simp);have hev:∃ad,a.eval x'= .slice ad 0 0:=by
   generalize a.eval x'=m at hvr;cases hvr with
   |slice0 _ _ ad cap hk hf=>rw[hf rfl];exact⟨ad,rfl⟩
   |slice hk hf=>rw[hf rfl];exact⟨_,rfl⟩
  obtain⟨ad,hev⟩:=hev;split at h
  ·
   rename_i hnil;cases h;subst hnil;refine⟨rfl,?_⟩;have hn0:news=[]:=yy (by simpa using s2);subst hn0;have hr:=zBc (P:=P) (ty:=oper.type) ht hu hsz (ad:=ad) (n:=0) (cap:=0) s1 (s4 w (fun _ _=>rfl)) (yh 0);refine⟨_,.slice ad 0 0,w,G,by rw[hrun,hev,hr];rfl,.inl rfl,?_,Ext.refl _ _ _⟩;exact hS.put hd (v:= .slice .fit sz []) (mv:= .slice ad 0 0) (fun q hq=>VR.tr (.slice0 _ _ _ _ (by simp) (fun _=>rfl))) (by simp)
  split at h
  case isFalse=>cases h
  rename_i hbound;obtain⟨hl0,hbound⟩:=hbound;cases h;refine⟨rfl,?_⟩;have hfo:(Builtin.firstCells sz 0 (.slice ad 0 0)).run P w.drew= .ok ([]:List Value).toArray w.drew:=by
   cases ad<;>simp[Builtin.firstCells,loadCells,loadCellsFrom]
  have hr:=zhb (P:=P) (ty:=oper.type) (ad:=ad) (n:=0) (cap:=0) (olds:=[]) ht hu hsz hi hz s1 (s4 w.drew (fun _ _=>rfl)) hfo hbp (by omega) (by rw[yV];exact hbound);simp only[yV]at hr;have hge:=grownCap_ge w l'.length 0 e;refine good_grown (s1:=s) (arr0:=news.toArray) (arr:=([]:List Value).toArray++news.toArray++Builtin.zeroCells z.cells (grownCap w l'.length 0 e-l'.length)) (e:=e) hS (Loc.le_refl _) hd s3 ?_ rfl hge ?_ ?_
  ·intro q p hq;simp only[yG]at hq;have hlt:=(yc.1 hq).1;rw[yba (by simpa using hlt)];simpa using hq
  ·have:=size_zeroCells z.cells (grownCap w l'.length 0 e-l'.length);simp only[Array.size_append,yCa,yg,s2,this,hzs];rw[Nat.sub_mul];have:=yo sz hge;omega
  ·rw[hrun,hev,hr];rfl
 ·
  rename_i l n sz' hv;split at h
  case isFalse=>cases h
  rename_i hz';obtain rfl:sz=sz':=hz'.symm;simp only[yaa]at h;obtain⟨l0,hl0,l',hl',h⟩:=h;split at h
  case isFalse=>cases h
  rename_i hbound;obtain⟨hpos',hbound⟩:=hbound;cases h;refine⟨rfl,?_⟩;obtain⟨s1,news,s2,s3,s4⟩:=src_run (P:=P) hS hy hpos hl';simp only[zJb,if_true]at hl0;split at hl0
  case h_2=>cases hl0
  rename_i s0 es hst;split at hl0
  case isFalse=>cases hl0
  rename_i hcond;simp only[ya,beq_iff_eq,decide_eq_true_eq]at hcond;obtain⟨rfl,hle⟩:=hcond;have hl0':=(Option.some.inj hl0).symm;have hvr:=zba hS hx hv (by simp) (by simp);have hloc:zi G.lc s.st l=some (G.loc l,s0,G.room l):=by simp[zi,Gh.lc,hst,Obj.sz]
  obtain⟨c1,c2,arr,e0,c3,c4,c5⟩:=hS.store.obj l _ hst;have hev:∃cap,a.eval x'= .slice (some ⟨G.loc l,0,none⟩) (n+1) cap/\n+1<=cap/\cap*s0<=arr.size:=by
   generalize a.eval x'=m at hvr;cases hvr with
   |mslice hL hc' hr'=>
    rw[hloc]at hL;cases hL;refine⟨_,by rw[Nat.zero_mul],hc',?_⟩;rw[c4.1];rw[yV]at hr';exact hr'
  obtain⟨cap,hev,hcap,hroomA⟩:=hev;have hlen0:l0.length=n+1:=by rw[hl0'];simp;omega
  obtain⟨o0,o1,o3⟩:=obj_row (off:=0) (ln:=n+1) hS.store hst hpos hle c3;rw[<-hl0']at o3;simp only[Nat.zero_mul,List.drop_zero,yV]at o0 o1 o3;obtain⟨hk,hkL⟩:=hS.kill hst;have hget:∀(q:Nat) x,(arr.toList.take ((n+1)*s0))[q]? =some x->arr[q]? =some x:=by
   intro q x hq;rw[yH]at hq;split at hq
   ·simpa using hq
   ·cases hq
  have hrow:=o3.append s3;have hslen:(s.st.set l (Obj.dead s0)).length=s.st.length:=by simp
  by_cases hroom:n+1+l'.length<=cap
  ·
   have hfit:(n+1)*s0+news.length<=arr.size:=by
    rw[s2,<-yE];exact yha (yo _ hroom) hroomA
   have hr:=zld (P:=P) (ty:=oper.type) ht hu hsz c3 s1 (s4 w (fun _ _=>rfl)) s2 (fun x hx=>by
    obtain⟨j,hj⟩:=yR.1 hx;exact s3.2.2.1 j x (by simpa using hj)) hroom hfit
   have htn:=zcb c3 (zBa arr ((n+1)*s0) news);let w1:=w.setRow (G.loc l) (zBa arr ((n+1)*s0) news)
   let G1:Gh:={G with cl:=upd G.cl (G.loc l) (some (.loc s.st.length)),loc:=upd G.loc s.st.length (G.loc l),room:=upd G.room s.st.length (G.room l)}
   have hI:(G.im w).le (G1.im w1):=zbc htn (fun j hj=>by rw[c2]at hj;omega);have hlt:l<s.st.length:=(yc.1 hst).1;have hlc:∀l',l'<s.st.length->G1.lc l'=G.lc l':=fun l' h'=>pair_upd (by omega)
   have hL1:zi G1.lc (s.st.set l (Obj.dead s0))=zi G.lc (s.st.set l (Obj.dead s0)):=by
    refine locOf_congr fun l' o hl'=>hlc l' ?_
    have:=(yc.1 hl').1;simpa using this
   have hK:∀κ,κ≠ .loc l->zic G w G1 w1 κ:=by
    intro κ hne bk hb;have hbb:bk≠G.loc l:=by rintro rfl;rw[c1]at hb;cases hb;exact hne rfl
    exact⟨by simp only[G1];rw[zEa _ _ hbb];exact hb,rfl,htn.other bk hbb⟩
   have hS1:Sim G1 N {s with st:=s.st.set l (Obj.dead s0)} a w1:=by
    have hk':Sim G N {s with st:=s.st.set l (Obj.dead s0)} a w:=hk;refine⟨hk'.defers,hk'.size,?_,hk'.hi,hk'.lp,?_,?_,?_⟩
    ·intro q hq;show TR _ _ (zi G1.lc (s.st.set l (Obj.dead s0))) _ _ _
     rw[hL1];exact(hk'.tmp q hq).mono (G':=G1) (w':=w1) hI (Loc.le_refl _) (hK _ (by simp)) (fun _ _ _=>rfl)
    ·intro k;show BxR _ _ (zi G1.lc (s.st.set l (Obj.dead s0))) _ _
     rw[hL1];exact(hk'.box k).mono (G':=G1) (w':=w1) hI (Loc.le_refl _) rfl (hK _ (by simp)) (fun _=>hK _ (by simp))
    ·intro l2 ob2 hl2;show ObjR _ _ (zi G1.lc (s.st.set l (Obj.dead s0))) _ _
     rw[hL1];by_cases e2:l=l2
     ·subst e2;simp only at hl2;rw[yx hlt]at hl2;cases hl2;trivial
     ·have hl2':l2<s.st.length:=by have:=(yc.1 hl2).1;simpa using this
      exact(hk'.store.obj l2 ob2 hl2).mono (G':=G1) (w':=w1) hI (Loc.le_refl _) (hlc l2 hl2') (hK _ (by simp;omega)) (fun _ _=>hK _ (by simp))
    ·intro bk hb;have hb':w.heap.size<=bk:=by
      have:=htn.size;show w.heap.size<=bk
      rw[<-this];exact hb
     have hbb:bk≠G.loc l:=by
      rintro rfl
      have:=(yu.1 c3).1;omega
     simp only[G1];rw[zEa _ _ hbb];exact hS.store.fresh bk hb'
   have hLle:(zi G.lc s.st).le (zi G1.lc (s.st.set l (Obj.dead s0))):=by rw[hL1];rw[show s.st.set l (Obj.dead s0)=s.st.set l (Obj.dead (Obj.arr s0 es).sz)from rfl,hkL];exact Loc.le_refl _
   have hcells:∀(q:Nat) x,((arr.toList.take ((n+1)*s0)++news).toArray)[q]? =some x->(zBa arr ((n+1)*s0) news)[q]? =some x:=by
    intro q x hq;simp only[yG]at hq;rw[zpb hfit];by_cases hq1:q<(arr.toList.take ((n+1)*s0)).length
    ·rw[yq hq1]at hq;rw[o1]at hq1;rw[if_neg (by omega)];exact hget q x hq
    ·rw[yv (by omega)]at hq;rw[o1]at hq hq1;have:=(yc.1 hq).1;rw[if_pos ⟨by omega,by omega⟩];exact hq
   have hlocn:G1.loc s.st.length=G.loc l:=by simp[G1,upd]
   have hpush:=hS1.push (.arr s0 (l0++l')) (by
    show ObjR G1 w1 (zi G1.lc (s.st.set l (Obj.dead s0)++[_])) (s.st.set l (Obj.dead s0)).length _
    rw[hslen];refine rowR_obj (e:=e0) hrow hcells hI (Loc.le_trans hLle (zkb _ _ _)) (by rw[hlocn];simp[G1,upd]) (by rw[hlocn];exact c2) (by rw[hlocn];exact htn.here) (by rw[zza hfit,c4.1];simp[G1,upd]) ?_;rw[zza hfit,ye,hlen0];exact yha (yo _ hroom) hroomA)
   refine zub (s1:={s with st:=s.st.set l (Obj.dead s0)++[_]}) (mv:= .slice (some ⟨G.loc l,0,none⟩) (n+1+l'.length) cap) hd (by rw[hrun,hev,hr];rfl) hpush
    ⟨hI,Loc.le_trans hLle (zkb _ _ _),fun bk hb=>hK .prot (by simp) bk hb,by show _<=w1.heap.size;rw[htn.size];exact yh _,rfl,rfl,fun x _=>htn.frozen x,rfl⟩ (fun κ=>VR.tr ?_) (by simp)
   have hL:zi G1.lc (s.st.set l (Obj.dead s0)++[.arr s0 (l0++l')]) s.st.length=some (G.loc l,s0,G.room l):=by
    unfold zi;rw[yv (by omega)];simp[Gh.lc,G1,upd,Obj.sz]
   have:=VR.mslice (I:=G1.im w1) (off:=0) (len:=n+1+l'.length) (cap:=cap) hL hroom (by rw[yV,<-c4.1];exact hroomA);rw[hlen0];simpa using this
  ·
   have hfo:(Builtin.firstCells s0 (n+1) (.slice (some ⟨G.loc l,0,none⟩) (n+1) cap)).run P w.drew= .ok (arr.toList.take ((n+1)*s0)).toArray w.drew:=
    run_firstCells_some w.drew s0 (n+1) ⟨G.loc l,0,none⟩ (n+1) cap (arr.toList.take ((n+1)*s0)) o1 (fun j x hj=>by
     rw[zob,yV];show w.cell? _=_
     rw[zyb c3];exact hget j x hj)
   have hr:=zhb (P:=P) (ty:=oper.type) (ad:=some ⟨G.loc l,0,none⟩) (n:=n+1) (cap:=cap) ht hu hsz hi hz s1 (s4 w.drew (fun _ _=>rfl)) hfo hbp (by omega) (by rw[<-hlen0];exact hbound);have hge:=grownCap_ge w (n+1+l'.length) cap e;have hgood:=good_grown (s:=s) (s1:={s with st:=s.st.set l (Obj.dead s0)}) (sz:=s0) (n:=n+1+l'.length) (cap:=grownCap w (n+1+l'.length) cap e) (es:=l0++l') (arr0:=(arr.toList.take ((n+1)*s0)++news).toArray)
    (arr:=(arr.toList.take ((n+1)*s0)).toArray++news.toArray++Builtin.zeroCells z.cells (grownCap w (n+1+l'.length) cap e-(n+1+l'.length))) (e:=e) hk (by rw[show s.st.set l (Obj.dead s0)=s.st.set l (Obj.dead (Obj.arr s0 es).sz)from rfl,hkL];exact Loc.le_refl _) hd
    (by
     show RowR _ (zi G.lc (s.st.set l (Obj.dead s0))) _ _ _
     rw[show s.st.set l (Obj.dead s0)=s.st.set l (Obj.dead (Obj.arr s0 es).sz)from rfl,hkL];exact hrow) ?_ (by rw[ye,hlen0]) hge ?_ (by rw[hrun,hev,hr];rfl)
   ·simp only[hslen]at hgood;rw[hlen0];exact hgood
   ·intro q p hq;simp only[yG]at hq;have hlt:=(yc.1 hq).1;rw[yba (by simpa using hlt)];simpa using hq
   ·have:=size_zeroCells z.cells (grownCap w (n+1+l'.length) cap e-(n+1+l'.length));simp only[Array.size_append,yCa,o1,s2,this,hzs];have h2:=yo s0 hge;have h3:(n+1+l'.length)*s0=(n+1)*s0+l'.length*s0:=yE _ _ _;rw[Nat.sub_mul];omega
 ·cases h
end
section
variable {P:Program} {G G':Gh} {N:Nat} {s:St} {a:Act} {w w':World} {oper:Oper} {b b':Bx} {st':ze} {v:PV}
theorem bytesV_ints:∀{l:List PV} {t:List UInt8},bytesV l=some t->∃ns:List Int,l=ns.map (PV.int .u8)/\t=ns.map fun n=>yY n.toNat
 | [],t,h=>by simp only[bytesV,Option.some.injEq]at h;exact⟨[],rfl,h.symm⟩
 |x::r,t,h=>by
  unfold bytesV at h;split at h
  ·rename_i h';cases h'
  ·rename_i n r' h';cases h';rw[yb]at h;obtain⟨t',h1,rfl⟩:=h;obtain⟨ns,rfl,rfl⟩:=bytesV_ints h1;exact⟨n::ns,rfl,rfl⟩
  ·cases h
theorem push_all:∀(ns:List Int) (x:ByteArray),ns.foldl (fun r n=>r.push (yY n.toNat)) x=⟨x.data++(ns.map fun n=>yY n.toNat).toArray⟩
 | [],x=>by simp
 |n::r,x=>by
  rw[List.foldl_cons,push_all r];congr 1;simp[ByteArray.push]
theorem op_bstr{x:Arg}(hS:Sim G N s a w)(hd:∀t,oper.dst=some t->t<N)(hc:zj P oper.op (.bstr x)=true)(h:(IOp.bstr x).sem s.fr b s.st=some (v,b',st')):zzb P oper N G s a w b b' v st':=by
 simp only[zj]at hc;split at hc
 case h_2=>cases hc
 rename_i t d y ho;simp only[ya,okBstr]at hc;obtain⟨⟨hd',hs'⟩,hy⟩:=hc;split at hd'
 case h_2=>cases hd'
 rename_i hdst;split at hs'
 case h_2=>cases hs'
 rename_i e he;split at hs'
 case h_2=>cases hs'
 rename_i hu8;simp only[IOp.sem]at h;split at h
 case h_2=>cases h
 rename_i k l hv;rw[yb]at h;obtain⟨str,hb,h⟩:=h;cases h;obtain⟨ns,rfl,rfl⟩:=bytesV_ints hb;obtain⟨κ,hk⟩:=arg_tr hS hy;rw[hv]at hk;have hp:VR (G.im w) (zi G.lc s.st) (.slice (if k= .own then .plain else k) 1 (ns.map (PV.int .u8))) (a.eval y):=by
  cases k with
  |own=>simpa using zid hk
  |plain=>exact hk
  |fit=>exact hk
  |firm=>exact hk
 obtain⟨ad,cap,e1,hcap,hcase⟩:=vr_row (by decide) hp;refine⟨rfl,rfl,zz hS hd (mv:= .string ⟨(ns.map fun n=>yY n.toNat).toArray⟩) ?_ (.str _)⟩;have hrun:(Conv.bytesToString (a.eval y)).run P w= .ok (.string ⟨(ns.map fun n=>yY n.toNat).toArray⟩) w:=by
  rw[e1];rcases hcase with hn|⟨bk,o,rfl,news,h1,h2,h3⟩
  ·have:ns=[]:=by simpa using hn
   subst this;cases ad with
   |none=>simp[Conv.bytesToString];rfl
   |some ad=>
    have:=run_bytesToString (P:=P) w ad 0 cap [] (by simp[loadCells,loadCellsFrom]);exact this
  ·have hnews:news=ns.map (Value.int .u8):=by
    apply yBa;intro j;rw[yn];simp only[yea,Nat.mul_one]at h1;cases hn:ns[j]? with
    |none=>exact List.getElem?_eq_none_iff.2 (by have:=List.getElem?_eq_none_iff.1 hn;omega)
    |some n=>
     have hj:j<ns.length:=(yc.1 hn).1;obtain⟨z,hz⟩:∃z,news[j]? =some z:=⟨_,yj (by omega)⟩
     have h4:=h3.2.2.2 j (.int .u8 n) 0 (.int .u8 n) z (by simp[hn]) rfl (by simpa using hz);rw[hz,h4.int_inv];rfl
   have hl:=run_loadCells_list (P:=P) w ⟨bk,o,none⟩ news (fun j x hj=>by rw[zob];exact im_cell (h2 j x hj));rw[hnews,yea]at hl;rw[yea,run_bytesToString w _ ns.length cap ns hl,push_all];simp
 have e2:=run_convert_bytes_string (P:=P) w t d e ad (ns.map (PV.int .u8)).length cap he hu8 hdst;rw[<-e1,hrun]at e2;simp only[execOp,ho,Sem.run_bind,e2,yl];rfl
theorem encode_ascii{n:Int}(h0:0<=n)(h:n<128):Utf8.encode n=⟨#[yY n.toNat]⟩:=by
 have hv:Utf8.valid n=true:=by unfold Utf8.valid;simp;omega
 unfold Utf8.encode;simp only[hv,if_true];rw[if_pos (by omega)]
theorem op_rstr{x:Arg}(hS:Sim G N s a w)(hd:∀t,oper.dst=some t->t<N)(hc:zj P oper.op (.rstr x)=true)(h:(IOp.rstr x).sem s.fr b s.st=some (v,b',st')):zzb P oper N G s a w b b' v st':=by
 simp only[zj]at hc;split at hc
 case h_2=>cases hc
 rename_i t d y ho;simp only[ya]at hc;obtain⟨⟨hdst,hs⟩,hy⟩:=hc;split at hdst
 case h_2=>cases hdst
 rename_i hd2;simp only[IOp.sem]at h;split at h
 case h_2=>cases h
 rename_i k n hv;split at h
 case isFalse=>cases h
 rename_i hn;cases h;have hvr:=zba hS hy hv (by simp) (by simp);have he:a.eval y= .int k n:=by
  generalize a.eval y=m at hvr;cases hvr;rfl
 refine⟨rfl,rfl,zz hS hd (mv:= .string ⟨#[yY n.toNat]⟩) ?_ (.str _)⟩;have e2:=run_convert_int_string (P:=P) w t d k n hs hd2;rw[encode_ascii hn.1 hn.2]at e2;simp only[execOp,ho,Sem.run_bind,he,e2,yl];rfl
end
section
variable {P:Program} {G G':Gh} {N:Nat} {s:St} {a:Act} {w w':World} {oper:Oper} {b b':Bx} {st':ze} {v:PV}
theorem op_copyS{sz by_:Nat}{x y:Arg}(hS:Sim G N s a w)(hd:∀t,oper.dst=some t->t<N)(hc:zj P oper.op (.copyS sz by_ x y)=true)(h:(IOp.copyS sz by_ x y).sem s.fr b s.st=some (v,b',st')):
  b'=b/\zYa P oper N G s a w v s.fr s.bx st':=by
 simp only[zj]at hc;split at hc
 case h_2=>cases hc
 rename_i c ho;split at hc
 case h_2=>cases hc
 rename_i hcal;simp only[ya]at hc;obtain⟨hargs,hT⟩:=hc;split at hargs
 case h_2=>cases hargs
 rename_i x' y' hxy;simp only[ya]at hargs;obtain⟨hx,hy⟩:=hargs;obtain⟨t,u,e,i,z,hts,ht,hu,hsz,hi,hby,hbp,hpos,hz,hzs⟩:=okAppT_info hT;have hargs':c.args= #[x',y']:=by
  have:=congrArg yAa hxy;simpa using this
 have hts':c.argTypes= #[t,u]:=by
  have:=congrArg yAa hts;simpa using this
 have hrun:(execOp a.eval oper).run P w=((Builtin.copy_ #[t,u] oper.type #[a.eval x',a.eval y']).run P w).andThen fun v w'=> .ok (.value v) w':=by
  simp[execOp,ho,resolve,hcal,hargs',hts',invoke,builtin]
 simp only[IOp.sem]at h;split at h
 case h_2=>cases h
 rename_i l n s0 hv;split at h
 case isFalse=>cases h
 rename_i hs0;subst hs0;simp only[yaa]at h;obtain⟨l',hl',h⟩:=h;split at h
 case h_2=>cases h
 rename_i s1 es hst;split at h
 case isFalse=>cases h
 rename_i hcond;obtain⟨rfl,hln,hne⟩:=hcond;cases h;refine⟨rfl,?_⟩;obtain⟨r1,news,r2,r3,r4⟩:=src_run (P:=P) hS hy hpos hl';have r4:=r4 w (fun _ _=>rfl);have hms:=zba hS hx hv (by simp) (by simp);obtain⟨c1,c2,arr,e0,c3,c4,c5⟩:=hS.store.obj l _ hst;have hloc:zi G.lc s.st l=some (G.loc l,s1,G.room l):=by simp[zi,Gh.lc,hst,Obj.sz]
 by_cases hnil:l'=[]
 ·
  subst hnil;have hnews:news=[]:=by cases news with
   |nil=>rfl
   |cons _ _=>simp at r2
  subst hnews;have hset:s.st.set l (.arr s1 ([]++es.drop ([]:List PV).length))=s.st:=by
   simp only[yp,yg,List.drop_zero];have:=(yc.1 hst)
   rw[<-this.2];exact List.set_getElem_self this.1
  rw[hset];have hex:∃bs cap,a.eval x'= .slice bs n cap:=by
   generalize a.eval x'=m at hms;cases hms with
   |mslice hh hc hr=>exact⟨_,_,rfl⟩
   |mslice0 ad hh=>exact⟨_,_,rfl⟩
  obtain⟨bs,cap,hex⟩:=hex;refine zcc hS hd (mv:=goInt 0) ?_ (fun κ=>VR.tr (VR.int _ _)) (by simp);rw[hrun,hex];simp only[yg]at r1 r4;cases bs with
  |none=>simp[Builtin.copy_,run_underlying ht,r1,zia hsz,r4]
  |some ad=>simp[Builtin.copy_,run_underlying ht,r1,zia hsz,r4,storeCells]
 ·have hpos':0<l'.length:=List.length_pos_iff.2 hnil;have hn0:n≠0:=by omega
  have hex:∃cap,a.eval x'= .slice (some ⟨G.loc l,0,none⟩) n cap:=by
   generalize a.eval x'=m at hms;cases hms with
   |mslice hh hc hr=>rw[hloc]at hh;cases hh;exact⟨_,by rw[Nat.zero_mul]⟩
   |mslice0 ad hh=>exact absurd rfl hn0
  obtain⟨cap,hex⟩:=hex;have hle:l'.length*s1<=arr.size:=yha (yo _ (yha hln hne)) c4.2;have hstc:=run_storeCells_at P (G.loc l) 0 e0 news 0 arr w c3 (by simp only[yV];rw[r2];exact hle) (fun q hq=>by
   obtain⟨j,hj⟩:=yR.1 hq;exact r3.2.2.1 j q (by simpa using hj))
  simp only[yV]at hstc;have hmin:Nat.min l'.length n=l'.length:=Nat.min_eq_left hln;have hrun2:(execOp a.eval oper).run P w= .ok (.value (goInt l'.length)) (w.setRow (G.loc l) (zBa arr 0 news)):=by
   rw[hrun,hex];simp[Builtin.copy_,run_underlying ht,r1,zia hsz,r4,hmin,hstc,zBa]
  have htn:=zcb c3 (zBa arr 0 news);have hI:(G.im w).le (G.im (w.setRow (G.loc l) (zBa arr 0 news))):=zbc htn (fun j hj=>by rw[c2]at hj;omega);have hb0:0+news.length<=arr.size:=by rw[yV,r2];exact hle
  obtain⟨hS',_⟩:=hS.writeObj (on:= .arr s1 (l'++es.drop l'.length)) hst rfl htn c1 c2 (by
   refine⟨c1,c2,_,e0,htn.here,⟨by rw[zza hb0];exact c4.1,?_⟩,?_⟩
   ·rw[zza hb0];have:(l'++es.drop l'.length).length=es.length:=by simp;omega
    rw[this];exact c4.2
   ·intro i p hp;by_cases hil:i<l'.length
    ·rw[yq hil]at hp;obtain⟨q1,q2⟩:=r3.2.1 i p hp;refine⟨q1,q2,fun j c hj=>?_⟩;have hjl:j<s1:=by rw[<-q1];exact(yc.1 hj).1
     have hix:i*s1+j<l'.length*s1:=by
      have:=yo s1 (show i+1<=l'.length from hil);rw[yE]at this;omega
     have hlt:i*s1+j<news.length:=by rw[r2];exact hix
     refine⟨news[i*s1+j],?_,?_⟩
     ·rw[zpb hb0,if_pos ⟨by omega,by omega⟩];simp[hlt]
     ·have ha:news.toArray[i*s1+j]? =some news[i*s1+j]:=by simp[hlt]
      exact((r3.2.2.2 i p j c _ hp hj ha).mono hI (Loc.le_refl _)).cr (r3.2.2.1 _ _ ha)
    ·rw[yv (by omega),yN,show l'.length+(i-l'.length)=i from by omega]at hp;obtain⟨q1,q2,q3⟩:=c5 i p hp;refine⟨q1,q2,fun j c hj=>?_⟩;obtain⟨mv,m1,m2⟩:=q3 j c hj;refine⟨mv,?_,cr_keep hI htn c1 (by simp) m2⟩;rw[zpb hb0,if_neg,m1];have:=yo s1 (show l'.length<=i from by omega);rw[r2];omega)
  exact zub (s1:={s with st:=s.st.set l _}) hd hrun2 hS' (zqc htn c1 (by simp) hI (zyc G.lc s.st hst rfl)) (fun κ=>VR.tr (VR.int _ _)) (by simp)
end
def IOp.needsDst:IOp->Bool
 | .take _| .append .. | .loadT .. =>true
 |_=>false
section
variable {P:Program} {G G':Gh} {N:Nat} {s:St} {a:Act} {w w':World} {oper:Oper} {b b':Bx} {st':ze} {v:PV}
theorem zzb.good{b b':Bx}(h:zzb P oper N G s a w b b' v st'):zYa P oper N G s a w v s.fr s.bx st':=by
 obtain⟨_,rfl,h⟩:=h;exact h
theorem op_sound{op:IOp}(hS:Sim G N s a w)(hd:∀t,oper.dst=some t->t<N)(hdn:op.needsDst=true->oper.dst≠none)(hc:zj P oper.op op=true)
  (h:op.sem s.fr (zY s.bx op.box?) s.st=some (v,b',st')):zYa P oper N G s a w v (zRa s.fr op.takes) (zGb s.bx op.box? b') st':=by
 cases op with
 |mv x=>exact(op_mv hS hd hc h).good
 |take t=>obtain⟨_,e,hg⟩:=op_take hS hd (hdn rfl) hc h;subst e;exact hg
 |pick c x y=>exact(op_pick hS hd hc h).good
 |boxL k x=>exact op_boxL hS hd hc h
 |boxI x=>exact(op_boxI hS hd hc h).good
 |boxS sz x=>exact(op_boxS hS hd hc h).2
 |build z ps=>exact(op_build hS hd hc h).good
 |buildF z ps=>exact(op_buildF hS hd hc h).good
 |bslice sz z n ps=>exact(op_bslice hS hd hc h).good
 |bsliceS sz z n ps=>exact(op_bsliceS hS hd hc h).2
 |load wh ag sz x=>
  obtain⟨e1,e2,hg⟩:=op_load hS hd hc h;subst e1;subst e2;cases wh with
  |box k=>
   have:zGb s.bx (IOp.box? (.load (.box k) ag sz x)) (zY s.bx (Where.box? (.box k)))=s.bx:=by
    funext j;simp only[zGb,IOp.box?,Where.box?,zY,upd];split
    ·subst_vars;rfl
    ·rfl
   rw[this];exact hg
  |any=>exact hg
  |imm=>exact hg
 |loadT wh x=>exact op_loadT hS hd (hdn rfl) hc h
 |store wh sz x y=>exact(op_store hS hd hc h).2
 |storeT wh x t=>exact(op_storeT hS hd hc h).2
 |nilck x=>exact(op_nilck hS hd hc h).good
 |bin tk ks op x y=>exact(op_bin hS hd hc h).good
 |un op x=>exact(op_un hS hd hc h).good
 |conv k x=>exact(op_conv hS hd hc h).good
 |bstr x=>exact(op_bstr hS hd hc h).good
 |rstr x=>exact(op_rstr hS hd hc h).good
 |mkif t x=>exact(op_mkif hS hd hc h).good
 |mkfn f x y=>exact(op_mkfn hS hd hc h).good
 |mkmap=>exact(op_mkmap hS hd hc h).2
 |lookup ks ok z m k=>exact(op_lookup hS hd hc h).good
 |mapset ks m k x=>exact(op_mapset hS hd hc h).2.2
 |mkslice sz z by_ l c=>exact(op_mkslice hS hd hc h).good
 |mksliceS sz z by_ l c=>exact(op_mksliceS hS hd hc h).2
 |slc i z x lo hi mx=>exact(op_slc hS hd hc h).good
 |faddr o x=>exact(op_faddr hS hd hc h).good
 |iaddr sz x i=>exact(op_iaddr hS hd hc h).good
 |iaddrA n sz x i=>exact(op_iaddrA hS hd hc h).good
 |idxS x i=>exact(op_idxS hS hd hc h).good
 |idxA n sz ag x i=>exact(op_idxA hS hd hc h).good
 |ext x i=>exact(op_ext hS hd hc h).good
 |ifnil q x=>exact(op_ifnil hS hd hc h).good
 |tassert q x=>exact(op_tassert hS hd hc h).good
 |fld ag o sz x=>exact(op_fld hS hd hc h).good
 |call pk f x=>cases h
 |callP pk f x=>cases h
 |callR f x=>cases h
 |callK f x=>cases h
 |callV f x=>cases h
 |loadB ag sz x=>exact(op_loadB hS hd hc h).good
 |loadN q ag sz x=>exact(op_loadN hS hd hc h).good
 |storeN q sz x y=>exact(op_storeN hS hd hc h).2
 |len tk x=>exact(op_len hS hd hc h).good
 |append sz by_ x y=>obtain⟨_,e,hg⟩:=op_append hS hd (hdn rfl) hc h;subst e;exact hg
 |appendS sz by_ x y=>exact(op_appendS hS hd hc h).2
 |copyS sz by_ x y=>exact(op_copyS hS hd hc h).2
 |max2 x y=>exact(op_max2 hS hd hc h).good
 |min2 x y=>exact(op_min2 hS hd hc h).good
 |panic x=>cases h
 |rng k x=>exact op_rng hS hd hc h
 |next k x=>exact op_next hS hd hc h
def OwnN(G:Gh)(w:World)(L:Loc)(sz:Nat)(l:List PV)(mv:Value):Prop:=
 ∃b cap arr e,mv= .slice (some ⟨b,0,none⟩) l.length cap/\G.cl b=none/\w.heap[b]? =some (.cells arr e (0,0))/\arr.size=cap*sz∧
  l.length<=cap/\cap<=maxLen/\G.fz b=l.length*sz/\0<sz/\VR (G.im w) L (.slice .plain sz l) mv
def RetR(G:Gh)(w:World)(L:Loc)(v:PV)(mv:Value):Prop:=
 match v with
 | .slice .own sz l=>OwnN G w L sz l mv
 |v=>VR (G.im w) L v mv
theorem VR.ret{G:Gh}{w:World}{L:Loc}{v:PV}{mv:Value}(h:VR (G.im w) L v mv):RetR G w L v mv:=by
 cases v with
 |slice k sz l=>
  cases k with
  |own=>exact(VR.not_own h).elim
  |plain=>exact h
  |fit=>exact h
  |firm=>exact h
 |_=>exact h
theorem RetR.vr{G:Gh}{w:World}{L:Loc}{v:PV}{mv:Value}(h:RetR G w L v mv)(hn:isOwn v=none):VR (G.im w) L v mv:=by
 cases v with
 |slice k sz l=>
  cases k with
  |own=>simp[isOwn]at hn
  |plain=>exact h
  |fit=>exact h
  |firm=>exact h
 |_=>exact h
def Gh.claim(G:Gh)(b:Nat)(κ:Cl):Gh:={G with cl:=upd G.cl b (some κ)}
theorem zed{G:Gh}(w:World){b:Nat}(h:G.cl b=none)(κ κ':Cl):zic G w (G.claim b κ) w κ':=by
 intro b' hb';have hne:b'≠b:=fun e=>by subst e;rw[h]at hb';cases hb'
 exact⟨by show upd G.cl b _ b'=_;rw[zEa _ _ hne];exact hb',rfl,rfl⟩
theorem Sim.claim{G:Gh}{N:Nat}{s:St}{a:Act}{w:World}(hS:Sim G N s a w){b:Nat}(h:G.cl b=none)(hb:b<w.heap.size)(κ:Cl):Sim (G.claim b κ) N s a w:=by
 refine⟨hS.defers,hS.size,?_,hS.hi,hS.lp,?_,?_,?_⟩
 ·intro t ht;exact(hS.tmp t ht).mono (G:=G) (G':=G.claim b κ) (Im.le_refl _) (Loc.le_refl _) (zed w h κ _) (fun k off _=>rfl)
 ·intro k;exact(hS.box k).mono (G:=G) (G':=G.claim b κ) (Im.le_refl _) (Loc.le_refl _) rfl (zed w h κ _) (fun j=>zed w h κ _)
 ·intro l o hl;exact(hS.store.obj l o hl).mono (G:=G) (G':=G.claim b κ) (Im.le_refl _) (Loc.le_refl _) rfl (zed w h κ _) (fun i j=>zed w h κ _)
 ·intro b' hb';refine⟨(hS.store.fresh b' hb').1,?_⟩;show upd G.cl b _ b'=none
  rw[zEa _ _ (by omega)];exact(hS.store.fresh b' hb').2
theorem Ext.claim{G G':Gh}{st st':ze}{w w':World}(hE:Ext G st w G' st' w'){b:Nat}(h:G'.cl b=none)(κ:Cl):Ext G st w (G'.claim b κ) st' w':=by
 refine⟨hE.im,hE.loc,fun b' hb'=>?_,hE.size,hE.os,hE.output,hE.frozen,hE.dfr⟩;have:=hE.prot b' hb';have hne:b'≠b:=fun e=>by subst e;rw[h]at this;cases this.1
 exact⟨by show upd G'.cl b _ b'=_;rw[zEa _ _ hne];exact this.1,this.2⟩
theorem Sim.putR{P:Program}{G0 G:Gh}{N:Nat}{s:St}{a:Act}{w w0:World}{st0:ze}(hS:Sim G N s a w)(hE:Ext G0 st0 w0 G s.st w){d:Option Nat}(hd:∀t,d=some t->t<N){v:PV}{mv:Value}(h:RetR G w (zi G.lc s.st) v mv):
  ∃G2,Sim G2 N {s with fr:=zSa s.fr d v} (a.put d mv) w/\Ext G0 st0 w0 G2 s.st w:=by
 cases hv:isOwn v with
 |none=>
  have hvr:=h.vr hv;exact⟨G,hS.put hd (v:=v) (mv:=mv) (fun t _=>VR.tr hvr) (fun k off e=>by subst e;cases hvr),hE⟩
 |some q=>
  cases v<;>simp[isOwn]at hv
  rename_i k sz l;cases k<;>simp[isOwn]at hv
  obtain⟨b,cap,arr,e,h1,h2,h3,h4⟩:=h;cases d with
  |none=>exact⟨G,hS.put hd (v:= .slice .own sz l) (mv:=mv) (fun t e=>by cases e) (fun k off e=>by cases e),hE⟩
  |some t=>
   have hb:b<w.heap.size:=by
    rcases yA b w.heap.size with hh|hh
    ·exact hh
    ·rw[Array.getElem?_eq_none hh]at h3;cases h3
   refine⟨G.claim b (.ownT t),(hS.claim h2 hb _).put hd (v:= .slice .own sz l) (mv:=mv) (fun t' e'=>?_) (fun k off e=>by cases e),hE.claim h2 _⟩;cases e';exact⟨b,cap,arr,e,h1,by show upd G.cl b _ b=_;rw[upd_eq],h3,h4⟩
def Comes1(G:Gh)(st:ze)(w:World)(r:CRes)(st':ze)(e:Ending)(w':World):Prop:=
 match r,e with
 | .ret v,.returned mv=>∃G',SimS G' st' w'/\Ext G st w G' st' w'/\RetR G' w' (zi G'.lc st') v mv
 | .pan v,.panicked chain=>∃G' mv,chain=[{v:=mv,recovered:=false}]/\SimS G' st' w'/\Ext G st w G' st' w'/\VR (G'.im w') (zi G'.lc st') v mv
 |_,_=>False
abbrev Tabs:=List (Nat×Array Value)
def Tabs.In(T:Tabs)(G:Gh)(w:World):Prop:=∀x∈T,G.cl x.1=some .prot/\∃e fr,w.heap[x.1]? =some (.cells x.2 e fr)
theorem Tabs.In.ext{T:Tabs}{G G':Gh}{st st':ze}{w w':World}(h:T.In G w)(hE:Ext G st w G' st' w'):T.In G' w':=by
 intro x hx;obtain⟨h1,e,fr,h2⟩:=h x hx;have:=hE.prot x.1 h1;exact⟨this.1,e,fr,by rw[this.2.2];exact h2⟩
def GoodF(P:Program)(T:Tabs)(f:Nat)(args:List PV)(st:ze)(r:CRes)(st':ze):Prop:=
 ∀(G:Gh) (w:World) (margs:Array Value),G.dfr=[]->T.In G w->SimS G st w->margs.size=args.length→
  (∀(j:Nat) c x,args[j]? =some c->margs[j]? =some x->VR (G.im w) (zi G.lc st) c x)→
  (∃fn c,P.funcs[f]? =some fn/\(fn.name== "runtime.NumGoroutine")=false/\fn.body=some c)∧
  Calls P f margs w (Comes1 G st w r st')
def Good(P:Program)(T:Tabs)(cf:zH):Prop:=∀f args st r st',cf f args st=some (r,st')->GoodF P T f args st r st'
def Cl.isOwn:Cl->Bool
 | .box _| .ownT _| .ownB _ _=>true
 |_=>false
def Gh.lend(G:Gh):Gh:={G with dfr:=[],cl:=fun b=>match G.cl b with
 |some κ=>if κ.isOwn then some .prot else some κ
 |none=>none}
def Gh.back(G G':Gh):Gh:={fz:=G'.fz,loc:=G'.loc,room:=G'.room,box:=G.box,dfr:=G.dfr,cl:=fun b=>match G.cl b with
 |some κ=>if κ.isOwn then some κ else(match G'.cl b with
  |some κ'=>if κ'.isOwn then none else some κ'
  |none=>none)
 |none=>(match G'.cl b with
  |some κ'=>if κ'.isOwn then none else some κ'
  |none=>none)}
theorem Tabs.In.lend{T:Tabs}{G:Gh}{w:World}(h:T.In G w):T.In G.lend w:=by
 intro x hx;obtain⟨h1,h2⟩:=h x hx;exact⟨by simp[Gh.lend,h1,Cl.isOwn],h2⟩
theorem lend_keep{κ:Cl}{b:Nat}(h:G.cl b=some κ)(hl:κ.isOwn=false):G.lend.cl b=some κ:=by
 simp[Gh.lend,h,hl]
theorem lend_prot{κ:Cl}{b:Nat}(h:G.cl b=some κ)(hl:κ.isOwn=true):G.lend.cl b=some .prot:=by
 simp[Gh.lend,h,hl]
theorem SimS.lend{st:ze}(h:SimS G st w):SimS G.lend st w:=by
 refine⟨fun l o ho=>(h.obj l o ho).mono (G:=G) (G':=G.lend) (w:=w) (w':=w) (fun _ _ _ x=>x) (fun _ _ x=>x) rfl ?_ ?_,?_⟩
 ·exact fun b hb=>⟨lend_keep hb rfl,rfl,rfl⟩
 ·exact fun i j b hb=>⟨lend_keep hb rfl,rfl,rfl⟩
 ·intro b hb;exact⟨(h.fresh b hb).1,by simp[Gh.lend,(h.fresh b hb).2]⟩
theorem back_mine{κ:Cl}{b:Nat}(h:G.cl b=some κ)(hl:κ.isOwn=true):(G.back G').cl b=some κ:=by
 simp[Gh.back,h,hl]
theorem back_far{st st':ze}(hE:Ext G.lend st w G' st' w'){κ:Cl}{b:Nat}(h:G'.cl b=some κ)(hl:κ.isOwn=false)(hp:κ≠ .prot):(G.back G').cl b=some κ:=by
 unfold Gh.back;simp only;split
 ·rename_i κ0 h0;split
  ·rename_i hloc;have:=(hE.prot b (lend_prot h0 hloc)).1;rw[h]at this;cases this;exact absurd rfl hp
  ·simp[h,hl]
 ·simp[h,hl]
theorem SimS.back{st st':ze}(h:SimS G' st' w')(h0:SimS G st w)(hE:Ext G.lend st w G' st' w'):SimS (G.back G') st' w':=by
 refine⟨fun l o ho=>(h.obj l o ho).mono (G:=G') (G':=G.back G') (w:=w') (w':=w') (fun _ _ _ x=>x) (fun _ _ x=>x) rfl ?_ ?_,?_⟩
 ·exact fun b hb=>⟨back_far hE hb rfl (by simp),rfl,rfl⟩
 ·exact fun i j b hb=>⟨back_far hE hb rfl (by simp),rfl,rfl⟩
 ·intro b hb;refine⟨(h.fresh b hb).1,?_⟩;have e1:=(h0.fresh b (yha hE.size hb)).2;have e2:=(h.fresh b hb).2;simp[Gh.back,e1,e2]
theorem Ext.back{st st':ze}(h0:SimS G st w)(hE:Ext G.lend st w G' st' w'):Ext G st w (G.back G') st' w':=by
 refine⟨hE.im,hE.loc,?_,hE.size,hE.os,hE.output,hE.frozen,rfl⟩;intro b hb;have hp:=hE.prot b (lend_keep hb rfl);refine⟨?_,hp.2.1,hp.2.2⟩;simp[Gh.back,hb,Cl.isOwn,hp.1]
theorem keeps_back{st st':ze}(hE:Ext G.lend st w G' st' w'){κ:Cl}(hl:κ.isOwn=true):zic G w (G.back G') w' κ:=by
 intro b hb;have hp:=hE.prot b (lend_prot hb hl);exact⟨back_mine hb hl,hp.2.1,hp.2.2⟩
theorem Sim.back(hS:Sim G N s a w){st':ze}(hS':SimS G' st' w')(hE:Ext G.lend s.st w G' st' w'):Sim (G.back G') N {s with st:=st'} a w':=by
 refine⟨hS.defers,hS.size,?_,hS.hi,hS.lp,?_,hS'.back hS.store hE⟩
 ·intro t ht;exact(hS.tmp t ht).mono (G:=G) (G':=G.back G') hE.im hE.loc (keeps_back hE rfl) (fun k off _=>rfl)
 ·intro k;exact(hS.box k).mono (G:=G) (G':=G.back G') hE.im hE.loc rfl (keeps_back hE rfl) (fun j=>keeps_back hE rfl)
def guardOk(ops:Array Oper)(o:Oper)(g:GOp):Bool:=match o.guard,g.g with
 |none,none=>true
 |some (j,v),some (t,v')=>v==v'&&(match ops[j]? with
  |some o'=>decide (o'.dst=some t)
  |none=>false)
 |_,_=>false
def zNd(P:Program)(N:Nat)(ops:Array Oper)(o:Oper)(g:GOp):Bool:=
 decide (o.dst=g.dst)&&(match g.dst with
  |some t=>decide (t<N)
  |none=> !g.op.needsDst)&&guardOk ops o g&&zj P o.op g.op
theorem zge{ops:Array Oper}{o:Oper}{g:GOp}(h:zNd P N ops o g=true):o.dst=g.dst/\(∀t,o.dst=some t->t<N)/\(g.op.needsDst=true->o.dst≠none)/\guardOk ops o g=true/\zj P o.op g.op=true:=by
 unfold zNd at h;simp only[ya,decide_eq_true_eq]at h;obtain⟨⟨⟨h1,h2⟩,h3⟩,h4⟩:=h;refine⟨h1,?_,?_,h3,h4⟩
 ·intro t ht;rw[h1]at ht;simp only[ht,decide_eq_true_eq]at h2;exact h2
 ·intro hn e;rw[h1]at e;simp[e,hn]at h2
theorem tmp_bool(hS:Sim G N s a w){t:Nat}{b:Bool}(h:s.fr t= .bool b):a.tmps[t]? =some (.bool b):=by
 have htN:t<N:=by
  rcases yA t N with h'|h'
  ·exact h'
  ·rw[hS.hi t h']at h;cases h
 have:=hS.tmp t htN;rw[h]at this;have e:a.tmps.getD t Go.undef= .bool b:=VR.bool_inv this;have hlt:t<a.tmps.size:=by rw[hS.size];exact htN
 simp only[yda,yD hlt,yma]at e;rw[yD hlt,e]
theorem tmp_skip(hS:Sim G N s a w){t:Nat}(h:s.fr t= .tup []):a.tmps[t]? =some (.tuple #[]):=by
 have htN:t<N:=by
  rcases yA t N with h'|h'
  ·exact h'
  ·rw[hS.hi t h']at h;cases h
 have:=hS.tmp t htN;rw[h]at this;have e:a.tmps.getD t Go.undef= .tuple #[]:=by
  have h2:VR (G.im w) (zi G.lc s.st) (.tup []) (a.tmps.getD t Go.undef):=this;generalize a.tmps.getD t Go.undef=m at h2;cases h2 with
  |tup hl hv=>
   rename_i vs;have:vs= #[]:=ypa hl;rw[this]
 have hlt:t<a.tmps.size:=by rw[hS.size];exact htN
 simp only[yda,yD hlt,yma]at e;rw[yD hlt,e]
theorem guard_wanted(hS:Sim G N s a w){ops:Array Oper}{o:Oper}{g:GOp}(h:guardOk ops o g=true):
  (g.g=none->Region.wanted o (yielded ops a.tmps)=true)/\(∀t v b,g.g=some (t,v)->gate v (s.fr t)=some b->Region.wanted o (yielded ops a.tmps)=b):=by
 unfold guardOk at h;split at h
 ·rename_i h1 h2;exact⟨fun _=>by simp[Region.wanted,h1],fun t v b e=>by rw[h2]at e;cases e⟩
 ·rename_i j v t v' h1 h2;simp only[ya,beq_iff_eq]at h;obtain⟨rfl,h⟩:=h;refine⟨fun e=>(by rw[h2]at e;cases e),?_⟩;intro t' v' b e hb;rw[h2]at e;cases e;split at h
  ·rename_i o' ho';simp only[decide_eq_true_eq]at h;cases hv:s.fr t<;>rw[hv]at hb<;>simp only[gate]at hb<;>try(cases hb;done)
   case bool x=>
    cases hb;simp[Region.wanted,h1,yielded,ho',h,tmp_bool hS hv]
   case tup l=>
    cases l with
    |cons x r=>cases hb
    |nil=>
     cases hb;have:=tmp_skip hS hv;simp[Region.wanted,h1,yielded,ho',h,this]
  ·cases h
 ·cases h
theorem upon_good{K:Act->World->Prop}{Q:Exit->Act->World->Prop}{fr:Fr}{bx:Bxs}(h:zYa P oper N G s a w v fr bx st')
  (hK:∀G' a' w',Sim G' N {fr:=zSa fr oper.dst v,bx:=bx,st:=st'} a' w'->Ext G s.st w G' st' w'->K a' w'):oper.wp P a w K Q:=by
 obtain⟨nx,mv,w',G',hrun,hnx,hS',hE⟩:=h;unfold Oper.wp;rw[hrun];rcases hnx with rfl|⟨rfl,rfl⟩
 ·exact hK _ _ _ hS' hE
 ·exact hK _ _ _ hS' hE
theorem arg_func(hS:Sim G N s a w){x:Operand}{g:Arg}(h:zO x g=true){f:Nat}{cs ds:List PV}(hv:g.val s.fr= .fn f cs ds):
  ∃vs us:Array Value,a.eval x= .func (.func f) vs us/\vs.size=cs.length/\us.size=ds.length/\(∀(j:Nat) c v,cs[j]? =some c->vs[j]? =some v->VR (G.im w) (zi G.lc s.st) c v)∧
   (∀(j:Nat) c v,ds[j]? =some c->us[j]? =some v->VR (G.im w) (zi G.lc s.st) c v):=by
 have hvr:=zba hS h hv (by simp) (by simp);generalize a.eval x=m at hvr;cases hvr with
 |fn hl hv hl' hv'=>exact⟨_,_,rfl,hl,hl',hv,hv'⟩
theorem zkd{f:FuncId}{fn:Func}{c:Code}(hf:P.funcs[f]? =some fn)(hname:(fn.name== "runtime.NumGoroutine")=false)(hb:fn.body=some c)(args:Array Value)(w:World):
  (callFunc f args).run P w= .ok (.enter f args) w:=by
 simp only[beq_eq_false_iff_ne,ne_eq]at hname;simp[callFunc,hf,hname,hb]
theorem back_ret{st st':ze}{v:PV}{mv:Value}(hE:Ext G.lend st w G' st' w')(h:RetR G' w' (zi G'.lc st') v mv):RetR (G.back G') w' (zi (G.back G').lc st') v mv:=by
 cases v with
 |slice k sz l=>
  cases k with
  |own=>
   obtain⟨b,cap,arr,e,h1,h2,h3⟩:=h;refine⟨b,cap,arr,e,h1,?_,h3⟩;show(match G.cl b with
    |some κ=>if κ.isOwn then some κ else(match G'.cl b with
     |some κ'=>if κ'.isOwn then none else some κ'
     |none=>none)
    |none=>(match G'.cl b with
     |some κ'=>if κ'.isOwn then none else some κ'
     |none=>none))=none
   rw[h2];cases hc:G.cl b with
   |none=>rfl
   |some κ=>
    cases ho:κ.isOwn
    ·simp only[ho,yi,if_false]
    ·have:=(hE.prot b (lend_prot hc ho)).1;rw[h2]at this;cases this
  |plain=>exact h
  |fit=>exact h
  |firm=>exact h
 |_=>exact h
theorem call_sound{T:Tabs}{cf:zH}(hcf:Good P T cf){pk:Bool}{f:Arg}{args:List Arg}{K:Act->World->Prop}{Q:Exit->Act->World->Prop}(hS:Sim G N s a w)(hT:T.In G w)(hd:∀t,oper.dst=some t->t<N)
  (hc:zj P oper.op (.call pk f args)=true) {sr:SR} (h:zJ cf oper.dst (.call pk f args) s=some sr)
  (hK:∀s',sr= .ok s'->∀G' a' w',Sim G' N s' a' w'->Ext G s.st w G' s'.st w'->K a' w')
  (hQ:∀v st',sr= .pan v st'->∀G' w' mv,SimS G' st' w'->Ext G s.st w G' st' w'->VR (G'.im w') (zi G'.lc st') v mv->Q (.panic [{v:=mv,recovered:=false}]) a w'):
  oper.wp P a w K Q:=by
 simp only[zj]at hc;split at hc
 case h_2=>cases hc
 rename_i c ho;split at hc
 case h_2=>cases hc
 rename_i x hcal;simp only[ya]at hc;obtain⟨h1,h2⟩:=hc;simp only[zJ]at h;split at h
 case h_2=>cases h
 rename_i k first caps hfv;split at h
 case isFalse=>cases h
 rename_i hv;obtain⟨vs,us,e1,e2,e3,e4,e5⟩:=arg_func hS h1 hfv;obtain⟨l1,l2⟩:=zHd hS h2 hv;cases hr:cf k (first++zo s.fr args++caps) s.st with
 |none=>rw[hr]at h;cases h
 |some rs=>
  obtain⟨r,st'⟩:=rs;have hgood:=hcf _ _ _ _ _ hr G.lend w (vs++(c.args.map a.eval)++us) rfl hT.lend hS.store.lend (by simp[zo,e2,e3,<-l1]) (by
   intro j p y hp hy;simp only[zo]at hp;rcases yA j first.length with h'|h'
   ·rw[ym,yq h']at hp;rw[yFa,yba (by omega)]at hy;exact e4 j p y hp hy
   ·rw[ym,yv h']at hp;rw[yFa,yka (by omega),e2]at hy;have hl:(c.args.map a.eval).size=args.length:=by simp[<-l1]
    rcases yA (j-first.length) args.length with h''|h''
    ·rw[yq (by simpa using h'')]at hp;rw[yba (by omega)]at hy;exact l2 _ p y hp (by simpa using hy)
    ·rw[yv (by simpa using h'')]at hp;rw[yka (by omega),hl]at hy;exact e5 _ p y (by simpa using hp) hy)
  obtain⟨⟨fn,cd,f1,f2,f3⟩,hcalls⟩:=hgood;rw[hr]at h;unfold Oper.wp;have hrun:(execOp a.eval oper).run P w= .ok (.enter k (vs++(c.args.map a.eval)++us)) w:=by
   simp only[execOp,ho,resolve,hcal,e1,Deferred.ofValue,Sem.run_bind,Sem.run_pure,invoke];exact zkd f1 f2 f3 _ _
  rw[hrun];simp only[Oper.upon];refine hcalls.mono ?_;intro e w' he;cases r with
  |ret v=>
   cases e with
   |returned mv=>
    obtain⟨G',q1,q2,q3⟩:=he;cases h;obtain⟨G2,p1,p2⟩:=(hS.back q1 q2).putR (P:=P) (Ext.back hS.store q2) hd (v:=v) (mv:=mv) (back_ret q2 q3);exact hK _ rfl G2 _ _ p1 p2
   |panicked ch=>exact he.elim
   |outgrown=>exact he.elim
  |pan v=>
   cases e with
   |returned mv=>exact he.elim
   |outgrown=>exact he.elim
   |panicked ch=>
    obtain⟨G',mv,rfl,q1,q2,q3⟩:=he;cases pk with
    |false=>cases h
    |true=>
     cases h;exact hQ _ _ rfl (G.back G') _ _ (q1.back hS.store q2) (Ext.back hS.store q2) q3
def Gh.hush(G:Gh):Gh:={G with dfr:=[],cl:=fun b=>(G.cl b).map fun _=> .prot}
theorem Tabs.In.hush{T:Tabs}{G:Gh}{w:World}(h:T.In G w):T.In G.hush w:=by
 intro x hx;obtain⟨h1,h2⟩:=h x hx;exact⟨by simp[Gh.hush,h1],h2⟩
def Gh.wake(G G':Gh):Gh:={fz:=G'.fz,loc:=G.loc,room:=G.room,box:=G.box,cl:=G.cl,dfr:=G.dfr}
theorem hush_sim{st:ze}(h:SimS G st w):SimS G.hush [] w:=by
 refine⟨fun l o ho=>by simp at ho,fun b hb=>⟨(h.fresh b hb).1,?_⟩⟩;simp[Gh.hush,(h.fresh b hb).2]
theorem hush_prot{κ:Cl}{b:Nat}(h:G.cl b=some κ):G.hush.cl b=some .prot:=by simp[Gh.hush,h]
theorem zJc{st'':ze}(hE:Ext G.hush [] w G' st'' w')(κ:Cl):zic G w (G.wake G') w' κ:=by
 intro b hb;have hp:=hE.prot b (hush_prot hb);exact⟨hb,hp.2.1,hp.2.2⟩
theorem wake_ext{st st'':ze}(hE:Ext G.hush [] w G' st'' w'):Ext G st w (G.wake G') st w':=
 ⟨hE.im,Loc.le_refl _,fun b hb=>zJc hE .prot b hb,hE.size,hE.os,hE.output,hE.frozen,rfl⟩
theorem wake_sims{st st'':ze}(h:SimS G st w)(h':SimS G' st'' w')(hE:Ext G.hush [] w G' st'' w'):SimS (G.wake G') st w':=by
 refine⟨fun l o ho=>(h.obj l o ho).mono (G:=G) (G':=G.wake G') hE.im (Loc.le_refl _) rfl (zJc hE _) (fun i j=>zJc hE _),?_⟩;intro b hb;exact⟨(h'.fresh b hb).1,(h.fresh b (yha hE.size hb)).2⟩
theorem Sim.wake{st'':ze}(hS:Sim G N s a w)(h':SimS G' st'' w')(hE:Ext G.hush [] w G' st'' w'):Sim (G.wake G') N s a w':=by
 refine⟨hS.defers,hS.size,?_,hS.hi,hS.lp,?_,wake_sims hS.store h' hE⟩
 ·intro t ht;exact(hS.tmp t ht).mono (G:=G) (G':=G.wake G') hE.im (Loc.le_refl _) (zJc hE _) (fun k off _=>rfl)
 ·intro k;exact(hS.box k).mono (G:=G) (G':=G.wake G') hE.im (Loc.le_refl _) rfl (zJc hE _) (fun j=>zJc hE _)
theorem wake_ret{st'':ze}{v:PV}{mv:Value}{L:Loc}(hE:Ext G.hush [] w G' st'' w')(h:RetR G' w' (zi G'.lc st'') v mv)(hb:zD 0 v=true):RetR (G.wake G') w' L v mv:=by
 cases v with
 |slice k sz l=>
  cases k with
  |own=>
   obtain⟨b,cap,arr,e,h1,h2,h3,h4,h5,h6,h7,h8,h9⟩:=h;refine⟨b,cap,arr,e,h1,?_,h3,h4,h5,h6,h7,h8,h9.under (fun _ _ _ x=>x) (fun l x hl=>by omega) hb⟩;show G.cl b=none
   cases hc:G.cl b with
   |none=>rfl
   |some κ=>
    have:=(hE.prot b (hush_prot hc)).1;rw[h2]at this;cases this
  |plain=>exact VR.under (fun _ _ _ x=>x) (fun l x hl=>by omega) h hb
  |fit=>exact VR.under (fun _ _ _ x=>x) (fun l x hl=>by omega) h hb
  |firm=>exact VR.under (fun _ _ _ x=>x) (fun l x hl=>by omega) h hb
 |_=>exact VR.under (fun _ _ _ x=>x) (fun l x hl=>by omega) h hb
theorem callP_sound{T:Tabs}{cf:zH}(hcf:Good P T cf){pk:Bool}{f:Arg}{args:List Arg}{K:Act->World->Prop}{Q:Exit->Act->World->Prop}(hS:Sim G N s a w)(hT:T.In G w)(hd:∀t,oper.dst=some t->t<N)
  (hc:zj P oper.op (.callP pk f args)=true) {sr:SR} (h:zJ cf oper.dst (.callP pk f args) s=some sr)
  (hK:∀s',sr= .ok s'->∀G' a' w',Sim G' N s' a' w'->Ext G s.st w G' s'.st w'->K a' w')
  (hQ:∀v st',sr= .pan v st'->∀G' w' mv,SimS G' st' w'->Ext G s.st w G' st' w'->VR (G'.im w') (zi G'.lc st') v mv->Q (.panic [{v:=mv,recovered:=false}]) a w'):
  oper.wp P a w K Q:=by
 simp only[zj]at hc;split at hc
 case h_2=>cases hc
 rename_i c ho;split at hc
 case h_2=>cases hc
 rename_i x hcal;simp only[ya]at hc;obtain⟨h1,h2⟩:=hc;simp only[zJ]at h;split at h
 case h_2=>cases h
 rename_i k first caps hfv;split at h
 case isFalse=>cases h
 rename_i hvb;rw[ya]at hvb;obtain⟨hv,hbel⟩:=hvb;obtain⟨vs,us,e1,e2,e3,e4,e5⟩:=arg_func hS h1 hfv;obtain⟨l1,l2⟩:=zHd hS h2 hv;cases hr:cf k (first++zo s.fr args++caps) []with
 |none=>rw[hr]at h;cases h
 |some rs=>
  obtain⟨r,st'⟩:=rs;have hgood:=hcf _ _ _ _ _ hr G.hush w (vs++(c.args.map a.eval)++us) rfl hT.hush (hush_sim hS.store) (by simp[zo,e2,e3,<-l1]) (by
   intro j p y hp hy;have hb0:zD 0 p=true:=zMa hbel hp;refine VR.under (I:=G.im w) (L:=zi G.lc s.st) (n:=0) (fun _ _ _ x=>x) (fun l x hl=>by omega) ?_ hb0;simp only[zo]at hp;rcases yA j first.length with h'|h'
   ·rw[ym,yq h']at hp;rw[yFa,yba (by omega)]at hy;exact e4 j p y hp hy
   ·rw[ym,yv h']at hp;rw[yFa,yka (by omega),e2]at hy;have hl:(c.args.map a.eval).size=args.length:=by simp[<-l1]
    rcases yA (j-first.length) args.length with h''|h''
    ·rw[yq (by simpa using h'')]at hp;rw[yba (by omega)]at hy;exact l2 _ p y hp (by simpa using hy)
    ·rw[yv (by simpa using h'')]at hp;rw[yka (by omega),hl]at hy;exact e5 _ p y (by simpa using hp) hy)
  obtain⟨⟨fn,cd,f1,f2,f3⟩,hcalls⟩:=hgood;rw[hr]at h;unfold Oper.wp;have hrun:(execOp a.eval oper).run P w= .ok (.enter k (vs++(c.args.map a.eval)++us)) w:=by
   simp only[execOp,ho,resolve,hcal,e1,Deferred.ofValue,Sem.run_bind,Sem.run_pure,invoke];exact zkd f1 f2 f3 _ _
  rw[hrun];simp only[Oper.upon];refine hcalls.mono ?_;intro e w' he;cases r with
  |ret v=>
   cases e with
   |returned mv=>
    obtain⟨G',q1,q2,q3⟩:=he;simp only at h;split at h
    case isFalse=>cases h
    rename_i hbv;cases h;obtain⟨G2,p1,p2⟩:=(hS.wake q1 q2).putR (P:=P) (wake_ext q2) hd (v:=v) (mv:=mv) (wake_ret q2 q3 hbv);exact hK _ rfl G2 _ _ p1 p2
   |panicked ch=>exact he.elim
   |outgrown=>exact he.elim
  |pan v=>
   cases e with
   |returned mv=>exact he.elim
   |outgrown=>exact he.elim
   |panicked ch=>
    obtain⟨G',mv,rfl,q1,q2,q3⟩:=he;simp only at h;split at h
    case isFalse=>cases h
    rename_i hbv;rw[ya]at hbv;cases h;exact hQ _ _ rfl (G.wake G') _ _ (wake_sims hS.store q1 q2) (wake_ext q2) (q3.under (fun _ _ _ x=>x) (fun l x hl=>by omega) hbv.2)
theorem callR_sound{T:Tabs}{cf:zH}(hcf:Good P T cf){f:Arg}{args:List Arg}{K:Act->World->Prop}{Q:Exit->Act->World->Prop}(hS:Sim G N s a w)(hT:T.In G w)(hd:∀t,oper.dst=some t->t<N)
  (hc:zj P oper.op (.callR f args)=true) {sr:SR} (h:zJ cf oper.dst (.callR f args) s=some sr)
  (hK:∀s',sr= .ok s'->∀G' a' w',Sim G' N s' a' w'->Ext G s.st w G' s'.st w'->K a' w')
  (hQ:∀v st',sr= .pan v st'->∀G' w' mv,SimS G' st' w'->Ext G s.st w G' st' w'->VR (G'.im w') (zi G'.lc st') v mv->Q (.panic [{v:=mv,recovered:=false}]) a w'):
  oper.wp P a w K Q:=by
 refine call_sound hcf (pk:=false) (f:=f) (args:=args) hS hT hd hc ?_ hK hQ;simp only[zJ]at h ⊢;cases hx:Arg.val s.fr f<;>rw[hx]at h<;>try(cases h;done)
 rename_i k first caps;simp only at h ⊢;split at h
 case isFalse=>cases h
 rename_i hall;rw[if_pos hall];cases hf:cf k (first++zo s.fr args++caps) s.st with
 |none=>rw[hf]at h;cases h
 |some q=>
  obtain⟨q,st'⟩:=q;rw[hf]at h;cases q with
  |pan v=>cases h
  |ret v=>
   simp only at h ⊢;split at h
   case isFalse=>cases h
   rename_i hs;cases same_iff.1 hs;exact h
theorem callK_sound{T:Tabs}{cf:zH}(hcf:Good P T cf){f:Arg}{args:List Arg}{K:Act->World->Prop}{Q:Exit->Act->World->Prop}(hS:Sim G N s a w)(hT:T.In G w)(hd:∀t,oper.dst=some t->t<N)
  (hc:zj P oper.op (.callK f args)=true) {sr:SR} (h:zJ cf oper.dst (.callK f args) s=some sr)
  (hK:∀s',sr= .ok s'->∀G' a' w',Sim G' N s' a' w'->Ext G s.st w G' s'.st w'->K a' w')
  (hQ:∀v st',sr= .pan v st'->∀G' w' mv,SimS G' st' w'->Ext G s.st w G' st' w'->VR (G'.im w') (zi G'.lc st') v mv->Q (.panic [{v:=mv,recovered:=false}]) a w'):
  oper.wp P a w K Q:=by
 refine call_sound hcf (pk:=false) (f:=f) (args:=args) hS hT hd hc ?_ hK hQ;simp only[zJ]at h ⊢;cases hx:Arg.val s.fr f<;>rw[hx]at h<;>try(cases h;done)
 rename_i k first caps;simp only at h ⊢;split at h
 case isFalse=>cases h
 rename_i hall;rw[if_pos hall];cases hf:cf k (first++zo s.fr args++caps) s.st with
 |none=>rw[hf]at h;cases h
 |some q=>
  obtain⟨q,st'⟩:=q;rw[hf]at h;cases q with
  |pan v=>cases h
  |ret v=>
   simp only at h ⊢;split at h
   case isFalse=>cases h
   exact h
theorem panic_sound{cf:zH}{x:Arg}{K:Act->World->Prop}{Q:Exit->Act->World->Prop}(hS:Sim G N s a w)
  (hc:zj P oper.op (.panic x)=true) {sr:SR} (h:zJ cf oper.dst (.panic x) s=some sr)
  (hQ:∀v st',sr= .pan v st'->∀G' w' mv,SimS G' st' w'->Ext G s.st w G' st' w'->VR (G'.im w') (zi G'.lc st') v mv->Q (.panic [{v:=mv,recovered:=false}]) a w'):
  oper.wp P a w K Q:=by
 simp only[zj]at hc;split at hc
 case h_2=>cases hc
 rename_i y ho;simp only[zJ]at h;split at h
 case h_2=>cases h
 rename_i t v hv;cases h;have hvr:=zba hS hc hv (by simp) (by simp);have he:∃mv,a.eval y= .iface t mv:=by
  generalize a.eval y=m at hvr;cases hvr with
  |iface h=>exact⟨_,rfl⟩
 obtain⟨mv,he⟩:=he;unfold Oper.wp;have hrun:(execOp a.eval oper).run P w= .halt (.panic (a.eval y)) w:=by
  simp[execOp,ho,Instr.panic,he]
 rw[hrun];exact hQ _ _ rfl G w _ hS.store (Ext.refl _ _ _) hvr
end
section
variable {G G':Gh} {w w':World} {st st':ze}
def blockSize(w:World)(b:Nat):Nat:=match w.heap[b]? with
 |some (.cells c _ _)=>c.size
 |_=>0
def letGo(n:Nat):Cl->Option Cl
 | .loc l=>if l<n then some (.loc l)else none
 | .ownS l i j=>if l<n then some (.ownS l i j)else none
 |κ=>some κ
def Gh.drop(G:Gh)(w:World)(n:Nat):Gh where
 loc:=G.loc
 room:=G.room
 box:=G.box
 dfr:=G.dfr
 cl:=fun b=>(G.cl b).bind (letGo n)
 fz:=fun b=>match G.cl b with
  |some (.loc l)=>if l<n then G.fz b else max (G.fz b) (blockSize w b)
  |_=>G.fz b
theorem drop_fz(G:Gh)(w:World)(n b:Nat):G.fz b<=(G.drop w n).fz b:=by
 unfold Gh.drop;simp only;split
 ·split<;>omega
 ·omega
theorem zgc(G:Gh)(w:World)(n:Nat):(G.im w).le ((G.drop w n).im w):=by
 intro b o v h;unfold Gh.im at h ⊢;split at h
 ·rename_i hlt;rw[if_pos (Nat.lt_of_lt_of_le hlt (drop_fz G w n b))];exact h
 ·cases h
theorem zdd{n b:Nat}{κ:Cl}(h:G.cl b=some κ)(hk:letGo n κ=some κ):(G.drop w n).cl b=some κ/\(G.drop w n).fz b=G.fz b:=by
 refine⟨by simp[Gh.drop,h,hk],?_⟩;unfold Gh.drop;simp only[h];cases κ with
 |loc l=>
  simp only[letGo]at hk;split at hk
  ·rename_i hl;simp[hl]
  ·cases hk
 |_=>rfl
theorem drop_cr{n:Nat}{L L':Loc}{κ:Cl}(hk:letGo n κ=some κ)(hL:∀l x,l<n->L l=some x->L' l=some x){c:PV}{mv:Value}(hb:zD n c=true)(h:CR G w L κ c mv):CR (G.drop w n) w L' κ c mv:=by
 refine⟨h.1,?_⟩;obtain⟨_,h⟩:=h;have plain:∀{c},zD n c=true->VR (G.im w) L c mv->VR ((G.drop w n).im w) L' c mv:=fun hb h=>h.under (zgc G w n) hL hb
 cases c with
 |slice k sz l=>
  cases k with
  |own=>
   obtain⟨b,cap,arr,e,h1,h2,h3,h5,h6,h7,h8,h9,h10⟩:=h;obtain⟨k1,k2⟩:=zdd (w:=w) h2 hk;exact⟨b,cap,arr,e,h1,k1,h3,h5,h6,h7,by rw[k2];exact h8,h9,plain (by simpa[zD]using hb) h10⟩
  |plain=>exact plain hb h
  |fit=>exact plain hb h
  |firm=>exact plain hb h
 |_=>exact plain hb h
theorem zFc{loc:Nat->Nat×Nat}{n:Nat}:∀l x,l<n->zi loc st l=some x->zi loc (st.take n) l=some x:=by
 intro l x hl h;unfold zi at h ⊢;rw[yH,if_pos hl];exact h
theorem belowP_get{n:Nat}:∀{l:List (PV×PV)},belowP n l=true->∀{i:Nat} {k v},l[i]? =some (k,v)->zD n k=true/\zD n v=true
 | [],_,i,k,v,h=>by simp at h
 |(k0,v0)::r,hb,i,k,v,h=>by
  simp only[belowP,ya]at hb;cases i with
  |zero=>simp at h;obtain⟨rfl,rfl⟩:=h;exact⟨hb.1.1,hb.1.2⟩
  |succ i=>exact belowP_get hb.2 (by simpa using h)
theorem drop_sim{n:Nat}(hS:SimS G st w)(hwf:ze.wf n (st.take n)=true):SimS (G.drop w n) (st.take n) w:=by
 refine⟨fun l o hl=>?_,fun b hb=>?_⟩
 ·have hlt:l<n:=by
   have:=(yc.1 hl).1;simp at this;omega
  have hbo:o.below n=true:=yr.1 hwf o (yR.2 ⟨l,hl⟩);have hl':st[l]? =some o:=by rw[yH,if_pos hlt]at hl;exact hl
  have hobj:=hS.obj l o hl';cases o with
  |arr sz es=>
   obtain⟨h1,h2,arr,e,h3,h4,h5⟩:=hobj;obtain⟨k1,k2⟩:=zdd (w:=w) (n:=n) h1 (by simp[letGo,hlt]);refine⟨k1,by rw[show(G.drop w n).loc=G.loc from rfl,k2];exact h2,arr,e,h3,h4,fun i v hv=>⟨(h5 i v hv).1,(h5 i v hv).2.1,fun j c hc=>?_⟩⟩;obtain⟨mv,m1,m2⟩:=(h5 i v hv).2.2 j c hc;simp only[Obj.below]at hbo;exact⟨mv,m1,drop_cr (by simp[letGo,hlt]) zFc (zhe (zMa hbo hv) c (yR.2 ⟨j,hc⟩)) m2⟩
  |mp es=>
   obtain⟨h1,h2,ents,clock,h3,h4,h6⟩:=hobj;obtain⟨k1,k2⟩:=zdd (w:=w) (n:=n) h1 (by simp[letGo,hlt]);refine⟨k1,by rw[show(G.drop w n).loc=G.loc from rfl,k2];exact h2,ents,clock,h3,h4,fun i k v hv=>?_⟩;obtain⟨en,m1,m2,m3⟩:=h6 i k v hv;simp only[Obj.below]at hbo;obtain⟨b1,b2⟩:=belowP_get hbo hv;exact⟨en,m1,m2.under (zgc G w n) zFc b1,m3.under (zgc G w n) zFc b2⟩
  |dead z=>trivial
 ·obtain⟨f1,f2⟩:=hS.fresh b hb;simp[Gh.drop,f1,f2]
theorem drop_ext{G0:Gh}{st0:ze}{w0:World}(hE:Ext G0 st0 w0 G st w):Ext G0 st0 w0 (G.drop w st0.length) (st.take st0.length) w:=by
 refine⟨Im.le_trans hE.im (zgc _ _ _),fun l x h=>?_,fun b hb=>?_,hE.size,hE.os,hE.output,hE.frozen,hE.dfr⟩
 ·have hlt:l<st0.length:=by
   unfold zi at h;rw[yb]at h;obtain⟨o,ho,_⟩:=h;exact(yc.1 ho).1
  exact zFc l x hlt (hE.loc l x h)
 ·obtain⟨p1,p2,p3⟩:=hE.prot b hb;obtain⟨k1,k2⟩:=zdd (w:=w) (n:=st0.length) p1 rfl;exact⟨k1,by rw[k2,p2],p3⟩
theorem freeze1_vr{n:Nat}(hS:SimS G st w){v:PV}{mv:Value}(h:VR (G.im w) (zi G.lc st) v mv)(hb:zD n (freeze1 n st v)=true):
  VR ((G.drop w n).im w) (zi (G.drop w n).lc (st.take n)) (freeze1 n st v) mv:=by
 have dflt:∀{v},VR (G.im w) (zi G.lc st) v mv->zD n v=true->VR ((G.drop w n).im w) (zi (G.drop w n).lc (st.take n)) v mv:=fun h hb=>h.under (zgc G w n) zFc hb
 cases v with
 |mslice l off len sz=>
  simp only[freeze1]at hb ⊢;split at hb
  ·rename_i hnl;rw[if_pos hnl];split at hb
   ·rename_i s es hst
    try simp only[hst]
    split at hb
    ·rename_i hc;rw[if_pos hc];obtain⟨rfl,hle⟩:=hc;obtain⟨c1,c2,arr,e,c3,c4,c5⟩:=hS.obj l _ hst;have hloc:zi G.lc st l=some (G.loc l,s,G.room l):=by simp[zi,Gh.lc,hst,Obj.sz]
     have hlen:(((es.drop off).take len).map stripA).length=len:=by simp;omega
     have hfz:arr.size<=(G.drop w n).fz (G.loc l):=by
      unfold Gh.drop;simp only[c1];rw[if_neg (by omega)];have:blockSize w (G.loc l)=arr.size:=by simp[blockSize,c3]
      omega
     have him:∀(k:Nat) x,arr[k]? =some x->(G.drop w n).im w (G.loc l) k=some x:=by
      intro k x hk;have hlt:k<arr.size:=(yu.1 hk).1;unfold Gh.im;rw[if_pos (by omega)];show w.cell? _=_
      rw[zyb c3];exact hk
     have mk:∀cap,len<=cap->VR ((G.drop w n).im w) (zi (G.drop w n).lc (st.take n)) (.slice .plain s (((es.drop off).take len).map stripA)) (.slice (some ⟨G.loc l,off*s,none⟩) len cap):=by
      intro cap hcap;have hel:∀(i:Nat) e,(((es.drop off).take len).map stripA)[i]? =some e->∃e0,es[off+i]? =some e0/\e=stripA e0:=by
       intro i e he;simp only[yn,yH,yN,yb]at he;obtain⟨e0,h0,rfl⟩:=he;split at h0
       ·exact⟨e0,h0,rfl⟩
       ·cases h0
      have hcell:∀(i:Nat) e (j:Nat) c,(((es.drop off).take len).map stripA)[i]? =some e->(cellsOf e)[j]? =some c->∃x,arr[(off+i)*s+j]? =some x/\x.oneCell'=true/\VR (G.im w) (zi G.lc st) c x:=by
       intro i e j c he hc;obtain⟨e0,h0,rfl⟩:=hel i e he;rw[zab,yn,yb]at hc;obtain⟨c0,hc0,rfl⟩:=hc;obtain⟨x,m1,m2⟩:=(c5 _ e0 h0).2.2 j c0 hc0;exact⟨x,m1,m2.1,m2.strip.canon1⟩
      have:=VR.slice (I:=(G.drop w n).im w) (L:=zi (G.drop w n).lc (st.take n)) (k:= .plain) (sz:=s) (l:=((es.drop off).take len).map stripA) (b:=G.loc l) (o:=off*s) (cap:=cap)
       (by simp) (by simp) (by rw[hlen];exact hcap) (fun i j=>arr.getD ((off+i)*s+j) Go.undef) ?_ ?_ ?_
      ·rw[hlen]at this;exact this
      ·intro i e he;obtain⟨e0,h0,rfl⟩:=hel i e he;obtain⟨d1,d2,_⟩:=c5 _ e0 h0;exact⟨by rw[zab,yea,d1],stripA_var d2⟩
      ·intro i e j c he hc;obtain⟨x,m1,m2,_⟩:=hcell i e j c he hc;have hx:arr.getD ((off+i)*s+j) Go.undef=x:=by simp[m1]
       rw[hx];refine⟨?_,m2⟩;rw[show off*s+i*s+j=(off+i)*s+j from by rw[yE]];exact him _ _ m1
      ·intro i e j c he hc;obtain⟨x,m1,_,m3⟩:=hcell i e j c he hc;have hx:arr.getD ((off+i)*s+j) Go.undef=x:=by simp[m1]
       rw[hx];simp only[zD]at hb;exact m3.under (zgc G w n) zFc (zhe (zMa hb he) c (yR.2 ⟨j,hc⟩))
     cases h with
     |mslice hh hcap _=>
      rw[hloc]at hh;cases hh;exact mk _ hcap
     |mslice0 a hh=>
      have:(((es.drop off).take 0).map stripA)=[]:=by simp
      rw[this];exact .slice0 _ _ _ _ (by simp) (by simp)
    ·rename_i hc;rw[if_neg hc];exact dflt h hb
   ·rename_i hne;exact dflt h hb
  ·rename_i hnl;rw[if_neg hnl];exact dflt h hb
 |_=>exact dflt h hb
theorem freezeA_vr{n:Nat}(hS:SimS G st w){v:PV}{mv:Value}(h:VR (G.im w) (zi G.lc st) v mv)(hb:zD n (zbd n st v)=true):
  VR ((G.drop w n).im w) (zi (G.drop w n).lc (st.take n)) (zbd n st v) mv:=by
 cases v with
 |agg cs=>
  cases h with
  |agg hl ho hv=>
   simp only[zbd,zD]at hb ⊢;refine .agg (by simpa using hl) ho (fun j c v hc hv'=>?_);have hbc:=zMa hb hc;rw[yn,yb]at hc;obtain⟨c0,h0,rfl⟩:=hc;exact freeze1_vr hS (hv j c0 v h0 hv') hbc
 |_=>exact freeze1_vr hS h hb
def frCell:Nat->Nat->ze->PV->PV->PV
 |k,n,st,.agg _,c=>zHa (k-1) n st c
 |k,n,st,_,c=>zHa k n st c
theorem frCell_is(k n:Nat)(st:ze)(v c:PV):∃q,q<=k/\frCell k n st v c=zHa q n st c:=by
 cases v<;>first|exact⟨k,yh _,rfl⟩|exact⟨k-1,by omega,rfl⟩
theorem freezeK_notAgg(k n:Nat)(st:ze){v:PV}(h:∀cs,v≠ .agg cs):cellsOf (zHa k n st v)=[zHa k n st v]:=by
 cases k with
 |zero=>cases v<;>first|rfl|exact absurd rfl (h _)
 |succ k=>
  cases v with
  |agg cs=>exact absurd rfl (h _)
  |mslice l off len sz=>
   simp only[zHa];split
   ·split
    ·split<;>rfl
    ·rfl
   ·rfl
  |_=>rfl
theorem freezeK_cells(k n:Nat)(st:ze)(v:PV):cellsOf (zHa k n st v)=(cellsOf v).map (frCell k n st v):=by
 cases v with
 |agg cs=>
  cases k with
  |zero=>
   show cs=cs.map fun c=>c
   simp
  |succ k=>rfl
 |_=>exact freezeK_notAgg k n st (by intro cs h;cases h)
theorem freezeK_var(k n:Nat)(st:ze){v:PV}(h:zG v=true):zG (zHa k n st v)=true:=by
 cases k with
 |zero=>exact h
 |succ k=>
  cases v with
  |mslice l off len sz=>
   simp only[zHa];split
   ·split
    ·split<;>rfl
    ·rfl
   ·rfl
  |agg cs=>rfl
  |_=>exact h
theorem freezeK_vr{n:Nat}(hS:SimS G st w):∀(k j:Nat),j<=k->∀{v:PV} {mv:Value},VR (G.im w) (zi G.lc st) v mv->zD n (zHa j n st v)=true→
  VR ((G.drop w n).im w) (zi (G.drop w n).lc (st.take n)) (zHa j n st v) mv:=by
 have dflt:∀{v mv},VR (G.im w) (zi G.lc st) v mv->zD n v=true->VR ((G.drop w n).im w) (zi (G.drop w n).lc (st.take n)) v mv:=fun h hb=>h.under (zgc G w n) zFc hb
 intro k
 induction k with
 |zero=>
  intro j hj v mv h hb;obtain rfl:j=0:=by omega
  exact dflt h hb
 |succ k IH=>
 intro j hj v mv h hb;cases j with
 |zero=>exact dflt h hb
 |succ j=>
 cases v with
 |agg cs=>
  cases h with
  |agg hl ho hv=>
   simp only[zHa,zD]at hb ⊢;refine .agg (by simpa using hl) ho (fun i c v hc hv'=>?_);have hbc:=zMa hb hc;rw[yn,yb]at hc;obtain⟨c0,h0,rfl⟩:=hc;exact IH j (by omega) (hv i c0 v h0 hv') hbc
 |mslice l off len sz=>
  simp only[zHa]at hb ⊢;split at hb
  ·rename_i hnl;rw[if_pos hnl];split at hb
   ·rename_i s es hst
    try simp only[hst]
    split at hb
    ·rename_i hc;rw[if_pos hc];obtain⟨rfl,hle⟩:=hc;obtain⟨c1,c2,arr,e,c3,c4,c5⟩:=hS.obj l _ hst;have hloc:zi G.lc st l=some (G.loc l,s,G.room l):=by simp[zi,Gh.lc,hst,Obj.sz]
     generalize hfe:(fun e=>zHa j n st (stripA e))=fe at hb ⊢;have hfe':∀e,fe e=zHa j n st (stripA e):=fun e=>by rw[<-hfe]
     have hlen:(((es.drop off).take len).map fe).length=len:=by simp;omega
     have hfz:arr.size<=(G.drop w n).fz (G.loc l):=by
      unfold Gh.drop;simp only[c1];rw[if_neg (by omega)];have:blockSize w (G.loc l)=arr.size:=by simp[blockSize,c3]
      omega
     have him:∀(k:Nat) x,arr[k]? =some x->(G.drop w n).im w (G.loc l) k=some x:=by
      intro k x hk;have hlt:k<arr.size:=(yu.1 hk).1;unfold Gh.im;rw[if_pos (by omega)];show w.cell? _=_
      rw[zyb c3];exact hk
     have mk:∀cap,len<=cap->VR ((G.drop w n).im w) (zi (G.drop w n).lc (st.take n)) (.slice .plain s (((es.drop off).take len).map fe)) (.slice (some ⟨G.loc l,off*s,none⟩) len cap):=by
      intro cap hcap;have hel:∀(i:Nat) e,(((es.drop off).take len).map fe)[i]? =some e->∃e0,es[off+i]? =some e0/\e=fe e0:=by
       intro i e he;simp only[yn,yH,yN,yb]at he;obtain⟨e0,h0,rfl⟩:=he;split at h0
       ·exact⟨e0,h0,rfl⟩
       ·cases h0
      have hcell:∀(i:Nat) e (m:Nat) c,(((es.drop off).take len).map fe)[i]? =some e->(cellsOf e)[m]? =some c->∃x,arr[(off+i)*s+m]? =some x/\x.oneCell'=true∧
        ∃c0 q,q<=k/\c=zHa q n st c0/\VR (G.im w) (zi G.lc st) c0 x:=by
       intro i e m c he hc;obtain⟨e0,h0,rfl⟩:=hel i e he;rw[hfe',freezeK_cells,zab,List.map_map,yn,yb]at hc;obtain⟨c0,hc0,rfl⟩:=hc;obtain⟨x,m1,m2⟩:=(c5 _ e0 h0).2.2 m c0 hc0;obtain⟨q,hq,e⟩:=frCell_is j n st (stripA e0) (canon1 c0);exact⟨x,m1,m2.1,canon1 c0,q,by omega,e,m2.strip.canon1⟩
      have:=VR.slice (I:=(G.drop w n).im w) (L:=zi (G.drop w n).lc (st.take n)) (k:= .plain) (sz:=s) (l:=((es.drop off).take len).map fe) (b:=G.loc l) (o:=off*s) (cap:=cap)
       (by simp) (by simp) (by rw[hlen];exact hcap) (fun i j=>arr.getD ((off+i)*s+j) Go.undef) ?_ ?_ ?_
      ·rw[hlen]at this;exact this
      ·intro i e he;obtain⟨e0,h0,rfl⟩:=hel i e he;obtain⟨d1,d2,_⟩:=c5 _ e0 h0;exact⟨by rw[hfe',freezeK_cells,yea,zab,yea,d1],by rw[hfe'];exact freezeK_var _ _ _ (stripA_var d2)⟩
      ·intro i e m c he hc;obtain⟨x,m1,m2,_⟩:=hcell i e m c he hc;have hx:arr.getD ((off+i)*s+m) Go.undef=x:=by simp[m1]
       rw[hx];refine⟨?_,m2⟩;rw[show off*s+i*s+m=(off+i)*s+m from by rw[yE]];exact him _ _ m1
      ·intro i e m c he hc;obtain⟨x,m1,_,c0,q,hq,rfl,m3⟩:=hcell i e m c he hc;have hx:arr.getD ((off+i)*s+m) Go.undef=x:=by simp[m1]
       rw[hx];simp only[zD]at hb;exact IH q hq m3 (zhe (zMa hb he) _ (yR.2 ⟨m,hc⟩))
     cases h with
     |mslice hh hcap _=>
      rw[hloc]at hh;cases hh;exact mk _ hcap
     |mslice0 a hh=>
      have:(((es.drop off).take 0).map fe)=[]:=by simp
      rw[this];exact .slice0 _ _ _ _ (by simp) (by simp)
    ·rename_i hc;rw[if_neg hc];exact dflt h hb
   ·rename_i hne;exact dflt h hb
  ·rename_i hnl;rw[if_neg hnl];exact dflt h hb
 |_=>exact dflt h hb
theorem cr_plain{L:Loc}{κ:Cl}{c:PV}{mv:Value}(h:CR G w L κ c mv)(ho:isOwn c=none):VR (G.im w) L c mv:=by
 obtain⟨_,h⟩:=h;cases c with
 |slice k sz l=>
  cases k with
  |own=>cases ho
  |plain=>exact h
  |fit=>exact h
  |firm=>exact h
 |_=>exact h
theorem locOf_kill(G:Gh)(w:World)(n:Nat)(st:ze):zi (G.drop w n).lc (killAll st)=zi G.lc st:=by
 funext l;unfold zi killAll;rw[yn];cases st[l]? with
 |none=>rfl
 |some o=>cases o<;>rfl
theorem drop_keeps(G:Gh)(w:World){κ:Cl}(hk:letGo 0 κ=some κ):zic G w (G.drop w 0) w κ:=fun b hb=>by
 obtain⟨k1,k2⟩:=zdd (w:=w) hb hk;exact⟨k1,k2,rfl⟩
theorem Sim.seal{N:Nat}{s s1:St}{a:Act}{ks:List Nat}(hS:Sim G N s a w)(h:sealSt ks s=some s1):Sim (G.drop w 0) N s1 a w/\Ext G s.st w (G.drop w 0) s1.st w:=by
 unfold sealSt at h;split at h
 case isFalse=>cases h
 rename_i hall;rw[yr]at hall;cases h;have hL:=locOf_kill G w 0 s.st;have hbox:∀k,BxR (G.drop w 0) w (zi (G.drop w 0).lc (killAll s.st)) k (if ks.contains k then(sealBx s.st (s.bx k)).getD .no else s.bx k):=by
  intro k;rw[hL];split
  ·rename_i hk;have hsm:=hall k (by simpa using hk);have hb:=hS.box k;cases hq:s.bx k with
   |cells cs=>
    rw[hq]at hsm hb;simp only[sealBx]at hsm ⊢;split at hsm
    case isFalse=>cases hsm
    rename_i hc;rw[if_pos hc];rw[ya,yr]at hc;obtain⟨b1,b2,arr,e,b3,b4,b5⟩:=hb;obtain⟨k1,k2⟩:=zdd (w:=w) (n:=0) b1 rfl;refine⟨k1,by rw[show(G.drop w 0).box=G.box from rfl,k2];exact b2,arr,e,b3,by simpa using b4,fun j c hj=>?_⟩;have hbe:=zMa hc.2 hj;rw[yn,yb]at hj;obtain⟨c0,h0,rfl⟩:=hj;obtain⟨mv,m1,m2⟩:=b5 j c0 h0;have hno:=hc.1 c0 (List.mem_of_getElem? h0);rw[Option.isNone_iff_eq_none]at hno;have hv:=freezeK_vr hS.store 12 12 (yh _) (cr_plain m2 hno) hbe;refine⟨mv,m1,VR.cr (hv.mono (Im.le_refl _) ?_) m2.1⟩;intro l x hx;simp[zi]at hx
   |no=>trivial
   |iter t q=>rw[hq]at hsm;cases hsm
  ·exact(hS.box k).mono (zgc G w 0) (Loc.le_refl _) rfl (drop_keeps G w rfl) (fun _=>drop_keeps G w rfl)
 refine⟨⟨hS.defers,hS.size,fun t ht=>?_,hS.hi,fun t k off hq=>?_,hbox,?_⟩,⟨zgc G w 0,?_,fun b hb=>?_,yh _,rfl,rfl,fun _ _=>rfl,rfl⟩⟩
 ·rw[hL];exact(hS.tmp t ht).mono (zgc G w 0) (Loc.le_refl _) (drop_keeps G w rfl) (fun _ _ _=>rfl)
 ·have:=hS.lp t k off hq;simp only;split
  ·rename_i hk;have hsm:=hall k (by simpa using hk);cases hz:sealBx s.st (s.bx k)with
   |none=>rw[hz]at hsm;cases hsm
   |some z=>
    simp only[yma];cases hq:s.bx k with
    |cells cs=>
     rw[hq]at hz;simp only[sealBx]at hz;split at hz
     ·cases hz;simp
     ·cases hz
    |no=>exact absurd hq this
    |iter t q=>rw[hq]at hz;cases hz
  ·exact this
 ·refine⟨fun l o hl=>?_,fun b hb=>?_⟩
  ·simp only[killAll,yn,yb]at hl;obtain⟨o0,_,rfl⟩:=hl;trivial
  ·obtain⟨f1,f2⟩:=hS.store.fresh b hb;simp[Gh.drop,f1,f2]
 ·rw[hL];exact Loc.le_refl _
 ·obtain⟨k1,k2⟩:=zdd (w:=w) (n:=0) hb rfl;exact⟨k1,k2,rfl⟩
theorem frz_vr{n:Nat}(hS:SimS G st w)(d:Bool){v:PV}{mv:Value}(h:VR (G.im w) (zi G.lc st) v mv)(hb:zD n (frz d n st v)=true):
  VR ((G.drop w n).im w) (zi (G.drop w n).lc (st.take n)) (frz d n st v) mv:=by
 cases d with
 |false=>exact freezeA_vr hS h hb
 |true=>exact freezeK_vr hS 12 12 (yh _) h hb
theorem freeze_res{n:Nat}{d:Bool}(hS:SimS G st w){vs:List PV}{mv:Value}(h:VR (G.im w) (zi G.lc st) (zCd vs) mv)(hb:zZ n (vs.map (frz d n st))=true):
  VR ((G.drop w n).im w) (zi (G.drop w n).lc (st.take n)) (zCd (vs.map (frz d n st))) mv:=by
 have many:∀{vs:List PV},zZ n (vs.map (frz d n st))=true->VR (G.im w) (zi G.lc st) (.tup vs) mv->VR ((G.drop w n).im w) (zi (G.drop w n).lc (st.take n)) (.tup (vs.map (frz d n st))) mv:=by
  intro vs hb h;cases h with
  |tup hl hv=>
   refine .tup (by simpa using hl) (fun j c v hc hv'=>?_);have hbc:=zMa hb hc;rw[yn,yb]at hc;obtain⟨c0,h0,rfl⟩:=hc;exact frz_vr hS d (hv j c0 v h0 hv') hbc
 match vs,h,hb with
 | [],h,hb=>exact many hb h
 | [v],h,hb=>
  simp only[yz,yW,zZ,Bool.and_true]at hb;exact frz_vr hS d h hb
 |v::v'::vs,h,hb=>exact many hb h
end
theorem plainV_var(v:PV):zG (plainV v)=zG v:=by
 cases v with
 |slice k sz l=>cases k<;>rfl
 |_=>rfl
theorem plainV_cells(v:PV):cellsOf (plainV v)=(cellsOf v).map plainV:=by
 cases v with
 |slice k sz l=>cases k<;>rfl
 |agg cs=>simp only[plainV,cellsOf,zWc]
 |_=>rfl
mutual
theorem plainV_below(n:Nat):∀v:PV,zD n (plainV v)=zD n v
 | .slice .firm sz l=>by simp only[plainV,zD];exact znd n l
 | .slice .plain sz l=>by simp only[plainV,zD];exact znd n l
 | .slice .fit sz l=>rfl
 | .slice .own sz l=>rfl
 | .agg cs=>by simp only[plainV,zD];exact znd n cs
 | .undef=>rfl
 | .bool _=>rfl
 | .int _ _=>rfl
 | .str _=>rfl
 | .nilp=>rfl
 | .ptr _ _ _=>rfl
 | .iptr _ _=>rfl
 | .lptr _ _=>rfl
 | .mslice _ _ _ _=>rfl
 | .tup _=>rfl
 | .fn _ _ _=>rfl
 | .nilfn=>rfl
 | .mp _=>rfl
 | .nilmap=>rfl
 | .iface _ _=>rfl
 | .nilif=>rfl
theorem znd(n:Nat):∀l:List PV,zZ n (zDd l)=zZ n l
 | []=>rfl
 |v::r=>by simp only[zDd,zZ];rw[plainV_below n v,znd n r]
end
theorem VR.plainV{I:Im}{L:Loc}{v:PV}{mv:Value}(h:VR I L v mv):VR I L (PE.plainV v) mv:=by
 induction h with
 |slice0 k sz a cap hk hf=>cases k<;>first|exact .slice0 _ _ _ _ hk hf|exact .slice0 _ _ _ _ (by simp) (by simp)
 | @slice k sz l b o cap hk hf hc f hz hi hv ih=>
  have key:VR I L (.slice .plain sz (zDd l)) (.slice (some ⟨b,o,none⟩) l.length cap):=by
   have hl:(zDd l).length=l.length:=by rw[zWc,yea]
   have cell:∀(i:Nat) e (j:Nat) c,(zDd l)[i]? =some e->(cellsOf e)[j]? =some c->∃e0 c0,l[i]? =some e0/\(cellsOf e0)[j]? =some c0/\c=PE.plainV c0:=by
    intro i e j c he hc';rw[zWc,yn,yb]at he;obtain⟨e0,he0,rfl⟩:=he;rw[plainV_cells,yn,yb]at hc';obtain⟨c0,hc0,rfl⟩:=hc';exact⟨e0,c0,he0,hc0,rfl⟩
   have:=VR.slice (I:=I) (L:=L) (k:= .plain) (sz:=sz) (l:=zDd l) (b:=b) (o:=o) (cap:=cap) (by simp) (by simp) (by rw[hl];exact hc) f ?_ ?_ ?_
   ·rw[hl]at this;exact this
   ·intro i e he;rw[zWc,yn,yb]at he;obtain⟨e0,he0,rfl⟩:=he;rw[plainV_cells,yea,plainV_var];exact hz i e0 he0
   ·intro i e j c he hc';obtain⟨e0,c0,h1,h2,rfl⟩:=cell i e j c he hc';exact hi i e0 j c0 h1 h2
   ·intro i e j c he hc';obtain⟨e0,c0,h1,h2,rfl⟩:=cell i e j c he hc';exact ih i e0 j c0 h1 h2
  cases k with
  |own=>exact absurd rfl hk
  |fit=>exact .slice hk hf hc f hz hi hv
  |plain=>exact key
  |firm=>exact key
 | @agg cs vs hl ho hv ih=>
  show VR I L (.agg (zDd cs)) (.agg vs)
  refine .agg (by rw[zWc,yea];exact hl) ho (fun j c v hc hv'=>?_);rw[zWc,yn,yb]at hc;obtain⟨c0,hc0,rfl⟩:=hc;exact ih j c0 v hc0 hv'
 |undef v=>exact .undef v
 |bool b=>exact .bool b
 |int k n=>exact .int k n
 |str s=>exact .str s
 |nilp=>exact .nilp
 |ptr h=>exact .ptr h
 |iptr f hi hv=>exact .iptr f hi hv
 |mslice h hc hr=>exact .mslice h hc hr
 |mslice0 a h=>exact .mslice0 a h
 |tup hl hv=>exact .tup hl hv
 |fn hl hv hl' hv'=>exact .fn hl hv hl' hv'
 |nilfn=>exact .nilfn
 |mp h=>exact .mp h
 |nilmap=>exact .nilmap
 |iface h=>exact .iface h
 |nilif=>exact .nilif
section
variable {P:Program} {G G':Gh} {N:Nat} {s:St} {a:Act} {w w':World} {oper:Oper} {T:Tabs} {cf:zH}
theorem scalar1_vr{I I':Im}{L L':Loc}{v:PV}{mv:Value}(hs:scalar1 v=true)(h:VR I L v mv):VR I' L' v mv:=by
 cases v<;>simp[scalar1]at hs<;>cases h
 ·exact .bool _
 ·exact .int _ _
theorem scalar_vr{I I':Im}{L L':Loc}{v:PV}{mv:Value}(hs:scalarV v=true)(h:VR I L v mv):VR I' L' v mv:=by
 cases v with
 |tup vs=>
  simp only[scalarV,yr]at hs;cases h with
  |tup hl hv=>exact .tup hl (fun j c x hc hx=>scalar1_vr (hs c (yR.2 ⟨j,hc⟩)) (hv j c x hc hx))
 |_=>exact scalar1_vr hs h
def Gh.still(G:Gh)(w:World):Gh:={fz:=(G.drop w 0).fz,loc:=G.loc,room:=G.room,box:=G.box,dfr:=[],cl:=fun b=>(G.cl b).map fun _=> .prot}
def Gh.stir(G G':Gh)(w:World):Gh:={G with fz:=fun b=>if b<w.heap.size then G.fz b else G'.fz b}
theorem still_sims{st:ze}(h:SimS G st w):SimS (G.still w) [] w:=by
 refine⟨fun l o hl=>by simp at hl,fun b hb=>?_⟩;have h1:=h.fresh b hb;refine⟨?_,by show(G.cl b).map _=none;rw[h1.2];rfl⟩;show(G.drop w 0).fz b=0
 simp only[Gh.drop,h1.2];exact h1.1
theorem still_prot{κ:Cl}{b:Nat}(h:G.cl b=some κ):(G.still w).cl b=some .prot:=by
 show(G.cl b).map _=_
 rw[h];rfl
theorem claimed_lt{st:ze}(h:SimS G st w){κ:Cl}{b:Nat}(hc:G.cl b=some κ):b<w.heap.size:=by
 rcases yA b w.heap.size with hh|hh
 ·exact hh
 ·rw[(h.fresh b hh).2]at hc;cases hc
theorem zMc{st st'':ze}(h:SimS G st w)(hE:Ext (G.still w) [] w G' st'' w')(κ:Cl):zic G w (G.stir G' w) w' κ:=by
 intro b hb;have hlt:=claimed_lt h hb;refine⟨hb,?_,(hE.prot b (still_prot hb)).2.2⟩;show(if b<w.heap.size then G.fz b else G'.fz b)=G.fz b
 rw[if_pos hlt]
theorem stir_im{st st'':ze}(h:SimS G st w)(hE:Ext (G.still w) [] w G' st'' w'):(G.im w).le ((G.stir G' w).im w'):=by
 intro b o v hv;have h1:=hE.im b o v (zgc G w 0 b o v hv);unfold Gh.im at hv h1 ⊢;split at hv
 case isFalse=>cases hv
 rename_i hlt;split at h1
 case isFalse=>cases h1
 have hb:b<w.heap.size:=by
  rcases yA b w.heap.size with hh|hh
  ·exact hh
  ·rw[(h.fresh b hh).1]at hlt;omega
 show(if o<(if b<w.heap.size then G.fz b else G'.fz b)then _ else _)=_
 rw[if_pos hb,if_pos hlt];exact h1
theorem stir_sims{st st'':ze}(h:SimS G st w)(h':SimS G' st'' w')(hE:Ext (G.still w) [] w G' st'' w'):SimS (G.stir G' w) st w':=by
 refine⟨fun l o hl=>(h.obj l o hl).mono (G:=G) (G':=G.stir G' w) (stir_im h hE) (Loc.le_refl _) rfl (zMc h hE _) (fun i j=>zMc h hE _),fun b hb=>?_⟩;have hge:w.heap.size<=b:=yha hE.size hb;refine⟨?_,(h.fresh b hge).2⟩;show(if b<w.heap.size then G.fz b else G'.fz b)=0
 rw[if_neg (by omega)];exact(h'.fresh b hb).1
theorem stir_ext{st st'':ze}(h:SimS G st w)(hE:Ext (G.still w) [] w G' st'' w'):Ext G st w (G.stir G' w) st w':=
 ⟨stir_im h hE,Loc.le_refl _,fun b hb=>zMc h hE _ b hb,hE.size,hE.os,hE.output,hE.frozen,rfl⟩
theorem Sim.stir{st'':ze}(hS:Sim G N s a w)(h':SimS G' st'' w')(hE:Ext (G.still w) [] w G' st'' w'):Sim (G.stir G' w) N s a w':=by
 refine⟨hS.defers,hS.size,?_,hS.hi,hS.lp,?_,stir_sims hS.store h' hE⟩
 ·intro t ht;exact(hS.tmp t ht).mono (G:=G) (G':=G.stir G' w) (stir_im hS.store hE) (Loc.le_refl _) (zMc hS.store hE _) (fun k off _=>rfl)
 ·intro k;exact(hS.box k).mono (G:=G) (G':=G.stir G' w) (stir_im hS.store hE) (Loc.le_refl _) rfl (zMc hS.store hE _) (fun j=>zMc hS.store hE _)
theorem Tabs.In.still{T:Tabs}(h:T.In G w):T.In (G.still w) w:=fun x hx=>⟨still_prot (h x hx).1,(h x hx).2⟩
theorem callV_sound(hcf:Good P T cf){f:Arg}{args:List Arg}{K:Act->World->Prop}{Q:Exit->Act->World->Prop}(hS:Sim G N s a w)(hT:T.In G w)(hd:∀t,oper.dst=some t->t<N)
  (hc:zj P oper.op (.callV f args)=true) {sr:SR} (h:zJ cf oper.dst (.callV f args) s=some sr)
  (hK:∀s',sr= .ok s'->∀G' a' w',Sim G' N s' a' w'->Ext G s.st w G' s'.st w'->K a' w'):
  oper.wp P a w K Q:=by
 simp only[zj]at hc;split at hc
 case h_2=>cases hc
 rename_i c ho;split at hc
 case h_2=>cases hc
 rename_i x hcal;simp only[ya]at hc;obtain⟨h1,h2⟩:=hc;simp only[zJ]at h;split at h
 case h_2=>cases h
 rename_i k first caps hfv;split at h
 case isFalse=>cases h
 rename_i hvb;rw[ya]at hvb;obtain⟨hv0,hbel⟩:=hvb;obtain⟨vs,us,e1,e2,e3,e4,e5⟩:=arg_func hS h1 hfv;have hv:(zo s.fr args).all zG=true:=by
  rw[yr]at hv0 ⊢;intro v hvm;have:=hv0 (plainV (zHa 12 0 s.st v)) (List.mem_map.2 ⟨v,hvm,rfl⟩);rw[plainV_var]at this;cases v<;>first|rfl|(simp[zHa,zG,zlc]at this)
 obtain⟨l1,l2⟩:=zHd hS h2 hv;cases hr:cf k (first++zGa s.fr args s.st++caps) []with
 |none=>rw[hr]at h;cases h
 |some rs=>
  obtain⟨r,st'⟩:=rs;have hlen:(zGa s.fr args s.st).length=args.length:=by simp[zGa,zo]
  have hgood:=hcf _ _ _ _ _ hr (G.still w) w (vs++(c.args.map a.eval)++us) rfl hT.still (still_sims hS.store) (by simp[hlen,e2,e3,<-l1]) (by
   intro j p y hp hy;have hb0:zD 0 p=true:=zMa hbel hp;have up:∀{p y},zD 0 p=true->VR (G.im w) (zi G.lc s.st) p y->VR ((G.still w).im w) (zi (G.still w).lc []) p y:=fun hb hx=>VR.under (zgc G w 0) (fun l x hl=>by omega) hx hb
   rcases yA j first.length with h'|h'
   ·rw[ym,yq h']at hp;rw[yFa,yba (by omega)]at hy;exact up hb0 (e4 j p y hp hy)
   ·rw[ym,yv h']at hp;rw[yFa,yka (by omega),e2]at hy;have hl:(c.args.map a.eval).size=args.length:=by simp[<-l1]
    rcases yA (j-first.length) args.length with h''|h''
    ·rw[yq (by omega)]at hp;rw[yba (by omega)]at hy;unfold zGa at hp;rw[yn,yb]at hp;obtain⟨p0,hp0,rfl⟩:=hp;have:=l2 _ p0 y hp0 (by simpa using hy);rw[plainV_below]at hb0;exact(freezeK_vr (n:=0) hS.store 12 12 (yh _) this hb0).plainV
    ·rw[yv (by omega)]at hp;rw[yka (by omega),hl]at hy;rw[hlen]at hp;exact up hb0 (e5 _ p y hp hy))
  obtain⟨⟨fn,cd,f1,f2,f3⟩,hcalls⟩:=hgood;rw[hr]at h;unfold Oper.wp;have hrun:(execOp a.eval oper).run P w= .ok (.enter k (vs++(c.args.map a.eval)++us)) w:=by
   simp only[execOp,ho,resolve,hcal,e1,Deferred.ofValue,Sem.run_bind,Sem.run_pure,invoke];exact zkd f1 f2 f3 _ _
  rw[hrun];simp only[Oper.upon];refine hcalls.mono ?_;intro e w' he;cases r with
  |ret v=>
   cases e with
   |returned mv=>
    obtain⟨G',q1,q2,q3⟩:=he;simp only at h;split at h
    case isFalse=>cases h
    rename_i hsc;cases h;have hno:isOwn v=none:=by cases v<;>first|rfl|simp[scalarV,scalar1]at hsc
    have hvr:VR ((G.stir G' w).im w') (zi (G.stir G' w).lc s.st) v mv:=scalar_vr hsc (q3.vr hno);exact hK _ rfl (G.stir G' w) _ _ ((hS.stir q1 q2).put hd (v:=v) (mv:=mv) (fun t _=>VR.tr hvr) (fun k off e=>by subst e;cases hvr)) (stir_ext hS.store q2)
   |panicked ch=>exact he.elim
   |outgrown=>exact he.elim
  |pan v=>cases h
theorem run_sound(hcf:Good P T cf){op:IOp}(hS:Sim G N s a w)(hT:T.In G w)(hd:∀t,oper.dst=some t->t<N)(hdn:op.needsDst=true->oper.dst≠none)(hc:zj P oper.op op=true)
  {sr:SR} (h:zJ cf oper.dst op s=some sr) {K:Act->World->Prop} {Q:Exit->Act->World->Prop}
  (hK:∀s',sr= .ok s'->∀G' a' w',Sim G' N s' a' w'->Ext G s.st w G' s'.st w'->K a' w')
  (hQ:∀v st',sr= .pan v st'->∀G' w' mv,SimS G' st' w'->Ext G s.st w G' st' w'->VR (G'.im w') (zi G'.lc st') v mv->Q (.panic [{v:=mv,recovered:=false}]) a w'):
  oper.wp P a w K Q:=by
 have gen:(∀pk f args,op≠ .call pk f args)->(∀pk f args,op≠ .callP pk f args)->(∀f args,op≠ .callR f args)->(∀f args,op≠ .callK f args)->(∀f args,op≠ .callV f args)->(∀x,op≠ .panic x)->oper.wp P a w K Q:=by
  intro h1 h3 h4 h5 h6 h2;have hr:zJ cf oper.dst op s=(match op.sem s.fr (zY s.bx op.box?) s.st with
   |some (v,b',st')=>some (.ok {fr:=zSa (zRa s.fr op.takes) oper.dst v,bx:=zGb s.bx op.box? b',st:=st'})
   |none=>none):=by
   cases op<;>first
    |rfl
    |exact absurd rfl (h1 _ _ _)
    |exact absurd rfl (h3 _ _ _)
    |exact absurd rfl (h4 _ _)
    |exact absurd rfl (h5 _ _)
    |exact absurd rfl (h6 _ _)
    |exact absurd rfl (h2 _)
  rw[hr]at h;split at h
  ·rename_i v b' st' hsem;cases h;exact upon_good (op_sound hS hd hdn hc hsem) (fun G' a' w' q1 q2=>hK _ rfl G' a' w' q1 q2)
  ·cases h
 cases op with
 |call pk f args=>exact call_sound hcf hS hT hd hc h hK hQ
 |callP pk f args=>exact callP_sound hcf hS hT hd hc h hK hQ
 |callR f args=>exact callR_sound hcf hS hT hd hc h hK hQ
 |callK f args=>exact callK_sound hcf hS hT hd hc h hK hQ
 |callV f args=>exact callV_sound hcf hS hT hd hc h hK
 |panic x=>exact panic_sound hS hc h hQ
 |_=>exact gen (fun _ _ _ e=>by cases e) (fun _ _ _ e=>by cases e) (fun _ _ e=>by cases e) (fun _ _ e=>by cases e) (fun _ _ e=>by cases e) (fun _ e=>by cases e)
theorem step_sound(hcf:Good P T cf){ops:Array Oper}{i:Nat}{o:Oper}{g:GOp}(hi:ops[i]? =some o)(hg:zNd P N ops o g=true)(hS:Sim G N s a w)(hT:T.In G w)
  {sr:SR} (h:step cf g s=some sr) {K:Act->World->Prop} {Q:Exit->Act->World->Prop}
  (hK:∀s',sr= .ok s'->∀G' a' w',Sim G' N s' a' w'->Ext G s.st w G' s'.st w'->K a' w')
  (hQ:∀v st',sr= .pan v st'->∀G' w' mv,SimS G' st' w'->Ext G s.st w G' st' w'->VR (G'.im w') (zi G'.lc st') v mv->Q (.panic [{v:=mv,recovered:=false}]) a w'):
  wpOp P ops Q i K a w:=by
 obtain⟨h1,h2,h3,h4,h5⟩:=zge hg;obtain⟨g1,g2⟩:=guard_wanted hS h4;unfold wpOp;simp only[hi];unfold step at h;cases hgd:g.g with
 |none=>
  rw[hgd]at h;simp only[g1 hgd,if_true];rw[<-h1]at h;exact .inl (run_sound hcf hS hT h2 h3 h5 h hK hQ)
 |some x=>
  obtain⟨t,v⟩:=x;rw[hgd]at h;simp only at h;split at h
  case h_3=>cases h
  ·rename_i hb;rw[g2 t v true hgd hb];simp only[if_true];rw[<-h1]at h;exact .inl (run_sound hcf hS hT h2 h3 h5 h hK hQ)
  ·rename_i hb;rw[g2 t v false hgd hb];simp only[yi,if_false];cases h;refine hK _ rfl G _ w ?_ (Ext.refl _ _ _);have:=hS.put h2 (v:= .tup []) (mv:=Go.undef) (fun t _=>VR.tr (.tup (vs:= #[]) rfl (fun j c v h=>by simp at h))) (fun k off e=>by cases e);rw[h1]at this ⊢;exact this
def opersOk(P:Program)(N:Nat)(ops:Array Oper):List Oper->List GOp->Bool
 | [],[]=>true
 |o::os,g::gs=>zNd P N ops o g&&opersOk P N ops os gs
 |_,_=>false
theorem zYc{ops:Array Oper}:∀(os:List Oper) (gs:List GOp),opersOk P N ops os gs=true->os.length=gs.length/\∀(i:Nat) o g,os[i]? =some o->gs[i]? =some g->zNd P N ops o g=true
 | [],[],_=>⟨rfl,fun i o g h=>by simp at h⟩
 | [],_::_,h=>by cases h
 |_::_,[],h=>by cases h
 |o::os,g::gs,h=>by
  simp only[opersOk,ya]at h;obtain⟨e1,e2⟩:=zYc os gs h.2;refine⟨by simp[e1],fun i o' g' ho hg=>?_⟩;cases i with
  |zero=>simp at ho hg;subst ho;subst hg;exact h.1
  |succ i=>exact e2 i o' g' (by simpa using ho) (by simpa using hg)
theorem ops_sound(hcf:Good P T cf){ops:Array Oper}{gops:List GOp}(hck:opersOk P N ops ops.toList gops=true){Q:Exit->Act->World->Prop}:
  ∀(l:List Nat) (s:St) (G:Gh) (a:Act) (w:World) (sr:SR),runL cf gops l s=some sr->Sim G N s a w->T.In G w→
  (∀s',sr= .ok s'->∀G' a' w',Sim G' N s' a' w'->Ext G s.st w G' s'.st w'->Q .normal a' w')→
  (∀v st',sr= .pan v st'->∀G' a' w' mv,a'.defers=G'.dfr->SimS G' st' w'->Ext G s.st w G' st' w'->VR (G'.im w') (zi G'.lc st') v mv->Q (.panic [{v:=mv,recovered:=false}]) a' w')→
  wpOps P ops Q l a w
 | [],s,G,a,w,sr,h,hS,hT,hK,hQ=>by
  cases h;exact hK s rfl G a w hS (Ext.refl _ _ _)
 |i::l,s,G,a,w,sr,h,hS,hT,hK,hQ=>by
  obtain⟨e1,e2⟩:=zYc _ _ hck;simp only[runL]at h;cases hg:gops[i]? with
  |none=>rw[hg]at h;cases h
  |some g=>
   rw[hg]at h;simp only at h;have hlt:i<ops.size:=by
    have:=(yc.1 hg).1;simp at e1;omega
   have ho:ops[i]? =some ops[i]:=yD hlt;have hck1:=e2 i ops[i] g (by simp[hlt]) hg;rw[wpOps_cons];cases hst:step cf g s with
   |none=>rw[hst]at h;cases h
   |some r=>
    rw[hst]at h;refine step_sound hcf ho hck1 hS hT hst (sr:=r) ?_ ?_
    ·intro s1 e G1 a1 w1 hS1 hE1;subst e;simp only at h;exact ops_sound hcf hck l s1 G1 a1 w1 sr h hS1 (hT.ext hE1) (fun s' e G' a' w' q1 q2=>hK s' e G' a' w' q1 (hE1.trans q2))
      (fun v st' e G' a' w' mv q0 q1 q2 q3=>hQ v st' e G' a' w' mv q0 q1 (hE1.trans q2) q3)
    ·intro v st' e G' w' mv q1 q2 q3;subst e;cases h;exact hQ v st' rfl G' a w' mv (hS.defers.trans q2.dfr.symm) q1 q2 q3
def checkO(P:Program)(N:Nat)(ops:Array Oper)(gops:List GOp):Bool:=
 opersOk P N ops ops.toList (popsOf ops.size (ordOf ops gops) gops)&&zrc ops (popsOf ops.size (ordOf ops gops) gops) (ordOf ops gops)&&decide ((ordOf ops gops).length=gops.length)
def zwa(P:Program)(N:Nat):Code->ICode->Bool
 |c,.sealK _ ic=>zwa P N c ic
 | .skip,.skip=>true
 | .region _ ops draw,.region gops=>(opersOk P N ops ops.toList gops&&(!draw||zfd ops gops))||(draw&&checkO P N ops gops)
 | .seq a b,.seq a' b'=>zwa P N a a'&&zwa P N b b'
 | .cond c a b,.cond c' a' b'=>zO c c'&&zwa P N a a'&&zwa P N b b'
 | .block id b,.block id' b'=>decide (id=id')&&zwa P N b b'
 | .loop b,.loop _ _ b'=>zwa P N b b'
 | .exit id,.exit id'=>decide (id=id')
 | .ret,.ret=>true
 |_,.bad=>true
 |_,_=>false
def Post(G:Gh)(N:Nat)(st:ze)(w:World)(e:Ex)(s':St)(Q:Exit->Act->World->Prop):Prop:=
 match e with
 | .normal=>∀G' a' w',Sim G' N s' a' w'->Ext G st w G' s'.st w'->Q .normal a' w'
 | .exit id=>∀G' a' w',Sim G' N s' a' w'->Ext G st w G' s'.st w'->Q (.exit id) a' w'
 | .ret=>∀G' a' w',Sim G' N s' a' w'->Ext G st w G' s'.st w'->Q .ret a' w'
 | .pan v=>∀G' a' w' mv,a'.defers=G'.dfr->SimS G' s'.st w'->Ext G st w G' s'.st w'->VR (G'.im w') (zi G'.lc s'.st) v mv->Q (.panic [{v:=mv,recovered:=false}]) a' w'
theorem Post.after{st st1:ze}{G1:Gh}{w1:World}{e:Ex}{s':St}{Q:Exit->Act->World->Prop}(hE:Ext G st w G1 st1 w1)(h:Post G N st w e s' Q):Post G1 N st1 w1 e s' Q:=by
 cases e with
 |normal=>exact fun G' a' w' q1 q2=>h G' a' w' q1 (hE.trans q2)
 |exit id=>exact fun G' a' w' q1 q2=>h G' a' w' q1 (hE.trans q2)
 |ret=>exact fun G' a' w' q1 q2=>h G' a' w' q1 (hE.trans q2)
 |pan v=>exact fun G' a' w' mv q0 q1 q2 q3=>h G' a' w' mv q0 q1 (hE.trans q2) q3
theorem Post.then{st:ze}{e:Ex}{s':St}{K:Act->World->Prop}{Q:Exit->Act->World->Prop}(hne:e≠ .normal)(h:Post G N st w e s' Q):Post G N st w e s' (Exit.then K Q):=by
 cases e with
 |normal=>exact absurd rfl hne
 |exit id=>exact h
 |ret=>exact h
 |pan v=>exact h
def Again(P:Program)(c:Code)(Q:Exit->Act->World->Prop)(a:Act)(w:World):Prop:=
 ∀(b:Frame) (k:List Item) (cs:List Frame),∃e a' w',Q e a' w'/\Arrives P (lone (b.at a (.code c:: .inLoop c::k)) cs w) b k cs e a' w'
theorem again_round{c:Code}{Q:Exit->Act->World->Prop}(h:c.wp P (Exit.then (Again P c Q) Q) a w):Again P c Q a w:=by
 intro b k cs;obtain⟨e,a₁,w₁,hq,harr⟩:=h b (.inLoop c::k) cs;cases e with
 |normal=>
  obtain⟨e₂,a₂,w₂,hq₂,harr₂⟩:=hq b k cs;exact⟨e₂,a₂,w₂,hq₂,.of_steps (Steps.trans harr (.one step_inLoop)) harr₂⟩
 |exit id=>exact⟨_,a₁,w₁,hq,.pass (x:= .inLoop c) rfl (fun _ _=> .inl (by simp)) harr⟩
 |goto l=>exact⟨_,a₁,w₁,hq,.pass (x:= .inLoop c) rfl (fun _ _=> .inl (by simp)) harr⟩
 |ret=>exact⟨_,a₁,w₁,hq,.pass (x:= .inLoop c) rfl (fun _ _=> .inl (by simp)) harr⟩
 |panic ch=>exact⟨_,a₁,w₁,hq,.pass (x:= .inLoop c) rfl (fun _ _=> .inl (by simp)) harr⟩
 |outgrown=>exact⟨_,a₁,w₁,hq,.pass (x:= .inLoop c) rfl (fun _ _=> .inl (by simp)) harr⟩
theorem wp_loop_of{c:Code}{Q:Exit->Act->World->Prop}(h:Again P c Q a w):(Code.loop c).wp P Q a w:=
 fun b k cs=>let⟨e,a',w',q,r⟩:=h b k cs;⟨e,a',w',q,.of_steps (.one step_loop) r⟩
theorem keepFr_at(fr:Fr):∀(l:List Nat) (t:Nat),keepFr fr l t=if t∈l then fr t else .undef
 | [],t=>by simp[keepFr]
 |x::l,t=>by
  simp only[keepFr,upd,keepFr_at fr l,yia];by_cases h:t=x
  ·subst h;simp
  ·simp[h]
theorem dropBx_at(bx:Bxs):∀(l:List Nat) (k:Nat),dropBx bx l k=if k∈l then .no else bx k
 | [],t=>by simp[dropBx]
 |x::l,t=>by
  simp only[dropBx,upd,dropBx_at bx l,yia];by_cases h:t=x
  ·subst h;simp
  ·simp[h]
theorem havoc_sound{keep dead:List Nat}{s1:St}(hS:Sim G N s a w)(h:havoc keep dead s=some s1):Sim G N s1 a w/\s1.st=s.st:=by
 unfold havoc at h;split at h
 case isFalse=>cases h
 rename_i hk;cases h;refine⟨⟨hS.defers,hS.size,?_,?_,?_,?_,hS.store⟩,rfl⟩
 ·intro t ht;simp only[keepFr_at];split
  ·exact hS.tmp t ht
  ·exact VR.undef _
 ·intro t ht;simp only[keepFr_at];split
  ·exact hS.hi t ht
  ·rfl
 ·intro t k off e;simp only[keepFr_at]at e;split at e
  ·rename_i hmem;have h1:=yr.1 hk t hmem;rw[e]at h1;simp only[avoids,yC]at h1;simp only[dropBx_at];rw[if_neg (by simpa using h1)];exact hS.lp t k off e
  ·cases e
 ·intro k;simp only[dropBx_at];split
  ·trivial
  ·exact hS.box k
theorem zOb(hcf:Good P T cf):∀(n:Nat),
  (∀(c:Code) (ic:ICode) (s:St) (e:Ex) (s':St) (G:Gh) (a:Act) (w:World) (Q:Exit->Act->World->Prop),zE cf n ic s=some (e,s')->zwa P N c ic=true->Sim G N s a w->T.In G w→
   Post G N s.st w e s' Q->c.wp P Q a w)∧
  (∀(c:Code) (keep dead:List Nat) (b:ICode) (s:St) (e:Ex) (s':St) (G:Gh) (a:Act) (w:World) (Q:Exit->Act->World->Prop),zE cf n (.loop keep dead b) s=some (e,s')->zwa P N c b=true->Sim G N s a w->T.In G w→
   Post G N s.st w e s' Q->Again P c Q a w):=by
 intro n
 induction n with
 |zero=>exact⟨fun c ic s e s' G a w Q h=>by simp[zE]at h,fun c keep dead b s e s' G a w Q h=>by simp[zE]at h⟩
 |succ n ih=>
  obtain⟨ihA,ihB⟩:=ih;have hB:∀(c:Code) (keep dead:List Nat) (b:ICode) (s:St) (e:Ex) (s':St) (G:Gh) (a:Act) (w:World) (Q:Exit->Act->World->Prop),zE cf (n+1) (.loop keep dead b) s=some (e,s')->zwa P N c b=true->Sim G N s a w->T.In G w→
    Post G N s.st w e s' Q->Again P c Q a w:=by
   intro c keep dead b s e s' G a w Q h hck hS hT hpost;simp only[zE]at h;cases hh:havoc keep dead s with
   |none=>rw[hh]at h;cases h
   |some s1=>
    rw[hh]at h;simp only at h;obtain⟨hS1,hst⟩:=havoc_sound hS hh;apply again_round;cases hb:zE cf n b s1 with
    |none=>rw[hb]at h;cases h
    |some r=>
     obtain⟨e1,s2⟩:=r;rw[hb]at h;cases e1 with
     |normal=>
      simp only at h;refine ihA c b s1 .normal s2 G a w _ hb hck hS1 hT ?_;intro G' a' w' q1 q2;rw[hst]at q2;exact ihB c keep dead b s2 e s' G' a' w' Q h hck q1 (hT.ext q2) (hpost.after q2)
     |exit id=>cases h;exact ihA c b s1 _ _ G a w _ hb hck hS1 hT (by rw[hst];exact Post.then (fun q=>by cases q) hpost)
     |ret=>cases h;exact ihA c b s1 _ _ G a w _ hb hck hS1 hT (by rw[hst];exact Post.then (fun q=>by cases q) hpost)
     |pan v=>cases h;exact ihA c b s1 _ _ G a w _ hb hck hS1 hT (by rw[hst];exact Post.then (fun q=>by cases q) hpost)
  refine⟨?_,hB⟩;intro c ic s e s' G a w Q h hck hS hT hpost;cases ic with
  |bad=>simp[zE]at h
  |skip=>
   cases c<;>simp only[zwa]at hck<;>try(cases hck;done)
   simp only[zE]at h;cases h;exact wp_skip (hpost G a w hS (Ext.refl _ _ _))
  |ret=>
   cases c<;>simp only[zwa]at hck<;>try(cases hck;done)
   simp only[zE]at h;cases h;exact wp_ret (hpost G a w hS (Ext.refl _ _ _))
  |exit id=>
   cases c<;>simp only[zwa,decide_eq_true_eq]at hck<;>try(cases hck;done)
   subst hck;simp only[zE]at h;cases h;exact wp_exit (hpost G a w hS (Ext.refl _ _ _))
  |sealK ks b=>
   simp only[zwa]at hck;simp only[zE]at h;cases hs:sealSt ks s with
   |none=>rw[hs]at h;cases h
   |some s1=>
    rw[hs]at h;obtain⟨q1,q2⟩:=hS.seal hs;exact ihA c b s1 e s' (G.drop w 0) a w Q h hck q1 (hT.ext q2) (hpost.after q2)
  |region gops=>
   cases c<;>simp only[zwa,ya,yF,yC]at hck<;>try(cases hck;done)
   rename_i id ops draw;rcases hck with hck|hck
   ·obtain⟨hck1,hck2⟩:=hck;simp only[zE]at h;have hlen:ops.size=gops.length:=by
     have:=(zYc _ _ hck1).1;simpa using this
    cases hst:zVb cf gops s with
    |none=>rw[hst]at h;cases h
    |some r=>
     rw[hst]at h;have fin:∀(l:List Nat) (w1:World),Sim G N s a w1->Ext G s.st w G s.st w1->runL cf gops l s=some r->wpOps P ops Q l a w1:=by
      intro l w1 hS1 hE1 hl;cases r with
      |ok s1=>
       cases h;refine ops_sound hcf hck1 l s G a w1 _ hl hS1 (hT.ext hE1) ?_ (fun v st' e=>by cases e);intro s2 e G' a' w' q1 q2;cases e;exact hpost G' a' w' q1 (hE1.trans q2)
      |pan v st1=>
       cases h;refine ops_sound hcf hck1 l s G a w1 _ hl hS1 (hT.ext hE1) (fun v e=>by cases e) ?_;intro v' st' e G' a' w' mv q0 q1 q2 q3;cases e;exact hpost G' a' w' mv q0 q1 (hE1.trans q2) q3
     cases draw with
     |false=>
      refine wp_region (fin _ w hS (Ext.refl _ _ _) ?_);rw[hlen,runL_range];exact hst
     |true=>
      have hck2':zfd ops gops=true:=by
       rcases hck2 with h'|h'
       ·cases h'
       ·exact h'
      refine wp_region_draw fun t=>?_
      exact fin _ w.drew hS.drew ⟨fun _ _ _ x=>x,fun _ _ x=>x,fun _ x=>⟨x,rfl,rfl⟩,yh _,rfl,rfl,fun _ _=>rfl,rfl⟩ (draw_runL hck2' hst _ t)
   ·obtain⟨rfl,hck⟩:=hck;simp only[checkO,ya,decide_eq_true_eq]at hck;obtain⟨⟨hck1,hck2⟩,hck3⟩:=hck;simp only[zE]at h;cases hst:zVb cf gops s with
    |none=>rw[hst]at h;cases h
    |some r=>
     rw[hst]at h;have fin:∀(l:List Nat) (w1:World),Sim G N s a w1->Ext G s.st w G s.st w1->runL cf (popsOf ops.size (ordOf ops gops) gops) l s=some r->wpOps P ops Q l a w1:=by
      intro l w1 hS1 hE1 hl;cases r with
      |ok s1=>
       cases h;refine ops_sound hcf hck1 l s G a w1 _ hl hS1 (hT.ext hE1) ?_ (fun v st' e=>by cases e);intro s2 e G' a' w' q1 q2;cases e;exact hpost G' a' w' q1 (hE1.trans q2)
      |pan v st1=>
       cases h;refine ops_sound hcf hck1 l s G a w1 _ hl hS1 (hT.ext hE1) (fun v e=>by cases e) ?_;intro v' st' e G' a' w' mv q0 q1 q2 q3;cases e;exact hpost G' a' w' mv q0 q1 (hE1.trans q2) q3
     have hq:=hck2;simp only[zrc,ya,decide_eq_true_eq,yr]at hq;refine wp_region_draw fun t=>?_
     exact fin _ w.drew hS.drew ⟨fun _ _ _ x=>x,fun _ _ x=>x,fun _ x=>⟨x,rfl,rfl⟩,yh _,rfl,rfl,fun _ _=>rfl,rfl⟩ (draw_runLO hck2 (by rw[ord_steps hq.1.2.1.1.1 hq.1.2.1.1.2 hck3];exact hst) _ t)
  |seq x y=>
   cases c<;>simp only[zwa,ya]at hck<;>try(cases hck;done)
   rename_i cx cy;simp only[zE]at h;apply wp_seq;cases hx:zE cf n x s with
   |none=>rw[hx]at h;cases h
   |some r=>
    obtain⟨e1,s1⟩:=r;rw[hx]at h;cases e1 with
    |normal=>
     simp only at h;refine ihA cx x s .normal s1 G a w _ hx hck.1 hS hT ?_;intro G' a' w' q1 q2;exact ihA cy y s1 e s' G' a' w' Q h hck.2 q1 (hT.ext q2) (hpost.after q2)
    |exit id=>cases h;exact ihA cx x s _ _ G a w _ hx hck.1 hS hT (hpost.then (by simp))
    |ret=>cases h;exact ihA cx x s _ _ G a w _ hx hck.1 hS hT (hpost.then (by simp))
    |pan v=>cases h;exact ihA cx x s _ _ G a w _ hx hck.1 hS hT (hpost.then (by simp))
  |cond b x y=>
   cases c<;>simp only[zwa,ya]at hck<;>try(cases hck;done)
   rename_i cb cx cy;obtain⟨⟨h1,h2⟩,h3⟩:=hck;simp only[zE]at h;split at h
   ·rename_i hb;exact wp_cond (zIc hS h1 hb) (ihA cx x s e s' G a w Q h h2 hS hT hpost)
   ·rename_i hb;exact wp_cond (zIc hS h1 hb) (ihA cy y s e s' G a w Q h h3 hS hT hpost)
   ·cases h
  |block id x=>
   cases c<;>simp only[zwa,ya,decide_eq_true_eq]at hck<;>try(cases hck;done)
   rename_i id' cx;obtain⟨rfl,hck⟩:=hck;simp only[zE]at h;apply wp_block;cases hx:zE cf n x s with
   |none=>rw[hx]at h;cases h
   |some r=>
    obtain⟨e1,s1⟩:=r;rw[hx]at h;cases e1 with
    |normal=>cases h;exact ihA cx x s _ _ G a w _ hx hck hS hT hpost
    |exit id=>
     simp only at h;refine ihA cx x s _ _ G a w _ hx hck hS hT ?_;split at h
     ·rename_i e1;cases h;intro G' a' w' q1 q2;simp only[Exit.inBlock,e1,if_true];exact hpost G' a' w' q1 q2
     ·rename_i e1;cases h;intro G' a' w' q1 q2;simp only[Exit.inBlock,e1,if_false];exact hpost G' a' w' q1 q2
    |ret=>cases h;exact ihA cx x s _ _ G a w _ hx hck hS hT hpost
    |pan v=>cases h;exact ihA cx x s _ _ G a w _ hx hck hS hT hpost
  |loop keep dead x=>
   cases c<;>simp only[zwa]at hck<;>try(cases hck;done)
   exact wp_loop_of (hB _ keep dead x s e s' G a w Q h hck hS hT hpost)
end
section
variable {P:Program} {G G':Gh} {N:Nat} {s:St} {a:Act} {w w':World} {oper:Oper} {T:Tabs} {cf:zH}
def noPinO(pins:List Nat)(o:Oper):Bool:=match o.dst with
 |some t=> !pins.contains t
 |none=>true
def noPin(pins:List Nat):Code->Bool
 | .region _ ops _=>ops.toList.all (noPinO pins)
 | .seq a b=>noPin pins a&&noPin pins b
 | .cond _ a b=>noPin pins a&&noPin pins b
 | .block _ b=>noPin pins b
 | .loop b=>noPin pins b
 | .skip=>true
 | .exit _=>true
 | .ret=>true
 |_=>false
structure KeepT(pins:List Nat)(a a':Act):Prop where
 size:a'.tmps.size=a.tmps.size
 tmp:∀t,t∈pins->a'.tmps.getD t Go.undef=a.tmps.getD t Go.undef
theorem KeepT.refl(pins:List Nat)(a:Act):KeepT pins a a:=⟨rfl,fun _ _=>rfl⟩
theorem KeepT.trans{pins:List Nat}{a b c:Act}(h:KeepT pins a b)(h':KeepT pins b c):KeepT pins a c:=⟨h'.size.trans h.size,fun t ht=>(h'.tmp t ht).trans (h.tmp t ht)⟩
theorem KeepT.put{pins:List Nat}{o:Oper}(h:noPinO pins o=true)(a:Act)(ds:List Deferred)(v:Value):KeepT pins a ({a with defers:=ds}.put o.dst v):=by
 unfold noPinO at h;cases hd:o.dst with
 |none=>exact⟨rfl,fun _ _=>rfl⟩
 |some d=>
  rw[hd]at h;simp only[yC,List.contains_eq_mem,decide_eq_false_iff_not]at h;refine⟨by simp[Act.put],fun t ht=>?_⟩;have hne:d≠t:=fun e=>h (e ▸ ht)
  simp[Act.put,yja,hne]
def keptQ(pins:List Nat)(a:Act)(Q:Exit->Act->World->Prop):Exit->Act->World->Prop
 | .outgrown,a',w'=>Q .outgrown a' w'
 |e,a',w'=>KeepT pins a a'->Q e a' w'
theorem oper_keep{pins:List Nat}{o:Oper}(hp:noPinO pins o=true){K:Act->World->Prop}{Q:Exit->Act->World->Prop}(h:o.wp P a w (fun a' w'=>KeepT pins a a'->K a' w') (keptQ pins a Q)):o.wp P a w K Q:=by
 unfold Oper.wp at*;generalize(execOp a.eval o).run P w=r at*;have hput:∀v,KeepT pins a (a.put o.dst v):=fun v=>KeepT.put hp a a.defers v
 cases r with
 |ok n w'=>
  cases n<;>simp only[Oper.upon]at h ⊢ <;>
   first
    |exact h (hput _)
    |exact h (KeepT.put hp a _ _)
    |exact Calls.mono h (fun e w'' he=>by cases e<;>first|exact he (hput _)|exact he (KeepT.refl _ _)|exact he)
    |exact Rows.mono h (fun _ _ he=>he (hput _))
 |halt x w'=>cases x<;>simp only[Oper.upon]at h ⊢ <;>first|exact h (KeepT.refl _ _)|exact h
theorem wpOp_keep{pins:List Nat}{ops:Array Oper}{i:Nat}(hp:∀o,ops[i]? =some o->noPinO pins o=true){K:Act->World->Prop}{Q:Exit->Act->World->Prop}(h:wpOp P ops (keptQ pins a Q) i (fun a' w'=>KeepT pins a a'->K a' w') a w):wpOp P ops Q i K a w:=by
 unfold wpOp at*;split
 ·rename_i ho;simp only[ho]at h;exact h (KeepT.refl _ _)
 ·rename_i o ho;simp only[ho]at h;split
  ·rename_i hw;simp only[hw,if_true]at h;exact h.imp (oper_keep (hp o ho)) id
  ·rename_i hw;simp only[hw]at h;exact h (KeepT.put (hp o ho) a a.defers _)
theorem zGd{pins:List Nat}(hcf:Good P T cf){ops:Array Oper}{gops:List GOp}(hck:opersOk P N ops ops.toList gops=true)(hp:ops.toList.all (noPinO pins)=true){Q:Exit->Act->World->Prop}:
  ∀(l:List Nat) (s:St) (G:Gh) (a:Act) (w:World) (sr:SR),runL cf gops l s=some sr->Sim G N s a w->T.In G w→
  (∀s',sr= .ok s'->∀G' a' w',Sim G' N s' a' w'->Ext G s.st w G' s'.st w'->KeepT pins a a'->Q .normal a' w')→
  (∀v st',sr= .pan v st'->∀G' a' w' mv,a'.defers=G'.dfr->SimS G' st' w'->Ext G s.st w G' st' w'->VR (G'.im w') (zi G'.lc st') v mv->KeepT pins a a'->Q (.panic [{v:=mv,recovered:=false}]) a' w')→
  wpOps P ops Q l a w
 | [],s,G,a,w,sr,h,hS,hT,hK,hQ=>by
  cases h;exact hK s rfl G a w hS (Ext.refl _ _ _) (KeepT.refl _ _)
 |i::l,s,G,a,w,sr,h,hS,hT,hK,hQ=>by
  obtain⟨e1,e2⟩:=zYc _ _ hck;simp only[runL]at h;cases hg:gops[i]? with
  |none=>rw[hg]at h;cases h
  |some g=>
   rw[hg]at h;simp only at h;have hlt:i<ops.size:=by
    have:=(yc.1 hg).1;simp at e1;omega
   have ho:ops[i]? =some ops[i]:=yD hlt;have hck1:=e2 i ops[i] g (by simp[hlt]) hg;rw[wpOps_cons];cases hst:step cf g s with
   |none=>rw[hst]at h;cases h
   |some r=>
    rw[hst]at h;refine wpOp_keep (pins:=pins) (fun o' ho'=>yr.1 hp o' (yR.2 ⟨i,by simpa using ho'⟩)) (step_sound hcf ho hck1 hS hT hst (sr:=r) ?_ ?_)
    ·intro s1 e G1 a1 w1 hS1 hE1 hk1;subst e;simp only at h;exact zGd hcf hck hp l s1 G1 a1 w1 sr h hS1 (hT.ext hE1) (fun s' e G' a' w' q1 q2 k2=>hK s' e G' a' w' q1 (hE1.trans q2) (hk1.trans k2))
      (fun v st' e G' a' w' mv q0 q1 q2 q3 k2=>hQ v st' e G' a' w' mv q0 q1 (hE1.trans q2) q3 (hk1.trans k2))
    ·intro v st' e G' w' mv q1 q2 q3 hk1;subst e;cases h;exact hQ v st' rfl G' a w' mv (hS.defers.trans q2.dfr.symm) q1 q2 q3 hk1
def PostK(pins:List Nat)(a0:Act)(G:Gh)(N:Nat)(st:ze)(w:World)(e:Ex)(s':St)(Q:Exit->Act->World->Prop):Prop:=
 match e with
 | .normal=>∀G' a' w',Sim G' N s' a' w'->Ext G st w G' s'.st w'->KeepT pins a0 a'->Q .normal a' w'
 | .exit id=>∀G' a' w',Sim G' N s' a' w'->Ext G st w G' s'.st w'->KeepT pins a0 a'->Q (.exit id) a' w'
 | .ret=>∀G' a' w',Sim G' N s' a' w'->Ext G st w G' s'.st w'->KeepT pins a0 a'->Q .ret a' w'
 | .pan v=>∀G' a' w' mv,a'.defers=G'.dfr->SimS G' s'.st w'->Ext G st w G' s'.st w'->VR (G'.im w') (zi G'.lc s'.st) v mv->KeepT pins a0 a'->Q (.panic [{v:=mv,recovered:=false}]) a' w'
theorem PostK.after{pins:List Nat}{a0 a1:Act}(hk:KeepT pins a0 a1){st st1:ze}{G1:Gh}{w1:World}{e:Ex}{s':St}{Q:Exit->Act->World->Prop}(hE:Ext G st w G1 st1 w1)(h:PostK pins a0 G N st w e s' Q):PostK pins a1 G1 N st1 w1 e s' Q:=by
 cases e with
 |normal=>exact fun G' a' w' q1 q2 k2=>h G' a' w' q1 (hE.trans q2) (hk.trans k2)
 |exit id=>exact fun G' a' w' q1 q2 k2=>h G' a' w' q1 (hE.trans q2) (hk.trans k2)
 |ret=>exact fun G' a' w' q1 q2 k2=>h G' a' w' q1 (hE.trans q2) (hk.trans k2)
 |pan v=>exact fun G' a' w' mv q0 q1 q2 q3 k2=>h G' a' w' mv q0 q1 (hE.trans q2) q3 (hk.trans k2)
theorem PostK.then{pins:List Nat}{a0:Act}{st:ze}{e:Ex}{s':St}{K:Act->World->Prop}{Q:Exit->Act->World->Prop}(hne:e≠ .normal)(h:PostK pins a0 G N st w e s' Q):PostK pins a0 G N st w e s' (Exit.then K Q):=by
 cases e with
 |normal=>exact absurd rfl hne
 |exit id=>exact h
 |ret=>exact h
 |pan v=>exact h
theorem exec_soundK{pins:List Nat}(hcf:Good P T cf):∀(n:Nat),
  (∀(c:Code) (ic:ICode) (s:St) (e:Ex) (s':St) (G:Gh) (a:Act) (w:World) (Q:Exit->Act->World->Prop),zE cf n ic s=some (e,s')->zwa P N c ic=true->noPin pins c=true->Sim G N s a w->T.In G w→
   PostK pins a G N s.st w e s' Q->c.wp P Q a w)∧
  (∀(c:Code) (keep dead:List Nat) (b:ICode) (s:St) (e:Ex) (s':St) (G:Gh) (a:Act) (w:World) (Q:Exit->Act->World->Prop),zE cf n (.loop keep dead b) s=some (e,s')->zwa P N c b=true->noPin pins c=true->Sim G N s a w->T.In G w→
   PostK pins a G N s.st w e s' Q->Again P c Q a w):=by
 intro n
 induction n with
 |zero=>exact⟨fun c ic s e s' G a w Q h=>by simp[zE]at h,fun c keep dead b s e s' G a w Q h=>by simp[zE]at h⟩
 |succ n ih=>
  obtain⟨ihA,ihB⟩:=ih;have hB:∀(c:Code) (keep dead:List Nat) (b:ICode) (s:St) (e:Ex) (s':St) (G:Gh) (a:Act) (w:World) (Q:Exit->Act->World->Prop),zE cf (n+1) (.loop keep dead b) s=some (e,s')->zwa P N c b=true->noPin pins c=true->Sim G N s a w->T.In G w→
    PostK pins a G N s.st w e s' Q->Again P c Q a w:=by
   intro c keep dead b s e s' G a w Q h hck hnp hS hT hpost;simp only[zE]at h;cases hh:havoc keep dead s with
   |none=>rw[hh]at h;cases h
   |some s1=>
    rw[hh]at h;simp only at h;obtain⟨hS1,hst⟩:=havoc_sound hS hh;apply again_round;cases hb:zE cf n b s1 with
    |none=>rw[hb]at h;cases h
    |some r=>
     obtain⟨e1,s2⟩:=r;rw[hb]at h;cases e1 with
     |normal=>
      simp only at h;refine ihA c b s1 .normal s2 G a w _ hb hck hnp hS1 hT ?_;intro G' a' w' q1 q2 k1;rw[hst]at q2;exact ihB c keep dead b s2 e s' G' a' w' Q h hck hnp q1 (hT.ext q2) (hpost.after k1 q2)
     |exit id=>cases h;exact ihA c b s1 _ _ G a w _ hb hck hnp hS1 hT (by rw[hst];exact PostK.then (fun q=>by cases q) hpost)
     |ret=>cases h;exact ihA c b s1 _ _ G a w _ hb hck hnp hS1 hT (by rw[hst];exact PostK.then (fun q=>by cases q) hpost)
     |pan v=>cases h;exact ihA c b s1 _ _ G a w _ hb hck hnp hS1 hT (by rw[hst];exact PostK.then (fun q=>by cases q) hpost)
  refine⟨?_,hB⟩;intro c ic s e s' G a w Q h hck hnp hS hT hpost;cases ic with
  |bad=>simp[zE]at h
  |skip=>
   cases c<;>simp only[zwa]at hck<;>try(cases hck;done)
   simp only[zE]at h;cases h;exact wp_skip (hpost G a w hS (Ext.refl _ _ _) (KeepT.refl _ _))
  |ret=>
   cases c<;>simp only[zwa]at hck<;>try(cases hck;done)
   simp only[zE]at h;cases h;exact wp_ret (hpost G a w hS (Ext.refl _ _ _) (KeepT.refl _ _))
  |exit id=>
   cases c<;>simp only[zwa,decide_eq_true_eq]at hck<;>try(cases hck;done)
   subst hck;simp only[zE]at h;cases h;exact wp_exit (hpost G a w hS (Ext.refl _ _ _) (KeepT.refl _ _))
  |sealK ks b=>
   simp only[zwa]at hck;simp only[zE]at h;cases hs:sealSt ks s with
   |none=>rw[hs]at h;cases h
   |some s1=>
    rw[hs]at h;obtain⟨q1,q2⟩:=hS.seal hs;exact ihA c b s1 e s' (G.drop w 0) a w Q h hck hnp q1 (hT.ext q2) (hpost.after (KeepT.refl _ _) q2)
  |region gops=>
   cases c<;>simp only[zwa,ya,yF,yC]at hck<;>try(cases hck;done)
   rename_i id ops draw;simp only[noPin]at hnp;rcases hck with hck|hck
   ·obtain⟨hck1,hck2⟩:=hck;simp only[zE]at h;have hlen:ops.size=gops.length:=by
     have:=(zYc _ _ hck1).1;simpa using this
    cases hst:zVb cf gops s with
    |none=>rw[hst]at h;cases h
    |some r=>
     rw[hst]at h;have fin:∀(l:List Nat) (w1:World),Sim G N s a w1->Ext G s.st w G s.st w1->runL cf gops l s=some r->wpOps P ops Q l a w1:=by
      intro l w1 hS1 hE1 hl;cases r with
      |ok s1=>
       cases h;refine zGd hcf hck1 hnp l s G a w1 _ hl hS1 (hT.ext hE1) ?_ (fun v st' e=>by cases e);intro s2 e G' a' w' q1 q2 k1;cases e;exact hpost G' a' w' q1 (hE1.trans q2) k1
      |pan v st1=>
       cases h;refine zGd hcf hck1 hnp l s G a w1 _ hl hS1 (hT.ext hE1) (fun v e=>by cases e) ?_;intro v' st' e G' a' w' mv q0 q1 q2 q3 k1;cases e;exact hpost G' a' w' mv q0 q1 (hE1.trans q2) q3 k1
     cases draw with
     |false=>
      refine wp_region (fin _ w hS (Ext.refl _ _ _) ?_);rw[hlen,runL_range];exact hst
     |true=>
      have hck2':zfd ops gops=true:=by
       rcases hck2 with h'|h'
       ·cases h'
       ·exact h'
      refine wp_region_draw fun t=>?_
      exact fin _ w.drew hS.drew ⟨fun _ _ _ x=>x,fun _ _ x=>x,fun _ x=>⟨x,rfl,rfl⟩,yh _,rfl,rfl,fun _ _=>rfl,rfl⟩ (draw_runL hck2' hst _ t)
   ·obtain⟨rfl,hck⟩:=hck;simp only[checkO,ya,decide_eq_true_eq]at hck;obtain⟨⟨hck1,hck2⟩,hck3⟩:=hck;simp only[zE]at h;cases hst:zVb cf gops s with
    |none=>rw[hst]at h;cases h
    |some r=>
     rw[hst]at h;have fin:∀(l:List Nat) (w1:World),Sim G N s a w1->Ext G s.st w G s.st w1->runL cf (popsOf ops.size (ordOf ops gops) gops) l s=some r->wpOps P ops Q l a w1:=by
      intro l w1 hS1 hE1 hl;cases r with
      |ok s1=>
       cases h;refine zGd hcf hck1 hnp l s G a w1 _ hl hS1 (hT.ext hE1) ?_ (fun v st' e=>by cases e);intro s2 e G' a' w' q1 q2 k1;cases e;exact hpost G' a' w' q1 (hE1.trans q2) k1
      |pan v st1=>
       cases h;refine zGd hcf hck1 hnp l s G a w1 _ hl hS1 (hT.ext hE1) (fun v e=>by cases e) ?_;intro v' st' e G' a' w' mv q0 q1 q2 q3 k1;cases e;exact hpost G' a' w' mv q0 q1 (hE1.trans q2) q3 k1
     have hq:=hck2;simp only[zrc,ya,decide_eq_true_eq,yr]at hq;refine wp_region_draw fun t=>?_
     exact fin _ w.drew hS.drew ⟨fun _ _ _ x=>x,fun _ _ x=>x,fun _ x=>⟨x,rfl,rfl⟩,yh _,rfl,rfl,fun _ _=>rfl,rfl⟩ (draw_runLO hck2 (by rw[ord_steps hq.1.2.1.1.1 hq.1.2.1.1.2 hck3];exact hst) _ t)
  |seq x y=>
   cases c<;>simp only[zwa,ya]at hck<;>try(cases hck;done)
   rename_i cx cy;simp only[noPin,ya]at hnp;simp only[zE]at h;apply wp_seq;cases hx:zE cf n x s with
   |none=>rw[hx]at h;cases h
   |some r=>
    obtain⟨e1,s1⟩:=r;rw[hx]at h;cases e1 with
    |normal=>
     simp only at h;refine ihA cx x s .normal s1 G a w _ hx hck.1 hnp.1 hS hT ?_;intro G' a' w' q1 q2 k1;exact ihA cy y s1 e s' G' a' w' Q h hck.2 hnp.2 q1 (hT.ext q2) (hpost.after k1 q2)
    |exit id=>cases h;exact ihA cx x s _ _ G a w _ hx hck.1 hnp.1 hS hT (hpost.then (by simp))
    |ret=>cases h;exact ihA cx x s _ _ G a w _ hx hck.1 hnp.1 hS hT (hpost.then (by simp))
    |pan v=>cases h;exact ihA cx x s _ _ G a w _ hx hck.1 hnp.1 hS hT (hpost.then (by simp))
  |cond b x y=>
   cases c<;>simp only[zwa,ya]at hck<;>try(cases hck;done)
   rename_i cb cx cy;obtain⟨⟨h1,h2⟩,h3⟩:=hck;simp only[noPin,ya]at hnp;simp only[zE]at h;split at h
   ·rename_i hb;exact wp_cond (zIc hS h1 hb) (ihA cx x s e s' G a w Q h h2 hnp.1 hS hT hpost)
   ·rename_i hb;exact wp_cond (zIc hS h1 hb) (ihA cy y s e s' G a w Q h h3 hnp.2 hS hT hpost)
   ·cases h
  |block id x=>
   cases c<;>simp only[zwa,ya,decide_eq_true_eq]at hck<;>try(cases hck;done)
   rename_i id' cx;obtain⟨rfl,hck⟩:=hck;simp only[noPin]at hnp;simp only[zE]at h;apply wp_block;cases hx:zE cf n x s with
   |none=>rw[hx]at h;cases h
   |some r=>
    obtain⟨e1,s1⟩:=r;rw[hx]at h;cases e1 with
    |normal=>cases h;exact ihA cx x s _ _ G a w _ hx hck hnp hS hT hpost
    |exit id=>
     simp only at h;refine ihA cx x s _ _ G a w _ hx hck hnp hS hT ?_;split at h
     ·rename_i e1;cases h;intro G' a' w' q1 q2 k1;simp only[Exit.inBlock,e1,if_true];exact hpost G' a' w' q1 q2 k1
     ·rename_i e1;cases h;intro G' a' w' q1 q2 k1;simp only[Exit.inBlock,e1,if_false];exact hpost G' a' w' q1 q2 k1
    |ret=>cases h;exact ihA cx x s _ _ G a w _ hx hck hnp hS hT hpost
    |pan v=>cases h;exact ihA cx x s _ _ G a w _ hx hck hnp hS hT hpost
  |loop keep dead x=>
   cases c<;>simp only[zwa]at hck<;>try(cases hck;done)
   simp only[noPin]at hnp;exact wp_loop_of (hB _ keep dead x s e s' G a w Q h hck hnp hS hT hpost)
end
section
variable {P:Program} {G G':Gh} {N:Nat} {s:St} {a:Act} {w w':World}
def resOk(P:Program):ResultVar->IRes->Bool
 | .tmp t,.tmp t'=>decide (t=t')
 | .cell t ty,.cell t' ag sz=>decide (t=t')&&szT P ty sz&&hasU P ty&&(zmc P ty==ag)
 |_,_=>false
def ressOk(P:Program):List ResultVar->List IRes->Bool
 | [],[]=>true
 |r::rs,r'::rs'=>resOk P r r'&&ressOk P rs rs'
 |_,_=>false
def resSem(tmps:Array Value):ResultVar->Sem Value
 | .tmp t=>pure (tmps.getD t Go.undef)
 | .cell a t=>do loadVar t (<-asAddr (tmps.getD a Go.undef))
theorem load_box{k off ty sz:Nat}{ag:Bool}{cs:List PV}{u:PV}(hS:Sim G N s a w)(h2:szT P ty sz=true)(h3:hasU P ty=true)(h4:(zmc P ty==ag)=true)
  (hb:s.bx k= .cells cs) (hu:zM ag sz cs off=some u):∃mv,(loadVar ty ⟨G.box k,off,none⟩).run P w= .ok mv w/\VR (G.im w) (zi G.lc s.st) (stripA u) mv:=by
 have hbx:=hS.box k;rw[hb]at hbx;obtain⟨c1,c2,arr,e,c3,c4,c5⟩:=hbx;obtain⟨mv,hl,hr⟩:=read_ok (I:=G.im w) (L:=zi G.lc s.st) (src:=fun j=>w.cell? ⟨G.box k,j,none⟩) (fun j c hj=>by
  obtain⟨mv,m1,m2⟩:=c5 j c hj;exact⟨mv,by show w.cell? _=_;rw[zyb c3];exact m1,m2.1,m2.strip⟩) hu
 exact⟨mv,zUd h2 h3 h4 hl,hr⟩
theorem load_obj{l i off ty sz sz':Nat}{ag:Bool}{es:List PV}{e0 u:PV}(hS:Sim G N s a w)(h2:szT P ty sz=true)(h3:hasU P ty=true)(h4:(zmc P ty==ag)=true)
  (hst:s.st[l]? =some (.arr sz' es)) (he0:es[i]? =some e0) (hu:zM ag sz (cellsOf e0) off=some u):
  ∃mv,(loadVar ty ⟨G.loc l,i*sz'+off,none⟩).run P w= .ok mv w/\VR (G.im w) (zi G.lc s.st) (stripA u) mv:=by
 obtain⟨c1,c2,arr,e,c3,c4,c5⟩:=hS.store.obj l _ hst;obtain⟨d1,d2,d3⟩:=c5 i e0 he0;obtain⟨mv,hl,hr⟩:=read_ok (I:=G.im w) (L:=zi G.lc s.st) (src:=fun j=>w.cell? ⟨G.loc l,i*sz'+j,none⟩) (fun j c hj=>by
  obtain⟨mv,m1,m2⟩:=d3 j c hj;exact⟨mv,by show w.cell? _=_;rw[zyb c3];exact m1,m2.1,m2.strip⟩) hu
 exact⟨mv,zUd h2 h3 h4 (hl.shift fun j x hx=>by rw[yEa];exact hx),hr⟩
theorem res_sound{r:ResultVar}{r':IRes}(hS:Sim G N s a w)(h:resOk P r r'=true){v:PV}(hg:r'.get s=some v)(hv:zG v=true):
  ∃mv,(resSem a.tmps r).run P w= .ok mv w/\VR (G.im w) (zi G.lc s.st) v mv:=by
 cases r with
 |tmp t=>
  cases r'<;>simp only[resOk,decide_eq_true_eq]at h<;>try(cases h;done)
  subst h;simp only[IRes.get,Option.some.injEq]at hg;subst hg;refine⟨_,rfl,?_⟩;have htN:t<N:=by
   rcases yA t N with h|h
   ·exact h
   ·rw[hS.hi t h]at hv;cases hv
  refine VR.stripA (((hS.tmp t htN).strip .prot).vr ?_ ?_)
  ·intro sz l;cases s.fr t<;>simp[strip]
   rename_i k _ _;cases k<;>simp
  ·intro k off e;rw[isVar_stripA,e]at hv;cases hv
 |cell t ty=>
  cases r'<;>simp only[resOk,ya,decide_eq_true_eq]at h<;>try(cases h;done)
  rename_i t' ag sz;obtain⟨⟨⟨rfl,h2⟩,h3⟩,h4⟩:=h;simp only[IRes.get]at hg;have htN:s.fr t≠ .undef->t<N:=fun hne=>by
   rcases yA t N with h|h
   ·exact h
   ·exact absurd (hS.hi t h) hne
  split at hg
  ·rename_i k off hf;split at hg
   case h_2=>cases hg
   rename_i cs hb;simp only[yb]at hg;obtain⟨u,hu,rfl⟩:=hg;have ht:=hS.tmp t (htN (by rw[hf];simp));rw[hf]at ht;obtain⟨mv,q1,q2⟩:=load_box hS h2 h3 h4 hb hu;refine⟨mv,?_,q2⟩;have ht':a.tmps.getD t Go.undef= .pointer (some ⟨G.box k,off,none⟩):=ht;simp only[resSem,ht'];simp[asAddr,q1]
  ·rename_i l i off hf;split at hg
   case h_2=>cases hg
   rename_i sz' es hst;split at hg
   case h_2=>cases hg
   rename_i e0 he0;simp only[yb]at hg;obtain⟨u,hu,rfl⟩:=hg;have ht:=hS.tmp t (htN (by rw[hf];simp));rw[hf]at ht;have hvr:VR (G.im w) (zi G.lc s.st) (.ptr l i off) (a.tmps.getD t Go.undef):=ht;have hloc:zi G.lc s.st l=some (G.loc l,sz',G.room l):=by simp[zi,Gh.lc,hst,Obj.sz]
   have ht':a.tmps.getD t Go.undef= .pointer (some ⟨G.loc l,i*sz'+off,none⟩):=by
    generalize a.tmps.getD t Go.undef=m at hvr;cases hvr with
    |ptr hh=>rw[hloc]at hh;cases hh;rfl
   obtain⟨mv,q1,q2⟩:=load_obj hS h2 h3 h4 hst he0 hu;refine⟨mv,?_,q2⟩;simp only[resSem,ht'];simp[asAddr,q1]
  ·cases hg
theorem ress_sound(hS:Sim G N s a w):∀{rs:List ResultVar} {rs':List IRes},ressOk P rs rs'=true->∀{vs:List PV},getAll s rs'=some vs->vs.all zG=true→
  ∃mvs:List Value,(rs.mapM (resSem a.tmps)).run P w= .ok mvs w/\mvs.length=vs.length/\∀(j:Nat) c x,vs[j]? =some c->mvs[j]? =some x->VR (G.im w) (zi G.lc s.st) c x
 | [],[],_,vs,hg,_=>by
  cases hg;exact⟨[],rfl,rfl,fun j c x h=>by simp at h⟩
 | [],_::_,h,_,_,_=>by cases h
 |_::_,[],h,_,_,_=>by cases h
 |r::rs,r'::rs',h,vs,hg,hv=>by
  simp only[ressOk,ya]at h;simp only[getAll]at hg;split at hg
  case h_2=>cases hg
  rename_i v vs' h1 h2;cases hg;simp only[List.all_cons,ya]at hv;obtain⟨mv,q1,q2⟩:=res_sound hS h.1 h1 hv.1;obtain⟨mvs,p1,p2,p3⟩:=ress_sound hS h.2 h2 hv.2;refine⟨mv::mvs,?_,by simp[p2],fun j c x hc hx=>?_⟩
  ·simp[List.mapM_cons,q1,p1]
  ·cases j with
   |zero=>simp at hc hx;subst hc;subst hx;exact q2
   |succ j=>exact p3 j c x (by simpa using hc) (by simpa using hx)
theorem results_sound(hS:Sim G N s a w){fn:Func}{rs':List IRes}(h:ressOk P fn.results.toList rs'=true){vs:List PV}(hg:getAll s rs'=some vs)(hv:vs.all zG=true):
  ∃mv,(results fn a.tmps).run P w= .ok mv w/\VR (G.im w) (zi G.lc s.st) (zCd vs) mv:=by
 obtain⟨mvs,p1,p2,p3⟩:=ress_sound hS h hg hv;have hres:results fn a.tmps=(fn.results.mapM (resSem a.tmps)>>=fun vs=>pure (if h:vs.size=1 then vs[0]else .tuple vs)):=by
  rfl
 rw[hres];simp only[Array.mapM_eq_mapM_toList,Sem.run_bind];have hm:(yAa<$>fn.results.toList.mapM (resSem a.tmps)).run P w= .ok mvs.toArray w:=by
  simp[p1]
 rw[hm];refine⟨_,rfl,?_⟩
 match vs,p2,p3 with
 | [],p2,p3=>
  have:mvs=[]:=yy (by simpa using p2);subst this;exact .tup rfl (fun j c x h=>by simp at h)
 | [v],p2,p3=>
  match mvs,p2,p3 with
  | [mv],_,p3=>exact p3 0 v mv rfl rfl
 |v::v'::vs,p2,p3=>
  match mvs,p2,p3 with
  |mv::mv'::mvs,p2,p3=>
   have:¬(mv::mv'::mvs).toArray.size=1:=by simp
   simp only[this,dite_false];exact .tup (by simpa using p2) (fun j c x hc hx=>p3 j c x hc (by simpa using hx))
def zh(P:Program)(fn:Func)(F:IFn):Bool:=
 (match fn.body with
  |some c=>zwa P fn.ntmps c F.body
  |none=>false)&&decide (fn.ntmps=F.ntmps)&&decide (F.nargs<=F.ntmps)&&ressOk P fn.results.toList F.res&& !(fn.name== "runtime.NumGoroutine")&&(match F.own with
  |none=>true
  |some t=>(match fn.results.toList with
   | [.tmp t']=>decide (t=t')
   |_=>false))
theorem frOf_at:∀(vs:List PV) (k t:Nat),frOf vs k t=if k<=t then(vs[t-k]?).getD .undef else .undef
 | [],k,t=>by simp[frOf]
 |v::r,k,t=>by
  simp only[frOf,upd,frOf_at r];by_cases h:t=k
  ·subst h;simp
  ·rw[if_neg h];by_cases h2:k+1<=t
   ·rw[if_pos h2,if_pos (by omega)];have:t-k=(t-(k+1))+1:=by omega
    rw[this,yva]
   ·rw[if_neg h2,if_neg (by omega)]
theorem entry_sim{args:List PV}{st:ze}{margs:Array Value}{n:Nat}(hD:G.dfr=[])(hS:SimS G st w)(hn:args.length<=n)(hsz:margs.size=args.length)
  (hv:∀(j:Nat) c x,args[j]? =some c->margs[j]? =some x->VR (G.im w) (zi G.lc st) c x):
  Sim G n {fr:=frOf args 0,bx:=fun _=> .no,st:=st} {tmps:=margs++Array.replicate (n-margs.size) Go.undef,defers:=[]} w:=by
 have hat:∀t,frOf args 0 t=(args[t]?).getD .undef:=fun t=>by simp[frOf_at]
 refine⟨hD.symm,by simp;omega,?_,?_,?_,fun k=>trivial,hS⟩
 ·intro t ht;simp only[hat];rcases yA t args.length with h|h
  ·rw[yj h];have h':t<margs.size:=by omega
   have:=hv t args[t] margs[t] (yj h) (yD h');have e:(margs++Array.replicate (n-margs.size) Go.undef).getD t Go.undef=margs[t]:=by
    simp[Array.getElem?_append,h']
   rw[e];exact VR.tr this
  ·rw[yfa h];exact VR.undef _
 ·intro t ht;simp only[hat];rw[yfa (by omega)];rfl
 ·intro t k off e;simp only[hat]at e;rcases yA t args.length with h|h
  ·rw[yj h]at e;have h':t<margs.size:=by omega
   have:=hv t args[t] margs[t] (yj h) (yD h');simp only[yma]at e;rw[e]at this;cases this
  ·rw[yfa h]at e;cases e
def deferOk(d:Nat)(o:Oper):Bool:=
 decide (o.dst=none)&&decide (o.guard=none)&&(match o.op with
  | .defer c=>(match c.callee with
   | .value (.tmp t)=>decide (t=d)
   |_=>false)&&decide (c.args.size=0)
  |_=>false)
def recOk(N:Nat)(r1:Nat)(o:Oper):Bool:=
 decide (o.dst=some r1)&&decide (r1<N)&&decide (o.guard=none)&&(match o.op with
  | .call c=>(match c.callee with
   | .builtin .recover=>true
   |_=>false)&&decide (c.args.size=0)
  |_=>false)
def copyOk(N:Nat)(r1 r2:Nat)(o:Oper):Bool:=
 decide (o.dst=some r2)&&decide (r2<N)&&decide (o.guard=none)&&(match o.op with
  | .assign (.tmp t)| .move (.tmp t)=>decide (t=r1)
  |_=>false)
def checkPre(P:Program)(N:Nat)(cont:Code->Bool):Code->ICode->Bool
 | .seq a k,ip=>(zwa P N a ip&&cont k)||(match ip with
  | .seq p q=>zwa P N a p&&checkPre P N cont k q
  |_=>false)
 |_,_=>false
def deferC(P:Program)(N:Nat)(H:HFn):Code->Bool
 | .seq (.region _ ops false) rest=>(zwa P N rest H.rest&&(noPin H.pins rest&& !H.pins.contains H.d))&&(match ops.toList with
   | [o1,o2]=>zNd P N ops o1 {g:=none,dst:=some H.d,op:= .mkfn H.k [] H.caps}&&deferOk H.d o2
   |_=>false)
 |_=>false
theorem pre_sound{T:Tabs}{cf:zH}(hcf:Good P T cf){cont:Code->Bool}:∀(c:Code) (n:Nat) (ip:ICode) (s:St) (e:Ex) (s':St) (G:Gh) (a:Act) (w:World) (Q:Exit->Act->World->Prop),checkPre P N cont c ip=true->zE cf n ip s=some (e,s')->Sim G N s a w->T.In G w→
  (e= .normal\/e= .ret)->(e= .normal->∀k,cont k=true->∀G' a' w',Sim G' N s' a' w'->Ext G s.st w G' s'.st w'->k.wp P Q a' w')->(e= .ret->∀G' a' w',Sim G' N s' a' w'->Ext G s.st w G' s'.st w'->Q .ret a' w')->c.wp P Q a w:=by
 intro c
 induction c with
 |seq x k _ ihk=>
  intro n ip s e s' G a w Q hck hex hS hT he hn hr;simp only[checkPre,yF,ya]at hck;rcases hck with⟨h1,h2⟩|h2
  ·apply wp_seq;rcases he with rfl|rfl
   ·refine(zOb hcf n).1 x ip s .normal s' G a w _ hex h1 hS hT ?_;exact fun G' a' w' q1 q2=>hn rfl k h2 G' a' w' q1 q2
   ·refine(zOb hcf n).1 x ip s .ret s' G a w _ hex h1 hS hT ?_;exact fun G' a' w' q1 q2=>hr rfl G' a' w' q1 q2
  ·split at h2
   case h_2=>cases h2
   rename_i p q;simp only[ya]at h2;obtain⟨h1,h2⟩:=h2;cases n with
   |zero=>simp[zE]at hex
   |succ n=>
   simp only[zE]at hex;apply wp_seq;cases hx:zE cf n p s with
   |none=>rw[hx]at hex;cases hex
   |some r=>
    obtain⟨e1,s1⟩:=r;rw[hx]at hex;cases e1 with
    |normal=>
     simp only at hex;refine(zOb hcf n).1 x p s .normal s1 G a w _ hx h1 hS hT ?_;intro G1 a1 w1 q1 q2;exact ihk n q s1 e s' G1 a1 w1 Q h2 hex q1 (hT.ext q2) he (fun e0 k' hk' G' a' w' p1 p2=>hn e0 k' hk' G' a' w' p1 (q2.trans p2)) (fun e0 G' a' w' p1 p2=>hr e0 G' a' w' p1 (q2.trans p2))
    |ret=>
     cases hex;refine(zOb hcf n).1 x p s .ret _ G a w _ hx h1 hS hT ?_;exact fun G' a' w' q1 q2=>hr rfl G' a' w' q1 q2
    |exit id=>cases hex;rcases he with h|h<;>cases h
    |pan v=>cases hex;rcases he with h|h<;>cases h
 |_=>intro n ip s e s' G a w Q hck;simp[checkPre]at hck
def checkH(P:Program)(fn cl:Func)(H:HFn):Bool:=
 (match fn.body with
  |some c=>checkPre P fn.ntmps (deferC P fn.ntmps H) c H.pre
  |none=>false)&&
 (match cl.body with
  |some (.seq (.region _ ops false) c)=>zwa P cl.ntmps c H.code&&(match ops.toList with
   | [o1,o2]=>recOk cl.ntmps H.r1 o1&&copyOk cl.ntmps H.r1 H.r2 o2
   |_=>false)
  |_=>false)&&
 decide (fn.ntmps=H.ntmps)&&decide (H.nargs<=H.ntmps)&&ressOk P fn.results.toList H.res&&decide (cl.results.size=0)&&decide (H.caps.length<=cl.ntmps)&& !(fn.name== "runtime.NumGoroutine")&& !(cl.name== "runtime.NumGoroutine")
def HandMode(G:Gh)(w:World)(L:Loc)(q:PV)(u:FrameMode)(x:Value):Prop:=
 (q= .nilif/\u= .returning/\x= .nilIface)\/∃mv,u= .panicking [{v:=mv,recovered:=false}]/\x=mv/\VR (G.im w) L q mv
theorem run_results_none{fn:Func}(h:fn.results.size=0)(tmps:Array Value)(w:World):(results fn tmps).run P w= .ok (.tuple #[]) w:=by
 have:fn.results= #[]:=ypa h;simp[results,this,go_sem]
theorem hand_closure{T:Tabs}{cf:zH}(hcf:Good P T cf){n:Nat}{H:HFn}{cl:Func}{k:Nat}{id:Nat}{ops:Array Oper}{o1 o2:Oper}{c:Code}(h2:P.funcs[k]? =some cl)(hb:cl.body=some (.seq (.region id ops false) c))(hops:ops.toList=[o1,o2])
  (hc:zwa P cl.ntmps c H.code=true) (hr1:recOk cl.ntmps H.r1 o1=true) (hr2:copyOk cl.ntmps H.r1 H.r2 o2=true) (hcs:H.caps.length<=cl.ntmps) (hres:cl.results.size=0)
  {cv:List PV} {q:PV} {st2:ze} {e:Ex} {s3:St} {margs:Array Value} {u:FrameMode} {x:Value} {G:Gh} {w:World} (hD:G.dfr=[]) (hT:T.In G w) (hS:SimS G st2 w) (hlen:cv.length=H.caps.length) (hsz:margs.size=cv.length)
  (hv:∀(j:Nat) c x,cv[j]? =some c->margs[j]? =some x->VR (G.im w) (zi G.lc st2) c x)
  (hm:HandMode G w (zi G.lc st2) q u x) (hex:zE cf n H.code (handSt H cv (q,st2))=some (e,s3)) (he:e= .normal\/e= .ret):
  CallsD P k margs u w fun e' u' w'=>e'= .returned (.tuple #[])/\settle u'= .returning/\∃G',SimS G' s3.st w'/\Ext G st2 w G' s3.st w':=by
 have ha:ops= #[o1,o2]:=by rw[<-Array.toArray_toList (xs:=ops),hops]
 subst ha;refine callsD_of_wpS h2 hb fun c₀ cs hu=>?_
 obtain⟨d1,p1,g1,call,hcall,hrec⟩:o1.dst=some H.r1/\H.r1<cl.ntmps/\o1.guard=none/\∃call,o1.op= .call call/\call.callee= .builtin .recover:=by
  simp only[recOk,ya,decide_eq_true_eq]at hr1;obtain⟨⟨⟨a1,a2⟩,a3⟩,a4⟩:=hr1;split at a4
  ·rename_i call hcall;simp only[ya]at a4;refine⟨a1,a2,a3,call,hcall,?_⟩;have:=a4.1;split at this
   ·assumption
   ·cases this
  ·cases a4
 obtain⟨d2,p2,g2,hop2⟩:o2.dst=some H.r2/\H.r2<cl.ntmps/\o2.guard=none/\∀(ρ:Operand->Value) (w:World),(execOp ρ o2).run P w= .ok (.value (ρ (.tmp H.r1))) w:=by
  simp only[copyOk,ya,decide_eq_true_eq]at hr2;obtain⟨⟨⟨a1,a2⟩,a3⟩,a4⟩:=hr2;refine⟨a1,a2,a3,fun ρ w=>?_⟩;split at a4<;>first
   |(cases a4;done)
   |(rename_i t ho;simp only[decide_eq_true_eq]at a4;subst a4;simp[execOp,ho])
 have hrun1:∀(ρ:Operand->Value) (w:World),(execOp ρ o1).run P w= .ok .recover w:=by
  intro ρ w;simp[execOp,hcall,resolve,hrec,invoke,builtin]
 refine wpS_seq (wpS_region ?_);have hent:=entry_sim (n:=cl.ntmps) hD hS (by omega) hsz hv;generalize hact:({tmps:=margs++Array.replicate (cl.ntmps-margs.size) Go.undef,defers:=[]}:Act)=a0 at*;have fin:∀(u':FrameMode),settle u'= .returning->VR (G.im w) (zi G.lc st2) q x→
   c.wpS P (bodyPostS P cl c₀ cs fun e' u' w'=>e'= .returned (.tuple #[])/\settle u'= .returning/\∃G',SimS G' s3.st w'/\Ext G st2 w G' s3.st w') ((a0.put o1.dst x).put o2.dst x) ({c₀ with mode:=u'}::cs) w:=by
  intro u' hset hq;refine wpS_of_wp ?_;have hSp:=(hent.put (d:=o1.dst) (fun t ht=>by rw[d1]at ht;cases ht;exact p1) (v:=q) (mv:=x) (fun t _=>VR.tr hq) (fun k off e=>by subst e;cases hq)).put (d:=o2.dst) (fun t ht=>by rw[d2]at ht;cases ht;exact p2) (v:=q) (mv:=x) (fun t _=>VR.tr hq) (fun k off e=>by subst e;cases hq);rw[d1,d2]at hSp ⊢;refine(zOb hcf n).1 c H.code _ e s3 G _ w _ hex hc hSp hT ?_;rcases he with rfl|rfl
  ·intro G' a' w' q1 q2;exact⟨q1.defers.trans (q2.dfr.trans hD),u',rfl,.tuple #[],run_results_none hres _ _,rfl,hset,G',q1.store,q2⟩
  ·intro G' a' w' q1 q2;exact⟨q1.defers.trans (q2.dfr.trans hD),u',rfl,.tuple #[],run_results_none hres _ _,rfl,hset,G',q1.store,q2⟩
 have hev:∀x:Value,(a0.put o1.dst x).eval (.tmp H.r1)=x:=by
  intro x;have hs:a0.tmps.size=cl.ntmps:=hent.size;simp[Act.eval,Act.put,d1,hs,p1]
 have hw1:Region.wanted o1 (yielded #[o1,o2] a0.tmps)=true:=by simp[Region.wanted,g1]
 have hw2:∀x:Value,Region.wanted o2 (yielded #[o1,o2] (a0.put o1.dst x).tmps)=true:=fun x=>by simp[Region.wanted,g2]
 show wpOpsS P #[o1,o2] _ [0,1] a0 (c₀::cs) w
 rcases hm with⟨rfl,rfl,rfl⟩|⟨mv,rfl,rfl,hq⟩
 ·have hrd:recoverD (c₀::cs)=none:=by simp[recoverD,hu]
  have hc0:({c₀ with mode:= .returning}:Frame)=c₀:=by rw[<-hu]
  have:=fin .returning rfl .nilif;rw[hc0]at this;simp only[wpOpsS,yG,yna,yva,hw1,if_true,hrun1,hrd,hw2,hop2,hev,Oper.upon,Exit.thenS];exact this
 ·have hrd:recoverD (c₀::cs)=some (x,{c₀ with mode:= .panicking [{v:=x,recovered:=true}]}::cs):=by simp[recoverD,hu]
  have:=fin (.panicking [{v:=x,recovered:=true}]) rfl hq;simp only[wpOpsS,yG,yna,yva,hw1,if_true,hrun1,hrd,hw2,hop2,hev,Oper.upon,Exit.thenS];exact this
theorem SimS.redfr{G:Gh}{st:ze}{w:World}(h:SimS G st w)(d:List Deferred):SimS {G with dfr:=d} st w:=⟨h.obj,h.fresh⟩
theorem Ext.redfr{G G':Gh}{st st':ze}{w w':World}(h:Ext G st w G' st' w')(d:List Deferred):Ext {G with dfr:=d} st w {G' with dfr:=d} st' w':=
 ⟨h.im,h.loc,h.prot,h.size,h.os,h.output,h.frozen,rfl⟩
theorem below_resVal{n:Nat}{vs:List PV}(h:zZ n vs=true):zD n (zCd vs)=true:=by
 match vs,h with
 | [],h=>exact h
 | [v],h=>simpa[zZ,zCd]using h
 |v::v'::vs,h=>exact h
theorem hand_out{H:HFn}{fn:Func}(hres:ressOk P fn.results.toList H.res=true){f:Nat}{G:Gh}{st st3 st':ze}{w w3:World}{fr:Fr}{tm:Array Value}{r:CRes}{Gx:Gh}
  (hsz:tm.size=fn.ntmps) (hhi:∀t,fn.ntmps<=t->fr t= .undef) (hpin:∀t l i o,t∈H.pins->fr t= .ptr l i o->VR (Gx.im w3) (zi Gx.lc st3) (.ptr l i o) (tm.getD t Go.undef))
  (hS:SimS Gx st3 w3) (hd:Gx.dfr=[]) (hE:Ext G st w Gx st3 w3) (h:zDb H st.length fr st3=some (r,st')):Leaves P fn tm (Comes1 G st w r st') [] .returning w3:=by
 unfold zDb at h;split at h
 ·cases h
 rename_i vs hvs;split at h
 case isFalse=>cases h
 rename_i hok;simp only[ya,decide_eq_true_eq]at hok;cases h;have hSim:Sim Gx fn.ntmps {fr:=pinFr fr H.pins,bx:=fun _=> .no,st:=st3} {tmps:=tm,defers:=[]} w3:=by
  refine⟨hd.symm,hsz,?_,?_,?_,fun k=>trivial,hS⟩
  ·intro t ht;show TR _ _ _ _ (pinFr fr H.pins t) _
   unfold pinFr;split
   ·rename_i hm;split
    ·rename_i l i o he;exact hpin t l i o hm he
    ·exact VR.undef _
   ·exact VR.undef _
  ·intro t ht;show pinFr fr H.pins t=_
   unfold pinFr;rw[hhi t ht];split<;>rfl
  ·intro t k off e;change pinFr fr H.pins t=_ at e;unfold pinFr at e;split at e
   ·split at e<;>cases e
   ·cases e
 obtain⟨mv,p1,p2⟩:=results_sound hSim hres hvs hok.1.1.1;exact⟨mv,p1,Gx.drop w3 st.length,drop_sim hS hok.1.2,drop_ext hE,VR.ret (p2.under (zgc _ _ _) zFc (below_resVal hok.1.1.2))⟩
theorem hand_sound{T:Tabs}{cf:zH}(hcf:Good P T cf){n:Nat}{H:HFn}{fn cl:Func}{f:Nat}(h1:P.funcs[f]? =some fn)(h2:P.funcs[H.k]? =some cl)(hck:checkH P fn cl H=true)
  {args:List PV} {st:ze} {r:CRes} {st':ze} (hr:handF (zE cf n) H args st=some (r,st')):GoodF P T f args st r st':=by
 simp only[checkH,ya,decide_eq_true_eq,yC]at hck;obtain⟨⟨⟨⟨⟨⟨⟨⟨hfn,hcl⟩,hnt⟩,hna⟩,hres⟩,hcres⟩,hcs⟩,hname⟩,hcname⟩:=hck;split at hfn
 case h_2=>cases hfn
 rename_i body0 hb;split at hcl
 case h_2=>cases hcl
 rename_i id' ops' c hcb;simp only[ya]at hcl;obtain⟨hcc,hcl⟩:=hcl;split at hcl
 case h_2=>cases hcl
 rename_i p1 p2 hops';simp only[ya]at hcl;obtain⟨hp1,hp2⟩:=hcl;intro G w margs hD hT hS hsz hv;refine⟨⟨fn,_,h1,hname,hb⟩,?_⟩;refine calls_of_wp_defers h1 hb ?_;unfold handF at hr;split at hr
 case isFalse=>cases hr
 rename_i hargs;have hent:=entry_sim (n:=fn.ntmps) hD hS (by omega) hsz hv;cases hx1:zE cf n H.pre {fr:=frOf args 0,bx:=fun _=> .no,st:=st}with
 |none=>rw[hx1]at hr;cases hr
 |some q1=>
 obtain⟨ex1,s1⟩:=q1;rw[hx1]at hr;cases ex1<;>try(cases hr;done)
 case ret=>
  refine pre_sound hcf body0 n H.pre _ .ret s1 G _ w _ hfn hx1 hent hT (.inr rfl) (fun e=>by cases e) ?_;intro _ G1 a1 w1 hS1 hE1;show Leaves P fn a1.tmps _ a1.defers .returning w1
  rw[hS1.defers,hE1.dfr,hD];exact hand_out (f:=f) hres hS1.size hS1.hi (fun t l i o _ he=>by
   have htN:t<fn.ntmps:=by
    rcases yA t fn.ntmps with h|h
    ·exact h
    ·rw[hS1.hi t h]at he;cases he
   have:=hS1.tmp t htN;rw[he]at this;exact this) hS1.store (hE1.dfr.trans hD) hE1 hr
 simp only at hr;split at hr
 case isFalse=>cases hr
 rename_i hcv;refine pre_sound hcf body0 n H.pre _ .normal s1 G _ w _ hfn hx1 hent hT (.inl rfl) ?_ (fun e=>by cases e);intro _ kc hkc G1 a1 w1 hS1 hE1;unfold deferC at hkc;split at hkc
 case h_2=>cases hkc
 rename_i id ops rest;simp only[ya]at hkc;obtain⟨⟨hrest,hnp,hnd⟩,hkc⟩:=hkc;split at hkc
 case h_2=>cases hkc
 rename_i o1 o2 hops;simp only[ya]at hkc;obtain⟨ho1,ho2⟩:=hkc;have ha:ops= #[o1,o2]:=by rw[<-Array.toArray_toList (xs:=ops),hops]
 subst ha;obtain⟨e1,e2,e3,call,e4,e5,e6⟩:o2.dst=none/\o2.guard=none/\True/\∃call,o2.op= .defer call/\call.callee= .value (.tmp H.d)/\call.args.size=0:=by
  simp only[deferOk,ya,decide_eq_true_eq]at ho2;obtain⟨⟨a1,a2⟩,a3⟩:=ho2;refine⟨a1,a2,trivial,?_⟩;split at a3
  ·rename_i call hcall;simp only[ya,decide_eq_true_eq]at a3;refine⟨call,hcall,?_,a3.2⟩;have:=a3.1;split at this
   ·rename_i t ht;simp only[decide_eq_true_eq]at this;subst this;exact ht
   ·cases this
  ·cases a3
 refine wp_seq (wp_region ?_);show wpOps P #[o1,o2] _ [0,1] a1 w1
 rw[wpOps_cons];have hstep:step cf {g:=none,dst:=some H.d,op:= .mkfn H.k [] H.caps} s1=some (.ok {s1 with fr:=upd s1.fr H.d (.fn H.k [] (zo s1.fr H.caps))}):=by
  have hv2:((H.caps.map fun a=>stripA (a.val s1.fr)).all zG)=true:=hcv;simp[step,zJ,IOp.sem,hv2,IOp.takes,zRa,zSa,zGb,IOp.box?,zo]
 refine step_sound hcf (i:=0) (o:=o1) rfl ho1 hS1 (hT.ext hE1) hstep ?_ (fun v st' e=>by cases e);intro s2 hs2 G2 a2 w2 hS2 hE2;cases hs2;rw[wpOps_cons];have hdlt:H.d<fn.ntmps:=(zge ho1).2.1 H.d (zge ho1).1;have hE02:=hE1.trans hE2;have hd2:G2.dfr=[]:=hE02.dfr.trans hD;generalize hcvs:zo s1.fr H.caps=cv at*;have hclen:cv.length=H.caps.length:=by rw[<-hcvs];simp[zo]
 have htd:=hS2.tmp H.d hdlt;simp only[upd_eq]at htd;obtain⟨us,hfu,husz,husv⟩:∃us:Array Value,a2.tmps.getD H.d Go.undef= .func (.func H.k) #[] us/\us.size=cv.length/\∀(j:Nat) c x,cv[j]? =some c->us[j]? =some x->VR (G2.im w2) (zi G2.lc s1.st) c x:=by
  have h:VR (G2.im w2) (zi G2.lc s1.st) (.fn H.k [] cv) (a2.tmps.getD H.d Go.undef):=htd;generalize a2.tmps.getD H.d Go.undef=mv at h;cases h with
  |fn hl hv hl' hv'=>
   rename_i vs us;have:vs= #[]:=ypa (by simpa using hl);subst this;exact⟨us,rfl,hl',hv'⟩
 let dd:Deferred:={target:= .fn (.func H.k) us,args:= #[]}
 have hrun:(execOp a2.eval o2).run P w2= .ok (.defer dd) w2:=by
  have hargs:call.args= #[]:=ypa e6;have hev:a2.eval (.tmp H.d)= .func (.func H.k) #[] us:=hfu;simp[execOp,e4,resolve,e5,hargs,hev,Deferred.ofValue,dd]
 have hw:Region.wanted o2 (yielded #[o1,o2] a2.tmps)=true:=by simp[Region.wanted,e2]
 unfold wpOp;rw[show(#[o1,o2]:Array Oper)[1]? =some o2 from rfl];simp only[hw,if_true];left;unfold Oper.wp;rw[hrun,Oper.upon_defer,e1];show rest.wp P _ {a2 with defers:=dd::a2.defers} w2
 have hS3:Sim {G2 with dfr:=[dd]} fn.ntmps {s1 with fr:=upd s1.fr H.d (.fn H.k [] cv)} {a2 with defers:=dd::a2.defers} w2:=
  ⟨by show dd::a2.defers=[dd];rw[hS2.defers,hd2],hS2.size,hS2.tmp,hS2.hi,hS2.lp,hS2.box,hS2.store.redfr _⟩
 cases hx2:zE cf n H.rest {s1 with fr:=upd s1.fr H.d (.fn H.k [] cv)}with
 |none=>rw[hx2]at hr;cases hr
 |some q2=>
 obtain⟨ex2,s3⟩:=q2;rw[hx2]at hr;have hG2:({G2 with dfr:=[]}:Gh)=G2:=by cases G2;simp only at hd2;subst hd2;rfl
 have tail:∀(q:PV) (x:Value) (u:FrameMode) (G4:Gh) (tmps:Array Value) (w4:World),u≠ .run->SimS G4 s3.st w4->Ext {G2 with dfr:=[dd]} s1.st w2 G4 s3.st w4->HandMode G4 w4 (zi G4.lc s3.st) q u x->KeepT H.pins a2 {tmps:=tmps,defers:=[]}→
   handEnd H st.length s1.fr (zE cf n H.code (handSt H cv (q,s3.st)))=some (r,st')->Leaves P fn tmps (Comes1 G st w r st') [dd] u w4:=by
  intro q x u G4 tmps w4 hu hS4 hE4 hm hkt hend;refine⟨hu,.func H.k,us,H.k,us,rfl,?_,?_⟩
  ·have hr0:=zkd (P:=P) (w:=w4) h2 hcname hcb us;simpa[invoke,dd]using hr0
  cases hx3:zE cf n H.code (handSt H cv (q,s3.st))with
  |none=>rw[hx3]at hend;cases hend
  |some q5=>
  obtain⟨ex5,s5⟩:=q5;rw[hx3]at hend;have he5:(ex5= .normal\/ex5= .ret)/\zDb H st.length s1.fr s5.st=some (r,st'):=by
   cases ex5<;>simp only[handEnd]at hend<;>try(cases hend;done)
   all_goals exact⟨by simp,hend⟩
  obtain⟨he5,hok⟩:=he5;have hcall:=hand_closure (G:={G4 with dfr:=[]}) hcf h2 hcb hops' hcc hp1 hp2 hcs hcres rfl (show T.In G4 w4 from(show T.In {G2 with dfr:=[dd]} w2 from(hT.ext hE02:T.In G2 w2)).ext hE4) (hS4.redfr []) hclen husz
   (fun j c x hc hx=>(husv j c x hc hx).mono hE4.im hE4.loc) (u:=u) (x:=x) hm hx3 he5
  intro c₀ cs hu0;obtain⟨e',u',w',fr,⟨rfl,hset,G5,hS5,hE5⟩,hsteps,hk,hgo⟩:=hcall c₀ cs hu0;refine⟨_,u',w',fr,?_,hsteps,hk,hgo⟩;show Leaves P fn tmps _ [] (settle u') w'
  rw[hset];have hE45:=hE4.redfr [];rw[hG2]at hE45;have hEx:=hE02.trans (hE45.trans hE5);refine hand_out (f:=f) hres (by have:=hkt.size;simp only at this;rw[this];exact hS2.size) hS1.hi (fun t l i o hm he=>?_) hS5 (hE5.dfr.trans rfl) hEx hok;have htN:t<fn.ntmps:=by
   rcases yA t fn.ntmps with h|h
   ·exact h
   ·rw[hS1.hi t h]at he;cases he
  have hne:t≠H.d:=fun e=>by subst e;simp[hm]at hnd
  have hk1:=hkt.tmp t hm;simp only at hk1;rw[hk1];have h2t:=hS2.tmp t htN;simp only[zEa _ _ hne,he]at h2t;exact VR.mono (Im.le_trans hE45.im hE5.im) (Loc.le_trans hE45.loc hE5.loc) h2t
 refine(exec_soundK (pins:=H.pins) hcf n).1 rest H.rest _ ex2 s3 _ _ w2 _ hx2 hrest hnp hS3 (show T.In {G2 with dfr:=[dd]} w2 from(hT.ext hE02:T.In G2 w2)) ?_;cases ex2 with
 |normal=>
  intro G4 a4 w4 q1 q2 k4;show Leaves P fn a4.tmps _ a4.defers .returning w4
  rw[q1.defers,q2.dfr];exact tail .nilif .nilIface .returning G4 _ w4 (by simp) q1.store q2 (.inl ⟨rfl,rfl,rfl⟩) ⟨k4.size,k4.tmp⟩ hr
 |ret=>
  intro G4 a4 w4 q1 q2 k4;show Leaves P fn a4.tmps _ a4.defers .returning w4
  rw[q1.defers,q2.dfr];exact tail .nilif .nilIface .returning G4 _ w4 (by simp) q1.store q2 (.inl ⟨rfl,rfl,rfl⟩) ⟨k4.size,k4.tmp⟩ hr
 |exit id=>cases hr
 |pan v=>
  intro G4 a4 w4 mv q0 q1 q2 q3 k4;cases v<;>try(cases hr;done)
  rename_i t v;show Leaves P fn a4.tmps _ a4.defers (.panicking _) w4
  rw[q0,q2.dfr];exact tail (.iface t v) mv _ G4 _ w4 (by simp) q1 q2 (.inr ⟨mv,rfl,rfl,q3⟩) ⟨k4.size,k4.tmp⟩ hr
structure EnvOk(P:Program)(T:Tabs)(E:Env):Prop where
 fn:∀f F,E.fn f=some F->∃fn,P.funcs[f]? =some fn/\zh P fn F=true
 ext:∀f g,E.ext f=some g->∀args st r st',g args st=some (r,st')->GoodF P T f args st r st'
 hand:∀f H,E.hand f=some H->∃fn cl,P.funcs[f]? =some fn/\P.funcs[H.k]? =some cl/\checkH P fn cl H=true
theorem own_results{fn:Func}{t:Nat}(h:fn.results.toList=[.tmp t])(tmps:Array Value)(w:World):(results fn tmps).run P w= .ok (tmps.getD t Go.undef) w:=by
 have hres:results fn tmps=(fn.results.mapM (resSem tmps)>>=fun vs=>pure (if h:vs.size=1 then vs[0]else .tuple vs)):=by
  rfl
 rw[hres];simp only[Array.mapM_eq_mapM_toList,Sem.run_bind,h];simp[resSem,List.mapM_cons]
theorem own_ret{st:ze}{w0:World}{G0:Gh}{t:Nat}(hS:Sim G N s a w)(hE:Ext G0 st w0 G s.st w)(hv:zG (s.fr t)=true):Comes1 G0 st w0 (.ret (s.fr t)) s.st (.returned (a.tmps.getD t Go.undef)) w:=by
 have htN:t<N:=by
  rcases yA t N with h|h
  ·exact h
  ·rw[hS.hi t h]at hv;cases hv
 have ht:=hS.tmp t htN;cases hv':isOwn (s.fr t)with
 |none=>
  refine⟨G,hS.store,hE,VR.ret (ht.vr ?_ ?_)⟩
  ·intro sz l e;rw[e]at hv';simp[isOwn]at hv'
  ·intro k off e;rw[e]at hv;cases hv
 |some q=>
  generalize s.fr t=v at*;cases v<;>simp[isOwn]at hv'
  rename_i k sz l;cases k<;>simp[isOwn]at hv'
  obtain⟨b,cap,arr,e,h1,h2,h3,h4,h5,h6,h7,h8,h9⟩:=ht;have hkeep:∀κ,κ≠ .ownT t->zic G w {G with cl:=upd G.cl b none} w κ:=by
   intro κ hκ b' hb';have hne:b'≠b:=fun e=>by subst e;rw[h2]at hb';cases hb';exact hκ rfl
   exact⟨by show upd G.cl b _ b'=_;rw[zEa _ _ hne];exact hb',rfl,rfl⟩
  refine⟨{G with cl:=upd G.cl b none},⟨?_,?_⟩,⟨hE.im,hE.loc,?_,hE.size,hE.os,hE.output,hE.frozen,hE.dfr⟩,?_⟩
  ·intro l o hl;exact(hS.store.obj l o hl).mono (G:=G) (G':={G with cl:=upd G.cl b none}) (Im.le_refl _) (Loc.le_refl _) rfl (hkeep (.loc l) (fun e=>by cases e)) (fun i j=>hkeep (.ownS l i j) (fun e=>by cases e))
  ·intro b' hb';refine⟨(hS.store.fresh b' hb').1,?_⟩;show upd G.cl b none b'=none
   by_cases e:b'=b
   ·subst e;rw[upd_eq]
   ·rw[zEa _ _ e];exact(hS.store.fresh b' hb').2
  ·intro b' hb';have:=hE.prot b' hb';have hne:b'≠b:=fun e=>by subst e;rw[h2]at this;cases this.1
   exact⟨by show upd G.cl b _ b'=_;rw[zEa _ _ hne];exact this.1,this.2⟩
  ·exact⟨b,cap,arr,e,h1,by show upd G.cl b none b=none;rw[upd_eq],h3,h4,h5,h6,h7,h8,h9⟩
theorem callF_good{T:Tabs}{E:Env}(hE:EnvOk P T E):∀n,Good P T (zHc E n)
 |0=>fun f args st r st' h=>by cases h
 |n+1=>by
  intro f args st r st' h;simp only[zHc]at h;cases hx:E.ext f with
  |some g=>rw[hx]at h;exact hE.ext f g hx args st r st' h
  |none=>
   rw[hx]at h;simp only at h;cases hh:E.hand f with
   |some H=>
    rw[hh]at h;obtain⟨fn,cl,h1,h2,hck⟩:=hE.hand f H hh;exact hand_sound (callF_good hE n) h1 h2 hck h
   |none=>
   rw[hh]at h;simp only at h;cases hf:E.fn f with
   |none=>rw[hf]at h;cases h
   |some F=>
    rw[hf]at h;simp only at h;obtain⟨fn,h1,hck⟩:=hE.fn f F hf;simp only[zh,ya,decide_eq_true_eq,yC]at hck;obtain⟨⟨⟨⟨⟨hbody,hnt⟩,hna⟩,hres⟩,hname⟩,hown⟩:=hck;cases hb:fn.body with
    |none=>rw[hb]at hbody;cases hbody
    |some c=>
     rw[hb]at hbody;simp only at hbody;split at h
     case isFalse=>cases h
     rename_i hargs;intro G w margs hD hT hS hsz hv;refine⟨⟨fn,c,h1,hname,hb⟩,?_⟩;refine calls_of_wp h1 hb ?_;have hent:=entry_sim (n:=fn.ntmps) hD hS (by omega) hsz hv;cases hex:zE (zHc E n) n F.body {fr:=frOf args 0,bx:=fun _=> .no,st:=st}with
     |none=>rw[hex]at h;cases h
     |some re=>
      obtain⟨e,s'⟩:=re;rw[hex]at h;have hgood:=callF_good hE n;have fin:finish F st.length s'=some (r,st')->∀G' a' w',Sim G' fn.ntmps s' a' w'->Ext G st w G' s'.st w'→
        a'.defers=[]/\∃mv,(results fn a'.tmps).run P w'= .ok mv w'/\Comes1 G st w r st' (Ending.returned mv) w':=by
       intro hfin G' a' w' q1 q2;simp only[finish]at hfin;split at hfin
       ·rename_i t ht;rw[ht]at hown;simp only at hown;split at hfin
        case isFalse=>cases hfin
        rename_i hvar;cases hfin;split at hown
        case h_2=>cases hown
        rename_i t' hrs;simp only[decide_eq_true_eq]at hown;subst hown;refine⟨q1.defers.trans (q2.dfr.trans hD),_,own_results hrs _ _,?_⟩;exact own_ret q1 q2 hvar
       split at hfin
       ·cases hfin
       ·rename_i vs hvs;split at hfin
        case isFalse=>cases hfin
        rename_i hall;obtain⟨mv,p1,p2⟩:=results_sound q1 hres hvs hall;split at hfin
        ·split at hfin
         case isFalse=>cases hfin
         rename_i hok;simp only[ya,decide_eq_true_eq]at hok;cases hfin;exact⟨q1.defers.trans (q2.dfr.trans hD),mv,p1,G'.drop w' st.length,drop_sim q1.store hok.1.2,drop_ext q2,VR.ret (freeze_res q1.store p2 hok.1.1)⟩
        ·cases hfin;exact⟨q1.defers.trans (q2.dfr.trans hD),mv,p1,G',q1.store,q2,VR.ret p2⟩
      cases e with
      |normal=>
       refine(zOb hgood n).1 c F.body _ .normal s' G _ w _ hex hbody hent hT ?_;intro G' a' w' q1 q2;exact fin h G' a' w' q1 q2
      |ret=>
       refine(zOb hgood n).1 c F.body _ .ret s' G _ w _ hex hbody hent hT ?_;intro G' a' w' q1 q2;exact fin h G' a' w' q1 q2
      |exit id=>cases h
      |pan v=>
       refine(zOb hgood n).1 c F.body _ (.pan v) s' G _ w _ hex hbody hent hT ?_;intro G' a' w' mv q0 q1 q2 q3;simp only[finishPan]at h;split at h
       ·split at h
        case isFalse=>cases h
        rename_i hok;simp only[ya,decide_eq_true_eq]at hok;cases h;exact⟨q0.trans (q2.dfr.trans hD),G'.drop w' st.length,mv,rfl,drop_sim q1 hok.1.2,drop_ext q2,q3.under (zgc _ _ _) zFc hok.1.1⟩
       ·cases h;exact⟨q0.trans (q2.dfr.trans hD),G',mv,rfl,q1,q2,q3⟩
end
def Leq(f g:zH):Prop:=∀k args st r,f k args st=some r->g k args st=some r
theorem Leq.refl(f:zH):Leq f f:=fun _ _ _ _ h=>h
theorem runOp_mono{f g:zH}(h:Leq f g){d:Option Nat}{o:IOp}{s:St}{r:SR}(hr:zJ f d o s=some r):zJ g d o s=some r:=by
 cases o
 case call pk x args=>
  simp only[zJ]at hr ⊢;cases hx:Arg.val s.fr x<;>rw[hx]at hr<;>try(cases hr;done)
  rename_i k first caps;simp only at hr ⊢;split at hr
  case isFalse=>cases hr
  rename_i hall;rw[if_pos hall];cases hf:f k (first++zo s.fr args++caps) s.st with
  |none=>rw[hf]at hr;cases hr
  |some q=>rw[hf]at hr;rw[h _ _ _ _ hf];exact hr
 case callP pk x args=>
  simp only[zJ]at hr ⊢;cases hx:Arg.val s.fr x<;>rw[hx]at hr<;>try(cases hr;done)
  rename_i k first caps;simp only at hr ⊢;split at hr
  case isFalse=>cases hr
  rename_i hall;rw[if_pos hall];cases hf:f k (first++zo s.fr args++caps) []with
  |none=>rw[hf]at hr;cases hr
  |some q=>rw[hf]at hr;rw[h _ _ _ _ hf];exact hr
 case callR x args=>
  simp only[zJ]at hr ⊢;cases hx:Arg.val s.fr x<;>rw[hx]at hr<;>try(cases hr;done)
  rename_i k first caps;simp only at hr ⊢;split at hr
  case isFalse=>cases hr
  rename_i hall;rw[if_pos hall];cases hf:f k (first++zo s.fr args++caps) s.st with
  |none=>rw[hf]at hr;cases hr
  |some q=>rw[hf]at hr;rw[h _ _ _ _ hf];exact hr
 case callV x args=>
  simp only[zJ]at hr ⊢;cases hx:Arg.val s.fr x<;>rw[hx]at hr<;>try(cases hr;done)
  rename_i k first caps;simp only at hr ⊢;split at hr
  case isFalse=>cases hr
  rename_i hall;rw[if_pos hall];cases hf:f k (first++zGa s.fr args s.st++caps) []with
  |none=>rw[hf]at hr;cases hr
  |some q=>rw[hf]at hr;rw[h _ _ _ _ hf];exact hr
 case callK x args=>
  simp only[zJ]at hr ⊢;cases hx:Arg.val s.fr x<;>rw[hx]at hr<;>try(cases hr;done)
  rename_i k first caps;simp only at hr ⊢;split at hr
  case isFalse=>cases hr
  rename_i hall;rw[if_pos hall];cases hf:f k (first++zo s.fr args++caps) s.st with
  |none=>rw[hf]at hr;cases hr
  |some q=>rw[hf]at hr;rw[h _ _ _ _ hf];exact hr
 all_goals exact hr
theorem step_mono{f g:zH}(h:Leq f g){o:GOp}{s:St}{r:SR}(hr:step f o s=some r):step g o s=some r:=by
 unfold step at hr ⊢;cases hg:o.g with
 |none=>rw[hg]at hr;exact runOp_mono h hr
 |some x=>
  obtain⟨t,w⟩:=x;rw[hg]at hr;simp only at hr ⊢;cases ht:gate w (s.fr t)with
  |none=>rw[ht]at hr;cases hr
  |some b=>
   rw[ht]at hr;cases b
   ·exact hr
   ·exact runOp_mono h hr
theorem steps_mono{f g:zH}(h:Leq f g):∀{l:List GOp} {s:St} {r:SR},zVb f l s=some r->zVb g l s=some r
 | [],s,r,hr=>hr
 |o::l,s,r,hr=>by
  simp only[zVb]at hr ⊢;cases hs:step f o s with
  |none=>rw[hs]at hr;cases hr
  |some q=>
   rw[hs]at hr;rw[step_mono h hs];cases q with
   |ok s'=>exact steps_mono h hr
   |pan v st=>exact hr
theorem zQa{f g:zH}(h:Leq f g):∀(n m:Nat) (c:ICode) (s:St) (r:Ex×St),n<=m->zE f n c s=some r->zE g m c s=some r
 |0,m,c,s,r,_,hr=>by cases hr
 |n+1,0,c,s,r,hn,_=>by omega
 |n+1,m+1,c,s,r,hn,hr=>by
  have ih:=fun c s r=>zQa h n m c s r (by omega)
  cases c with
  |region ops=>
   simp only[zE]at hr ⊢;cases hs:zVb f ops s with
   |none=>rw[hs]at hr;cases hr
   |some q=>rw[hs]at hr;rw[steps_mono h hs];cases q<;>exact hr
  |seq a b=>
   simp only[zE]at hr ⊢;cases hs:zE f n a s with
   |none=>rw[hs]at hr;cases hr
   |some q=>
    obtain⟨e,s1⟩:=q;rw[hs]at hr;rw[ih _ _ _ hs];cases e<;>first|exact ih _ _ _ hr|exact hr
  |cond c a b=>
   simp only[zE]at hr ⊢;cases hv:Arg.val s.fr c<;>rw[hv]at hr<;>try(cases hr;done)
   rename_i b';cases b'<;>exact ih _ _ _ hr
  |block id b=>
   simp only[zE]at hr ⊢;cases hs:zE f n b s with
   |none=>rw[hs]at hr;cases hr
   |some q=>
    obtain⟨e,s1⟩:=q;rw[hs]at hr;rw[ih _ _ _ hs];cases e<;>exact hr
  |loop keep dead b=>
   simp only[zE]at hr ⊢;cases hh:havoc keep dead s with
   |none=>rw[hh]at hr;cases hr
   |some s0=>
    rw[hh]at hr;simp only at hr ⊢;cases hs:zE f n b s0 with
    |none=>rw[hs]at hr;cases hr
    |some q=>
     obtain⟨e,s1⟩:=q;rw[hs]at hr;rw[ih _ _ _ hs];cases e<;>first|exact ih _ _ _ hr|exact hr
  |sealK ks b=>
   simp only[zE]at hr ⊢;cases hh:sealSt ks s with
   |none=>rw[hh]at hr;cases hr
   |some s1=>rw[hh]at hr;exact ih _ _ _ hr
  |skip=>exact hr
  |exit id=>exact hr
  |ret=>exact hr
  |bad=>exact hr
def leave(F:IFn)(n:Nat):Option (Ex×St)->Option (CRes×ze)
 |some (.normal,s')=>finish F n s'
 |some (.ret,s')=>finish F n s'
 |some (.pan v,s')=>finishPan F n v s'
 |_=>none
theorem handF_mono{ex ex':ICode->St->Option (Ex×St)}{H:HFn}{args:List PV}{st:ze}{r:CRes×ze}(h:∀c s r,ex c s=some r->ex' c s=some r)(hr:handF ex H args st=some r):handF ex' H args st=some r:=by
 unfold handF at hr ⊢;split at hr
 case isFalse=>cases hr
 rename_i hc;rw[if_pos hc];cases h1:ex H.pre {fr:=frOf args 0,bx:=fun _=> .no,st:=st}with
 |none=>rw[h1]at hr;cases hr
 |some q=>
  obtain⟨e,s1⟩:=q;rw[h1]at hr;rw[h _ _ _ h1];cases e<;>try(cases hr;done)
  case ret=>exact hr
  simp only at hr ⊢;split at hr
  case isFalse=>cases hr
  rename_i hv;rw[if_pos hv];cases h2:ex H.rest {s1 with fr:=upd s1.fr H.d (.fn H.k [] (zo s1.fr H.caps))}with
  |none=>rw[h2]at hr;cases hr
  |some q2=>
   rw[h2]at hr;rw[h _ _ _ h2];cases h3:thrown (some q2)with
   |none=>rw[h3]at hr;cases hr
   |some q3=>
    rw[h3]at hr;simp only at hr ⊢;cases h4:ex H.code (handSt H (zo s1.fr H.caps) q3)with
    |none=>rw[h4]at hr;cases hr
    |some q4=>rw[h4]at hr;rw[h _ _ _ h4];exact hr
theorem zOd(E:Env)(n f:Nat)(args:List PV)(st:ze):zHc E (n+1) f args st=match E.ext f with
  |some g=>g args st
  |none=>match E.hand f with
  |some H=>handF (zE (zHc E n) n) H args st
  |none=>match E.fn f with
   |none=>none
   |some F=>if args.length=F.nargs/\args.all zG then leave F st.length (zE (zHc E n) n F.body {fr:=frOf args 0,bx:=fun _=> .no,st:=st})else none:=by
 simp only[zHc];cases E.ext f with
 |some g=>rfl
 |none=>
  cases E.hand f with
  |some H=>rfl
  |none=>
  cases E.fn f with
  |none=>rfl
  |some F=>
   simp only;split
   ·cases zE (zHc E n) n F.body {fr:=frOf args 0,bx:=fun _=> .no,st:=st}with
    |none=>rfl
    |some q=>
     obtain⟨e,s⟩:=q;cases e<;>rfl
   ·rfl
theorem zPb(E:Env):∀(n m:Nat),n<=m->Leq (zHc E n) (zHc E m)
 |0,m,_=>fun _ _ _ _ h=>by cases h
 |n+1,0,h=>by omega
 |n+1,m+1,hn=>by
  intro f args st r h;have ih:=zPb E n m (by omega);rw[zOd]at h ⊢;cases hx:E.ext f with
  |some g=>rw[hx]at h;exact h
  |none=>
   rw[hx]at h;cases hh:E.hand f with
   |some H=>
    rw[hh]at h;exact handF_mono (fun c s r hr=>zQa ih n m c s r (by omega) hr) h
   |none=>
   rw[hh]at h;cases hf:E.fn f with
   |none=>rw[hf]at h;exact h
   |some F=>
    rw[hf]at h;simp only at h ⊢;split
    ·rename_i hc;rw[if_pos hc]at h;cases hs:zE (zHc E n) n F.body {fr:=frOf args 0,bx:=fun _=> .no,st:=st}with
     |none=>rw[hs]at h;cases h
     |some q=>rw[hs]at h;rw[zQa ih n m _ _ _ (by omega) hs];exact h
    ·rename_i hc;rw[if_neg hc]at h;exact h
open Classical in
noncomputable def zk(E:Env):zH:=fun f args st=>
 if h:∃n r,zHc E n f args st=some r then some h.choose_spec.choose else none
theorem zYb{E:Env}{f:Nat}{args:List PV}{st:ze}{r:CRes×ze}:zk E f args st=some r<->∃n,zHc E n f args st=some r:=by
 unfold zk;constructor
 ·intro h;split at h
  ·rename_i hx;cases h;exact⟨hx.choose,hx.choose_spec.choose_spec⟩
  ·cases h
 ·rintro⟨n,h⟩
  have hx:∃n r,zHc E n f args st=some r:=⟨n,r,h⟩
  rw[dif_pos hx];have h1:=hx.choose_spec.choose_spec;have e1:=zPb E _ _ (yS hx.choose n) _ _ _ _ h1;have e2:=zPb E _ _ (yL hx.choose n) _ _ _ _ h;rw[e1]at e2;exact e2
open Classical in
noncomputable def exec(cf:zH)(c:ICode)(s:St):Option (Ex×St):=
 if h:∃n r,zE cf n c s=some r then some h.choose_spec.choose else none
theorem zma{cf:zH}{c:ICode}{s:St}{r:Ex×St}:exec cf c s=some r<->∃n,zE cf n c s=some r:=by
 unfold exec;constructor
 ·intro h;split at h
  ·rename_i hx;cases h;exact⟨hx.choose,hx.choose_spec.choose_spec⟩
  ·cases h
 ·rintro⟨n,h⟩
  have hx:∃n r,zE cf n c s=some r:=⟨n,r,h⟩
  rw[dif_pos hx];have h1:=hx.choose_spec.choose_spec;have e1:=zQa (Leq.refl cf) _ _ _ _ _ (yS hx.choose n) h1;have e2:=zQa (Leq.refl cf) _ _ _ _ _ (yL hx.choose n) h;rw[e1]at e2;exact e2
section
variable {cf:zH}
@[simp] theorem exec_skip(s:St):exec cf .skip s=some (.normal,s):=zma.2 ⟨1,rfl⟩
@[simp] theorem exec_exit(id:Nat)(s:St):exec cf (.exit id) s=some (.exit id,s):=zma.2 ⟨1,rfl⟩
@[simp] theorem exec_ret(s:St):exec cf .ret s=some (.ret,s):=zma.2 ⟨1,rfl⟩
def regionEnd(s:St):Option SR->Option (Ex×St)
 |some (.ok s')=>some (.normal,s')
 |some (.pan v st')=>some (.pan v,{s with st:=st'})
 |none=>none
theorem exec_region(ops:List GOp)(s:St):exec cf (.region ops) s=regionEnd s (zVb cf ops s):=by
 apply yUa;intro r;rw[zma];constructor
 ·rintro⟨n,h⟩
  cases n with
  |zero=>cases h
  |succ n=>
   simp only[zE]at h;cases hs:zVb cf ops s with
   |none=>rw[hs]at h;cases h
   |some q=>rw[hs]at h;cases q<;>exact h
 ·intro h;refine⟨1,?_⟩;simp only[zE];cases hs:zVb cf ops s with
  |none=>rw[hs]at h;cases h
  |some q=>rw[hs]at h;cases q<;>exact h
def thenSeq(k:St->Option (Ex×St)):Option (Ex×St)->Option (Ex×St)
 |some (.normal,s')=>k s'
 |x=>x
theorem exec_seq(a b:ICode)(s:St):exec cf (.seq a b) s=thenSeq (exec cf b) (exec cf a s):=by
 apply yUa;intro r;rw[zma];constructor
 ·rintro⟨n,h⟩
  cases n with
  |zero=>cases h
  |succ n=>
   simp only[zE]at h;cases hs:zE cf n a s with
   |none=>rw[hs]at h;cases h
   |some q=>
    obtain⟨e,s1⟩:=q;rw[hs]at h;rw[zma.2 ⟨n,hs⟩];cases e<;>first|exact h|exact zma.2 ⟨n,h⟩
 ·intro h;cases hs:exec cf a s with
  |none=>rw[hs]at h;cases h
  |some q=>
   obtain⟨e,s1⟩:=q;rw[hs]at h;obtain⟨n,hn⟩:=zma.1 hs;cases e
   case normal=>
    obtain⟨m,hm⟩:=zma.1 h;refine⟨max n m+1,?_⟩;simp only[zE];rw[zQa (Leq.refl cf) _ _ _ _ _ (yS n m) hn];exact zQa (Leq.refl cf) _ _ _ _ _ (yL n m) hm
   all_goals
    refine⟨n+1,?_⟩;simp only[zE,hn];exact h
def ofCond(x y:Option (Ex×St)):PV->Option (Ex×St)
 | .bool true=>x
 | .bool false=>y
 |_=>none
theorem exec_cond(c:Arg)(a b:ICode)(s:St):exec cf (.cond c a b) s=ofCond (exec cf a s) (exec cf b s) (c.val s.fr):=by
 apply yUa;intro r;rw[zma];constructor
 ·rintro⟨n,h⟩
  cases n with
  |zero=>cases h
  |succ n=>
   simp only[zE]at h;cases hv:Arg.val s.fr c<;>rw[hv]at h<;>try(cases h;done)
   rename_i b';cases b'<;>exact zma.2 ⟨n,h⟩
 ·intro h;cases hv:Arg.val s.fr c<;>rw[hv]at h<;>try(cases h;done)
  rename_i b';cases b'<;>(obtain⟨n,hn⟩:=zma.1 h;exact⟨n+1,by simp only[zE,hv];exact hn⟩)
def leaveBlock(id:Nat):Option (Ex×St)->Option (Ex×St)
 |some (.exit id',s')=>if id'=id then some (.normal,s')else some (.exit id',s')
 |x=>x
theorem exec_block(id:Nat)(b:ICode)(s:St):exec cf (.block id b) s=leaveBlock id (exec cf b s):=by
 apply yUa;intro r;rw[zma];constructor
 ·rintro⟨n,h⟩
  cases n with
  |zero=>cases h
  |succ n=>
   simp only[zE]at h;cases hs:zE cf n b s with
   |none=>rw[hs]at h;cases h
   |some q=>
    obtain⟨e,s1⟩:=q;rw[hs]at h;rw[zma.2 ⟨n,hs⟩];cases e<;>exact h
 ·intro h;cases hs:exec cf b s with
  |none=>rw[hs]at h;cases h
  |some q=>
   obtain⟨e,s1⟩:=q;rw[hs]at h;obtain⟨n,hn⟩:=zma.1 hs;refine⟨n+1,?_⟩;simp only[zE,hn];cases e<;>exact h
theorem exec_sealK(ks:List Nat)(b:ICode)(s:St):exec cf (.sealK ks b) s=match sealSt ks s with
  |some s1=>exec cf b s1
  |none=>none:=by
 apply yUa;intro r;rw[zma];constructor
 ·rintro⟨n,hn⟩
  cases n with
  |zero=>cases hn
  |succ n=>
   simp only[zE]at hn;cases hs:sealSt ks s with
   |none=>rw[hs]at hn;cases hn
   |some s1=>rw[hs]at hn;exact zma.2 ⟨n,hn⟩
 ·intro h;cases hs:sealSt ks s with
  |none=>rw[hs]at h;cases h
  |some s1=>
   rw[hs]at h;obtain⟨n,hn⟩:=zma.1 h;exact⟨n+1,by simp only[zE,hs];exact hn⟩
theorem exec_loop(keep dead:List Nat)(b:ICode)(s:St):exec cf (.loop keep dead b) s=match havoc keep dead s with
  |some s0=>thenSeq (exec cf (.loop keep dead b)) (exec cf b s0)
  |none=>none:=by
 apply yUa;intro r;rw[zma];constructor
 ·rintro⟨n,h⟩
  cases n with
  |zero=>cases h
  |succ n=>
   simp only[zE]at h;cases hh:havoc keep dead s with
   |none=>rw[hh]at h;cases h
   |some s0=>
    rw[hh]at h;simp only at h ⊢;cases hs:zE cf n b s0 with
    |none=>rw[hs]at h;cases h
    |some q=>
     obtain⟨e,s1⟩:=q;rw[hs]at h;rw[zma.2 ⟨n,hs⟩];cases e<;>first|exact h|exact zma.2 ⟨n,h⟩
 ·intro h;cases hh:havoc keep dead s with
  |none=>rw[hh]at h;cases h
  |some s0=>
   rw[hh]at h;simp only at h;cases hs:exec cf b s0 with
   |none=>rw[hs]at h;cases h
   |some q=>
    obtain⟨e,s1⟩:=q;rw[hs]at h;obtain⟨n,hn⟩:=zma.1 hs;cases e
    case normal=>
     obtain⟨m,hm⟩:=zma.1 h;refine⟨max n m+1,?_⟩;simp only[zE,hh];rw[zQa (Leq.refl cf) _ _ _ _ _ (yS n m) hn];exact zQa (Leq.refl cf) _ _ _ _ _ (yL n m) hm
    all_goals
     refine⟨n+1,?_⟩;simp only[zE,hh,hn];exact h
end
theorem runOp_fuel{E:Env}{d:Option Nat}{o:IOp}{s:St}{r:SR}(hr:zJ (zk E) d o s=some r):∃n,zJ (zHc E n) d o s=some r:=by
 cases o
 case call pk x args=>
  simp only[zJ]at hr ⊢;cases hx:Arg.val s.fr x<;>rw[hx]at hr<;>try(cases hr;done)
  rename_i k first caps;simp only at hr ⊢;split at hr
  case isFalse=>cases hr
  rename_i hall;cases hf:zk E k (first++zo s.fr args++caps) s.st with
  |none=>rw[hf]at hr;cases hr
  |some q=>
   rw[hf]at hr;obtain⟨n,hn⟩:=zYb.1 hf;refine⟨n,?_⟩;rw[if_pos hall,hn];exact hr
 case callP pk x args=>
  simp only[zJ]at hr ⊢;cases hx:Arg.val s.fr x<;>rw[hx]at hr<;>try(cases hr;done)
  rename_i k first caps;simp only at hr ⊢;split at hr
  case isFalse=>cases hr
  rename_i hall;cases hf:zk E k (first++zo s.fr args++caps) []with
  |none=>rw[hf]at hr;cases hr
  |some q=>
   rw[hf]at hr;obtain⟨n,hn⟩:=zYb.1 hf;refine⟨n,?_⟩;rw[if_pos hall,hn];exact hr
 case callR x args=>
  simp only[zJ]at hr ⊢;cases hx:Arg.val s.fr x<;>rw[hx]at hr<;>try(cases hr;done)
  rename_i k first caps;simp only at hr ⊢;split at hr
  case isFalse=>cases hr
  rename_i hall;cases hf:zk E k (first++zo s.fr args++caps) s.st with
  |none=>rw[hf]at hr;cases hr
  |some q=>
   rw[hf]at hr;obtain⟨n,hn⟩:=zYb.1 hf;refine⟨n,?_⟩;rw[if_pos hall,hn];exact hr
 case callV x args=>
  simp only[zJ]at hr ⊢;cases hx:Arg.val s.fr x<;>rw[hx]at hr<;>try(cases hr;done)
  rename_i k first caps;simp only at hr ⊢;split at hr
  case isFalse=>cases hr
  rename_i hall;cases hf:zk E k (first++zGa s.fr args s.st++caps) []with
  |none=>rw[hf]at hr;cases hr
  |some q=>
   rw[hf]at hr;obtain⟨n,hn⟩:=zYb.1 hf;refine⟨n,?_⟩;rw[if_pos hall,hn];exact hr
 case callK x args=>
  simp only[zJ]at hr ⊢;cases hx:Arg.val s.fr x<;>rw[hx]at hr<;>try(cases hr;done)
  rename_i k first caps;simp only at hr ⊢;split at hr
  case isFalse=>cases hr
  rename_i hall;cases hf:zk E k (first++zo s.fr args++caps) s.st with
  |none=>rw[hf]at hr;cases hr
  |some q=>
   rw[hf]at hr;obtain⟨n,hn⟩:=zYb.1 hf;refine⟨n,?_⟩;rw[if_pos hall,hn];exact hr
 all_goals exact⟨0,hr⟩
theorem step_fuel{E:Env}{o:GOp}{s:St}{r:SR}(hr:step (zk E) o s=some r):∃n,step (zHc E n) o s=some r:=by
 unfold step at hr ⊢;cases hg:o.g with
 |none=>rw[hg]at hr;exact runOp_fuel hr
 |some x=>
  obtain⟨t,w⟩:=x;rw[hg]at hr;simp only at hr ⊢;cases ht:gate w (s.fr t)with
  |none=>rw[ht]at hr;cases hr
  |some b=>
   rw[ht]at hr;cases b
   ·exact⟨0,hr⟩
   ·exact runOp_fuel hr
theorem steps_fuel{E:Env}:∀{l:List GOp} {s:St} {r:SR},zVb (zk E) l s=some r->∃n,zVb (zHc E n) l s=some r
 | [],s,r,hr=>⟨0,hr⟩
 |o::l,s,r,hr=>by
  simp only[zVb]at hr;cases hs:step (zk E) o s with
  |none=>rw[hs]at hr;cases hr
  |some q=>
   rw[hs]at hr;obtain⟨n,hn⟩:=step_fuel hs;cases q with
   |ok s'=>
    obtain⟨m,hm⟩:=steps_fuel (l:=l) (s:=s') (r:=r) hr;refine⟨max n m,?_⟩;simp only[zVb,step_mono (zPb E n _ (yS n m)) hn];exact steps_mono (zPb E m _ (yL n m)) hm
   |pan v st=>exact⟨n,by simp only[zVb,hn];exact hr⟩
theorem execF_fuel{E:Env}:∀(k:Nat) (c:ICode) (s:St) (r:Ex×St),zE (zk E) k c s=some r->∃n,zE (zHc E n) k c s=some r
 |0,c,s,r,hr=>by cases hr
 |k+1,c,s,r,hr=>by
  have ih:=fun c s r=>execF_fuel (E:=E) k c s r
  have up:∀{n m:Nat} {c s r},n<=m->zE (zHc E n) k c s=some r->zE (zHc E m) k c s=some r:=fun hnm h=>zQa (zPb E _ _ hnm) k k _ _ _ (yh _) h
  cases c with
  |region ops=>
   simp only[zE]at hr ⊢;cases hs:zVb (zk E) ops s with
   |none=>rw[hs]at hr;cases hr
   |some q=>
    rw[hs]at hr;obtain⟨n,hn⟩:=steps_fuel hs;exact⟨n,by rw[hn];exact hr⟩
  |seq a b=>
   simp only[zE]at hr ⊢;cases hs:zE (zk E) k a s with
   |none=>rw[hs]at hr;cases hr
   |some q=>
    obtain⟨e,s1⟩:=q;rw[hs]at hr;obtain⟨n,hn⟩:=ih _ _ _ hs;cases e
    case normal=>
     obtain⟨m,hm⟩:=ih _ _ _ hr;exact⟨max n m,by rw[up (yS n m) hn];exact up (yL n m) hm⟩
    all_goals exact⟨n,by rw[hn];exact hr⟩
  |cond c a b=>
   simp only[zE]at hr ⊢;cases hv:Arg.val s.fr c<;>rw[hv]at hr<;>try(cases hr;done)
   rename_i b';cases b'<;>exact ih _ _ _ hr
  |block id b=>
   simp only[zE]at hr ⊢;cases hs:zE (zk E) k b s with
   |none=>rw[hs]at hr;cases hr
   |some q=>
    obtain⟨e,s1⟩:=q;rw[hs]at hr;obtain⟨n,hn⟩:=ih _ _ _ hs;refine⟨n,?_⟩;rw[hn];cases e<;>exact hr
  |loop keep dead b=>
   simp only[zE]at hr ⊢;cases hh:havoc keep dead s with
   |none=>rw[hh]at hr;cases hr
   |some s0=>
    rw[hh]at hr;simp only at hr ⊢;cases hs:zE (zk E) k b s0 with
    |none=>rw[hs]at hr;cases hr
    |some q=>
     obtain⟨e,s1⟩:=q;rw[hs]at hr;obtain⟨n,hn⟩:=ih _ _ _ hs;cases e
     case normal=>
      obtain⟨m,hm⟩:=ih _ _ _ hr;exact⟨max n m,by rw[up (yS n m) hn];exact up (yL n m) hm⟩
     all_goals exact⟨n,by rw[hn];exact hr⟩
  |sealK ks b=>
   simp only[zE]at hr ⊢;cases hh:sealSt ks s with
   |none=>rw[hh]at hr;cases hr
   |some s1=>rw[hh]at hr;exact ih _ _ _ hr
  |skip=>exact⟨0,hr⟩
  |exit id=>exact⟨0,hr⟩
  |ret=>exact⟨0,hr⟩
  |bad=>exact⟨0,hr⟩
theorem pcall_body{E:Env}{f:Nat}{F:IFn}{args:List PV}{st:ze}{r:CRes×ze}(hx:E.ext f=none)(hf:E.fn f=some F)(hl:args.length=F.nargs)(hv:args.all zG=true)(hh:E.hand f=none)
  (h:leave F st.length (exec (zk E) F.body {fr:=frOf args 0,bx:=fun _=> .no,st:=st})=some r):zk E f args st=some r:=by
 rw[zYb];cases he:exec (zk E) F.body {fr:=frOf args 0,bx:=fun _=> .no,st:=st}with
 |none=>rw[he]at h;cases h
 |some q=>
  rw[he]at h;obtain⟨k,hk⟩:=zma.1 he;obtain⟨n,hn⟩:=execF_fuel k _ _ _ hk;refine⟨max k n+1,?_⟩;rw[zOd,hx];simp only[hf,hh];rw[if_pos ⟨hl,hv⟩];rw[zQa (zPb E n _ (yL k n)) k _ _ _ _ (yS k n) hn];exact h
theorem exec_far{E:Env}{c:ICode}{s:St}{r:Ex×St}(h:exec (zk E) c s=some r):∃N,∀M,N<=M->zE (zHc E M) M c s=some r:=by
 obtain⟨k,hk⟩:=zma.1 h;obtain⟨n,hn⟩:=execF_fuel k _ _ _ hk;refine⟨max k n,fun M hM=>?_⟩;exact zQa (zPb E n M (by omega)) k M _ _ _ (by omega) hn
theorem pcall_hand{E:Env}{f:Nat}{H:HFn}{args:List PV}{st:ze}{r:CRes×ze}(hx:E.ext f=none)(hh:E.hand f=some H)(hr:handF (exec (zk E)) H args st=some r):zk E f args st=some r:=by
 rw[zYb];suffices h:∃N,handF (zE (zHc E N) N) H args st=some r by
  obtain⟨N,hN⟩:=h;exact⟨N+1,by rw[zOd,hx];simp only[hh];exact hN⟩
 unfold handF at hr ⊢;split at hr
 case isFalse=>cases hr
 rename_i hc;simp only[if_pos hc];cases h1:exec (zk E) H.pre {fr:=frOf args 0,bx:=fun _=> .no,st:=st}with
 |none=>rw[h1]at hr;cases hr
 |some q=>
  obtain⟨e,s1⟩:=q;rw[h1]at hr;cases e<;>try(cases hr;done)
  case ret=>
   obtain⟨n1,e1⟩:=exec_far h1;exact⟨n1,by rw[e1 _ (yh _)];exact hr⟩
  simp only at hr;split at hr
  case isFalse=>cases hr
  rename_i hv;cases h2:exec (zk E) H.rest {s1 with fr:=upd s1.fr H.d (.fn H.k [] (zo s1.fr H.caps))}with
  |none=>rw[h2]at hr;cases hr
  |some q2=>
   rw[h2]at hr;cases h3:thrown (some q2)with
   |none=>rw[h3]at hr;cases hr
   |some q3=>
    rw[h3]at hr;simp only at hr;cases h4:exec (zk E) H.code (handSt H (zo s1.fr H.caps) q3)with
    |none=>rw[h4]at hr;cases hr
    |some q4=>
     rw[h4]at hr;obtain⟨n1,e1⟩:=exec_far h1;obtain⟨n2,e2⟩:=exec_far h2;obtain⟨n3,e3⟩:=exec_far h4;refine⟨max n1 (max n2 n3),?_⟩;rw[e1 _ (by omega)];simp only;rw[if_pos hv,e2 _ (by omega),h3];simp only;rw[e3 _ (by omega)];exact hr
theorem zEd{E:Env}{f:Nat}{g:List PV->ze->Option (CRes×ze)}{args:List PV}{st:ze}(hx:E.ext f=some g):zk E f args st=g args st:=by
 apply yUa;intro r;rw[zYb];constructor
 ·rintro⟨n,h⟩
  cases n with
  |zero=>cases h
  |succ n=>rw[zOd,hx]at h;exact h
 ·intro h;exact⟨1,by rw[zOd,hx];exact h⟩
def gh0(w:World):Gh where
 dfr:=[]
 fz:=fun b=>match w.heap[b]? with
  |some (.cells c _ _)=>c.size
  |_=>0
 loc:=fun _=>0
 room:=fun _=>0
 box:=fun _=>0
 cl:=fun b=>if b<w.heap.size then some .prot else none
theorem gh0_sim(w:World):SimS (gh0 w) [] w:=by
 refine⟨fun l o h=>by simp at h,fun b hb=>?_⟩;have h0:w.heap[b]? =none:=by simp[hb]
 exact⟨by simp[gh0,h0],by simp[gh0,hb]⟩
theorem gh0_im{w:World}{b o:Nat}{v:Value}(h:w.cell? ⟨b,o,none⟩=some v):(gh0 w).im w b o=some v:=by
 have h':=h;unfold World.cell? at h';simp only at h';split at h'
 ·rename_i c t fr hc;have hlt:o<c.size:=by
   simp at h';exact(yu.1 h').1
  have hf:(gh0 w).fz b=c.size:=by simp[gh0,hc]
  unfold Gh.im;rw[if_pos (by rw[hf];exact hlt)];exact h
 ·cases h'
theorem upd_at{α:Type}(f:Nat->α)(k:Nat)(v:α)(j:Nat):upd f k v j=if j=k then v else f j:=yf rfl rfl
attribute [simp] exec_seq exec_block
attribute [simp] upd_at frOf Arg.val zo zSa zRa zY zGb IOp.box? IOp.takes Where.box? zUb zXc asNat scalarEq zLb
 getAll IRes.get zCd zM zIb zvb zib zzd lenOf lenSem slcSem keyOk keyEq zqb mapSet keepFr dropBx
noncomputable abbrev W(n:Int):Int:=zra .i64 n
section
variable (tk:Nat) (ks:List Nat) (k:IntKind) (a b:Int)
@[simp] theorem unSem_not(x:Bool):unSem .not (.bool x)=some (.bool !x):=yf rfl rfl
@[simp] theorem binSem_add:zKa tk ks .add (.int k a) (.int k b)=some (.int k (zra k (a+b))):=by simp[zKa]
@[simp] theorem binSem_sub:zKa tk ks .sub (.int k a) (.int k b)=some (.int k (zra k (a-b))):=by simp[zKa]
@[simp] theorem binSem_mul:zKa tk ks .mul (.int k a) (.int k b)=some (.int k (zra k (a*b))):=by simp[zKa]
@[simp] theorem binSem_quo:zKa tk ks .quo (.int k a) (.int k b)=if b=0 then none else some (.int k (zra k (a.tdiv b))):=by simp[zKa]
@[simp] theorem binSem_rem:zKa tk ks .rem (.int k a) (.int k b)=if b=0 then none else some (.int k (remK a b)):=by simp[zKa]
@[simp] theorem binSem_eql:zKa tk ks .eql (.int k a) (.int k b)=some (.bool (decide (a=b))):=by simp[zKa]
@[simp] theorem binSem_neq:zKa tk ks .neq (.int k a) (.int k b)=some (.bool (!decide (a=b))):=by simp[zKa]
@[simp] theorem binSem_lss:zKa tk ks .lss (.int k a) (.int k b)=some (.bool (decide (a<b))):=by simp[zKa]
@[simp] theorem binSem_leq:zKa tk ks .leq (.int k a) (.int k b)=some (.bool (decide (a<=b))):=by simp[zKa]
@[simp] theorem binSem_gtr:zKa tk ks .gtr (.int k a) (.int k b)=some (.bool (decide (b<a))):=by simp[zKa]
@[simp] theorem binSem_geq:zKa tk ks .geq (.int k a) (.int k b)=some (.bool (decide (b<=a))):=by simp[zKa]
@[simp] theorem binSem_sadd(x y:List UInt8):zKa tk ks .add (.str x) (.str y)=if x.length+y.length<=9223372036854775807 then some (.str (x++y))else none:=yf rfl rfl
@[simp] theorem binSem_seql(x y:List UInt8):zKa tk ks .eql (.str x) (.str y)=some (.bool (decide (x=y))):=yf rfl rfl
@[simp] theorem binSem_sneq(x y:List UInt8):zKa tk ks .neq (.str x) (.str y)=some (.bool (!decide (x=y))):=yf rfl rfl
@[simp] theorem binSem_bneq(x y:Bool):zKa 1 ks .neq (.bool x) (.bool y)=some (.bool (!(x==y))):=yf rfl rfl
@[simp] theorem binSem_aneq(x y:List PV):zKa 4 ks .neq (.agg x) (.agg y)=(zLb ks x y).map fun b=> .bool (!b):=yf rfl rfl
end
section
@[simp] theorem s_strip_bool(b:Bool):strip (.bool b)=(.bool b):=yf rfl rfl
@[simp] theorem s_canon1_bool(b:Bool):canon1 (.bool b)=(.bool b):=yf rfl rfl
@[simp] theorem s_stripA_bool(b:Bool):stripA (.bool b)=(.bool b):=yf rfl rfl
@[simp] theorem s_isCell_bool(b:Bool):zlc (.bool b)=true:=yf rfl rfl
@[simp] theorem s_isVar_bool(b:Bool):zG (.bool b)=true:=yf rfl rfl
@[simp] theorem s_cellsOf_bool(b:Bool):cellsOf (.bool b)=[.bool b]:=yf rfl rfl
@[simp] theorem s_strip_int(k:IntKind)(n:Int):strip (.int k n)=(.int k n):=yf rfl rfl
@[simp] theorem s_canon1_int(k:IntKind)(n:Int):canon1 (.int k n)=(.int k n):=yf rfl rfl
@[simp] theorem s_stripA_int(k:IntKind)(n:Int):stripA (.int k n)=(.int k n):=yf rfl rfl
@[simp] theorem s_isCell_int(k:IntKind)(n:Int):zlc (.int k n)=true:=yf rfl rfl
@[simp] theorem s_isVar_int(k:IntKind)(n:Int):zG (.int k n)=true:=yf rfl rfl
@[simp] theorem s_cellsOf_int(k:IntKind)(n:Int):cellsOf (.int k n)=[.int k n]:=yf rfl rfl
@[simp] theorem s_strip_str(s:List UInt8):strip (.str s)=(.str s):=yf rfl rfl
@[simp] theorem s_canon1_str(s:List UInt8):canon1 (.str s)=(.str s):=yf rfl rfl
@[simp] theorem s_stripA_str(s:List UInt8):stripA (.str s)=(.str s):=yf rfl rfl
@[simp] theorem s_isCell_str(s:List UInt8):zlc (.str s)=true:=yf rfl rfl
@[simp] theorem s_isVar_str(s:List UInt8):zG (.str s)=true:=yf rfl rfl
@[simp] theorem s_cellsOf_str(s:List UInt8):cellsOf (.str s)=[.str s]:=yf rfl rfl
@[simp] theorem s_strip_ptr(l i o:Nat):strip (.ptr l i o)=(.ptr l i o):=yf rfl rfl
@[simp] theorem s_stripA_ptr(l i o:Nat):stripA (.ptr l i o)=(.ptr l i o):=yf rfl rfl
@[simp] theorem s_isVar_ptr(l i o:Nat):zG (.ptr l i o)=true:=yf rfl rfl
@[simp] theorem s_cellsOf_ptr(l i o:Nat):cellsOf (.ptr l i o)=[.ptr l i o]:=yf rfl rfl
@[simp] theorem s_stripA_iptr(l:List PV)(o:Nat):stripA (.iptr l o)=(.iptr l o):=yf rfl rfl
@[simp] theorem s_isVar_iptr(l:List PV)(o:Nat):zG (.iptr l o)=true:=yf rfl rfl
@[simp] theorem s_strip_slice_plain(z:Nat)(l:List PV):strip (.slice .plain z l)=(.slice .plain z l):=yf rfl rfl
@[simp] theorem s_canon1_slice_plain(z:Nat)(l:List PV):canon1 (.slice .plain z l)=(.slice .plain z l):=yf rfl rfl
@[simp] theorem s_stripA_slice_plain(z:Nat)(l:List PV):stripA (.slice .plain z l)=(.slice .plain z l):=yf rfl rfl
@[simp] theorem s_isCell_slice_plain(z:Nat)(l:List PV):zlc (.slice .plain z l)=true:=yf rfl rfl
@[simp] theorem s_isVar_slice_plain(z:Nat)(l:List PV):zG (.slice .plain z l)=true:=yf rfl rfl
@[simp] theorem s_cellsOf_slice_plain(z:Nat)(l:List PV):cellsOf (.slice .plain z l)=[.slice .plain z l]:=yf rfl rfl
@[simp] theorem s_strip_slice_fit(z:Nat)(l:List PV):strip (.slice .fit z l)=(.slice .fit z l):=yf rfl rfl
@[simp] theorem s_canon1_slice_fit(z:Nat)(l:List PV):canon1 (.slice .fit z l)=(.slice .plain z l):=yf rfl rfl
@[simp] theorem s_stripA_slice_fit(z:Nat)(l:List PV):stripA (.slice .fit z l)=(.slice .plain z l):=yf rfl rfl
@[simp] theorem s_isVar_slice_fit(z:Nat)(l:List PV):zG (.slice .fit z l)=true:=yf rfl rfl
@[simp] theorem s_cellsOf_slice_fit(z:Nat)(l:List PV):cellsOf (.slice .fit z l)=[.slice .fit z l]:=yf rfl rfl
@[simp] theorem s_strip_slice_own(z:Nat)(l:List PV):strip (.slice .own z l)=(.slice .plain z l):=yf rfl rfl
@[simp] theorem s_canon1_slice_own(z:Nat)(l:List PV):canon1 (.slice .own z l)=(.slice .plain z l):=yf rfl rfl
@[simp] theorem s_isOwn_slice_own(z:Nat)(l:List PV):isOwn (.slice .own z l)=some (z,l):=yf rfl rfl
@[simp] theorem s_strip_agg(l:List PV):strip (.agg l)=(.agg l):=yf rfl rfl
@[simp] theorem s_stripA_agg(l:List PV):stripA (.agg l)= .agg (l.map canon1):=yf rfl rfl
@[simp] theorem s_isCell_agg(l:List PV):zlc (.agg l)=false:=yf rfl rfl
@[simp] theorem s_isVar_agg(l:List PV):zG (.agg l)=true:=yf rfl rfl
@[simp] theorem s_cellsOf_agg(l:List PV):cellsOf (.agg l)=l:=yf rfl rfl
@[simp] theorem s_strip_tup(l:List PV):strip (.tup l)=(.tup l):=yf rfl rfl
@[simp] theorem s_strip_fn(f:Nat)(a b:List PV):strip (.fn f a b)=(.fn f a b):=yf rfl rfl
@[simp] theorem s_stripA_fn(f:Nat)(a b:List PV):stripA (.fn f a b)=(.fn f a b):=yf rfl rfl
@[simp] theorem s_isVar_fn(f:Nat)(a b:List PV):zG (.fn f a b)=true:=yf rfl rfl
@[simp] theorem s_strip_mp(r:Nat):strip (.mp r)=(.mp r):=yf rfl rfl
@[simp] theorem s_stripA_mp(r:Nat):stripA (.mp r)=(.mp r):=yf rfl rfl
@[simp] theorem s_isVar_mp(r:Nat):zG (.mp r)=true:=yf rfl rfl
@[simp] theorem s_strip_nilmap:strip (.nilmap)=(.nilmap):=yf rfl rfl
@[simp] theorem s_strip_iface(t:Nat)(v:PV):strip (.iface t v)=(.iface t v):=yf rfl rfl
@[simp] theorem s_strip_nilif:strip (.nilif)=(.nilif):=yf rfl rfl
end
def doOp(d:Option Nat)(T:List Nat)(k:Option Nat)(s:St):Option (PV×Bx×ze)->Option SR
 |some (v,b',st')=>some (.ok {fr:=zSa (zRa s.fr T) d v,bx:=zGb s.bx k b',st:=st'})
 |none=>none
@[simp] theorem doOp_some(d:Option Nat)(T:List Nat)(k:Option Nat)(s:St)(v:PV)(b:Bx)(st:ze):doOp d T k s (some (v,b,st))=some (.ok {fr:=zSa (zRa s.fr T) d v,bx:=zGb s.bx k b,st:=st}):=yf rfl rfl
@[simp] theorem kindZ_int(k:IntKind)(n:Int):kindZ (.int k n)= .fit:=yf rfl rfl
@[simp] theorem kindZ_str(n:List UInt8):kindZ (.str n)= .fit:=yf rfl rfl
@[simp] theorem kindZ_agg(n:List PV):kindZ (.agg n)= .fit:=yf rfl rfl
def appendS(sz bytes:Nat)(b:Bx)(st:ze)(x:Option (List PV)):PV->Option (PV×Bx×ze)
 | .slice .own s l=>if s=sz then
   x.bind fun l'=>if(l.length+l'.length)*bytes<=zU then some (.slice .own sz (l++l'),b,st)else none
  else none
 | .slice .fit s l=>if s=sz then
   x.bind fun l'=>
    if l'=[]then some (.slice .fit sz l,b,st)else
    if(l.length+l'.length)*bytes<=zU then some (.slice .own sz (l++l'),b,st)else none
  else none
 | .slice .firm s l=>if s=sz then
   x.bind fun l'=>
    if l'=[]then some (.slice .firm sz l,b,st)else
    if(l.length+l'.length)*bytes<=zU then some (.slice .own sz (l++l'),b,st)else none
  else none
 |_=>none
def pickS(x y:PV)(b:Bx)(st:ze):PV->Option (PV×Bx×ze)
 | .bool true=>some (strip x,b,st)
 | .bool false=>some (strip y,b,st)
 |_=>none
@[simp] theorem pickS_true(x y:PV)(b:Bx)(st:ze):pickS x y b st (.bool true)=some (strip x,b,st):=yf rfl rfl
@[simp] theorem pickS_false(x y:PV)(b:Bx)(st:ze):pickS x y b st (.bool false)=some (strip y,b,st):=yf rfl rfl
section
variable (cf:zH) (d:Option Nat) (q0:St) (fr:Fr) (b:Bx) (st:ze)
@[simp] theorem ro_mv(a:Arg):zJ cf d (.mv a) q0=doOp d (IOp.takes (.mv a)) (IOp.box? (.mv a)) q0 (IOp.sem q0.fr (zY q0.bx (IOp.box? (.mv a))) q0.st (.mv a)):=yf rfl rfl
@[simp] theorem so_mv(a:Arg):IOp.sem fr b st (.mv a)=some (strip (a.val fr),b,st):=yf rfl rfl
@[simp] theorem ro_take(s:Nat):zJ cf d (.take s) q0=doOp d (IOp.takes (.take s)) (IOp.box? (.take s)) q0 (IOp.sem q0.fr (zY q0.bx (IOp.box? (.take s))) q0.st (.take s)):=yf rfl rfl
@[simp] theorem so_take(s:Nat):IOp.sem fr b st (.take s)=some (fr s,b,st):=yf rfl rfl
@[simp] theorem ro_pick(c:Arg)(x:Arg)(y:Arg):zJ cf d (.pick c x y) q0=doOp d (IOp.takes (.pick c x y)) (IOp.box? (.pick c x y)) q0 (IOp.sem q0.fr (zY q0.bx (IOp.box? (.pick c x y))) q0.st (.pick c x y)):=yf rfl rfl
@[simp] theorem so_pick(c:Arg)(x:Arg)(y:Arg):IOp.sem fr b st (.pick c x y)=pickS (x.val fr) (y.val fr) b st (c.val fr):=yf rfl rfl
@[simp] theorem ro_boxL(k:Nat)(a:Arg):zJ cf d (.boxL k a) q0=doOp d (IOp.takes (.boxL k a)) (IOp.box? (.boxL k a)) q0 (IOp.sem q0.fr (zY q0.bx (IOp.box? (.boxL k a))) q0.st (.boxL k a)):=yf rfl rfl
@[simp] theorem so_boxL(k:Nat)(a:Arg):IOp.sem fr b st (.boxL k a)=
  match b with
  | .no=>if zG (strip (a.val fr))then some (.lptr k 0,.cells (cellsOf (strip (a.val fr))),st)else none
  |_=>none:=yf rfl rfl
@[simp] theorem ro_boxI(a:Arg):zJ cf d (.boxI a) q0=doOp d (IOp.takes (.boxI a)) (IOp.box? (.boxI a)) q0 (IOp.sem q0.fr (zY q0.bx (IOp.box? (.boxI a))) q0.st (.boxI a)):=yf rfl rfl
@[simp] theorem so_boxI(a:Arg):IOp.sem fr b st (.boxI a)=if zG (stripA (a.val fr))then some (.iptr (cellsOf (stripA (a.val fr))) 0,b,st)else none:=yf rfl rfl
@[simp] theorem ro_boxS(sz:Nat)(a:Arg):zJ cf d (.boxS sz a) q0=doOp d (IOp.takes (.boxS sz a)) (IOp.box? (.boxS sz a)) q0 (IOp.sem q0.fr (zY q0.bx (IOp.box? (.boxS sz a))) q0.st (.boxS sz a)):=yf rfl rfl
@[simp] theorem so_boxS(sz:Nat)(a:Arg):IOp.sem fr b st (.boxS sz a)=
  if zG (strip (a.val fr))&&(cellsOf (strip (a.val fr))).length==sz then some (.ptr st.length 0 0,b,st++[.arr sz [strip (a.val fr)]])else none:=yf rfl rfl
@[simp] theorem ro_build(zero:List PV)(parts:List (Nat×Nat×Arg)):zJ cf d (.build zero parts) q0=doOp d (IOp.takes (.build zero parts)) (IOp.box? (.build zero parts)) q0 (IOp.sem q0.fr (zY q0.bx (IOp.box? (.build zero parts))) q0.st (.build zero parts)):=yf rfl rfl
@[simp] theorem so_build(zero:List PV)(parts:List (Nat×Nat×Arg)):IOp.sem fr b st (.build zero parts)=(zIb fr zero parts).map fun cs=>(.agg cs,b,st):=yf rfl rfl
@[simp] theorem ro_bslice(sz:Nat)(zero:PV)(n:Nat)(parts:List (Nat×Arg)):zJ cf d (.bslice sz zero n parts) q0=doOp d (IOp.takes (.bslice sz zero n parts)) (IOp.box? (.bslice sz zero n parts)) q0 (IOp.sem q0.fr (zY q0.bx (IOp.box? (.bslice sz zero n parts))) q0.st (.bslice sz zero n parts)):=yf rfl rfl
@[simp] theorem so_bslice(sz:Nat)(zero:PV)(n:Nat)(parts:List (Nat×Arg)):IOp.sem fr b st (.bslice sz zero n parts)=(zib fr sz (yya n zero) parts).map fun es=>(.slice (kindZ zero) sz es,b,st):=yf rfl rfl
@[simp] theorem ro_load(w:Where)(ag:Bool)(sz:Nat)(a:Arg):zJ cf d (.load w ag sz a) q0=doOp d (IOp.takes (.load w ag sz a)) (IOp.box? (.load w ag sz a)) q0 (IOp.sem q0.fr (zY q0.bx (IOp.box? (.load w ag sz a))) q0.st (.load w ag sz a)):=yf rfl rfl
@[simp] theorem so_load(w:Where)(ag:Bool)(sz:Nat)(a:Arg):IOp.sem fr b st (.load w ag sz a)=
  match w,a.val fr with
  | .box k,.lptr k' off=>if k=k' then
    match b with
    | .cells cs=>(zM ag sz cs off).map fun v=>(stripA v,b,st)
    |_=>none
   else none
  | .any,.iptr cs off=>(zM ag sz cs off).map fun v=>(v,b,st)
  | .imm,.iptr cs off=>(zM ag sz cs off).map fun v=>(v,b,st)
  | .any,.ptr l i off=>
   match st[l]? with
   |some (.arr _ es)=>match es[i]? with
    |some e=>(zM ag sz (cellsOf e) off).map fun v=>(stripA v,b,st)
    |none=>none
   |_=>none
  |_,_=>none:=yf rfl rfl
@[simp] theorem ro_loadT(w:Where)(a:Arg):zJ cf d (.loadT w a) q0=doOp d (IOp.takes (.loadT w a)) (IOp.box? (.loadT w a)) q0 (IOp.sem q0.fr (zY q0.bx (IOp.box? (.loadT w a))) q0.st (.loadT w a)):=yf rfl rfl
@[simp] theorem so_loadT(w:Where)(a:Arg):IOp.sem fr b st (.loadT w a)=
  match w,a.val fr with
  | .box k,.lptr k' off=>if k=k' then
    match b with
    | .cells cs=>(cs[off]?).map fun v=>(v,.cells (cs.set off (strip v)),st)
    |_=>none
   else none
  | .any,.ptr l i off=>
   match st[l]? with
   |some (.arr sz es)=>match es[i]? with
    |some e=>((cellsOf e)[off]?).map fun v=>(v,b,st.set l (.arr sz (es.set i (zCa e ((cellsOf e).set off (strip v))))))
    |none=>none
   |_=>none
  |_,_=>none:=yf rfl rfl
@[simp] theorem ro_store(w:Where)(sz:Nat)(a:Arg)(v:Arg):zJ cf d (.store w sz a v) q0=doOp d (IOp.takes (.store w sz a v)) (IOp.box? (.store w sz a v)) q0 (IOp.sem q0.fr (zY q0.bx (IOp.box? (.store w sz a v))) q0.st (.store w sz a v)):=yf rfl rfl
@[simp] theorem so_store(w:Where)(sz:Nat)(a:Arg)(v:Arg):IOp.sem fr b st (.store w sz a v)=zUb fr b st w sz a (v.val fr):=yf rfl rfl
@[simp] theorem ro_storeT(w:Where)(a:Arg)(t:Nat):zJ cf d (.storeT w a t) q0=doOp d (IOp.takes (.storeT w a t)) (IOp.box? (.storeT w a t)) q0 (IOp.sem q0.fr (zY q0.bx (IOp.box? (.storeT w a t))) q0.st (.storeT w a t)):=yf rfl rfl
@[simp] theorem so_storeT(w:Where)(a:Arg)(t:Nat):IOp.sem fr b st (.storeT w a t)=
  match isOwn (fr t)with
  |none=>zUb fr b st w 1 a (fr t)
  |some (z,l)=>
   match w,a.val fr with
   | .box k,.lptr k' off=>if k=k' then
     match b with
     | .cells cs=>if off<cs.length then some (.undef,.cells (cs.set off (.slice .own z l)),st)else none
     |_=>none
    else none
   | .any,.ptr l' i off=>
    match st[l']? with
    |some (.arr s es)=>match es[i]? with
     |some e=>if off<(cellsOf e).length then some (.undef,b,st.set l' (.arr s (es.set i (zCa e ((cellsOf e).set off (.slice .own z l))))))else none
     |none=>none
    |_=>none
   |_,_=>none:=yf rfl rfl
@[simp] theorem ro_nilck(a:Arg):zJ cf d (.nilck a) q0=doOp d (IOp.takes (.nilck a)) (IOp.box? (.nilck a)) q0 (IOp.sem q0.fr (zY q0.bx (IOp.box? (.nilck a))) q0.st (.nilck a)):=yf rfl rfl
@[simp] theorem so_nilck(a:Arg):IOp.sem fr b st (.nilck a)=match a.val fr with
  | .iptr cs off=>some (.iptr cs off,b,st)
  | .ptr l i off=>some (.ptr l i off,b,st)
  | .lptr k off=>some (.lptr k off,b,st)
  | .fn f x y=>some (.fn f x y,b,st)
  |_=>none:=yf rfl rfl
@[simp] theorem ro_bin(tk:Nat)(ks:List Nat)(op:BinOp)(x:Arg)(y:Arg):zJ cf d (.bin tk ks op x y) q0=doOp d (IOp.takes (.bin tk ks op x y)) (IOp.box? (.bin tk ks op x y)) q0 (IOp.sem q0.fr (zY q0.bx (IOp.box? (.bin tk ks op x y))) q0.st (.bin tk ks op x y)):=yf rfl rfl
@[simp] theorem so_bin(tk:Nat)(ks:List Nat)(op:BinOp)(x:Arg)(y:Arg):IOp.sem fr b st (.bin tk ks op x y)=(zKa tk ks op (x.val fr) (y.val fr)).map (·,b,st):=yf rfl rfl
@[simp] theorem ro_un(op:UnOp)(x:Arg):zJ cf d (.un op x) q0=doOp d (IOp.takes (.un op x)) (IOp.box? (.un op x)) q0 (IOp.sem q0.fr (zY q0.bx (IOp.box? (.un op x))) q0.st (.un op x)):=yf rfl rfl
@[simp] theorem so_un(op:UnOp)(x:Arg):IOp.sem fr b st (.un op x)=(unSem op (x.val fr)).map (·,b,st):=yf rfl rfl
@[simp] theorem ro_conv(k:IntKind)(a:Arg):zJ cf d (.conv k a) q0=doOp d (IOp.takes (.conv k a)) (IOp.box? (.conv k a)) q0 (IOp.sem q0.fr (zY q0.bx (IOp.box? (.conv k a))) q0.st (.conv k a)):=yf rfl rfl
@[simp] theorem so_conv(k:IntKind)(a:Arg):IOp.sem fr b st (.conv k a)=match a.val fr with
  | .int _ n=>some (.int k (zra k n),b,st)
  |_=>none:=yf rfl rfl
@[simp] theorem ro_bstr(a:Arg):zJ cf d (.bstr a) q0=doOp d (IOp.takes (.bstr a)) (IOp.box? (.bstr a)) q0 (IOp.sem q0.fr (zY q0.bx (IOp.box? (.bstr a))) q0.st (.bstr a)):=yf rfl rfl
@[simp] theorem so_bstr(a:Arg):IOp.sem fr b st (.bstr a)=match a.val fr with
  | .slice _ 1 l=>(bytesV l).map fun s=>(.str s,b,st)
  |_=>none:=yf rfl rfl
@[simp] theorem bytesV_nil:bytesV []=some []:=yf rfl rfl
@[simp] theorem bytesV_cons(n:Int)(r:List PV):bytesV (.int .u8 n::r)=(bytesV r).map (yY n.toNat:: ·):=yf rfl rfl
@[simp] theorem ro_mkif(t:Nat)(a:Arg):zJ cf d (.mkif t a) q0=doOp d (IOp.takes (.mkif t a)) (IOp.box? (.mkif t a)) q0 (IOp.sem q0.fr (zY q0.bx (IOp.box? (.mkif t a))) q0.st (.mkif t a)):=yf rfl rfl
@[simp] theorem so_mkif(t:Nat)(a:Arg):IOp.sem fr b st (.mkif t a)=if zG (stripA (a.val fr))then some (.iface t (stripA (a.val fr)),b,st)else none:=yf rfl rfl
@[simp] theorem ro_mkfn(f:Nat)(first:List Arg)(caps:List Arg):zJ cf d (.mkfn f first caps) q0=doOp d (IOp.takes (.mkfn f first caps)) (IOp.box? (.mkfn f first caps)) q0 (IOp.sem q0.fr (zY q0.bx (IOp.box? (.mkfn f first caps))) q0.st (.mkfn f first caps)):=yf rfl rfl
@[simp] theorem so_mkfn(f:Nat)(first:List Arg)(caps:List Arg):IOp.sem fr b st (.mkfn f first caps)=
  if(first.map fun a=>stripA (a.val fr)).all zG&&(caps.map fun a=>stripA (a.val fr)).all zG then
   some (.fn f (first.map fun a=>stripA (a.val fr)) (caps.map fun a=>stripA (a.val fr)),b,st)
  else none:=yf rfl rfl
@[simp] theorem ro_mkmap:zJ cf d (.mkmap) q0=doOp d (IOp.takes (.mkmap)) (IOp.box? (.mkmap)) q0 (IOp.sem q0.fr (zY q0.bx (IOp.box? (.mkmap))) q0.st (.mkmap)):=yf rfl rfl
@[simp] theorem so_mkmap:IOp.sem fr b st (.mkmap)=some (.mp st.length,b,st++[.mp []]):=yf rfl rfl
@[simp] theorem ro_lookup(ks:Bool)(ok:Bool)(zero:PV)(m:Arg)(k:Arg):zJ cf d (.lookup ks ok zero m k) q0=doOp d (IOp.takes (.lookup ks ok zero m k)) (IOp.box? (.lookup ks ok zero m k)) q0 (IOp.sem q0.fr (zY q0.bx (IOp.box? (.lookup ks ok zero m k))) q0.st (.lookup ks ok zero m k)):=yf rfl rfl
@[simp] theorem so_lookup(ks:Bool)(ok:Bool)(zero:PV)(m:Arg)(k:Arg):IOp.sem fr b st (.lookup ks ok zero m k)=
  if keyOk (k.val fr)then
  match m.val fr with
  | .nilmap=>if ok then some (.tup [zero,.bool false],b,st)else some (zero,b,st)
  | .mp r=>match st[r]? with
   |some (.mp es)=>(zqb ks (k.val fr) es).map fun
    |some v=>(if ok then .tup [v,.bool true]else v,b,st)
    |none=>(if ok then .tup [zero,.bool false]else zero,b,st)
   |_=>none
  |_=>none
  else none:=yf rfl rfl
@[simp] theorem ro_mapset(ks:Bool)(m:Arg)(k:Arg)(v:Arg):zJ cf d (.mapset ks m k v) q0=doOp d (IOp.takes (.mapset ks m k v)) (IOp.box? (.mapset ks m k v)) q0 (IOp.sem q0.fr (zY q0.bx (IOp.box? (.mapset ks m k v))) q0.st (.mapset ks m k v)):=yf rfl rfl
@[simp] theorem so_mapset(ks:Bool)(m:Arg)(k:Arg)(v:Arg):IOp.sem fr b st (.mapset ks m k v)=
  if zG (stripA (v.val fr))&&keyOk (k.val fr)then
  match m.val fr with
  | .mp r=>match st[r]? with
   |some (.mp es)=>(mapSet ks (k.val fr) (stripA (v.val fr)) es).map fun es'=>(.undef,b,st.set r (.mp es'))
   |_=>none
  |_=>none
  else none:=yf rfl rfl
@[simp] theorem ro_slc(isS:Bool)(z:Nat)(x:Arg)(lo:Option Arg)(hi:Option Arg)(mx:Option Arg):zJ cf d (.slc isS z x lo hi mx) q0=doOp d (IOp.takes (.slc isS z x lo hi mx)) (IOp.box? (.slc isS z x lo hi mx)) q0 (IOp.sem q0.fr (zY q0.bx (IOp.box? (.slc isS z x lo hi mx))) q0.st (.slc isS z x lo hi mx)):=yf rfl rfl
@[simp] theorem so_slc(isS:Bool)(z:Nat)(x:Arg)(lo:Option Arg)(hi:Option Arg)(mx:Option Arg):IOp.sem fr b st (.slc isS z x lo hi mx)=
  match zXc fr lo 0,zXc fr hi (lenOf 0 (x.val fr)),(match mx with|none=>some none|some a=>(asNat (a.val fr)).map some)with
  |some l,some h,some m=>(slcSem isS z (x.val fr) l h m).map (·,b,st)
  |_,_,_=>none:=yf rfl rfl
@[simp] theorem ro_faddr(off:Nat)(a:Arg):zJ cf d (.faddr off a) q0=doOp d (IOp.takes (.faddr off a)) (IOp.box? (.faddr off a)) q0 (IOp.sem q0.fr (zY q0.bx (IOp.box? (.faddr off a))) q0.st (.faddr off a)):=yf rfl rfl
@[simp] theorem so_faddr(off:Nat)(a:Arg):IOp.sem fr b st (.faddr off a)=match a.val fr with
  | .iptr cs o=>some (.iptr cs (o+off),b,st)
  | .ptr l i o=>some (.ptr l i (o+off),b,st)
  | .lptr k o=>some (.lptr k (o+off),b,st)
  |_=>none:=yf rfl rfl
@[simp] theorem ro_iaddr(sz:Nat)(a:Arg)(i:Arg):zJ cf d (.iaddr sz a i) q0=doOp d (IOp.takes (.iaddr sz a i)) (IOp.box? (.iaddr sz a i)) q0 (IOp.sem q0.fr (zY q0.bx (IOp.box? (.iaddr sz a i))) q0.st (.iaddr sz a i)):=yf rfl rfl
@[simp] theorem so_iaddr(sz:Nat)(a:Arg)(i:Arg):IOp.sem fr b st (.iaddr sz a i)=match asNat (i.val fr),a.val fr with
  |some n,.slice _ s l=>if s=sz then(l[n]?).map fun e=>(.iptr (cellsOf e) 0,b,st)else none
  |some n,.mslice l off ln s=>if s=sz/\n<ln then some (.ptr l (off+n) 0,b,st)else none
  |_,_=>none:=yf rfl rfl
@[simp] theorem ro_iaddrA(n:Nat)(sz:Nat)(a:Arg)(i:Arg):zJ cf d (.iaddrA n sz a i) q0=doOp d (IOp.takes (.iaddrA n sz a i)) (IOp.box? (.iaddrA n sz a i)) q0 (IOp.sem q0.fr (zY q0.bx (IOp.box? (.iaddrA n sz a i))) q0.st (.iaddrA n sz a i)):=yf rfl rfl
@[simp] theorem so_iaddrA(n:Nat)(sz:Nat)(a:Arg)(i:Arg):IOp.sem fr b st (.iaddrA n sz a i)=match asNat (i.val fr),a.val fr with
  |some j,.iptr cs o=>if j<n then some (.iptr cs (o+j*sz),b,st)else none
  |some j,.ptr l i o=>if j<n then some (.ptr l i (o+j*sz),b,st)else none
  |some j,.lptr k o=>if j<n then some (.lptr k (o+j*sz),b,st)else none
  |_,_=>none:=yf rfl rfl
@[simp] theorem ro_idxS(a:Arg)(i:Arg):zJ cf d (.idxS a i) q0=doOp d (IOp.takes (.idxS a i)) (IOp.box? (.idxS a i)) q0 (IOp.sem q0.fr (zY q0.bx (IOp.box? (.idxS a i))) q0.st (.idxS a i)):=yf rfl rfl
@[simp] theorem so_idxS(a:Arg)(i:Arg):IOp.sem fr b st (.idxS a i)=match a.val fr,asNat (i.val fr)with
  | .str s,some n=>(s[n]?).map fun c=>(.int .u8 c.toNat,b,st)
  |_,_=>none:=yf rfl rfl
@[simp] theorem ro_ifnil(q:Bool)(a:Arg):zJ cf d (.ifnil q a) q0=doOp d (IOp.takes (.ifnil q a)) (IOp.box? (.ifnil q a)) q0 (IOp.sem q0.fr (zY q0.bx (IOp.box? (.ifnil q a))) q0.st (.ifnil q a)):=yf rfl rfl
@[simp] theorem so_ifnil(q:Bool)(a:Arg):IOp.sem fr b st (.ifnil q a)=match a.val fr with
  | .nilif=>some (.bool !q,b,st)
  | .iface _ _=>some (.bool q,b,st)
  |_=>none:=yf rfl rfl
@[simp] theorem ro_tassert(q:Nat)(a:Arg):zJ cf d (.tassert q a) q0=doOp d (IOp.takes (.tassert q a)) (IOp.box? (.tassert q a)) q0 (IOp.sem q0.fr (zY q0.bx (IOp.box? (.tassert q a))) q0.st (.tassert q a)):=yf rfl rfl
@[simp] theorem so_tassert(q:Nat)(a:Arg):IOp.sem fr b st (.tassert q a)=match a.val fr with
  | .iface t' v=>if q=t' then some (v,b,st)else none
  |_=>none:=yf rfl rfl
@[simp] theorem ro_ext(a:Arg)(i:Nat):zJ cf d (.ext a i) q0=doOp d (IOp.takes (.ext a i)) (IOp.box? (.ext a i)) q0 (IOp.sem q0.fr (zY q0.bx (IOp.box? (.ext a i))) q0.st (.ext a i)):=yf rfl rfl
@[simp] theorem so_ext(a:Arg)(i:Nat):IOp.sem fr b st (.ext a i)=match a.val fr with
  | .tup vs=>(vs[i]?).map (·,b,st)
  |_=>none:=yf rfl rfl
@[simp] theorem ro_fld(ag:Bool)(off:Nat)(sz:Nat)(a:Arg):zJ cf d (.fld ag off sz a) q0=doOp d (IOp.takes (.fld ag off sz a)) (IOp.box? (.fld ag off sz a)) q0 (IOp.sem q0.fr (zY q0.bx (IOp.box? (.fld ag off sz a))) q0.st (.fld ag off sz a)):=yf rfl rfl
@[simp] theorem so_fld(ag:Bool)(off:Nat)(sz:Nat)(a:Arg):IOp.sem fr b st (.fld ag off sz a)=match a.val fr with
  | .agg cs=>(zM ag sz cs off).map (·,b,st)
  |_=>none:=yf rfl rfl
@[simp] theorem ro_len(tk:Nat)(a:Arg):zJ cf d (.len tk a) q0=doOp d (IOp.takes (.len tk a)) (IOp.box? (.len tk a)) q0 (IOp.sem q0.fr (zY q0.bx (IOp.box? (.len tk a))) q0.st (.len tk a)):=yf rfl rfl
@[simp] theorem so_len(tk:Nat)(a:Arg):IOp.sem fr b st (.len tk a)=(lenSem st tk (a.val fr)).map (·,b,st):=yf rfl rfl
@[simp] theorem ro_append(sz:Nat)(bytes:Nat)(a:Arg)(x:Arg):zJ cf d (.append sz bytes a x) q0=doOp d (IOp.takes (.append sz bytes a x)) (IOp.box? (.append sz bytes a x)) q0 (IOp.sem q0.fr (zY q0.bx (IOp.box? (.append sz bytes a x))) q0.st (.append sz bytes a x)):=yf rfl rfl
@[simp] theorem so_append(sz:Nat)(bytes:Nat)(a:Arg)(x:Arg):IOp.sem fr b st (.append sz bytes a x)=appendS sz bytes b st (zJb st sz (x.val fr)) (a.val fr):=yf rfl rfl
@[simp] theorem ro_rng(k:Nat)(a:Arg):zJ cf d (.rng k a) q0=doOp d (IOp.takes (.rng k a)) (IOp.box? (.rng k a)) q0 (IOp.sem q0.fr (zY q0.bx (IOp.box? (.rng k a))) q0.st (.rng k a)):=yf rfl rfl
@[simp] theorem so_rng(k:Nat)(a:Arg):IOp.sem fr b st (.rng k a)=match b,a.val fr with
  | .no,.str s=>some (.lptr k 0,.iter s 0,st)
  |_,_=>none:=yf rfl rfl
@[simp] theorem ro_next(k:Nat)(a:Arg):zJ cf d (.next k a) q0=doOp d (IOp.takes (.next k a)) (IOp.box? (.next k a)) q0 (IOp.sem q0.fr (zY q0.bx (IOp.box? (.next k a))) q0.st (.next k a)):=yf rfl rfl
@[simp] theorem so_next(k:Nat)(a:Arg):IOp.sem fr b st (.next k a)=match b,a.val fr with
  | .iter s pos,.lptr k' 0=>if k=k' then
    if pos<s.length then
     some (.tup [.bool true,.int .i64 pos,.int .i32 (Utf8.decode ⟨s.toArray⟩ pos).1],.iter s (pos+(Utf8.decode ⟨s.toArray⟩ pos).2),st)
    else some (.tup [.bool false],b,st)
   else none
  |_,_=>none:=yf rfl rfl
@[simp] theorem ro_call(pk:Bool)(f:Arg)(args:List Arg):zJ cf d (.call pk f args) q0=
  match f.val q0.fr with
  | .fn k first caps=>
   if(zo q0.fr args).all zG then
   match cf k (first++zo q0.fr args++caps) q0.st with
   |some (.ret v,st')=>some (.ok {fr:=zSa q0.fr d v,bx:=q0.bx,st:=st'})
   |some (.pan v,st')=>if pk then some (.pan v st')else none
   |none=>none
   else none
  |_=>none:=yf rfl rfl
@[simp] theorem ro_callP(pk:Bool)(f:Arg)(args:List Arg):zJ cf d (.callP pk f args) q0=
  match f.val q0.fr with
  | .fn k first caps=>
   if(zo q0.fr args).all zG&&zZ 0 (first++zo q0.fr args++caps)then
   match cf k (first++zo q0.fr args++caps) []with
   |some (.ret v,_)=>if zD 0 v then some (.ok {fr:=zSa q0.fr d v,bx:=q0.bx,st:=q0.st})else none
   |some (.pan v,_)=>if pk&&zD 0 v then some (.pan v q0.st)else none
   |none=>none
   else none
  |_=>none:=yf rfl rfl
@[simp] theorem so_loadB(ag:Bool)(sz:Nat)(a:Arg):IOp.sem fr b st (.loadB ag sz a)=(match a.val fr with
  | .ptr l i off=>(bigAt st l).bind fun es=>(es[i]?).bind fun e=>(zM ag sz (cellsOf e) off).map fun v=>(stripA v,b,st)
  |_=>none):=yf rfl rfl
@[simp] theorem ro_loadN(q:Nat)(ag:Bool)(sz:Nat)(a:Arg):zJ cf d (.loadN q ag sz a) q0=doOp d (IOp.takes (.loadN q ag sz a)) (IOp.box? (.loadN q ag sz a)) q0 (IOp.sem q0.fr (zY q0.bx (IOp.box? (.loadN q ag sz a))) q0.st (.loadN q ag sz a)):=yf rfl rfl
@[simp] theorem so_loadN(q:Nat)(ag:Bool)(sz:Nat)(a:Arg):IOp.sem fr b st (.loadN q ag sz a)=(match a.val fr with
  | .ptr l i off=>if l=q then(match st[q]? with
   |some (.arr _ es)=>match es[i]? with
    |some e=>(zM ag sz (cellsOf e) off).map fun v=>(stripA v,b,st)
    |none=>none
   |_=>none)else none
  |_=>none):=yf rfl rfl
@[simp] theorem ro_storeN(q:Nat)(sz:Nat)(a v:Arg):zJ cf d (.storeN q sz a v) q0=doOp d (IOp.takes (.storeN q sz a v)) (IOp.box? (.storeN q sz a v)) q0 (IOp.sem q0.fr (zY q0.bx (IOp.box? (.storeN q sz a v))) q0.st (.storeN q sz a v)):=yf rfl rfl
@[simp] theorem so_storeN(q:Nat)(sz:Nat)(a v:Arg):IOp.sem fr b st (.storeN q sz a v)=(match a.val fr with
  | .ptr l i off=>if l=q then(if zG (strip (v.val fr))&&(cellsOf (strip (v.val fr))).length==sz then
   match st[q]? with
   |some (.arr s es)=>match es[i]? with
    |some e=>if off+sz<=(cellsOf e).length/\(isAggV e||zlc (strip (v.val fr)))=true then some (.undef,b,st.set q (.arr s (es.set i (zCa e (zzd (cellsOf e) off (cellsOf (strip (v.val fr))))))))else none
    |none=>none
   |_=>none else none)else none
  |_=>none):=yf rfl rfl
@[simp] theorem ro_panic(a:Arg):zJ cf d (.panic a) q0=match a.val q0.fr with
  | .iface t v=>some (.pan (.iface t v) q0.st)
  |_=>none:=yf rfl rfl
end
@[simp] theorem av_int(dead:List Nat)(k:IntKind)(m:Int):avoids dead (.int k m)=true:=yf rfl rfl
@[simp] theorem av_str(dead:List Nat)(s:List UInt8):avoids dead (.str s)=true:=yf rfl rfl
@[simp] theorem av_ptr(dead:List Nat)(l i o:Nat):avoids dead (.ptr l i o)=true:=yf rfl rfl
@[simp] theorem av_slice(dead:List Nat)(k:SK)(z:Nat)(l:List PV):avoids dead (.slice k z l)=true:=yf rfl rfl
@[simp] theorem av_lptr(dead:List Nat)(k o:Nat):avoids dead (.lptr k o)= !dead.contains k:=yf rfl rfl
@[simp] theorem appendS_own(sz bytes:Nat)(b:Bx)(st:ze)(x:Option (List PV))(s:Nat)(l:List PV):appendS sz bytes b st x (.slice .own s l)=(if s=sz then x.bind fun l'=>if(l.length+l'.length)*bytes<=zU then some (.slice .own sz (l++l'),b,st)else none else none):=yf rfl rfl
@[simp] theorem appendS_fit(sz bytes:Nat)(b:Bx)(st:ze)(x:Option (List PV))(s:Nat)(l:List PV):appendS sz bytes b st x (.slice .fit s l)=(if s=sz then x.bind fun l'=>if l'=[]then some (.slice .fit sz l,b,st)else if(l.length+l'.length)*bytes<=zU then some (.slice .own sz (l++l'),b,st)else none else none):=yf rfl rfl
@[simp] theorem avoids_nil(v:PV):avoids [] v=true:=by cases v<;>rfl
@[simp] theorem src_slice(st:ze)(sz z:Nat)(k:SK)(l:List PV):zJb st sz (.slice k z l)=if sz=z then some l else none:=yf rfl rfl
end PE
