/-
  Texts joined by program: PfOpJ, PfOpK, PfStep, PfDraw, PfOrd, PfExec, PfFz, PfKeep, PfFn, PfCall, PfSimp, PfWp, AKP0, AKU0, PfOps.
-/
import Derived.Test.YthfognkjnkadeaaGreatDoorD01
import Derived.Laws.BytesString
import Derived.Laws.Runes
import Derived.Orders
import Derived.Recover
import Derived.RowKit3
set_option linter.unusedVariables false
set_option linter.unusedSectionVars false
set_option linter.unusedSimpArgs false
open Array renaming append_assoc→yib,eq_empty_of_size_eq_zero→yBa,getD_eq_getD_getElem?→yca,getElem?_append_left→yza,getElem?_append_right→yMa,getElem?_eq_getElem→yO,getElem?_eq_some_iff→yr,getElem?_setIfInBounds→yta
open Bool renaming and_eq_true→yb,false_eq_true→yAa,false_or→yQ,not_eq_true'→yH,or_eq_true→yS,true_and→yka
open Eq renaming trans→ye
open Function renaming comp_def→yM
open Go.IntKind renaming bits→yja,wrap→yEa
open List renaming all_cons→yea,all_eq_true→yq,append_assoc→yR,cons_append→yT,eq_nil_of_length_eq_zero→yA,ext_getElem?→yba,getElem?_append_left→yf,getElem?_append_right→yh,getElem?_cons_succ→yU,getElem?_cons_zero→yya,getElem?_drop→yK,getElem?_eq_getElem→yg,getElem?_eq_none→yP,getElem?_eq_some_iff→ya,getElem?_map→yo,getElem?_set→ypa,getElem?_set_ne→yk,getElem?_set_self→yl,getElem?_take→yE,getElem?_toArray→yD,length→yV,length_append→yi,length_cons→yj,length_map→yu,length_nil→yn,length_set→ywa,length_singleton→yC,map_cons→yp,map_nil→yxa,mem_append→yx,mem_cons→yw,mem_cons_of_mem→ySa,mem_cons_self→yJa,mem_flatMap→yCa,mem_iff_getElem?→yZ,mem_of_getElem?→yga,range→yI,replicate→yX,size_toArray→ysa,toArray→yWa
open Nat renaming add_assoc→yPa,add_mul→yJ,le_max_left→yNa,le_max_right→yKa,le_refl→yd,le_trans→yfa,lt_or_ge→yB,mul_le_mul_right→yv,strongRecOn→yFa,zero_add→yaa
open Option renaming bind_eq_some_iff→yia,getD_some→yoa,map_eq_some_iff→yc,map_some→yN
open Go.Result renaming andThen_ok→ym
open UInt8 renaming ofNat→yG
namespace PE
open Go
section
variable {P:Program} {G G':Gh} {N:Nat} {s:St} {a:Act} {w w':World} {oper:Oper} {b b':Bx} {st':zc} {v:PV}
theorem obj_row{l off ln sz:Nat}{es:List PV}{arr:Array Value}{e:Nat}(hS:SimS G s.st w)(hst:s.st[l]? =some (.arr sz es))(hpos:0<sz)(hle:off+ln<=es.length)(c3:w.heap[G.loc l]? =some (.cells arr e (0,0))):
  off*sz+ln*sz<=arr.size/\((arr.toList.drop (off*sz)).take (ln*sz)).length=ln*sz/\RowR (G.im w) (zk G.lc s.st) sz (((es.drop off).take ln).map stripA) ((arr.toList.drop (off*sz)).take (ln*sz)).toArray:=by
 obtain⟨c1,c2,arr',e',c3',c4,c5⟩:=hS.obj l _ hst;rw[c3]at c3';cases c3';have hlen:(((es.drop off).take ln).map stripA).length=ln:=by simp;omega
 have hb:off*sz+ln*sz<=arr.size:=by
  refine yfa ?_ c4.2;rw[<-yJ];exact yv _ hle
 have hget:∀(q:Nat) x,(arr.toList.drop (off*sz)|>.take (ln*sz))[q]? =some x->q<ln*sz/\arr[off*sz+q]? =some x:=by
  intro q x hq;rw[yE]at hq;split at hq
  ·rename_i hlt;rw[yK]at hq;exact⟨hlt,by simpa using hq⟩
  ·cases hq
 have hlen2:((arr.toList.drop (off*sz)).take (ln*sz)).length=ln*sz:=by simp;omega
 refine⟨hb,hlen2,by rw[ysa,hlen2,hlen],?_,?_,?_⟩
 ·intro i p hp;simp only[yo,yE,yK,yc]at hp;obtain⟨p0,hp0,rfl⟩:=hp;split at hp0
  ·obtain⟨q1,q2,q3⟩:=c5 _ p0 hp0;exact⟨by rw[zvb,yu,q1],stripA_var q2⟩
  ·cases hp0
 ·intro q x hq;obtain⟨h1,h2⟩:=hget q x (by simpa using hq);have hdiv:(off*sz+q)/sz<es.length:=(Nat.div_lt_iff_lt_mul hpos).2 (by have:=yv sz hle;rw[yJ]at this;omega);have e3:es[(off*sz+q)/sz]? =some es[(off*sz+q)/sz]:=by simp[hdiv]
  obtain⟨q1,q2,q3⟩:=c5 _ _ e3;have hm:(off*sz+q)%sz<(cellsOf es[(off*sz+q)/sz]).length:=by rw[q1];exact Nat.mod_lt _ hpos
  obtain⟨mv,m1,m2⟩:=q3 _ _ (yg hm);rw[Nat.mul_comm,Nat.div_add_mod,h2]at m1;cases m1;exact m2.1
 ·intro i p j c x hp hc' hx;simp only[yo,yE,yK,yc]at hp;obtain⟨p0,hp0,rfl⟩:=hp;split at hp0
  case isFalse=>cases hp0
  rename_i hi;obtain⟨q1,q2,q3⟩:=c5 _ p0 hp0;obtain⟨h1,h2⟩:=hget _ x (by simpa using hx);rw[zvb,yo,yc]at hc';obtain⟨c0,hc0,rfl⟩:=hc';obtain⟨mv,m1,m2⟩:=q3 j c0 hc0;rw[show(off+i)*sz+j=off*sz+(i*sz+j)from by rw[yJ];omega,h2]at m1;cases m1;exact m2.strip.canon1
theorem Sim.kill(hS:Sim G N s a w){l:Nat}{ob:Obj}(hl:s.st[l]? =some ob):Sim G N {s with st:=s.st.set l (.dead ob.sz)} a w/\zk G.lc (s.st.set l (.dead ob.sz))=zk G.lc s.st:=by
 have hL:zk G.lc (s.st.set l (.dead ob.sz))=zk G.lc s.st:=locOf_set G.lc s.st hl rfl;refine⟨⟨hS.defers,hS.size,?_,hS.hi,hS.lp,?_,?_,hS.store.fresh⟩,hL⟩
 ·intro t ht;show TR _ _ (zk G.lc (s.st.set l (.dead ob.sz))) _ _ _
  rw[hL];exact hS.tmp t ht
 ·intro k;show BxR _ _ (zk G.lc (s.st.set l (.dead ob.sz))) _ _
  rw[hL];exact hS.box k
 ·intro l' ob' hl';show ObjR _ _ (zk G.lc (s.st.set l (.dead ob.sz))) _ _
  rw[hL];simp only at hl';by_cases e:l=l'
  ·subst e;rw[yl (ya.1 hl).1]at hl';cases hl';trivial
  ·rw[yk e]at hl';exact hS.store.obj l' ob' hl'
theorem good_grown{sz n cap:Nat}{es:List PV}{arr0 arr:Array Value}{e:Nat}{s1:St}(hS:Sim G N s1 a w)(hL0:(zk G.lc s.st).le (zk G.lc s1.st))(hd:∀t,oper.dst=some t->t<N)
  (hrow:RowR (G.im w) (zk G.lc s1.st) sz es arr0) (hp:∀(q:Nat) x,arr0[q]? =some x->arr[q]? =some x) (hlen:es.length=n) (hcap:n<=cap) (hsz:arr.size=cap*sz)
  (hrun:(execOp a.eval oper).run P w= .ok (.value (.slice (some ⟨w.heap.size,0,none⟩) n cap)) (w.drew.alloc (.cells arr e))):
  zzb P oper N G s a w (.mslice s1.st.length 0 n sz) s1.fr s1.bx (s1.st++[.arr sz es]):=by
 have hSd:=hS.drew;obtain⟨hS',hE⟩:=hSd.alloc (.cells arr e) (by first|rfl|trivial) (G':={G with cl:=upd G.cl w.heap.size (some (.loc s1.st.length)),loc:=upd G.loc s1.st.length w.heap.size,room:=upd G.room s1.st.length arr.size}) (fun _ _=>rfl) (fun b hb=>zkb _ _ hb)
  (fun l o hl=>pair_upd (by have:=(ya.1 hl).1;omega)) (fun _ _=>rfl)
 have hpush:=hS'.push (.arr sz es) (by
  refine rowR_obj (e:=e) hrow hp hE.im (Loc.le_trans hE.loc (zRa _ _ _)) (by simp[upd]) ?_ (by simp only[upd,if_true];exact heap_alloc_new w.drew _) (by simp[upd]) (by rw[hsz,hlen];exact yv _ hcap);simp only[upd,if_true];exact(hS.store.fresh _ (yd _)).1)
 refine zsc (s1:={s1 with st:=s1.st++[_]}) hd hrun hpush ⟨hE.im,Loc.le_trans hL0 (Loc.le_trans hE.loc (zRa _ _ _)),hE.prot,hE.size,hE.os,hE.output,hE.frozen,hE.dfr⟩ (fun κ=>VR.tr ?_) (by simp);have hL:zk ({G with cl:=upd G.cl w.heap.size (some (.loc s1.st.length)),loc:=upd G.loc s1.st.length w.heap.size,room:=upd G.room s1.st.length arr.size}:Gh).lc (s1.st++[.arr sz es]) s1.st.length=some (w.heap.size,sz,arr.size):=by
  simp[zk,Gh.lc,upd,Obj.sz]
 have:=VR.mslice (I:=({G with cl:=upd G.cl w.heap.size (some (.loc s1.st.length)),loc:=upd G.loc s1.st.length w.heap.size,room:=upd G.room s1.st.length arr.size}:Gh).im (w.drew.alloc (.cells arr e))) (off:=0) (len:=n) (cap:=cap) hL hcap (by rw[hsz,yaa];exact yd _);simpa using this
theorem op_appendS{sz by_:Nat}{x y:Arg}(hS:Sim G N s a w)(hd:∀t,oper.dst=some t->t<N)(hc:zm P oper.op (.appendS sz by_ x y)=true)(h:(IOp.appendS sz by_ x y).sem s.fr b s.st=some (v,b',st')):
  b'=b/\zzb P oper N G s a w v s.fr s.bx st':=by
 simp only[zm]at hc;split at hc
 case h_2=>cases hc
 rename_i c ho;split at hc
 case h_2=>cases hc
 rename_i hcal;simp only[yb]at hc;obtain⟨hargs,hT⟩:=hc;split at hargs
 case h_2=>cases hargs
 rename_i x' y' hxy;simp only[yb]at hargs;obtain⟨hx,hy⟩:=hargs;obtain⟨t,u,e,i,z,hts,ht,hu,hsz,hi,hby,hbp,hpos,hz,hzs⟩:=okAppT_info hT;have hargs':c.args= #[x',y']:=by
  have:=congrArg yWa hxy;simpa using this
 have hts':c.argTypes= #[t,u]:=by
  have:=congrArg yWa hts;simpa using this
 have hrun:(execOp a.eval oper).run P w=((Builtin.append_ #[t,u] oper.type #[a.eval x',a.eval y']).run P w).andThen fun v w'=> .ok (.value v) w':=by
  simp[execOp,ho,resolve,hcal,hargs',hts',invoke,builtin]
 subst hby;simp only[IOp.sem]at h;split at h
 ·
  rename_i sz' hv;split at h
  case isFalse=>cases h
  rename_i hz';obtain rfl:sz=sz':=hz'.symm;simp only[yia]at h;obtain⟨l',hl',h⟩:=h;obtain⟨s1,news,s2,s3,s4⟩:=src_run (P:=P) hS hy hpos hl';have hvr:=zda hS hx hv (by simp) (by simp);have hev:∃ad,a.eval x'= .slice ad 0 0:=by
   generalize a.eval x'=m at hvr;cases hvr with
   |slice0 _ _ ad cap hk hf=>rw[hf rfl];exact⟨ad,rfl⟩
   |slice hk hf=>rw[hf rfl];exact⟨_,rfl⟩
  obtain⟨ad,hev⟩:=hev;split at h
  ·
   rename_i hnil;cases h;subst hnil;refine⟨rfl,?_⟩;have hn0:news=[]:=yA (by simpa using s2);subst hn0;have hr:=run_append_empty (P:=P) (ty:=oper.type) ht hu hsz (ad:=ad) (n:=0) (cap:=0) s1 (s4 w (fun _ _=>rfl)) (yd 0);refine⟨_,.slice ad 0 0,w,G,by rw[hrun,hev,hr];rfl,.inl rfl,?_,Ext.refl _ _ _⟩;exact hS.put hd (v:= .slice .fit sz []) (mv:= .slice ad 0 0) (fun q hq=>VR.tr (.slice0 _ _ _ _ (by simp) (fun _=>rfl))) (by simp)
  split at h
  case isFalse=>cases h
  rename_i hbound;obtain⟨hl0,hbound⟩:=hbound;cases h;refine⟨rfl,?_⟩;have hfo:(Builtin.firstCells sz 0 (.slice ad 0 0)).run P w.drew= .ok ([]:List Value).toArray w.drew:=by
   cases ad<;>simp[Builtin.firstCells,loadCells,loadCellsFrom]
  have hr:=zrc (P:=P) (ty:=oper.type) (ad:=ad) (n:=0) (cap:=0) (olds:=[]) ht hu hsz hi hz s1 (s4 w.drew (fun _ _=>rfl)) hfo hbp (by omega) (by rw[yaa];exact hbound);simp only[yaa]at hr;have hge:=grownCap_ge w l'.length 0 e;refine good_grown (s1:=s) (arr0:=news.toArray) (arr:=([]:List Value).toArray++news.toArray++Builtin.zeroCells z.cells (grownCap w l'.length 0 e-l'.length)) (e:=e) hS (Loc.le_refl _) hd s3 ?_ rfl hge ?_ ?_
  ·intro q p hq;simp only[yD]at hq;have hlt:=(ya.1 hq).1;rw[yza (by simpa using hlt)];simpa using hq
  ·have:=size_zeroCells z.cells (grownCap w l'.length 0 e-l'.length);simp only[Array.size_append,ysa,yn,s2,this,hzs];rw[Nat.sub_mul];have:=yv sz hge;omega
  ·rw[hrun,hev,hr];rfl
 ·
  rename_i l n sz' hv;split at h
  case isFalse=>cases h
  rename_i hz';obtain rfl:sz=sz':=hz'.symm;simp only[yia]at h;obtain⟨l0,hl0,l',hl',h⟩:=h;split at h
  case isFalse=>cases h
  rename_i hbound;obtain⟨hpos',hbound⟩:=hbound;cases h;refine⟨rfl,?_⟩;obtain⟨s1,news,s2,s3,s4⟩:=src_run (P:=P) hS hy hpos hl';simp only[zlb,if_true]at hl0;split at hl0
  case h_2=>cases hl0
  rename_i s0 es hst;split at hl0
  case isFalse=>cases hl0
  rename_i hcond;simp only[yb,beq_iff_eq,decide_eq_true_eq]at hcond;obtain⟨rfl,hle⟩:=hcond;have hl0':=(Option.some.inj hl0).symm;have hvr:=zda hS hx hv (by simp) (by simp);have hloc:zk G.lc s.st l=some (G.loc l,s0,G.room l):=by simp[zk,Gh.lc,hst,Obj.sz]
  obtain⟨c1,c2,arr,e0,c3,c4,c5⟩:=hS.store.obj l _ hst;have hev:∃cap,a.eval x'= .slice (some ⟨G.loc l,0,none⟩) (n+1) cap/\n+1<=cap/\cap*s0<=arr.size:=by
   generalize a.eval x'=m at hvr;cases hvr with
   |mslice hL hc' hr'=>
    rw[hloc]at hL;cases hL;refine⟨_,by rw[Nat.zero_mul],hc',?_⟩;rw[c4.1];rw[yaa]at hr';exact hr'
  obtain⟨cap,hev,hcap,hroomA⟩:=hev;have hlen0:l0.length=n+1:=by rw[hl0'];simp;omega
  obtain⟨o0,o1,o3⟩:=obj_row (off:=0) (ln:=n+1) hS.store hst hpos hle c3;rw[<-hl0']at o3;simp only[Nat.zero_mul,List.drop_zero,yaa]at o0 o1 o3;obtain⟨hk,hkL⟩:=hS.kill hst;have hget:∀(q:Nat) x,(arr.toList.take ((n+1)*s0))[q]? =some x->arr[q]? =some x:=by
   intro q x hq;rw[yE]at hq;split at hq
   ·simpa using hq
   ·cases hq
  have hrow:=o3.append s3;have hslen:(s.st.set l (Obj.dead s0)).length=s.st.length:=by simp
  by_cases hroom:n+1+l'.length<=cap
  ·
   have hfit:(n+1)*s0+news.length<=arr.size:=by
    rw[s2,<-yJ];exact yfa (yv _ hroom) hroomA
   have hr:=zoe (P:=P) (ty:=oper.type) ht hu hsz c3 s1 (s4 w (fun _ _=>rfl)) s2 (fun x hx=>by
    obtain⟨j,hj⟩:=yZ.1 hx;exact s3.2.2.1 j x (by simpa using hj)) hroom hfit
   have htn:=zVb c3 (zeb arr ((n+1)*s0) news);let w1:=w.setRow (G.loc l) (zeb arr ((n+1)*s0) news)
   let G1:Gh:={G with cl:=upd G.cl (G.loc l) (some (.loc s.st.length)),loc:=upd G.loc s.st.length (G.loc l),room:=upd G.room s.st.length (G.room l)}
   have hI:(G.im w).le (G1.im w1):=zod htn (fun j hj=>by rw[c2]at hj;omega);have hlt:l<s.st.length:=(ya.1 hst).1;have hlc:∀l',l'<s.st.length->G1.lc l'=G.lc l':=fun l' h'=>pair_upd (by omega)
   have hL1:zk G1.lc (s.st.set l (Obj.dead s0))=zk G.lc (s.st.set l (Obj.dead s0)):=by
    refine locOf_congr fun l' o hl'=>hlc l' ?_
    have:=(ya.1 hl').1;simpa using this
   have hK:∀κ,κ≠ .loc l->zid G w G1 w1 κ:=by
    intro κ hne bk hb;have hbb:bk≠G.loc l:=by rintro rfl;rw[c1]at hb;cases hb;exact hne rfl
    exact⟨by simp only[G1];rw[zkb _ _ hbb];exact hb,rfl,htn.other bk hbb⟩
   have hS1:Sim G1 N {s with st:=s.st.set l (Obj.dead s0)} a w1:=by
    have hk':Sim G N {s with st:=s.st.set l (Obj.dead s0)} a w:=hk;refine⟨hk'.defers,hk'.size,?_,hk'.hi,hk'.lp,?_,?_,?_⟩
    ·intro q hq;show TR _ _ (zk G1.lc (s.st.set l (Obj.dead s0))) _ _ _
     rw[hL1];exact(hk'.tmp q hq).mono (G':=G1) (w':=w1) hI (Loc.le_refl _) (hK _ (by simp)) (fun _ _ _=>rfl)
    ·intro k;show BxR _ _ (zk G1.lc (s.st.set l (Obj.dead s0))) _ _
     rw[hL1];exact(hk'.box k).mono (G':=G1) (w':=w1) hI (Loc.le_refl _) rfl (hK _ (by simp)) (fun _=>hK _ (by simp))
    ·intro l2 ob2 hl2;show ObjR _ _ (zk G1.lc (s.st.set l (Obj.dead s0))) _ _
     rw[hL1];by_cases e2:l=l2
     ·subst e2;simp only at hl2;rw[yl hlt]at hl2;cases hl2;trivial
     ·have hl2':l2<s.st.length:=by have:=(ya.1 hl2).1;simpa using this
      exact(hk'.store.obj l2 ob2 hl2).mono (G':=G1) (w':=w1) hI (Loc.le_refl _) (hlc l2 hl2') (hK _ (by simp;omega)) (fun _ _=>hK _ (by simp))
    ·intro bk hb;have hb':w.heap.size<=bk:=by
      have:=htn.size;show w.heap.size<=bk
      rw[<-this];exact hb
     have hbb:bk≠G.loc l:=by
      rintro rfl
      have:=(yr.1 c3).1;omega
     simp only[G1];rw[zkb _ _ hbb];exact hS.store.fresh bk hb'
   have hLle:(zk G.lc s.st).le (zk G1.lc (s.st.set l (Obj.dead s0))):=by rw[hL1];rw[show s.st.set l (Obj.dead s0)=s.st.set l (Obj.dead (Obj.arr s0 es).sz)from rfl,hkL];exact Loc.le_refl _
   have hcells:∀(q:Nat) x,((arr.toList.take ((n+1)*s0)++news).toArray)[q]? =some x->(zeb arr ((n+1)*s0) news)[q]? =some x:=by
    intro q x hq;simp only[yD]at hq;rw[zTc hfit];by_cases hq1:q<(arr.toList.take ((n+1)*s0)).length
    ·rw[yf hq1]at hq;rw[o1]at hq1;rw[if_neg (by omega)];exact hget q x hq
    ·rw[yh (by omega)]at hq;rw[o1]at hq hq1;have:=(ya.1 hq).1;rw[if_pos ⟨by omega,by omega⟩];exact hq
   have hlocn:G1.loc s.st.length=G.loc l:=by simp[G1,upd]
   have hpush:=hS1.push (.arr s0 (l0++l')) (by
    show ObjR G1 w1 (zk G1.lc (s.st.set l (Obj.dead s0)++[_])) (s.st.set l (Obj.dead s0)).length _
    rw[hslen];refine rowR_obj (e:=e0) hrow hcells hI (Loc.le_trans hLle (zRa _ _ _)) (by rw[hlocn];simp[G1,upd]) (by rw[hlocn];exact c2) (by rw[hlocn];exact htn.here) (by rw[zbb hfit,c4.1];simp[G1,upd]) ?_;rw[zbb hfit,yi,hlen0];exact yfa (yv _ hroom) hroomA)
   refine zsc (s1:={s with st:=s.st.set l (Obj.dead s0)++[_]}) (mv:= .slice (some ⟨G.loc l,0,none⟩) (n+1+l'.length) cap) hd (by rw[hrun,hev,hr];rfl) hpush
    ⟨hI,Loc.le_trans hLle (zRa _ _ _),fun bk hb=>hK .prot (by simp) bk hb,by show _<=w1.heap.size;rw[htn.size];exact yd _,rfl,rfl,fun x _=>htn.frozen x,rfl⟩ (fun κ=>VR.tr ?_) (by simp)
   have hL:zk G1.lc (s.st.set l (Obj.dead s0)++[.arr s0 (l0++l')]) s.st.length=some (G.loc l,s0,G.room l):=by
    unfold zk;rw[yh (by omega)];simp[Gh.lc,G1,upd,Obj.sz]
   have:=VR.mslice (I:=G1.im w1) (off:=0) (len:=n+1+l'.length) (cap:=cap) hL hroom (by rw[yaa,<-c4.1];exact hroomA);rw[hlen0];simpa using this
  ·
   have hfo:(Builtin.firstCells s0 (n+1) (.slice (some ⟨G.loc l,0,none⟩) (n+1) cap)).run P w.drew= .ok (arr.toList.take ((n+1)*s0)).toArray w.drew:=
    run_firstCells_some w.drew s0 (n+1) ⟨G.loc l,0,none⟩ (n+1) cap (arr.toList.take ((n+1)*s0)) o1 (fun j x hj=>by
     rw[zac,yaa];show w.cell? _=_
     rw[zZb c3];exact hget j x hj)
   have hr:=zrc (P:=P) (ty:=oper.type) (ad:=some ⟨G.loc l,0,none⟩) (n:=n+1) (cap:=cap) ht hu hsz hi hz s1 (s4 w.drew (fun _ _=>rfl)) hfo hbp (by omega) (by rw[<-hlen0];exact hbound);have hge:=grownCap_ge w (n+1+l'.length) cap e;have hgood:=good_grown (s:=s) (s1:={s with st:=s.st.set l (Obj.dead s0)}) (sz:=s0) (n:=n+1+l'.length) (cap:=grownCap w (n+1+l'.length) cap e) (es:=l0++l') (arr0:=(arr.toList.take ((n+1)*s0)++news).toArray)
    (arr:=(arr.toList.take ((n+1)*s0)).toArray++news.toArray++Builtin.zeroCells z.cells (grownCap w (n+1+l'.length) cap e-(n+1+l'.length))) (e:=e) hk (by rw[show s.st.set l (Obj.dead s0)=s.st.set l (Obj.dead (Obj.arr s0 es).sz)from rfl,hkL];exact Loc.le_refl _) hd
    (by
     show RowR _ (zk G.lc (s.st.set l (Obj.dead s0))) _ _ _
     rw[show s.st.set l (Obj.dead s0)=s.st.set l (Obj.dead (Obj.arr s0 es).sz)from rfl,hkL];exact hrow) ?_ (by rw[yi,hlen0]) hge ?_ (by rw[hrun,hev,hr];rfl)
   ·simp only[hslen]at hgood;rw[hlen0];exact hgood
   ·intro q p hq;simp only[yD]at hq;have hlt:=(ya.1 hq).1;rw[yza (by simpa using hlt)];simpa using hq
   ·have:=size_zeroCells z.cells (grownCap w (n+1+l'.length) cap e-(n+1+l'.length));simp only[Array.size_append,ysa,o1,s2,this,hzs];have h2:=yv s0 hge;have h3:(n+1+l'.length)*s0=(n+1)*s0+l'.length*s0:=yJ _ _ _;rw[Nat.sub_mul];omega
 ·cases h
end
section
variable {P:Program} {G G':Gh} {N:Nat} {s:St} {a:Act} {w w':World} {oper:Oper} {b b':Bx} {st':zc} {v:PV}
theorem bytesV_ints:∀{l:List PV} {t:List UInt8},bytesV l=some t->∃ns:List Int,l=ns.map (PV.int .u8)/\t=ns.map fun n=>yG n.toNat
 | [],t,h=>by simp only[bytesV,Option.some.injEq]at h;exact⟨[],rfl,h.symm⟩
 |x::r,t,h=>by
  unfold bytesV at h;split at h
  ·rename_i h';cases h'
  ·rename_i n r' h';cases h';rw[yc]at h;obtain⟨t',h1,rfl⟩:=h;obtain⟨ns,rfl,rfl⟩:=bytesV_ints h1;exact⟨n::ns,rfl,rfl⟩
  ·cases h
theorem push_all:∀(ns:List Int) (x:ByteArray),ns.foldl (fun r n=>r.push (yG n.toNat)) x=⟨x.data++(ns.map fun n=>yG n.toNat).toArray⟩
 | [],x=>by simp
 |n::r,x=>by
  rw[List.foldl_cons,push_all r];congr 1;simp[ByteArray.push]
theorem op_bstr{x:Arg}(hS:Sim G N s a w)(hd:∀t,oper.dst=some t->t<N)(hc:zm P oper.op (.bstr x)=true)(h:(IOp.bstr x).sem s.fr b s.st=some (v,b',st')):zbc P oper N G s a w b b' v st':=by
 simp only[zm]at hc;split at hc
 case h_2=>cases hc
 rename_i t d y ho;simp only[yb,okBstr]at hc;obtain⟨⟨hd',hs'⟩,hy⟩:=hc;split at hd'
 case h_2=>cases hd'
 rename_i hdst;split at hs'
 case h_2=>cases hs'
 rename_i e he;split at hs'
 case h_2=>cases hs'
 rename_i hu8;simp only[IOp.sem]at h;split at h
 case h_2=>cases h
 rename_i k l hv;rw[yc]at h;obtain⟨str,hb,h⟩:=h;cases h;obtain⟨ns,rfl,rfl⟩:=bytesV_ints hb;obtain⟨κ,hk⟩:=arg_tr hS hy;rw[hv]at hk;have hp:VR (G.im w) (zk G.lc s.st) (.slice (if k= .own then .plain else k) 1 (ns.map (PV.int .u8))) (a.eval y):=by
  cases k with
  |own=>simpa using zke hk
  |plain=>exact hk
  |fit=>exact hk
 obtain⟨ad,cap,e1,hcap,hcase⟩:=vr_row (by decide) hp;refine⟨rfl,rfl,zy hS hd (mv:= .string ⟨(ns.map fun n=>yG n.toNat).toArray⟩) ?_ (.str _)⟩;have hrun:(Conv.bytesToString (a.eval y)).run P w= .ok (.string ⟨(ns.map fun n=>yG n.toNat).toArray⟩) w:=by
  rw[e1];rcases hcase with hn|⟨bk,o,rfl,news,h1,h2,h3⟩
  ·have:ns=[]:=by simpa using hn
   subst this;cases ad with
   |none=>simp[Conv.bytesToString];rfl
   |some ad=>
    have:=run_bytesToString (P:=P) w ad 0 cap [] (by simp[loadCells,loadCellsFrom]);exact this
  ·have hnews:news=ns.map (Value.int .u8):=by
    apply yba;intro j;rw[yo];simp only[yu,Nat.mul_one]at h1;cases hn:ns[j]? with
    |none=>exact List.getElem?_eq_none_iff.2 (by have:=List.getElem?_eq_none_iff.1 hn;omega)
    |some n=>
     have hj:j<ns.length:=(ya.1 hn).1;obtain⟨z,hz⟩:∃z,news[j]? =some z:=⟨_,yg (by omega)⟩
     have h4:=h3.2.2.2 j (.int .u8 n) 0 (.int .u8 n) z (by simp[hn]) rfl (by simpa using hz);rw[hz,h4.int_inv];rfl
   have hl:=run_loadCells_list (P:=P) w ⟨bk,o,none⟩ news (fun j x hj=>by rw[zac];exact im_cell (h2 j x hj));rw[hnews,yu]at hl;rw[yu,run_bytesToString w _ ns.length cap ns hl,push_all];simp
 have e2:=run_convert_bytes_string (P:=P) w t d e ad (ns.map (PV.int .u8)).length cap he hu8 hdst;rw[<-e1,hrun]at e2;simp only[execOp,ho,Sem.run_bind,e2,ym];rfl
theorem encode_ascii{n:Int}(h0:0<=n)(h:n<128):Utf8.encode n=⟨#[yG n.toNat]⟩:=by
 have hv:Utf8.valid n=true:=by unfold Utf8.valid;simp;omega
 unfold Utf8.encode;simp only[hv,if_true];rw[if_pos (by omega)]
theorem op_rstr{x:Arg}(hS:Sim G N s a w)(hd:∀t,oper.dst=some t->t<N)(hc:zm P oper.op (.rstr x)=true)(h:(IOp.rstr x).sem s.fr b s.st=some (v,b',st')):zbc P oper N G s a w b b' v st':=by
 simp only[zm]at hc;split at hc
 case h_2=>cases hc
 rename_i t d y ho;simp only[yb]at hc;obtain⟨⟨hdst,hs⟩,hy⟩:=hc;split at hdst
 case h_2=>cases hdst
 rename_i hd2;simp only[IOp.sem]at h;split at h
 case h_2=>cases h
 rename_i k n hv;split at h
 case isFalse=>cases h
 rename_i hn;cases h;have hvr:=zda hS hy hv (by simp) (by simp);have he:a.eval y= .int k n:=by
  generalize a.eval y=m at hvr;cases hvr;rfl
 refine⟨rfl,rfl,zy hS hd (mv:= .string ⟨#[yG n.toNat]⟩) ?_ (.str _)⟩;have e2:=run_convert_int_string (P:=P) w t d k n hs hd2;rw[encode_ascii hn.1 hn.2]at e2;simp only[execOp,ho,Sem.run_bind,he,e2,ym];rfl
end
def IOp.needsDst:IOp->Bool
 | .take _| .append .. | .loadT .. =>true
 |_=>false
section
variable {P:Program} {G G':Gh} {N:Nat} {s:St} {a:Act} {w w':World} {oper:Oper} {b b':Bx} {st':zc} {v:PV}
theorem zbc.good{b b':Bx}(h:zbc P oper N G s a w b b' v st'):zzb P oper N G s a w v s.fr s.bx st':=by
 obtain⟨_,rfl,h⟩:=h;exact h
theorem op_sound{op:IOp}(hS:Sim G N s a w)(hd:∀t,oper.dst=some t->t<N)(hdn:op.needsDst=true->oper.dst≠none)(hc:zm P oper.op op=true)
  (h:op.sem s.fr (zZ s.bx op.box?) s.st=some (v,b',st')):zzb P oper N G s a w v (zDa s.fr op.takes) (zKb s.bx op.box? b') st':=by
 cases op with
 |mv x=>exact(op_mv hS hd hc h).good
 |take t=>obtain⟨_,e,hg⟩:=op_take hS hd (hdn rfl) hc h;subst e;exact hg
 |pick c x y=>exact(op_pick hS hd hc h).good
 |boxL k x=>exact op_boxL hS hd hc h
 |boxI x=>exact(op_boxI hS hd hc h).good
 |boxS sz x=>exact(op_boxS hS hd hc h).2
 |build z ps=>exact(op_build hS hd hc h).good
 |buildF z ps=>exact(op_buildF hS hd hc h).good
 |bslice sz z n ps=>exact(op_bslice hS hd hc h).good
 |bsliceS sz z n ps=>exact(op_bsliceS hS hd hc h).2
 |load wh ag sz x=>
  obtain⟨e1,e2,hg⟩:=op_load hS hd hc h;subst e1;subst e2;cases wh with
  |box k=>
   have:zKb s.bx (IOp.box? (.load (.box k) ag sz x)) (zZ s.bx (Where.box? (.box k)))=s.bx:=by
    funext j;simp only[zKb,IOp.box?,Where.box?,zZ,upd];split
    ·subst_vars;rfl
    ·rfl
   rw[this];exact hg
  |any=>exact hg
  |imm=>exact hg
 |loadT wh x=>exact op_loadT hS hd (hdn rfl) hc h
 |store wh sz x y=>exact(op_store hS hd hc h).2
 |storeT wh x t=>exact(op_storeT hS hd hc h).2
 |nilck x=>exact(op_nilck hS hd hc h).good
 |bin tk ks op x y=>exact(op_bin hS hd hc h).good
 |un op x=>exact(op_un hS hd hc h).good
 |conv k x=>exact(op_conv hS hd hc h).good
 |bstr x=>exact(op_bstr hS hd hc h).good
 |rstr x=>exact(op_rstr hS hd hc h).good
 |mkif t x=>exact(op_mkif hS hd hc h).good
 |mkfn f x y=>exact(op_mkfn hS hd hc h).good
 |mkmap=>exact(op_mkmap hS hd hc h).2
 |lookup ks ok z m k=>exact(op_lookup hS hd hc h).good
 |mapset ks m k x=>exact(op_mapset hS hd hc h).2.2
 |mkslice sz z by_ l c=>exact(op_mkslice hS hd hc h).good
 |mksliceS sz z by_ l c=>exact(op_mksliceS hS hd hc h).2
 |slc i z x lo hi mx=>exact(op_slc hS hd hc h).good
 |faddr o x=>exact(op_faddr hS hd hc h).good
 |iaddr sz x i=>exact(op_iaddr hS hd hc h).good
 |iaddrA n sz x i=>exact(op_iaddrA hS hd hc h).good
 |idxS x i=>exact(op_idxS hS hd hc h).good
 |idxA n sz ag x i=>exact(op_idxA hS hd hc h).good
 |ext x i=>exact(op_ext hS hd hc h).good
 |ifnil q x=>exact(op_ifnil hS hd hc h).good
 |tassert q x=>exact(op_tassert hS hd hc h).good
 |fld ag o sz x=>exact(op_fld hS hd hc h).good
 |call pk f x=>cases h
 |callP pk f x=>cases h
 |callR f x=>cases h
 |callK f x=>cases h
 |loadB ag sz x=>exact(op_loadB hS hd hc h).good
 |loadN q ag sz x=>exact(op_loadN hS hd hc h).good
 |storeN q sz x y=>exact(op_storeN hS hd hc h).2
 |len tk x=>exact(op_len hS hd hc h).good
 |append sz by_ x y=>obtain⟨_,e,hg⟩:=op_append hS hd (hdn rfl) hc h;subst e;exact hg
 |appendS sz by_ x y=>exact(op_appendS hS hd hc h).2
 |max2 x y=>exact(op_max2 hS hd hc h).good
 |min2 x y=>exact(op_min2 hS hd hc h).good
 |panic x=>cases h
 |rng k x=>exact op_rng hS hd hc h
 |next k x=>exact op_next hS hd hc h
def Comes1(G:Gh)(st:zc)(w:World)(r:CRes)(st':zc)(e:Ending)(w':World):Prop:=
 match r,e with
 | .ret v,.returned mv=>∃G',SimS G' st' w'/\Ext G st w G' st' w'/\VR (G'.im w') (zk G'.lc st') v mv
 | .pan v,.panicked chain=>∃G' mv,chain=[{v:=mv,recovered:=false}]/\SimS G' st' w'/\Ext G st w G' st' w'/\VR (G'.im w') (zk G'.lc st') v mv
 |_,_=>False
abbrev Tabs:=List (Nat×Array Value)
def Tabs.In(T:Tabs)(G:Gh)(w:World):Prop:=∀x∈T,G.cl x.1=some .prot/\∃e fr,w.heap[x.1]? =some (.cells x.2 e fr)
theorem Tabs.In.ext{T:Tabs}{G G':Gh}{st st':zc}{w w':World}(h:T.In G w)(hE:Ext G st w G' st' w'):T.In G' w':=by
 intro x hx;obtain⟨h1,e,fr,h2⟩:=h x hx;have:=hE.prot x.1 h1;exact⟨this.1,e,fr,by rw[this.2.2];exact h2⟩
def GoodF(P:Program)(T:Tabs)(f:Nat)(args:List PV)(st:zc)(r:CRes)(st':zc):Prop:=
 ∀(G:Gh) (w:World) (margs:Array Value),G.dfr=[]->T.In G w->SimS G st w->margs.size=args.length→
  (∀(j:Nat) c x,args[j]? =some c->margs[j]? =some x->VR (G.im w) (zk G.lc st) c x)→
  (∃fn c,P.funcs[f]? =some fn/\(fn.name== "runtime.NumGoroutine")=false/\fn.body=some c)∧
  Calls P f margs w (Comes1 G st w r st')
def Good(P:Program)(T:Tabs)(cf:zL):Prop:=∀f args st r st',cf f args st=some (r,st')->GoodF P T f args st r st'
def Cl.isOwn:Cl->Bool
 | .box _| .ownT _| .ownB _ _=>true
 |_=>false
def Gh.lend(G:Gh):Gh:={G with dfr:=[],cl:=fun b=>match G.cl b with
 |some κ=>if κ.isOwn then some .prot else some κ
 |none=>none}
def Gh.back(G G':Gh):Gh:={fz:=G'.fz,loc:=G'.loc,room:=G'.room,box:=G.box,dfr:=G.dfr,cl:=fun b=>match G.cl b with
 |some κ=>if κ.isOwn then some κ else(match G'.cl b with
  |some κ'=>if κ'.isOwn then none else some κ'
  |none=>none)
 |none=>(match G'.cl b with
  |some κ'=>if κ'.isOwn then none else some κ'
  |none=>none)}
theorem Tabs.In.lend{T:Tabs}{G:Gh}{w:World}(h:T.In G w):T.In G.lend w:=by
 intro x hx;obtain⟨h1,h2⟩:=h x hx;exact⟨by simp[Gh.lend,h1,Cl.isOwn],h2⟩
theorem lend_keep{κ:Cl}{b:Nat}(h:G.cl b=some κ)(hl:κ.isOwn=false):G.lend.cl b=some κ:=by
 simp[Gh.lend,h,hl]
theorem lend_prot{κ:Cl}{b:Nat}(h:G.cl b=some κ)(hl:κ.isOwn=true):G.lend.cl b=some .prot:=by
 simp[Gh.lend,h,hl]
theorem SimS.lend{st:zc}(h:SimS G st w):SimS G.lend st w:=by
 refine⟨fun l o ho=>(h.obj l o ho).mono (G:=G) (G':=G.lend) (w:=w) (w':=w) (fun _ _ _ x=>x) (fun _ _ x=>x) rfl ?_ ?_,?_⟩
 ·exact fun b hb=>⟨lend_keep hb rfl,rfl,rfl⟩
 ·exact fun i j b hb=>⟨lend_keep hb rfl,rfl,rfl⟩
 ·intro b hb;exact⟨(h.fresh b hb).1,by simp[Gh.lend,(h.fresh b hb).2]⟩
theorem back_mine{κ:Cl}{b:Nat}(h:G.cl b=some κ)(hl:κ.isOwn=true):(G.back G').cl b=some κ:=by
 simp[Gh.back,h,hl]
theorem back_far{st st':zc}(hE:Ext G.lend st w G' st' w'){κ:Cl}{b:Nat}(h:G'.cl b=some κ)(hl:κ.isOwn=false)(hp:κ≠ .prot):(G.back G').cl b=some κ:=by
 unfold Gh.back;simp only;split
 ·rename_i κ0 h0;split
  ·rename_i hloc;have:=(hE.prot b (lend_prot h0 hloc)).1;rw[h]at this;cases this;exact absurd rfl hp
  ·simp[h,hl]
 ·simp[h,hl]
theorem SimS.back{st st':zc}(h:SimS G' st' w')(h0:SimS G st w)(hE:Ext G.lend st w G' st' w'):SimS (G.back G') st' w':=by
 refine⟨fun l o ho=>(h.obj l o ho).mono (G:=G') (G':=G.back G') (w:=w') (w':=w') (fun _ _ _ x=>x) (fun _ _ x=>x) rfl ?_ ?_,?_⟩
 ·exact fun b hb=>⟨back_far hE hb rfl (by simp),rfl,rfl⟩
 ·exact fun i j b hb=>⟨back_far hE hb rfl (by simp),rfl,rfl⟩
 ·intro b hb;refine⟨(h.fresh b hb).1,?_⟩;have e1:=(h0.fresh b (yfa hE.size hb)).2;have e2:=(h.fresh b hb).2;simp[Gh.back,e1,e2]
theorem Ext.back{st st':zc}(h0:SimS G st w)(hE:Ext G.lend st w G' st' w'):Ext G st w (G.back G') st' w':=by
 refine⟨hE.im,hE.loc,?_,hE.size,hE.os,hE.output,hE.frozen,rfl⟩;intro b hb;have hp:=hE.prot b (lend_keep hb rfl);refine⟨?_,hp.2.1,hp.2.2⟩;simp[Gh.back,hb,Cl.isOwn,hp.1]
theorem keeps_back{st st':zc}(hE:Ext G.lend st w G' st' w'){κ:Cl}(hl:κ.isOwn=true):zid G w (G.back G') w' κ:=by
 intro b hb;have hp:=hE.prot b (lend_prot hb hl);exact⟨back_mine hb hl,hp.2.1,hp.2.2⟩
theorem Sim.back(hS:Sim G N s a w){st':zc}(hS':SimS G' st' w')(hE:Ext G.lend s.st w G' st' w'):Sim (G.back G') N {s with st:=st'} a w':=by
 refine⟨hS.defers,hS.size,?_,hS.hi,hS.lp,?_,hS'.back hS.store hE⟩
 ·intro t ht;exact(hS.tmp t ht).mono (G:=G) (G':=G.back G') hE.im hE.loc (keeps_back hE rfl) (fun k off _=>rfl)
 ·intro k;exact(hS.box k).mono (G:=G) (G':=G.back G') hE.im hE.loc rfl (keeps_back hE rfl) (fun j=>keeps_back hE rfl)
def guardOk(ops:Array Oper)(o:Oper)(g:GOp):Bool:=match o.guard,g.g with
 |none,none=>true
 |some (j,v),some (t,v')=>v==v'&&(match ops[j]? with
  |some o'=>decide (o'.dst=some t)
  |none=>false)
 |_,_=>false
def zZd(P:Program)(N:Nat)(ops:Array Oper)(o:Oper)(g:GOp):Bool:=
 decide (o.dst=g.dst)&&(match g.dst with
  |some t=>decide (t<N)
  |none=> !g.op.needsDst)&&guardOk ops o g&&zm P o.op g.op
theorem zqf{ops:Array Oper}{o:Oper}{g:GOp}(h:zZd P N ops o g=true):o.dst=g.dst/\(∀t,o.dst=some t->t<N)/\(g.op.needsDst=true->o.dst≠none)/\guardOk ops o g=true/\zm P o.op g.op=true:=by
 unfold zZd at h;simp only[yb,decide_eq_true_eq]at h;obtain⟨⟨⟨h1,h2⟩,h3⟩,h4⟩:=h;refine⟨h1,?_,?_,h3,h4⟩
 ·intro t ht;rw[h1]at ht;simp only[ht,decide_eq_true_eq]at h2;exact h2
 ·intro hn e;rw[h1]at e;simp[e,hn]at h2
theorem tmp_bool(hS:Sim G N s a w){t:Nat}{b:Bool}(h:s.fr t= .bool b):a.tmps[t]? =some (.bool b):=by
 have htN:t<N:=by
  rcases yB t N with h'|h'
  ·exact h'
  ·rw[hS.hi t h']at h;cases h
 have:=hS.tmp t htN;rw[h]at this;have e:a.tmps.getD t Go.undef= .bool b:=VR.bool_inv this;have hlt:t<a.tmps.size:=by rw[hS.size];exact htN
 simp only[yca,yO hlt,yoa]at e;rw[yO hlt,e]
theorem tmp_skip(hS:Sim G N s a w){t:Nat}(h:s.fr t= .tup []):a.tmps[t]? =some (.tuple #[]):=by
 have htN:t<N:=by
  rcases yB t N with h'|h'
  ·exact h'
  ·rw[hS.hi t h']at h;cases h
 have:=hS.tmp t htN;rw[h]at this;have e:a.tmps.getD t Go.undef= .tuple #[]:=by
  have h2:VR (G.im w) (zk G.lc s.st) (.tup []) (a.tmps.getD t Go.undef):=this;generalize a.tmps.getD t Go.undef=m at h2;cases h2 with
  |tup hl hv=>
   rename_i vs;have:vs= #[]:=yBa hl;rw[this]
 have hlt:t<a.tmps.size:=by rw[hS.size];exact htN
 simp only[yca,yO hlt,yoa]at e;rw[yO hlt,e]
theorem guard_wanted(hS:Sim G N s a w){ops:Array Oper}{o:Oper}{g:GOp}(h:guardOk ops o g=true):
  (g.g=none->Region.wanted o (yielded ops a.tmps)=true)/\(∀t v b,g.g=some (t,v)->gate v (s.fr t)=some b->Region.wanted o (yielded ops a.tmps)=b):=by
 unfold guardOk at h;split at h
 ·rename_i h1 h2;exact⟨fun _=>by simp[Region.wanted,h1],fun t v b e=>by rw[h2]at e;cases e⟩
 ·rename_i j v t v' h1 h2;simp only[yb,beq_iff_eq]at h;obtain⟨rfl,h⟩:=h;refine⟨fun e=>(by rw[h2]at e;cases e),?_⟩;intro t' v' b e hb;rw[h2]at e;cases e;split at h
  ·rename_i o' ho';simp only[decide_eq_true_eq]at h;cases hv:s.fr t<;>rw[hv]at hb<;>simp only[gate]at hb<;>try(cases hb;done)
   case bool x=>
    cases hb;simp[Region.wanted,h1,yielded,ho',h,tmp_bool hS hv]
   case tup l=>
    cases l with
    |cons x r=>cases hb
    |nil=>
     cases hb;have:=tmp_skip hS hv;simp[Region.wanted,h1,yielded,ho',h,this]
  ·cases h
 ·cases h
theorem upon_good{K:Act->World->Prop}{Q:Exit->Act->World->Prop}{fr:Fr}{bx:Bxs}(h:zzb P oper N G s a w v fr bx st')
  (hK:∀G' a' w',Sim G' N {fr:=zHa fr oper.dst v,bx:=bx,st:=st'} a' w'->Ext G s.st w G' st' w'->K a' w'):oper.wp P a w K Q:=by
 obtain⟨nx,mv,w',G',hrun,hnx,hS',hE⟩:=h;unfold Oper.wp;rw[hrun];rcases hnx with rfl|⟨rfl,rfl⟩
 ·exact hK _ _ _ hS' hE
 ·exact hK _ _ _ hS' hE
theorem arg_func(hS:Sim G N s a w){x:Operand}{g:Arg}(h:zP x g=true){f:Nat}{cs ds:List PV}(hv:g.val s.fr= .fn f cs ds):
  ∃vs us:Array Value,a.eval x= .func (.func f) vs us/\vs.size=cs.length/\us.size=ds.length/\(∀(j:Nat) c v,cs[j]? =some c->vs[j]? =some v->VR (G.im w) (zk G.lc s.st) c v)∧
   (∀(j:Nat) c v,ds[j]? =some c->us[j]? =some v->VR (G.im w) (zk G.lc s.st) c v):=by
 have hvr:=zda hS h hv (by simp) (by simp);generalize a.eval x=m at hvr;cases hvr with
 |fn hl hv hl' hv'=>exact⟨_,_,rfl,hl,hl',hv,hv'⟩
theorem run_callFunc{f:FuncId}{fn:Func}{c:Code}(hf:P.funcs[f]? =some fn)(hname:(fn.name== "runtime.NumGoroutine")=false)(hb:fn.body=some c)(args:Array Value)(w:World):
  (callFunc f args).run P w= .ok (.enter f args) w:=by
 simp only[beq_eq_false_iff_ne,ne_eq]at hname;simp[callFunc,hf,hname,hb]
theorem call_sound{T:Tabs}{cf:zL}(hcf:Good P T cf){pk:Bool}{f:Arg}{args:List Arg}{K:Act->World->Prop}{Q:Exit->Act->World->Prop}(hS:Sim G N s a w)(hT:T.In G w)(hd:∀t,oper.dst=some t->t<N)
  (hc:zm P oper.op (.call pk f args)=true) {sr:SR} (h:zI cf oper.dst (.call pk f args) s=some sr)
  (hK:∀s',sr= .ok s'->∀G' a' w',Sim G' N s' a' w'->Ext G s.st w G' s'.st w'->K a' w')
  (hQ:∀v st',sr= .pan v st'->∀G' w' mv,SimS G' st' w'->Ext G s.st w G' st' w'->VR (G'.im w') (zk G'.lc st') v mv->Q (.panic [{v:=mv,recovered:=false}]) a w'):
  oper.wp P a w K Q:=by
 simp only[zm]at hc;split at hc
 case h_2=>cases hc
 rename_i c ho;split at hc
 case h_2=>cases hc
 rename_i x hcal;simp only[yb]at hc;obtain⟨h1,h2⟩:=hc;simp only[zI]at h;split at h
 case h_2=>cases h
 rename_i k first caps hfv;split at h
 case isFalse=>cases h
 rename_i hv;obtain⟨vs,us,e1,e2,e3,e4,e5⟩:=arg_func hS h1 hfv;obtain⟨l1,l2⟩:=okArgs_vr hS h2 hv;cases hr:cf k (first++zp s.fr args++caps) s.st with
 |none=>rw[hr]at h;cases h
 |some rs=>
  obtain⟨r,st'⟩:=rs;have hgood:=hcf _ _ _ _ _ hr G.lend w (vs++(c.args.map a.eval)++us) rfl hT.lend hS.store.lend (by simp[zp,e2,e3,<-l1]) (by
   intro j p y hp hy;simp only[zp]at hp;rcases yB j first.length with h'|h'
   ·rw[yR,yf h']at hp;rw[yib,yza (by omega)]at hy;exact e4 j p y hp hy
   ·rw[yR,yh h']at hp;rw[yib,yMa (by omega),e2]at hy;have hl:(c.args.map a.eval).size=args.length:=by simp[<-l1]
    rcases yB (j-first.length) args.length with h''|h''
    ·rw[yf (by simpa using h'')]at hp;rw[yza (by omega)]at hy;exact l2 _ p y hp (by simpa using hy)
    ·rw[yh (by simpa using h'')]at hp;rw[yMa (by omega),hl]at hy;exact e5 _ p y (by simpa using hp) hy)
  obtain⟨⟨fn,cd,f1,f2,f3⟩,hcalls⟩:=hgood;rw[hr]at h;unfold Oper.wp;have hrun:(execOp a.eval oper).run P w= .ok (.enter k (vs++(c.args.map a.eval)++us)) w:=by
   simp only[execOp,ho,resolve,hcal,e1,Deferred.ofValue,Sem.run_bind,Sem.run_pure,invoke];exact run_callFunc f1 f2 f3 _ _
  rw[hrun];simp only[Oper.upon];refine hcalls.mono ?_;intro e w' he;cases r with
  |ret v=>
   cases e with
   |returned mv=>
    obtain⟨G',q1,q2,q3⟩:=he;cases h;refine hK _ rfl (G.back G') _ _ ?_ (Ext.back hS.store q2);have:=(hS.back q1 q2).put hd (v:=v) (mv:=mv) (fun t _=>VR.tr q3) (fun k off e=>by subst e;cases q3);exact this
   |panicked ch=>exact he.elim
   |outgrown=>exact he.elim
  |pan v=>
   cases e with
   |returned mv=>exact he.elim
   |outgrown=>exact he.elim
   |panicked ch=>
    obtain⟨G',mv,rfl,q1,q2,q3⟩:=he;cases pk with
    |false=>cases h
    |true=>
     cases h;exact hQ _ _ rfl (G.back G') _ _ (q1.back hS.store q2) (Ext.back hS.store q2) q3
def Gh.hush(G:Gh):Gh:={G with dfr:=[],cl:=fun b=>(G.cl b).map fun _=> .prot}
theorem Tabs.In.hush{T:Tabs}{G:Gh}{w:World}(h:T.In G w):T.In G.hush w:=by
 intro x hx;obtain⟨h1,h2⟩:=h x hx;exact⟨by simp[Gh.hush,h1],h2⟩
def Gh.wake(G G':Gh):Gh:={fz:=G'.fz,loc:=G.loc,room:=G.room,box:=G.box,cl:=G.cl,dfr:=G.dfr}
theorem hush_sim{st:zc}(h:SimS G st w):SimS G.hush [] w:=by
 refine⟨fun l o ho=>by simp at ho,fun b hb=>⟨(h.fresh b hb).1,?_⟩⟩;simp[Gh.hush,(h.fresh b hb).2]
theorem hush_prot{κ:Cl}{b:Nat}(h:G.cl b=some κ):G.hush.cl b=some .prot:=by simp[Gh.hush,h]
theorem zEd{st'':zc}(hE:Ext G.hush [] w G' st'' w')(κ:Cl):zid G w (G.wake G') w' κ:=by
 intro b hb;have hp:=hE.prot b (hush_prot hb);exact⟨hb,hp.2.1,hp.2.2⟩
theorem wake_ext{st st'':zc}(hE:Ext G.hush [] w G' st'' w'):Ext G st w (G.wake G') st w':=
 ⟨hE.im,Loc.le_refl _,fun b hb=>zEd hE .prot b hb,hE.size,hE.os,hE.output,hE.frozen,rfl⟩
theorem wake_sims{st st'':zc}(h:SimS G st w)(h':SimS G' st'' w')(hE:Ext G.hush [] w G' st'' w'):SimS (G.wake G') st w':=by
 refine⟨fun l o ho=>(h.obj l o ho).mono (G:=G) (G':=G.wake G') hE.im (Loc.le_refl _) rfl (zEd hE _) (fun i j=>zEd hE _),?_⟩;intro b hb;exact⟨(h'.fresh b hb).1,(h.fresh b (yfa hE.size hb)).2⟩
theorem Sim.wake{st'':zc}(hS:Sim G N s a w)(h':SimS G' st'' w')(hE:Ext G.hush [] w G' st'' w'):Sim (G.wake G') N s a w':=by
 refine⟨hS.defers,hS.size,?_,hS.hi,hS.lp,?_,wake_sims hS.store h' hE⟩
 ·intro t ht;exact(hS.tmp t ht).mono (G:=G) (G':=G.wake G') hE.im (Loc.le_refl _) (zEd hE _) (fun k off _=>rfl)
 ·intro k;exact(hS.box k).mono (G:=G) (G':=G.wake G') hE.im (Loc.le_refl _) rfl (zEd hE _) (fun j=>zEd hE _)
theorem callP_sound{T:Tabs}{cf:zL}(hcf:Good P T cf){pk:Bool}{f:Arg}{args:List Arg}{K:Act->World->Prop}{Q:Exit->Act->World->Prop}(hS:Sim G N s a w)(hT:T.In G w)(hd:∀t,oper.dst=some t->t<N)
  (hc:zm P oper.op (.callP pk f args)=true) {sr:SR} (h:zI cf oper.dst (.callP pk f args) s=some sr)
  (hK:∀s',sr= .ok s'->∀G' a' w',Sim G' N s' a' w'->Ext G s.st w G' s'.st w'->K a' w')
  (hQ:∀v st',sr= .pan v st'->∀G' w' mv,SimS G' st' w'->Ext G s.st w G' st' w'->VR (G'.im w') (zk G'.lc st') v mv->Q (.panic [{v:=mv,recovered:=false}]) a w'):
  oper.wp P a w K Q:=by
 simp only[zm]at hc;split at hc
 case h_2=>cases hc
 rename_i c ho;split at hc
 case h_2=>cases hc
 rename_i x hcal;simp only[yb]at hc;obtain⟨h1,h2⟩:=hc;simp only[zI]at h;split at h
 case h_2=>cases h
 rename_i k first caps hfv;split at h
 case isFalse=>cases h
 rename_i hvb;rw[yb]at hvb;obtain⟨hv,hbel⟩:=hvb;obtain⟨vs,us,e1,e2,e3,e4,e5⟩:=arg_func hS h1 hfv;obtain⟨l1,l2⟩:=okArgs_vr hS h2 hv;cases hr:cf k (first++zp s.fr args++caps) []with
 |none=>rw[hr]at h;cases h
 |some rs=>
  obtain⟨r,st'⟩:=rs;have hgood:=hcf _ _ _ _ _ hr G.hush w (vs++(c.args.map a.eval)++us) rfl hT.hush (hush_sim hS.store) (by simp[zp,e2,e3,<-l1]) (by
   intro j p y hp hy;have hb0:zx 0 p=true:=ztb hbel hp;refine VR.under (I:=G.im w) (L:=zk G.lc s.st) (n:=0) (fun _ _ _ x=>x) (fun l x hl=>by omega) ?_ hb0;simp only[zp]at hp;rcases yB j first.length with h'|h'
   ·rw[yR,yf h']at hp;rw[yib,yza (by omega)]at hy;exact e4 j p y hp hy
   ·rw[yR,yh h']at hp;rw[yib,yMa (by omega),e2]at hy;have hl:(c.args.map a.eval).size=args.length:=by simp[<-l1]
    rcases yB (j-first.length) args.length with h''|h''
    ·rw[yf (by simpa using h'')]at hp;rw[yza (by omega)]at hy;exact l2 _ p y hp (by simpa using hy)
    ·rw[yh (by simpa using h'')]at hp;rw[yMa (by omega),hl]at hy;exact e5 _ p y (by simpa using hp) hy)
  obtain⟨⟨fn,cd,f1,f2,f3⟩,hcalls⟩:=hgood;rw[hr]at h;unfold Oper.wp;have hrun:(execOp a.eval oper).run P w= .ok (.enter k (vs++(c.args.map a.eval)++us)) w:=by
   simp only[execOp,ho,resolve,hcal,e1,Deferred.ofValue,Sem.run_bind,Sem.run_pure,invoke];exact run_callFunc f1 f2 f3 _ _
  rw[hrun];simp only[Oper.upon];refine hcalls.mono ?_;intro e w' he;cases r with
  |ret v=>
   cases e with
   |returned mv=>
    obtain⟨G',q1,q2,q3⟩:=he;simp only at h;split at h
    case isFalse=>cases h
    rename_i hbv;cases h;refine hK _ rfl (G.wake G') _ _ ?_ (wake_ext q2);have hv':VR ((G.wake G').im w') (zk (G.wake G').lc s.st) v mv:=q3.under (fun _ _ _ x=>x) (fun l x hl=>by omega) hbv;have:=(hS.wake q1 q2).put hd (v:=v) (mv:=mv) (fun t _=>VR.tr hv') (fun k off e=>by subst e;cases q3);exact this
   |panicked ch=>exact he.elim
   |outgrown=>exact he.elim
  |pan v=>
   cases e with
   |returned mv=>exact he.elim
   |outgrown=>exact he.elim
   |panicked ch=>
    obtain⟨G',mv,rfl,q1,q2,q3⟩:=he;simp only at h;split at h
    case isFalse=>cases h
    rename_i hbv;rw[yb]at hbv;cases h;exact hQ _ _ rfl (G.wake G') _ _ (wake_sims hS.store q1 q2) (wake_ext q2) (q3.under (fun _ _ _ x=>x) (fun l x hl=>by omega) hbv.2)
theorem callR_sound{T:Tabs}{cf:zL}(hcf:Good P T cf){f:Arg}{args:List Arg}{K:Act->World->Prop}{Q:Exit->Act->World->Prop}(hS:Sim G N s a w)(hT:T.In G w)(hd:∀t,oper.dst=some t->t<N)
  (hc:zm P oper.op (.callR f args)=true) {sr:SR} (h:zI cf oper.dst (.callR f args) s=some sr)
  (hK:∀s',sr= .ok s'->∀G' a' w',Sim G' N s' a' w'->Ext G s.st w G' s'.st w'->K a' w')
  (hQ:∀v st',sr= .pan v st'->∀G' w' mv,SimS G' st' w'->Ext G s.st w G' st' w'->VR (G'.im w') (zk G'.lc st') v mv->Q (.panic [{v:=mv,recovered:=false}]) a w'):
  oper.wp P a w K Q:=by
 refine call_sound hcf (pk:=false) (f:=f) (args:=args) hS hT hd hc ?_ hK hQ;simp only[zI]at h ⊢;cases hx:Arg.val s.fr f<;>rw[hx]at h<;>try(cases h;done)
 rename_i k first caps;simp only at h ⊢;split at h
 case isFalse=>cases h
 rename_i hall;rw[if_pos hall];cases hf:cf k (first++zp s.fr args++caps) s.st with
 |none=>rw[hf]at h;cases h
 |some q=>
  obtain⟨q,st'⟩:=q;rw[hf]at h;cases q with
  |pan v=>cases h
  |ret v=>
   simp only at h ⊢;split at h
   case isFalse=>cases h
   rename_i hs;cases same_iff.1 hs;exact h
theorem callK_sound{T:Tabs}{cf:zL}(hcf:Good P T cf){f:Arg}{args:List Arg}{K:Act->World->Prop}{Q:Exit->Act->World->Prop}(hS:Sim G N s a w)(hT:T.In G w)(hd:∀t,oper.dst=some t->t<N)
  (hc:zm P oper.op (.callK f args)=true) {sr:SR} (h:zI cf oper.dst (.callK f args) s=some sr)
  (hK:∀s',sr= .ok s'->∀G' a' w',Sim G' N s' a' w'->Ext G s.st w G' s'.st w'->K a' w')
  (hQ:∀v st',sr= .pan v st'->∀G' w' mv,SimS G' st' w'->Ext G s.st w G' st' w'->VR (G'.im w') (zk G'.lc st') v mv->Q (.panic [{v:=mv,recovered:=false}]) a w'):
  oper.wp P a w K Q:=by
 refine call_sound hcf (pk:=false) (f:=f) (args:=args) hS hT hd hc ?_ hK hQ;simp only[zI]at h ⊢;cases hx:Arg.val s.fr f<;>rw[hx]at h<;>try(cases h;done)
 rename_i k first caps;simp only at h ⊢;split at h
 case isFalse=>cases h
 rename_i hall;rw[if_pos hall];cases hf:cf k (first++zp s.fr args++caps) s.st with
 |none=>rw[hf]at h;cases h
 |some q=>
  obtain⟨q,st'⟩:=q;rw[hf]at h;cases q with
  |pan v=>cases h
  |ret v=>
   simp only at h ⊢;split at h
   case isFalse=>cases h
   exact h
theorem panic_sound{cf:zL}{x:Arg}{K:Act->World->Prop}{Q:Exit->Act->World->Prop}(hS:Sim G N s a w)
  (hc:zm P oper.op (.panic x)=true) {sr:SR} (h:zI cf oper.dst (.panic x) s=some sr)
  (hQ:∀v st',sr= .pan v st'->∀G' w' mv,SimS G' st' w'->Ext G s.st w G' st' w'->VR (G'.im w') (zk G'.lc st') v mv->Q (.panic [{v:=mv,recovered:=false}]) a w'):
  oper.wp P a w K Q:=by
 simp only[zm]at hc;split at hc
 case h_2=>cases hc
 rename_i y ho;simp only[zI]at h;split at h
 case h_2=>cases h
 rename_i t v hv;cases h;have hvr:=zda hS hc hv (by simp) (by simp);have he:∃mv,a.eval y= .iface t mv:=by
  generalize a.eval y=m at hvr;cases hvr with
  |iface h=>exact⟨_,rfl⟩
 obtain⟨mv,he⟩:=he;unfold Oper.wp;have hrun:(execOp a.eval oper).run P w= .halt (.panic (a.eval y)) w:=by
  simp[execOp,ho,Instr.panic,he]
 rw[hrun];exact hQ _ _ rfl G w _ hS.store (Ext.refl _ _ _) hvr
end
def Arg.tmps:Arg->List Nat
 | .t n=>[n]
 | .c _=>[]
def optTmps:Option Arg->List Nat
 |some a=>a.tmps
 |none=>[]
def argsTmps(l:List Arg):List Nat:=l.flatMap Arg.tmps
def IOp.reads:IOp->List Nat
 | .mv a| .boxL _ a| .boxI a| .boxS _ a| .load _ _ _ a| .loadB _ _ a| .loadN _ _ _ a| .loadT _ a| .nilck a| .un _ a| .conv _ a| .bstr a| .rstr a| .mkif _ a| .faddr _ a| .ext a _| .ifnil _ a| .tassert _ a| .fld _ _ _ a| .len _ a| .panic a| .rng _ a| .next _ a=>a.tmps
 | .take s=>[s]
 | .pick c a b=>c.tmps++a.tmps++b.tmps
 | .build _ ps| .buildF _ ps=>ps.flatMap fun p=>p.2.2.tmps
 | .bslice _ _ _ ps| .bsliceS _ _ _ ps=>ps.flatMap fun p=>p.2.tmps
 | .store _ _ a v| .storeN _ _ a v=>a.tmps++v.tmps
 | .storeT _ a t=>a.tmps++[t]
 | .bin _ _ _ a b| .idxS a b| .idxA _ _ _ a b| .iaddr _ a b| .iaddrA _ _ a b| .max2 a b| .min2 a b| .append _ _ a b| .appendS _ _ a b| .mkslice _ _ _ a b| .mksliceS _ _ _ a b=>a.tmps++b.tmps
 | .lookup _ _ _ m k=>m.tmps++k.tmps
 | .mapset _ m k v=>m.tmps++k.tmps++v.tmps
 | .mkfn _ f c=>argsTmps f++argsTmps c
 | .mkmap=>[]
 | .slc _ _ x lo hi mx=>x.tmps++optTmps lo++optTmps hi++optTmps mx
 | .call _ f args| .callP _ f args| .callR f args| .callK f args=>f.tmps++argsTmps args
def IOp.stU:IOp->Nat
 | .load .any _ _ _| .loadB .. | .loadN .. | .lookup .. | .append .. | .callR .. =>1
 | .len tk _=>if tk=2 then 1 else 0
 | .appendS .. | .boxS .. | .bsliceS .. | .mksliceS .. | .mkmap| .mapset .. | .call .. | .callK .. | .panic _| .storeN .. =>2
 | .loadT w _| .store w _ _ _| .storeT w _ _=>(match w with| .box _=>0|_=>2)
 |_=>0
def IOp.mayPan:IOp->Bool
 | .call pk _ _=>pk
 | .callP pk _ _=>pk
 | .panic _=>true
 |_=>false
theorem zT{fr fr':Fr}{a:Arg}(h:∀t∈a.tmps,fr t=fr' t):a.val fr=a.val fr':=by
 cases a with
 |t n=>exact h n (by simp[Arg.tmps])
 |c v=>rfl
theorem zdb{fr fr':Fr}{l:List Arg}(h:∀t∈argsTmps l,fr t=fr' t):zp fr l=zp fr' l:=by
 unfold zp;apply List.map_congr_left;intro a ha;rw[zT fun t ht=>h t (yCa.2 ⟨a,ha,ht⟩)]
theorem fillParts_congr{fr fr':Fr}:∀(ps:List (Nat×Nat×Arg)) (cs:List PV),(∀t∈ps.flatMap (fun p=>p.2.2.tmps),fr t=fr' t)->zoc fr cs ps=zoc fr' cs ps
 | [],cs,_=>rfl
 |(off,sz,a)::r,cs,h=>by
  have e:=zT (a:=a) fun t ht=>h t (yCa.2 ⟨_,yJa,ht⟩)
  have ih:=fun cs=>fillParts_congr r cs fun t ht=>h t (by
   obtain⟨p,hp,hq⟩:=yCa.1 ht;exact yCa.2 ⟨p,ySa _ hp,hq⟩)
  simp only[zoc,e,ih]
theorem fillPartsF_congr{fr fr':Fr}:∀(ps:List (Nat×Nat×Arg)) (cs:List PV),(∀t∈ps.flatMap (fun p=>p.2.2.tmps),fr t=fr' t)->zJb fr cs ps=zJb fr' cs ps
 | [],cs,_=>rfl
 |(off,sz,a)::r,cs,h=>by
  have e:=zT (a:=a) fun t ht=>h t (yCa.2 ⟨_,yJa,ht⟩)
  have ih:=fun cs=>fillPartsF_congr r cs fun t ht=>h t (by
   obtain⟨p,hp,hq⟩:=yCa.1 ht;exact yCa.2 ⟨p,ySa _ hp,hq⟩)
  simp only[zJb,e,ih]
theorem zXd{fr fr':Fr}{sz:Nat}:∀(ps:List (Nat×Arg)) (cs:List PV),(∀t∈ps.flatMap (fun p=>p.2.tmps),fr t=fr' t)->zVa fr sz cs ps=zVa fr' sz cs ps
 | [],cs,_=>rfl
 |(i,a)::r,cs,h=>by
  have e:=zT (a:=a) fun t ht=>h t (yCa.2 ⟨_,yJa,ht⟩)
  have ih:=fun cs=>zXd (sz:=sz) r cs fun t ht=>h t (by
   obtain⟨p,hp,hq⟩:=yCa.1 ht;exact yCa.2 ⟨p,ySa _ hp,hq⟩)
  simp only[zVa,e,ih]
theorem zqe{fr fr':Fr}{a:Option Arg}{d:Nat}(h:∀t∈optTmps a,fr t=fr' t):zQd fr a d=zQd fr' a d:=by
 cases a with
 |none=>rfl
 |some a=>simp only[zQd,zT h]
theorem sem_congr{fr fr':Fr}{b:Bx}{st:zc}{o:IOp}(h:∀t∈o.reads,fr t=fr' t):o.sem fr b st=o.sem fr' b st:=by
 cases o<;>simp only[IOp.reads,yx,or_imp,forall_and]at h
 case take s=>simp only[IOp.sem,h s (by simp)]
 case pick c x y=>simp only[IOp.sem,zT h.1.1,zT h.1.2,zT h.2]
 case build z ps=>simp only[IOp.sem,fillParts_congr ps z h]
 case buildF z ps=>simp only[IOp.sem,fillPartsF_congr ps z h]
 case bslice sz z n ps=>simp only[IOp.sem,zXd ps _ h]
 case bsliceS sz z n ps=>simp only[IOp.sem,zXd ps _ h]
 case storeT w x t=>simp only[IOp.sem,zFc,zT h.1,h.2 t (by simp)]
 case store w sz x y=>simp only[IOp.sem,zFc,zT h.1,zT h.2]
 case mkfn f x y=>
  have e1:=zdb h.1;have e2:=zdb h.2;unfold zp at e1 e2;simp only[IOp.sem,e1,e2]
 case slc i z x lo hi mx=>
  obtain⟨⟨⟨h1,h2⟩,h3⟩,h4⟩:=h;cases mx with
  |none=>simp only[IOp.sem,zT h1,zqe h2,zqe h3]
  |some m=>simp only[IOp.sem,zT h1,zqe h2,zqe h3,zT (a:=m) h4]
 case mapset ks m k v=>simp only[IOp.sem,zT h.1.1,zT h.1.2,zT h.2]
 case mkmap=>rfl
 all_goals first
  |rfl
  |(simp only[IOp.sem,zT h];done)
  |(simp only[IOp.sem,zT h.1,zT h.2];done)
theorem sem_free{fr:Fr}{b:Bx}{st st2:zc}{o:IOp}(h0:o.stU=0):o.sem fr b st2=(o.sem fr b st).map fun r=>(r.1,r.2.1,st2):=by
 cases o<;>simp only[IOp.stU]at h0<;>try(cases h0;done)
 case len tk a=>
  split at h0
  ·cases h0
  rename_i htk;have:lenSem st2 tk (a.val fr)=lenSem st tk (a.val fr):=by
   unfold lenSem;split<;>simp[htk]
  simp only[IOp.sem,this,Option.map_map,yM]
 case load w ag sz a=>
  cases w with
  |any=>cases h0
  |_=>
   simp only[IOp.sem]
   (repeat' (first|rfl|split))<;>simp_all[yM]
 case loadT w a=>
  cases w with
  |box k=>
   simp only[IOp.sem]
   (repeat' (first|rfl|split))<;>simp_all[yM]
  |_=>cases h0
 case store w sz a x=>
  cases w with
  |box k=>
   simp only[IOp.sem,zFc]
   (repeat' (first|rfl|split))<;>simp_all[yM]
  |_=>cases h0
 case storeT w a x=>
  cases w with
  |box k=>
   simp only[IOp.sem,zFc]
   (repeat' (first|rfl|split))<;>simp_all[yM]
  |_=>cases h0
 all_goals
  simp only[IOp.sem,Option.map_map,yM]
  try((repeat' (first|rfl|split))<;>simp_all[yM])
theorem sem_reads{fr:Fr}{b b':Bx}{st st':zc}{v:PV}{o:IOp}(h0:o.stU<=1)(h:o.sem fr b st=some (v,b',st')):st'=st:=by
 by_cases hz:o.stU=0
 ·have:=sem_free (fr:=fr) (b:=b) (st:=st) (st2:=st) hz;rw[h]at this;simp only[yN,Option.some.injEq,Prod.mk.injEq]at this;exact this.2.2
 ·cases o<;>try(first|exact absurd rfl hz|(simp[IOp.stU]at h0;done))
  case len tk a=>
   simp only[IOp.sem,yc,Prod.mk.injEq]at h;obtain⟨_,_,_,_,rfl⟩:=h;rfl
  case load w ag sz a=>
   cases w with
   |any=>
    simp only[IOp.sem]at h
    (repeat' (split at h))<;>simp_all
    all_goals(obtain⟨x,_,_,_,hx⟩:=h;exact hx.symm)
   |_=>exact absurd rfl hz
  case callR f args=>simp[IOp.sem]at h
  case loadB ag sz a=>
   simp only[IOp.sem]at h;split at h
   ·simp only[yia,yc,Prod.mk.injEq]at h;obtain⟨_,_,_,_,_,_,_,_,rfl⟩:=h;rfl
   ·cases h
  case loadN q ag sz a=>
   simp only[IOp.sem]at h
   (repeat' (split at h))<;>simp_all
   all_goals(obtain⟨x,_,_,_,hx⟩:=h;exact hx.symm)
  case loadT w a=>cases w<;>first|exact absurd rfl hz|(simp[IOp.stU]at h0;done)
  case store w sz a x=>cases w<;>first|exact absurd rfl hz|(simp[IOp.stU]at h0;done)
  case storeT w a x=>cases w<;>first|exact absurd rfl hz|(simp[IOp.stU]at h0;done)
  case lookup ks ok z m k=>
   simp only[IOp.sem]at h
   (repeat' (split at h))<;>simp_all
   all_goals(obtain⟨x,_,hx⟩:=h;cases x<;>simp at hx<;>exact hx.2.2.symm)
  case append sz by_ x y=>
   simp only[IOp.sem]at h
   (repeat' (split at h))<;>simp_all[yia]
   all_goals(obtain⟨x,_,hx⟩:=h;(repeat' (split at hx))<;>simp_all)
def GOp.rds(g:GOp):List Nat:=g.op.reads++(match g.g with|some (t,_)=>[t]|none=>[])
def GOp.wrs(g:GOp):List Nat:=g.op.takes++g.dst.toList
def disj(x y:List Nat):Bool:=x.all fun t=> !y.contains t
theorem disj_spec{x y:List Nat}(h:disj x y=true):∀t,t∈x->t∈y->False:=by
 intro t h1 h2;have:=yq.1 h t h1;simp[h2]at this
def stIndep(x y:Nat):Bool:=decide (x=0)||decide (y=0)||(decide (x<=1)&&decide (y<=1))
def zye:Option Nat->Option Nat->Bool
 |some i,some j=>decide (i≠j)
 |_,_=>true
def IOp.looks:IOp->Bool
 | .load .. =>true
 |_=>false
def IOp.ldAny:IOp->Bool
 | .load .any _ _ _=>true
 |_=>false
def IOp.ldTAny:IOp->Bool
 | .loadT .any _=>true
 |_=>false
def IOp.ldBig:IOp->Bool
 | .loadB .. =>true
 |_=>false
def IOp.ckB:IOp->Bool
 | .callK .. =>true
 |_=>false
def ld2(x y:IOp):Bool:=(x.ldAny&&y.ldTAny)||(x.ldBig&&y.ckB)
def ldIndep(x y:IOp):Bool:=ld2 x y||ld2 y x
def IOp.alc:IOp->Bool
 | .boxS .. | .bsliceS .. | .mksliceS .. | .mkmap=>true
 |_=>false
def alIndep(x y:IOp):Bool:=(x.ldAny||x.ldTAny)&&y.alc
def IOp.at? :IOp->Option Nat
 | .loadN q .. | .storeN q .. =>some q
 |_=>none
def atIndep(x y:IOp):Bool:=match x.at?,y.at? with
 |some i,some j=>decide (i≠j)
 |_,_=>false
def indep(x y:GOp):Bool:=
 !x.op.mayPan&&(!y.op.mayPan||decide (x.op.stU<=1))&&disj x.wrs y.rds&&disj y.wrs x.rds&&disj x.wrs y.wrs&&(stIndep x.op.stU y.op.stU||ldIndep x.op y.op||alIndep x.op y.op||atIndep x.op y.op)&&(zye x.op.box? y.op.box? ||(x.op.looks&&y.op.looks))
noncomputable def eff(cf:zL)(o:IOp)(fr:Fr)(b:Bx)(st:zc):Option (PV×Bx×zc):=
 match o with
 | .call pk f args=>match f.val fr with
  | .fn k first caps=>
   if(zp fr args).all zE then
   match cf k (first++zp fr args++caps) st with
   |some (.ret v,st')=>some (v,b,st')
   |_=>none
   else none
  |_=>none
 | .callP pk f args=>match f.val fr with
  | .fn k first caps=>
   if(zp fr args).all zE&&zJ 0 (first++zp fr args++caps)then
   match cf k (first++zp fr args++caps) []with
   |some (.ret v,_)=>if zx 0 v then some (v,b,st)else none
   |_=>none
   else none
  |_=>none
 | .callR f args=>match f.val fr with
  | .fn k first caps=>
   if(zp fr args).all zE then
   match cf k (first++zp fr args++caps) st with
   |some (.ret v,st')=>if same st' st then some (v,b,st)else none
   |_=>none
   else none
  |_=>none
 | .callK f args=>match f.val fr with
  | .fn k first caps=>
   if(zp fr args).all zE then
   match cf k (first++zp fr args++caps) st with
   |some (.ret v,st')=>if sameBig st' st then some (v,b,st')else none
   |_=>none
   else none
  |_=>none
 | .panic _=>none
 |o=>o.sem fr b st
noncomputable def geff(cf:zL)(g:GOp)(fr:Fr)(b:Bx)(st:zc):Option (Bool×PV×Bx×zc):=
 match g.g with
 |none=>(eff cf g.op fr b st).map fun r=>(true,r.1,r.2.1,r.2.2)
 |some (t,w)=>match gate w (fr t)with
  |some true=>(eff cf g.op fr b st).map fun r=>(true,r.1,r.2.1,r.2.2)
  |some false=>some (false,.tup [],b,st)
  |none=>none
def wr(fr:Fr)(k:Bool)(T:List Nat)(d:Option Nat)(v:PV):Fr:=zHa (if k then zDa fr T else fr) d v
theorem setBx_get(bx:Bxs)(k:Option Nat):zKb bx k (zZ bx k)=bx:=by
 cases k with
 |none=>rfl
 |some k=>funext j;simp only[zKb,zZ,upd];split<;>simp_all
theorem step_ok{cf:zL}{g:GOp}{s s':St}:step cf g s=some (.ok s')<->∃k v b' st',geff cf g s.fr (zZ s.bx g.op.box?) s.st=some (k,v,b',st')/\s'={fr:=wr s.fr k g.op.takes g.dst v,bx:=zKb s.bx g.op.box? b',st:=st'}:=by
 have hrun:zI cf g.dst g.op s=some (.ok s')<->∃v b' st',eff cf g.op s.fr (zZ s.bx g.op.box?) s.st=some (v,b',st')/\s'={fr:=wr s.fr true g.op.takes g.dst v,bx:=zKb s.bx g.op.box? b',st:=st'}:=by
  obtain⟨gd,dst,op⟩:=g;cases op
  case call pk f args=>
   simp only[zI,eff];cases hfv:Arg.val s.fr f
   case fn k first caps=>
    simp only;by_cases hall:(zp s.fr args).all zE=true
    ·simp only[if_pos hall];cases hcf:cf k (first++zp s.fr args++caps) s.st with
     |none=>simp
     |some r=>
      obtain⟨r,st'⟩:=r;cases r with
      |ret v=>
       simp only[Option.some.injEq,SR.ok.injEq,Prod.mk.injEq];constructor
       ·rintro rfl;exact⟨_,_,_,⟨rfl,rfl,rfl⟩,rfl⟩
       ·rintro⟨_,_,_,⟨rfl,rfl,rfl⟩,rfl⟩;rfl
      |pan v=>cases pk<;>simp
    ·simp only[if_neg hall];simp
   all_goals simp
  case callP pk f args=>
   simp only[zI,eff];cases hfv:Arg.val s.fr f
   case fn k first caps=>
    simp only;by_cases hall:((zp s.fr args).all zE&&zJ 0 (first++zp s.fr args++caps))=true
    ·simp only[if_pos hall];cases hcf:cf k (first++zp s.fr args++caps) []with
     |none=>simp
     |some r=>
      obtain⟨r,st'⟩:=r;cases r with
      |ret v=>
       simp only;by_cases hb:zx 0 v=true
       ·simp only[if_pos hb,Option.some.injEq,SR.ok.injEq,Prod.mk.injEq];constructor
        ·rintro rfl;exact⟨_,_,_,⟨rfl,rfl,rfl⟩,rfl⟩
        ·rintro⟨_,_,_,⟨rfl,rfl,rfl⟩,rfl⟩;rfl
       ·simp only[if_neg hb];simp
      |pan v=>
       simp only;by_cases hb:(pk&&zx 0 v)=true
       ·simp only[if_pos hb];simp
       ·simp only[if_neg hb];simp
    ·simp only[if_neg hall];simp
   all_goals simp
  case callR f args=>
   simp only[zI,eff];cases hfv:Arg.val s.fr f
   case fn k first caps=>
    simp only;by_cases hall:(zp s.fr args).all zE=true
    ·simp only[if_pos hall];cases hcf:cf k (first++zp s.fr args++caps) s.st with
     |none=>simp
     |some r=>
      obtain⟨r,st'⟩:=r;cases r with
      |ret v=>
       simp only;by_cases hb:same st' s.st=true
       ·simp only[if_pos hb,Option.some.injEq,SR.ok.injEq,Prod.mk.injEq];constructor
        ·rintro rfl;exact⟨_,_,_,⟨rfl,rfl,rfl⟩,rfl⟩
        ·rintro⟨_,_,_,⟨rfl,rfl,rfl⟩,rfl⟩;rfl
       ·simp only[if_neg hb];simp
      |pan v=>simp
    ·simp only[if_neg hall];simp
   all_goals simp
  case callK f args=>
   simp only[zI,eff];cases hfv:Arg.val s.fr f
   case fn k first caps=>
    simp only;by_cases hall:(zp s.fr args).all zE=true
    ·simp only[if_pos hall];cases hcf:cf k (first++zp s.fr args++caps) s.st with
     |none=>simp
     |some r=>
      obtain⟨r,st'⟩:=r;cases r with
      |ret v=>
       simp only;by_cases hb:sameBig st' s.st=true
       ·simp only[if_pos hb,Option.some.injEq,SR.ok.injEq,Prod.mk.injEq];constructor
        ·rintro rfl;exact⟨_,_,_,⟨rfl,rfl,rfl⟩,rfl⟩
        ·rintro⟨_,_,_,⟨rfl,rfl,rfl⟩,rfl⟩;rfl
       ·simp only[if_neg hb];simp
      |pan v=>simp
    ·simp only[if_neg hall];simp
   all_goals simp
  case panic a=>
   simp only[zI,eff];split<;>simp
  all_goals
   simp only[zI,eff];split
   ·rename_i v b' st' h;simp only[Option.some.injEq,SR.ok.injEq,h,Prod.mk.injEq];constructor
    ·rintro rfl;exact⟨_,_,_,⟨rfl,rfl,rfl⟩,rfl⟩
    ·rintro⟨_,_,_,⟨rfl,rfl,rfl⟩,rfl⟩;rfl
   ·rename_i h;simp[h]
 have hmap:(∃v b' st',eff cf g.op s.fr (zZ s.bx g.op.box?) s.st=some (v,b',st')/\s'={fr:=wr s.fr true g.op.takes g.dst v,bx:=zKb s.bx g.op.box? b',st:=st'})↔
   ∃k v b' st',((eff cf g.op s.fr (zZ s.bx g.op.box?) s.st).map fun r=>(true,r.1,r.2.1,r.2.2))=some (k,v,b',st')/\s'={fr:=wr s.fr k g.op.takes g.dst v,bx:=zKb s.bx g.op.box? b',st:=st'}:=by
  constructor
  ·rintro⟨v,b',st',h,rfl⟩;exact⟨true,v,b',st',by rw[h];rfl,rfl⟩
  ·rintro⟨k,v,b',st',h,rfl⟩
   simp only[yc,Prod.mk.injEq]at h;obtain⟨r,h,rfl,rfl,rfl,rfl⟩:=h;exact⟨_,_,_,h,rfl⟩
 unfold step geff;cases hg:g.g with
 |none=>
  simp only;rw[hrun];exact hmap
 |some x=>
  obtain⟨t,w⟩:=x;simp only;cases ht:gate w (s.fr t)with
  |none=>simp
  |some x=>
   cases x
   ·simp only[Option.some.injEq,SR.ok.injEq,Prod.mk.injEq];constructor
    ·rintro rfl;exact⟨_,_,_,_,⟨rfl,rfl,rfl,rfl⟩,by simp only[wr,setBx_get];rfl⟩
    ·rintro⟨_,_,_,_,⟨rfl,rfl,rfl,rfl⟩,rfl⟩;simp only[wr,setBx_get];rfl
   ·simp only;rw[hrun];exact hmap
theorem step_pan{cf:zL}{g:GOp}{s:St}(h:g.op.mayPan=false){v:PV}{st:zc}:step cf g s≠some (.pan v st):=by
 have hrun:zI cf g.dst g.op s≠some (.pan v st):=by
  obtain⟨gd,dst,op⟩:=g;cases op
  case call pk f args=>
   simp only[IOp.mayPan]at h;subst h;simp only[zI];cases Arg.val s.fr f
   case fn k first caps=>
    simp only;split
    ·cases cf k (first++zp s.fr args++caps) s.st with
     |none=>simp
     |some r=>
      obtain⟨r,st'⟩:=r;cases r<;>simp
    ·simp
   all_goals simp
  case callP pk f args=>
   simp only[IOp.mayPan]at h;subst h;simp only[zI];cases Arg.val s.fr f
   case fn k first caps=>
    simp only;split
    ·cases cf k (first++zp s.fr args++caps) []with
     |none=>simp
     |some r=>
      obtain⟨r,st'⟩:=r;cases r with
      |ret v=>simp only;split<;>simp
      |pan v=>simp
    ·simp
   all_goals simp
  case callR f args=>
   simp only[zI];cases Arg.val s.fr f
   case fn k first caps=>
    simp only;split
    ·cases cf k (first++zp s.fr args++caps) s.st with
     |none=>simp
     |some r=>
      obtain⟨r,st'⟩:=r;cases r with
      |ret v=>simp only;split<;>simp
      |pan v=>simp
    ·simp
   all_goals simp
  case callK f args=>
   simp only[zI];cases Arg.val s.fr f
   case fn k first caps=>
    simp only;split
    ·cases cf k (first++zp s.fr args++caps) s.st with
     |none=>simp
     |some r=>
      obtain⟨r,st'⟩:=r;cases r with
      |ret v=>simp only;split<;>simp
      |pan v=>simp
    ·simp
   all_goals simp
  case panic a=>cases h
  all_goals
   simp only[zI];split<;>simp
 unfold step;split
 ·exact hrun
 ·split
  ·exact hrun
  ·simp
  ·simp
theorem eff_congr{cf:zL}{o:IOp}{fr fr':Fr}{b:Bx}{st:zc}(h:∀t∈o.reads,fr t=fr' t):eff cf o fr b st=eff cf o fr' b st:=by
 cases o
 case call pk f args=>
  simp only[IOp.reads,yx,or_imp,forall_and]at h;simp only[eff,zT h.1,zdb h.2]
 case callP pk f args=>
  simp only[IOp.reads,yx,or_imp,forall_and]at h;simp only[eff,zT h.1,zdb h.2]
 case callR f args=>
  simp only[IOp.reads,yx,or_imp,forall_and]at h;simp only[eff,zT h.1,zdb h.2]
 case callK f args=>
  simp only[IOp.reads,yx,or_imp,forall_and]at h;simp only[eff,zT h.1,zdb h.2]
 case panic a=>rfl
 all_goals exact sem_congr h
theorem geff_congr{cf:zL}{g:GOp}{fr fr':Fr}{b:Bx}{st:zc}(h:∀t∈g.rds,fr t=fr' t):geff cf g fr b st=geff cf g fr' b st:=by
 unfold GOp.rds at h;simp only[yx,or_imp,forall_and]at h;have he:=eff_congr (cf:=cf) (b:=b) (st:=st) h.1;unfold geff;cases hg:g.g with
 |none=>simp only[he]
 |some x=>
  obtain⟨t,w⟩:=x;rw[hg]at h;simp only[h.2 t (by simp),he]
theorem eff_free{cf:zL}{o:IOp}{fr:Fr}{b:Bx}{st st2:zc}(h0:o.stU=0):eff cf o fr b st2=(eff cf o fr b st).map fun r=>(r.1,r.2.1,st2):=by
 cases o
 case call pk f args=>cases h0
 case callP pk f args=>
  simp only[eff];split
  ·split
   ·split
    ·split<;>rfl
    ·rfl
   ·rfl
  ·rfl
 case callR f args=>cases h0
 case callK f args=>cases h0
 case panic a=>rfl
 all_goals exact sem_free (fr:=fr) h0
theorem geff_free{cf:zL}{g:GOp}{fr:Fr}{b:Bx}{st st2:zc}(h0:g.op.stU=0):geff cf g fr b st2=(geff cf g fr b st).map fun r=>(r.1,r.2.1,r.2.2.1,st2):=by
 unfold geff;rw[eff_free (st:=st) (st2:=st2) h0];cases g.g with
 |none=>simp[yM]
 |some x=>
  obtain⟨t,w⟩:=x;simp only;split
  ·simp[yM]
  ·rfl
  ·rfl
theorem eff_reads{cf:zL}{fr:Fr}{b b':Bx}{st st':zc}{v:PV}{o:IOp}(h0:o.stU<=1)(h:eff cf o fr b st=some (v,b',st')):st'=st:=by
 cases o
 case call pk f args=>(simp[IOp.stU]at h0;done)
 case callK f args=>(simp[IOp.stU]at h0;done)
 case callP pk f args=>
  simp only[eff]at h;split at h
  ·split at h
   ·split at h
    ·split at h
     ·cases h;rfl
     ·cases h
    ·cases h
   ·cases h
  ·cases h
 case callR f args=>
  simp only[eff]at h;split at h
  ·split at h
   ·split at h
    ·split at h
     ·cases h;rfl
     ·cases h
    ·cases h
   ·cases h
  ·cases h
 case panic a=>cases h
 all_goals exact sem_reads (fr:=fr) h0 h
theorem zbd{cf:zL}{fr:Fr}{b b':Bx}{st st':zc}{v:PV}{k:Bool}{g:GOp}(h0:g.op.stU<=1)(h:geff cf g fr b st=some (k,v,b',st')):st'=st:=by
 unfold geff at h;cases hg:g.g with
 |none=>
  rw[hg]at h;simp only[yc,Prod.mk.injEq]at h;obtain⟨r,h,rfl,rfl,rfl,rfl⟩:=h;exact eff_reads h0 h
 |some x=>
  obtain⟨t,w⟩:=x;rw[hg]at h;simp only at h;split at h
  ·simp only[yc,Prod.mk.injEq]at h;obtain⟨r,h,rfl,rfl,rfl,rfl⟩:=h;exact eff_reads h0 h
  ·cases h;rfl
  ·cases h
theorem geff_zero{cf:zL}{fr:Fr}{b b':Bx}{st st' st2:zc}{v:PV}{k:Bool}{g:GOp}(h0:g.op.stU=0)(h:geff cf g fr b st=some (k,v,b',st')):st'=st/\geff cf g fr b st2=some (k,v,b',st2):=by
 refine⟨zbd (by omega) h,?_⟩;rw[geff_free (st:=st) h0,h];rfl
theorem strip_strip(v:PV):strip (strip v)=strip v:=by
 cases v with
 |slice k z l=>cases k<;>rfl
 |_=>rfl
theorem stripAll_at(T:List Nat):∀(fr:Fr) (t:Nat),zDa fr T t=if t∈T then strip (fr t)else fr t:=by
 induction T with
 |nil=>intro fr t;simp[zDa]
 |cons x T ih=>
  intro fr t;simp only[zDa,ih,upd,yw];by_cases h1:t=x
  ·subst h1;by_cases h2:t∈T<;>simp[h2,strip_strip]
  ·by_cases h2:t∈T<;>simp[h1,h2]
theorem wr_at(fr:Fr)(k:Bool)(T:List Nat)(d:Option Nat)(v:PV)(t:Nat):wr fr k T d v t=if d=some t then v else if k=true/\t∈T then strip (fr t)else fr t:=by
 unfold wr;cases d with
 |none=>cases k<;>simp[zHa,stripAll_at]
 |some d=>
  simp only[zHa,upd,Option.some.injEq];by_cases h:t=d
  ·subst h;simp
  ·have h':¬d=t:=fun e=>h e.symm
   rw[if_neg h,if_neg h'];cases k<;>simp[stripAll_at]
theorem wr_out{fr:Fr}{k:Bool}{T:List Nat}{d:Option Nat}{v:PV}{t:Nat}(h:t ∉ T++d.toList):wr fr k T d v t=fr t:=by
 simp only[yx,Option.mem_toList,not_or]at h;rw[wr_at,if_neg h.2,if_neg (fun e=>h.1 e.2)]
theorem wr_comm{fr:Fr}{k k':Bool}{T T':List Nat}{d d':Option Nat}{v v':PV}(h:∀t,t∈T++d.toList->t∈T'++d'.toList->False):
  wr (wr fr k T d v) k' T' d' v'=wr (wr fr k' T' d' v') k T d v:=by
 funext t;by_cases h1:t∈T++d.toList
 ·have h2:t ∉ T'++d'.toList:=fun h2=>h t h1 h2
  rw[wr_out h2];simp only[wr_at (wr fr k' T' d' v'),wr_at fr k T,wr_out h2]
 ·rw[wr_out h1];simp only[wr_at (wr fr k T d v),wr_at fr k' T',wr_out h1]
theorem setBx_comm{bx:Bxs}{i j:Option Nat}(h:zye i j=true)(u v:Bx):zKb (zKb bx i u) j v=zKb (zKb bx j v) i u:=by
 cases i with
 |none=>rfl
 |some i=>
  cases j with
  |none=>rfl
  |some j=>
   simp only[zye,decide_eq_true_eq]at h;exact upd_comm bx u v (Ne.symm h)
theorem getBx_set{bx:Bxs}{i j:Option Nat}(h:zye i j=true)(u:Bx):zZ (zKb bx i u) j=zZ bx j:=by
 cases i with
 |none=>rfl
 |some i=>
  cases j with
  |none=>rfl
  |some j=>
   simp only[zye,decide_eq_true_eq]at h;exact zkb bx u (Ne.symm h)
theorem boxIndep_symm{i j:Option Nat}(h:zye i j=true):zye j i=true:=by
 cases i with
 |none=>cases j<;>rfl
 |some i=>
  cases j with
  |none=>rfl
  |some j=>simp only[zye,decide_eq_true_eq]at h ⊢;exact Ne.symm h
theorem load_same{fr:Fr}{b b':Bx}{st st':zc}{v:PV}{wh:Where}{ag:Bool}{sz:Nat}{a:Arg}(h:IOp.sem fr b st (.load wh ag sz a)=some (v,b',st')):b'=b:=by
 simp only[IOp.sem]at h;split at h
 ·split at h
  ·split at h
   ·simp only[yc,Prod.mk.injEq]at h;obtain⟨_,_,_,h,_⟩:=h;exact h.symm
   ·cases h
  ·cases h
 ·simp only[yc,Prod.mk.injEq]at h;obtain⟨_,_,_,h,_⟩:=h;exact h.symm
 ·simp only[yc,Prod.mk.injEq]at h;obtain⟨_,_,_,h,_⟩:=h;exact h.symm
 ·split at h
  ·split at h
   ·simp only[yc,Prod.mk.injEq]at h;obtain⟨_,_,_,h,_⟩:=h;exact h.symm
   ·cases h
  ·cases h
 ·cases h
theorem geff_looks{cf:zL}{fr:Fr}{b b':Bx}{st st':zc}{v:PV}{k:Bool}{g:GOp}(hl:g.op.looks=true)(h:geff cf g fr b st=some (k,v,b',st')):b'=b:=by
 have he:∀v b' st',eff cf g.op fr b st=some (v,b',st')->b'=b:=by
  intro v b' st' h;cases ho:g.op with
  |load wh ag sz a=>rw[ho]at h;exact load_same h
  |_=>rw[ho]at hl;cases hl
 unfold geff at h;cases hg:g.g with
 |none=>
  rw[hg]at h;simp only[yc,Prod.mk.injEq]at h;obtain⟨r,h,rfl,rfl,rfl,rfl⟩:=h;exact he _ _ _ h
 |some x=>
  obtain⟨t,w⟩:=x;rw[hg]at h;simp only at h;split at h
  ·simp only[yc,Prod.mk.injEq]at h;obtain⟨r,h,rfl,rfl,rfl,rfl⟩:=h;exact he _ _ _ h
  ·cases h;rfl
  ·cases h
theorem canon1_strip(v:PV):canon1 (strip v)=canon1 v:=by
 cases v with
 |slice k z l=>cases k<;>rfl
 |_=>rfl
theorem stripA_strip(v:PV):stripA (strip v)=stripA v:=by
 cases v with
 |slice k z l=>cases k<;>rfl
 |_=>rfl
theorem map_canon_set{cs:List PV}{off:Nat}{v:PV}(h:cs[off]? =some v):(cs.set off (strip v)).map canon1=cs.map canon1:=by
 apply yba;intro i;simp only[yo,ypa];split
 ·rename_i e;subst e;split
  ·rw[h];simp[canon1_strip]
  ·rename_i hl;rw[yP (by omega)]
 ·rfl
theorem cells_rebuild{e:PV}{cs:List PV}(h:cs.length=(cellsOf e).length)(hn:∀v,cs[0]? =some v->isAggV e=false->isAggV v=false):cellsOf (zOa e cs)=cs:=by
 unfold zOa;split
 ·rfl
 ·rename_i hne;have hc:cellsOf e=[e]:=by
   unfold cellsOf;split
   ·exact absurd rfl (hne _)
   ·rfl
  rw[hc]at h
  match cs,h with
  | [x],_=>
   have hx:=hn x rfl (by cases e<;>first|rfl|exact absurd rfl (hne _));cases x<;>first|rfl|(cases hx;done)
theorem readCells_set{ag:Bool}{sz off o:Nat}{cs:List PV}{v:PV}(h:cs[off]? =some v):(zM ag sz (cs.set off (strip v)) o).map stripA=(zM ag sz cs o).map stripA:=by
 unfold zM;cases ag
 ·simp only[yAa,if_false];rw[ypa];split
  ·rename_i e;subst e;split
   ·rw[h];simp[stripA_strip]
   ·rename_i hl;rw[yP (by omega)]
  ·rfl
 ·simp only[if_true,ywa];split
  ·simp only[yN,stripA,List.map_take,List.map_drop,map_canon_set h]
  ·rfl
theorem isAggV_strip(v:PV):isAggV (strip v)=isAggV v:=by
 cases v with
 |slice k z l=>cases k<;>rfl
 |_=>rfl
theorem load_loadT{fr fr':Fr}{b bt bt':Bx}{st st':zc}{ag:Bool}{sz:Nat}{a c:Arg}{v:PV}(h:IOp.sem fr' bt st (.loadT .any c)=some (v,bt',st')):
  IOp.sem fr b st' (.load .any ag sz a)=(IOp.sem fr b st (.load .any ag sz a)).map fun r=>(r.1,r.2.1,st'):=by
 simp only[IOp.sem]at h;cases hcv:Arg.val fr' c<;>rw[hcv]at h<;>try(cases h;done)
 rename_i l i off;simp only at h;split at h
 case h_2=>cases h
 rename_i s es hl;split at h
 case h_2=>cases h
 rename_i e he;cases hv:(cellsOf e)[off]? with
 |none=>rw[hv]at h;cases h
 |some x=>
  rw[hv]at h;simp only[yN,Option.some.injEq,Prod.mk.injEq]at h;obtain⟨rfl,_,rfl⟩:=h;have hcell:cellsOf (zOa e ((cellsOf e).set off (strip x)))=(cellsOf e).set off (strip x):=by
   apply cells_rebuild (by simp);intro y hy ha;have hc:cellsOf e=[e]:=by cases e<;>first|rfl|(cases ha;done)
   rw[hc]at hv hy;cases off with
   |zero=>simp at hv hy;subst hv;subst hy;rw[isAggV_strip];exact ha
   |succ o=>simp at hv
  simp only[IOp.sem];cases hav:Arg.val fr a<;>simp only[Option.map_none,Option.map_map,yM]
  rename_i l' i' off';rw[ypa];by_cases e1:l=l'
  ·subst e1;have hlt:l<st.length:=(ya.1 hl).1;simp only[if_pos,hlt,hl,ypa];by_cases e2:i=i'
   ·subst e2;have hlt2:i<es.length:=(ya.1 he).1;simp only[if_pos,hlt2,he,hcell];have:=readCells_set (ag:=ag) (sz:=sz) (o:=off') hv;cases q1:zM ag sz ((cellsOf e).set off (strip x)) off'<;>cases q2:zM ag sz (cellsOf e) off'<;>rw[q1,q2]at this<;>simp at this ⊢
    exact this
   ·simp only[if_neg e2];cases es[i']? <;>simp[yM]
  ·simp only[if_neg e1];cases st[l']? with
   |none=>simp
   |some q=>cases q with
    |mp es=>simp
    |dead z=>simp
    |arr z es=>simp only;cases es[i']? <;>simp[yM]
theorem geff_load_loadT{cf:zL}{x y:GOp}{fr fr':Fr}{b bt bt':Bx}{st st':zc}{v:PV}{k:Bool}(hx:x.op.ldAny=true)(hy:y.op.ldTAny=true)(h:geff cf y fr' bt st=some (k,v,bt',st')):
  geff cf x fr b st'=(geff cf x fr b st).map fun r=>(r.1,r.2.1,r.2.2.1,st'):=by
 have hxo:∃ag sz a,x.op= .load .any ag sz a:=by
  cases hq:x.op<;>rw[hq]at hx<;>try(cases hx;done)
  rename_i w ag sz a;cases w<;>first|exact⟨_,_,_,rfl⟩|(cases hx;done)
 have hyo:∃a,y.op= .loadT .any a:=by
  cases hq:y.op<;>rw[hq]at hy<;>try(cases hy;done)
  rename_i w a;cases w<;>first|exact⟨_,rfl⟩|(cases hy;done)
 obtain⟨ag,sz,a,hxo⟩:=hxo;obtain⟨c,hyo⟩:=hyo;have hst:st'=st\/∃v,IOp.sem fr' bt st (.loadT .any c)=some (v,bt',st'):=by
  unfold geff at h;rw[hyo]at h;cases hg:y.g with
  |none=>
   rw[hg]at h;simp only[eff,yc,Prod.mk.injEq]at h;obtain⟨r,h,_,_,rfl,rfl⟩:=h;exact .inr ⟨_,h⟩
  |some g=>
   obtain⟨t,w⟩:=g;rw[hg]at h;simp only at h;split at h
   ·simp only[eff,yc,Prod.mk.injEq]at h;obtain⟨r,h,_,_,rfl,rfl⟩:=h;exact .inr ⟨_,h⟩
   ·cases h;exact .inl rfl
   ·cases h
 have he:eff cf x.op fr b st'=(eff cf x.op fr b st).map fun r=>(r.1,r.2.1,st'):=by
  rw[hxo];rcases hst with rfl|⟨v,hst⟩
  ·cases hq:eff cf (.load .any ag sz a) fr b st' with
   |none=>rfl
   |some r=>
    obtain⟨v,b',st2⟩:=r;have:=eff_reads (by simp[IOp.stU]) hq;subst this;rfl
  ·exact load_loadT hst
 unfold geff;cases x.g with
 |none=>simp[he,yM]
 |some g=>
  obtain⟨t,w⟩:=g;simp only;split
  ·simp[he,yM]
  ·rfl
  ·rfl
theorem geff_big{cf:zL}{x y:GOp}{fr fr':Fr}{b bt bt':Bx}{st st':zc}{v:PV}{k:Bool}(hx:x.op.ldBig=true)(hy:y.op.ckB=true)(h:geff cf y fr' bt st=some (k,v,bt',st')):
  geff cf x fr b st'=(geff cf x fr b st).map fun r=>(r.1,r.2.1,r.2.2.1,st'):=by
 obtain⟨ag,sz,a,hxo⟩:∃ag sz a,x.op= .loadB ag sz a:=by
  cases hq:x.op<;>rw[hq]at hx<;>first|exact⟨_,_,_,rfl⟩|(cases hx;done)
 obtain⟨f,args,hyo⟩:∃f args,y.op= .callK f args:=by
  cases hq:y.op<;>rw[hq]at hy<;>first|exact⟨_,_,rfl⟩|(cases hy;done)
 have hef:∀v bt' st',eff cf y.op fr' bt st=some (v,bt',st')->∀l,bigAt st' l=bigAt st l:=by
  intro v bt' st' h;rw[hyo]at h;simp only[eff]at h;split at h
  ·split at h
   ·split at h
    ·split at h
     ·rename_i hs;cases h;exact sameBig_iff.1 hs
     ·cases h
    ·cases h
   ·cases h
  ·cases h
 have hst:∀l,bigAt st' l=bigAt st l:=by
  unfold geff at h;cases hg:y.g with
  |none=>
   rw[hg]at h;simp only[yc,Prod.mk.injEq]at h;obtain⟨r,h,_,_,rfl,rfl⟩:=h;exact hef _ _ _ h
  |some g=>
   obtain⟨t,w⟩:=g;rw[hg]at h;simp only at h;split at h
   ·simp only[yc,Prod.mk.injEq]at h;obtain⟨r,h,_,_,rfl,rfl⟩:=h;exact hef _ _ _ h
   ·cases h;exact fun _=>rfl
   ·cases h
 have he:eff cf x.op fr b st'=(eff cf x.op fr b st).map fun r=>(r.1,r.2.1,st'):=by
  rw[hxo];simp only[eff,IOp.sem];split
  ·rw[hst];simp only[Option.map_bind,yM,Option.map_map]
  ·rfl
 unfold geff;cases x.g with
 |none=>simp[he,yM]
 |some g=>
  obtain⟨t,w⟩:=g;simp only;split
  ·simp[he,yM]
  ·rfl
  ·rfl
theorem geff_ld2{cf:zL}{x y:GOp}{fr fr':Fr}{b bt bt':Bx}{st st':zc}{v:PV}{k:Bool}(hxy:ld2 x.op y.op=true)(h:geff cf y fr' bt st=some (k,v,bt',st')):
  geff cf x fr b st'=(geff cf x fr b st).map fun r=>(r.1,r.2.1,r.2.2.1,st'):=by
 simp only[ld2,yS,yb]at hxy;rcases hxy with⟨hx,hy⟩|⟨hx,hy⟩
 ·exact geff_load_loadT hx hy h
 ·exact geff_big hx hy h
theorem ld2_stU{x y:IOp}(h:ld2 x y=true):x.stU<=1:=by
 simp only[ld2,yS,yb]at h;rcases h with⟨h,_⟩|⟨h,_⟩
 ·cases x<;>try(cases h;done)
  rename_i w _ _ _;cases w<;>first|(simp[IOp.stU];done)|(cases h;done)
 ·cases x<;>first|(simp[IOp.stU];done)|(cases h;done)
theorem runOp_npan{cf:zL}{dst:Option Nat}{op:IOp}{s:St}{v:PV}{st:zc}(hm:op.mayPan=false):zI cf dst op s≠some (.pan v st):=
 fun h=>step_pan (g:=⟨none,dst,op⟩) (cf:=cf) (s:=s) (v:=v) (st:=st) hm h
theorem runOp_pan_congr{cf:zL}{dst:Option Nat}{op:IOp}{s s':St}{v:PV}{st:zc}(hf1:∀t∈op.reads,s'.fr t=s.fr t)(hst:s'.st=s.st)(h:zI cf dst op s=some (.pan v st)):
  zI cf dst op s'=some (.pan v st):=by
 cases op with
 |call pk f args=>
  simp only[IOp.reads,yx,or_imp,forall_and]at hf1;simp only[zI]at h ⊢;rw[zT hf1.1,zdb hf1.2,hst];cases hfv:Arg.val s.fr f<;>rw[hfv]at h<;>try(cases h;done)
  rename_i k first caps;simp only at h ⊢;split at h
  case isFalse=>cases h
  rename_i hall;rw[if_pos hall];cases hcf:cf k (first++zp s.fr args++caps) s.st with
  |none=>rw[hcf]at h;cases h
  |some r=>
   obtain⟨r,st'⟩:=r;rw[hcf]at h;cases r with
   |ret v=>cases h
   |pan v=>exact h
 |callP pk f args=>
  simp only[IOp.reads,yx,or_imp,forall_and]at hf1;simp only[zI]at h ⊢;rw[zT hf1.1,zdb hf1.2,hst];cases hfv:Arg.val s.fr f<;>rw[hfv]at h<;>try(cases h;done)
  rename_i k first caps;simp only at h ⊢;split at h
  case isFalse=>cases h
  rename_i hall;rw[if_pos hall];cases hcf:cf k (first++zp s.fr args++caps) []with
  |none=>rw[hcf]at h;cases h
  |some r=>
   obtain⟨r,st'⟩:=r;rw[hcf]at h;cases r with
   |ret v=>simp only at h;split at h<;>cases h
   |pan v=>exact h
 |panic a=>
  simp only[IOp.reads]at hf1;simp only[zI]at h ⊢;rw[zT hf1,hst];exact h
 |_=>exact absurd h (runOp_npan rfl)
theorem step_pan_congr{cf:zL}{g:GOp}{s s':St}{v:PV}{st:zc}(hf:∀t∈g.rds,s'.fr t=s.fr t)(hst:s'.st=s.st)(h:step cf g s=some (.pan v st)):step cf g s'=some (.pan v st):=by
 unfold GOp.rds at hf;simp only[yx,or_imp,forall_and]at hf;obtain⟨hf1,hf2⟩:=hf;have hrun:zI cf g.dst g.op s=some (.pan v st)->zI cf g.dst g.op s'=some (.pan v st):=runOp_pan_congr hf1 hst;unfold step at h ⊢;cases hg:g.g with
 |none=>rw[hg]at h;exact hrun h
 |some x=>
  obtain⟨t,w⟩:=x;rw[hg]at h hf2;simp only at h ⊢;rw[hf2 t (by simp)];cases ht:gate w (s.fr t)with
  |none=>rw[ht]at h;cases h
  |some q=>
   rw[ht]at h;cases q
   ·cases h
   ·exact hrun h
theorem swap_pan{cf:zL}{x y:GOp}(h:indep x y=true){s s1:St}{v:PV}{st:zc}(h1:step cf x s=some (.ok s1))(h2:step cf y s1=some (.pan v st)):step cf y s=some (.pan v st):=by
 simp only[indep,yb,yS,yH,decide_eq_true_eq]at h;obtain⟨⟨⟨⟨⟨⟨_,hp⟩,d1⟩,d2⟩,d3⟩,hst⟩,hbx⟩:=h;rcases hp with hp|hp
 ·exact absurd h2 (step_pan hp)
 obtain⟨k,v',b,st',e1,rfl⟩:=step_ok.1 h1;have:=zbd hp e1;subst this;refine step_pan_congr (h:=h2) ?_ ?_
 ·intro t ht;exact(wr_out fun hw=>disj_spec d1 t hw ht).symm
 ·rfl
theorem sem_alc{o:IOp}{fr:Fr}{b b':Bx}{st st':zc}{v:PV}(ha:o.alc=true)(h:o.sem fr b st=some (v,b',st')):
  ∃ob,st'=st++[ob]/\∀st2:zc,st2.length=st.length->o.sem fr b st2=some (v,b',st2++[ob]):=by
 cases o<;>try(cases ha;done)
 case boxS sz a=>
  simp only[IOp.sem]at h ⊢;split at h
  ·rename_i hc;cases h;exact⟨_,rfl,fun st2 h2=>by rw[if_pos hc,h2]⟩
  ·cases h
 case bsliceS sz z n ps=>
  simp only[IOp.sem,yc,Prod.mk.injEq]at h ⊢;obtain⟨es,he,rfl,rfl,rfl⟩:=h;exact⟨_,rfl,fun st2 h2=>⟨es,he,by rw[h2],rfl,rfl⟩⟩
 case mkmap=>
  simp only[IOp.sem]at h ⊢;cases h;exact⟨_,rfl,fun st2 h2=>by rw[h2]⟩
 case mksliceS sz z bs l c=>
  simp only[IOp.sem]at h ⊢;split at h
  ·split at h
   ·rename_i hc;cases h;exact⟨_,rfl,fun st2 h2=>by rw[if_pos hc,h2]⟩
   ·cases h
  ·cases h
theorem sem_ldr{o:IOp}{fr:Fr}{b b':Bx}{st st':zc}{v:PV}(hl:o.ldAny=true\/o.ldTAny=true)(h:o.sem fr b st=some (v,b',st')):
  st'.length=st.length/\∀ob,o.sem fr b (st++[ob])=some (v,b',st'++[ob]):=by
 have app:∀{l:Nat} {x:Obj} (ob:Obj),st[l]? =some x->(st++[ob])[l]? =some x:=fun{l x} ob hx=>by
  rw[yf (ya.1 hx).1];exact hx
 cases o<;>try(rcases hl with hl|hl<;>(cases hl;done))
 case load w ag sz a=>
  cases w<;>try(rcases hl with hl|hl<;>(cases hl;done))
  simp only[IOp.sem]at h ⊢;cases hav:Arg.val fr a<;>rw[hav]at h<;>try(cases h;done)
  case iptr cs off=>
   simp only[yc,Prod.mk.injEq]at h ⊢;obtain⟨x,hx,rfl,rfl,rfl⟩:=h;exact⟨rfl,fun ob=>⟨x,hx,rfl,rfl,rfl⟩⟩
  case ptr l i off=>
   simp only at h ⊢;cases hs:st[l]? with
   |none=>rw[hs]at h;cases h
   |some x=>
    rw[hs]at h;cases x with
    |mp es=>cases h
    |dead z=>cases h
    |arr z es=>
     simp only at h;cases he:es[i]? with
     |none=>rw[he]at h;cases h
     |some e=>
      rw[he]at h;simp only[yc,Prod.mk.injEq]at h;obtain⟨x,hx,rfl,rfl,rfl⟩:=h;refine⟨rfl,fun ob=>?_⟩;rw[app ob hs];simp only[he,hx,yN]
 case loadT w a=>
  cases w<;>try(rcases hl with hl|hl<;>(cases hl;done))
  simp only[IOp.sem]at h ⊢;cases hav:Arg.val fr a<;>rw[hav]at h<;>try(cases h;done)
  rename_i l i off;simp only at h ⊢;cases hs:st[l]? with
  |none=>rw[hs]at h;cases h
  |some x=>
   rw[hs]at h;cases x with
   |mp es=>cases h
   |dead z=>cases h
   |arr z es=>
    simp only at h;cases he:es[i]? with
    |none=>rw[he]at h;cases h
    |some e=>
     rw[he]at h;simp only[yc,Prod.mk.injEq]at h;obtain⟨x,hx,rfl,rfl,rfl⟩:=h;refine⟨by simp,fun ob=>?_⟩;rw[app ob hs];simp only[he,hx,yN];rw[List.set_append_left _ _ (ya.1 hs).1]
theorem eff_alc{cf:zL}{o:IOp}{fr:Fr}{b:Bx}{st:zc}(ha:o.alc=true):eff cf o fr b st=o.sem fr b st:=by
 cases o<;>first|rfl|(cases ha;done)
theorem eff_ldr{cf:zL}{o:IOp}{fr:Fr}{b:Bx}{st:zc}(hl:o.ldAny=true\/o.ldTAny=true):eff cf o fr b st=o.sem fr b st:=by
 cases o<;>first|rfl|(rcases hl with hl|hl<;>(cases hl;done))
theorem geff_alc{cf:zL}{g:GOp}{fr:Fr}{b b':Bx}{st st':zc}{v:PV}{k:Bool}(ha:g.op.alc=true)(h:geff cf g fr b st=some (k,v,b',st')):
  (st'=st/\∀st2:zc,st2.length=st.length->geff cf g fr b st2=some (k,v,b',st2))\/∃ob,st'=st++[ob]/\∀st2:zc,st2.length=st.length->geff cf g fr b st2=some (k,v,b',st2++[ob]):=by
 unfold geff at h ⊢;simp only[eff_alc ha]at h ⊢;cases hg:g.g with
 |none=>
  rw[hg]at h;simp only[yc,Prod.mk.injEq]at h;obtain⟨⟨r1,r2,r3⟩,h,rfl,rfl,rfl,rfl⟩:=h;obtain⟨ob,h1,h2⟩:=sem_alc ha h;exact .inr ⟨ob,h1,fun st2 h3=>by simp only[h2 st2 h3,yN]⟩
 |some x=>
  obtain⟨t,w⟩:=x;rw[hg]at h;simp only at h ⊢;cases hgt:gate w (fr t)with
  |none=>rw[hgt]at h;cases h
  |some q=>
   rw[hgt]at h;cases q with
   |false=>cases h;exact .inl ⟨rfl,fun _ _=>rfl⟩
   |true=>
    simp only[yc,Prod.mk.injEq]at h;obtain⟨⟨r1,r2,r3⟩,h,rfl,rfl,rfl,rfl⟩:=h;obtain⟨ob,h1,h2⟩:=sem_alc ha h;exact .inr ⟨ob,h1,fun st2 h3=>by simp only[h2 st2 h3,yN]⟩
theorem geff_ldr{cf:zL}{g:GOp}{fr:Fr}{b b':Bx}{st st':zc}{v:PV}{k:Bool}(hl:g.op.ldAny=true\/g.op.ldTAny=true)(h:geff cf g fr b st=some (k,v,b',st')):
  st'.length=st.length/\∀ob,geff cf g fr b (st++[ob])=some (k,v,b',st'++[ob]):=by
 unfold geff at h ⊢;simp only[eff_ldr hl]at h ⊢;cases hg:g.g with
 |none=>
  rw[hg]at h;simp only[yc,Prod.mk.injEq]at h;obtain⟨⟨r1,r2,r3⟩,h,rfl,rfl,rfl,rfl⟩:=h;obtain⟨h1,h2⟩:=sem_ldr hl h;exact⟨h1,fun ob=>by simp only[h2 ob,yN]⟩
 |some x=>
  obtain⟨t,w⟩:=x;rw[hg]at h;simp only at h ⊢;cases hgt:gate w (fr t)with
  |none=>rw[hgt]at h;cases h
  |some q=>
   rw[hgt]at h;cases q with
   |false=>cases h;exact⟨rfl,fun _=>rfl⟩
   |true=>
    simp only[yc,Prod.mk.injEq]at h;obtain⟨⟨r1,r2,r3⟩,h,rfl,rfl,rfl,rfl⟩:=h;obtain⟨h1,h2⟩:=sem_ldr hl h;exact⟨h1,fun ob=>by simp only[h2 ob,yN]⟩
theorem sem_at{fr:Fr}{b b':Bx}{st st':zc}{v:PV}{o:IOp}{q:Nat}(hq:o.at? =some q)(h:o.sem fr b st=some (v,b',st')):
  ∃f:zc->zc,st'=f st/\(∀st2,st2[q]? =st[q]? ->o.sem fr b st2=some (v,b',f st2))/\(f=id\/∃ob,f=fun s=>s.set q ob):=by
 cases o<;>try(cases hq;done)
 case loadN q' ag sz a=>
  cases hq;have hr:st'=st:=sem_reads (by simp[IOp.stU]) h;subst hr;refine⟨id,rfl,fun st2 hs=>?_,.inl rfl⟩;simp only[IOp.sem]at h ⊢;rw[hs]
  (repeat' (split at h))<;>try(cases h;done)
  rename_i h1 _ _ h2 _ _ h3;simp only[yc,Prod.mk.injEq]at h;obtain⟨x,hx,rfl,rfl,_⟩:=h;simp[hx, *]
 case storeN q' sz a x=>
  cases hq;simp only[IOp.sem]at h
  (repeat' (split at h))<;>try(cases h;done)
  rename_i l i off ha hl hvar _ s es hst _ e he hc;cases h;refine⟨fun st=>st.set q (.arr s (es.set i (zOa e (zXe (cellsOf e) off (cellsOf (strip (x.val fr))))))),rfl,fun st2 hs=>?_,.inr ⟨_,rfl⟩⟩;simp only[IOp.sem,ha];rw[if_pos hl,if_pos hvar,hs,hst];simp only[he];rw[if_pos hc]
theorem geff_at{cf:zL}{x:GOp}{fr:Fr}{b b':Bx}{st st':zc}{v:PV}{k:Bool}{q:Nat}(hq:x.op.at? =some q)(h:geff cf x fr b st=some (k,v,b',st')):
  ∃f:zc->zc,st'=f st/\(∀st2,st2[q]? =st[q]? ->geff cf x fr b st2=some (k,v,b',f st2))/\(f=id\/∃ob,f=fun s=>s.set q ob):=by
 have heff:∀st,eff cf x.op fr b st=x.op.sem fr b st:=by
  intro st;cases hx:x.op<;>rw[hx]at hq<;>first|rfl|(cases hq;done)
 unfold geff at h ⊢;cases hg:x.g with
 |none=>
  rw[hg]at h;simp only[heff,yc,Prod.mk.injEq]at h ⊢;obtain⟨⟨r1,r2,r3⟩,h,rfl,rfl,rfl,rfl⟩:=h;obtain⟨f,e1,e2,e3⟩:=sem_at hq h;exact⟨f,e1,fun st2 hs=>⟨_,e2 st2 hs,rfl,rfl,rfl,rfl⟩,e3⟩
 |some g=>
  obtain⟨t,w⟩:=g;rw[hg]at h;simp only at h ⊢;cases hgt:gate w (fr t)with
  |none=>rw[hgt]at h;cases h
  |some p=>
   rw[hgt]at h;cases p with
   |false=>cases h;exact⟨id,rfl,fun st2 _=>rfl,.inl rfl⟩
   |true=>
    simp only[heff,yc,Prod.mk.injEq]at h ⊢;obtain⟨⟨r1,r2,r3⟩,h,rfl,rfl,rfl,rfl⟩:=h;obtain⟨f,e1,e2,e3⟩:=sem_at hq h;exact⟨f,e1,fun st2 hs=>⟨_,e2 st2 hs,rfl,rfl,rfl,rfl⟩,e3⟩
theorem at_other{f:zc->zc}{q p:Nat}(hf:f=id\/∃ob,f=fun s=>s.set q ob)(hne:q≠p)(st:zc):(f st)[p]? =st[p]? :=by
 rcases hf with rfl|⟨ob,rfl⟩
 ·rfl
 ·exact yk hne
theorem at_comm{f g:zc->zc}{q p:Nat}(hf:f=id\/∃ob,f=fun s=>s.set q ob)(hg:g=id\/∃ob,g=fun s=>s.set p ob)(hne:q≠p)(st:zc):g (f st)=f (g st):=by
 rcases hf with rfl|⟨ob,rfl⟩
 ·rfl
 ·rcases hg with rfl|⟨ob',rfl⟩
  ·rfl
  ·exact List.set_comm ob ob' hne
theorem swap_ok{cf:zL}{x y:GOp}(h:indep x y=true){s s1 s2:St}(h1:step cf x s=some (.ok s1))(h2:step cf y s1=some (.ok s2)):
  ∃s1',step cf y s=some (.ok s1')/\step cf x s1'=some (.ok s2):=by
 simp only[indep,yb]at h;obtain⟨⟨⟨⟨⟨⟨_,_⟩,d1⟩,d2⟩,d3⟩,hst⟩,hbx⟩:=h;obtain⟨k,v,b,st,e1,rfl⟩:=step_ok.1 h1;obtain⟨k',v',b',st',e2,rfl⟩:=step_ok.1 h2;have hb3:zZ (zKb s.bx x.op.box? b) y.op.box? =zZ s.bx y.op.box? /\zZ (zKb s.bx y.op.box? b') x.op.box? =zZ s.bx x.op.box? ∧
   zKb (zKb s.bx x.op.box? b) y.op.box? b'=zKb (zKb s.bx y.op.box? b') x.op.box? b:=by
  rw[yS,yb]at hbx;rcases hbx with hbx|⟨lx,ly⟩
  ·exact⟨getBx_set hbx _,getBx_set (boxIndep_symm hbx) _,setBx_comm hbx _ _⟩
  ·have q1:=geff_looks lx e1;subst q1;have q2:=geff_looks ly e2;subst q2;simp only[setBx_get,and_self]
 obtain⟨hb1,hb2,hb4⟩:=hb3;rw[hb1]at e2;have c2:∀st,geff cf y (wr s.fr k x.op.takes x.dst v) (zZ s.bx y.op.box?) st=geff cf y s.fr (zZ s.bx y.op.box?) st:=fun st=>
  geff_congr fun t ht=>wr_out fun hw=>disj_spec d1 t hw ht
 rw[c2]at e2;have c1:∀st,geff cf x (wr s.fr k' y.op.takes y.dst v') (zZ s.bx x.op.box?) st=geff cf x s.fr (zZ s.bx x.op.box?) st:=fun st=>
  geff_congr fun t ht=>wr_out fun hw=>disj_spec d2 t hw ht
 have key:∃sm,geff cf y s.fr (zZ s.bx y.op.box?) s.st=some (k',v',b',sm)/\geff cf x s.fr (zZ s.bx x.op.box?) sm=some (k,v,b,st'):=by
  simp only[stIndep,ldIndep,alIndep,yS,decide_eq_true_eq,yb]at hst;rcases hst with(((((hx|hy)|⟨hx,hy⟩)|hx|hy))|⟨hx,hy⟩)|hat
  ·obtain⟨rfl,_⟩:=geff_zero (st2:=s.st) hx e1;exact⟨st',e2,(geff_zero hx e1).2⟩
  ·obtain⟨rfl,hz⟩:=geff_zero (st2:=s.st) hy e2;exact⟨s.st,hz,e1⟩
  ·have q1:=zbd hx e1;subst q1;have q2:=zbd hy e2;subst q2;exact⟨_,e2,e1⟩
  ·have q1:=zbd (ld2_stU hx) e1;subst q1;refine⟨st',e2,?_⟩;rw[geff_ld2 (b:=zZ s.bx x.op.box?) hx e2,e1];rfl
  ·have q2:=zbd (ld2_stU hy) e2;subst q2;rw[geff_ld2 (b:=zZ s.bx y.op.box?) hy e1]at e2;simp only[yc,Prod.mk.injEq]at e2;obtain⟨r,e2,rfl,rfl,rfl,_⟩:=e2;obtain⟨r1,r2,r3,r4⟩:=r;have q3:=zbd (ld2_stU hy) e2;subst q3;exact⟨_,e2,e1⟩
  ·obtain⟨hl,ho⟩:=geff_ldr hx e1;rcases geff_alc hy e2 with⟨rfl,ha⟩|⟨ob,rfl,ha⟩
   ·exact⟨s.st,ha s.st hl.symm,e1⟩
   ·exact⟨s.st++[ob],ha s.st hl.symm,ho ob⟩
  ·unfold atIndep at hat;split at hat
   case h_2=>cases hat
   rename_i i j hi hj;have hne:i≠j:=of_decide_eq_true hat;obtain⟨f,rfl,f2,f3⟩:=geff_at hi e1;obtain⟨g,rfl,g2,g3⟩:=geff_at hj e2;refine⟨g s.st,g2 s.st (at_other f3 hne s.st).symm,?_⟩;rw[at_comm f3 g3 hne];exact f2 _ (at_other g3 (Ne.symm hne) s.st)
 obtain⟨sm,k1,k2⟩:=key;refine⟨_,step_ok.2 ⟨k',v',b',sm,k1,rfl⟩,step_ok.2 ⟨k,v,b,st',?_,?_⟩⟩
 ·rw[hb2,c1];exact k2
 ·simp only[St.mk.injEq];exact⟨wr_comm fun t h h'=>disj_spec d3 t h h',hb4,trivial⟩
noncomputable def runL(cf:zL)(gops:List GOp):List Nat->St->Option SR
 | [],s=>some (.ok s)
 |i::r,s=>match gops[i]? with
  |none=>none
  |some g=>match step cf g s with
   |some (.ok s')=>runL cf gops r s'
   |x=>x
theorem runL_range'(cf:zL)(gops:List GOp):∀(n k:Nat) (s:St),k+n=gops.length->runL cf gops (List.range' k n) s=zOc cf (gops.drop k) s
 |0,k,s,h=>by
  rw[List.drop_of_length_le (by omega)];rfl
 |n+1,k,s,h=>by
  have hk:k<gops.length:=by omega
  rw[List.range'_succ,List.drop_eq_getElem_cons hk];simp only[runL,zOc,yg hk];have ih:=fun s=>runL_range' cf gops n (k+1) s (by omega)
  simp only[ih];cases step cf gops[k] s with
  |none=>rfl
  |some r=>cases r<;>rfl
theorem runL_range(cf:zL)(gops:List GOp)(s:St):runL cf gops (yI gops.length) s=zOc cf gops s:=by
 rw[List.range_eq_range',runL_range' cf gops _ 0 s (by omega)];rfl
def before(acc:List Nat)(o:Oper):Nat:=(o.after.toList.filter (Region.binds .any)).foldl (fun m e=>m|||(1<<<e.on|||acc.getD e.on 0)) 0
theorem binds_all{e:Edge}(h:Region.binds .any e=true)(md:Region.Mode):Region.binds md e=true:=by
 unfold Region.binds at h ⊢;split at h<;>first|(cases h;done)|rfl
def ancs:List Oper->List Nat->List Nat
 | [],acc=>acc
 |o::os,acc=>ancs os (acc++[before acc o])
def pairsFrom(m:Nat)(y:GOp):List GOp->Nat->Bool
 | [],_=>true
 |x::r,i=>(m.testBit i||indep x y)&&pairsFrom m y r (i+1)
def pairs(gops:List GOp):List Nat->List GOp->Nat->Bool
 |m::ms,y::r,j=>pairsFrom m y (gops.take j) 0&&pairs gops ms r (j+1)
 |_,_,_=>true
def ranked(md:Region.Mode)(ops:Array Oper)(r:Nat->Nat):Bool:=
 (yI ops.size).all (fun j=>match ops[j]? with
  |some o=>o.after.all fun e=> !(Region.binds md e)||(decide (r e.on<r j)&&decide (e.on<ops.size))
  |none=>false)
def placeIn(L:List Nat)(j:Nat):Nat:=L.findIdx (fun i=>i==j)
def lowEdges(ops:Array Oper):Bool:=
 (yI ops.size).all (fun j=>match ops[j]? with
  |some o=>o.after.all fun e=>decide (e.on<j)
  |none=>false)
def rankAll(ops:Array Oper):Bool:=
 ranked .text ops (placeIn (Region.linearise .text ops 0))&&ranked .gc ops (placeIn (Region.linearise .gc ops 0))&&ranked .any ops (placeIn (Region.linearise .any ops 0))
def zbe(ops:Array Oper)(gops:List GOp):Bool:=
 decide (ops.size=gops.length)&&(lowEdges ops||rankAll ops)&&
 pairs gops (ancs ops.toList []) gops 0
def rem(n:Nat)(listed:Array Bool):List Nat:=(yI n).filter fun i=> !listed.getD i true
def Closed(ops:Array Oper)(listed:Array Bool):Prop:=∀j o,listed.getD j false=true->ops[j]? =some o->∀e∈o.after,Region.binds .any e=true->listed.getD e.on false=true
section
variable {cf:zL} {ops:Array Oper} {gops:List GOp}
def Marks(ops:Array Oper)(j m:Nat):Prop:=∀(listed:Array Bool),Closed ops listed->(∀o,ops[j]? =some o->∀e∈o.after,Region.binds .any e=true->listed.getD e.on false=true)->∀i,m.testBit i=true->listed.getD i false=true
theorem before_marks{acc:List Nat}(hacc:∀j m,acc[j]? =some m->Marks ops j m){j:Nat}{o:Oper}(ho:ops[j]? =some o):Marks ops j (before acc o):=by
 intro listed hc hj i hi;have hj:=hj o ho;have key:∀(l:List Edge) (m:Nat),(∀e∈l,e∈o.after/\Region.binds .any e=true)->(m.testBit i=true->listed.getD i false=true)->(l.foldl (fun m e=>m|||(1<<<e.on|||acc.getD e.on 0)) m).testBit i=true->listed.getD i false=true:=by
  intro l
  induction l with
  |nil=>intro m _ hm h;exact hm h
  |cons e l ih=>
   intro m hl hm h;refine ih _ (fun e he=>hl e (ySa _ he)) ?_ h;intro h';have he:=hj e (hl e yJa).1 (hl e yJa).2;rw[Nat.testBit_or,Nat.testBit_or,yS,yS]at h';rcases h' with h'|h'|h'
   ·exact hm h'
   ·rw[Nat.one_shiftLeft,Nat.testBit_two_pow]at h';rw[<-of_decide_eq_true h'];exact he
   ·rw[List.getD_eq_getElem?_getD]at h';cases hm':acc[e.on]? with
    |none=>rw[hm']at h';simp at h'
    |some m'=>
     rw[hm']at h';exact hacc _ _ hm' listed hc (fun o' ho'=>hc e.on o' he ho') i h'
 exact key (o.after.toList.filter (Region.binds .any)) 0 (fun e he=>by simpa using he) (fun h=>by simp at h) hi
theorem ancs_marks:∀(os:List Oper) (acc:List Nat),ops.toList.drop acc.length=os->(∀j m,acc[j]? =some m->Marks ops j m)->∀j m,(ancs os acc)[j]? =some m->Marks ops j m
 | [],acc,_,hacc=>hacc
 |o::os,acc,hd,hacc=>by
  have ho:ops[acc.length]? =some o:=by
   have:ops.toList[acc.length]? =some o:=by
    have h2:=yK (xs:=ops.toList) (i:=acc.length) (j:=0);rw[hd]at h2;simpa using h2.symm
   simpa using this
  refine ancs_marks os (acc++[before acc o]) ?_ ?_
  ·rw[yi,yC,<-List.drop_drop,hd];rfl
  ·intro j m hm;rcases Nat.lt_trichotomy j acc.length with h|h|h
   ·rw[yf h]at hm;exact hacc j m hm
   ·subst h;simp at hm;subst hm;exact before_marks hacc ho
   ·rw[yP (by simp;omega)]at hm;cases hm
theorem ancs_length:∀(os:List Oper) (acc:List Nat),(ancs os acc).length=acc.length+os.length
 | [],acc=>by simp[ancs]
 |o::os,acc=>by rw[ancs,ancs_length os];simp;omega
theorem pairsFrom_get{m:Nat}{y:GOp}:∀{l:List GOp} {k:Nat},pairsFrom m y l k=true->∀i x,l[i]? =some x->m.testBit (k+i)=true\/indep x y=true
 | [],k,_,i,x,hx=>by simp at hx
 |z::l,k,h,i,x,hx=>by
  simp only[pairsFrom,yb,yS]at h;cases i with
  |zero=>simp at hx;subst hx;exact h.1
  |succ i=>
   have:=pairsFrom_get h.2 i x (by simpa using hx);rw[show k+(i+1)=k+1+i by omega];exact this
theorem pairs_get:∀{ms:List Nat} {l:List GOp} {k:Nat},pairs gops ms l k=true->∀j m y,ms[j]? =some m->l[j]? =some y->∀i x,i<k+j->gops[i]? =some x->m.testBit i=true\/indep x y=true
 | [],_,_,_,j,m,y,hm,_,_,_,_,_=>by simp at hm
 |_::_,[],_,_,j,m,y,_,hy,_,_,_,_=>by simp at hy
 |m0::ms,y0::l,k,h,j,m,y,hm,hy,i,x,hi,hx=>by
  simp only[pairs,yb]at h;cases j with
  |zero=>
   simp at hm hy;subst hm;subst hy;have:=pairsFrom_get h.1 i x (by rw[yE,if_pos (by omega)];exact hx);simpa using this
  |succ j=>exact pairs_get h.2 j m y (by simpa using hm) (by simpa using hy) i x (by omega) hx
theorem swap_many{y:GOp}{i:Nat}(hi:gops[i]? =some y):∀(A:List Nat) (s:St) (B:List Nat) (sr:SR),(∀a∈A,∃x,gops[a]? =some x/\indep x y=true)→
  runL cf gops (A++i::B) s=some sr->runL cf gops (i::(A++B)) s=some sr
 | [],s,B,sr,_,h=>h
 |a::A,s,B,sr,hA,h=>by
  obtain⟨x,hx,hxy⟩:=hA a yJa;have hp:=hxy;simp only[indep,yb,yH]at hp;obtain⟨⟨⟨⟨⟨⟨p1,p2⟩,_⟩,_⟩,_⟩,_⟩,_⟩:=hp;simp only[yT,runL,hx]at h;cases h1:step cf x s with
  |none=>rw[h1]at h;cases h
  |some r1=>
   cases r1 with
   |pan v st=>exact absurd h1 (step_pan p1)
   |ok s1=>
    rw[h1]at h;simp only at h;have ih:=swap_many hi A s1 B sr (fun a ha=>hA a (ySa _ ha)) h;simp only[runL,hi]at ih ⊢;cases h2:step cf y s1 with
    |none=>rw[h2]at ih;cases ih
    |some r2=>
     cases r2 with
     |pan v st=>rw[h2]at ih;rw[swap_pan hxy h1 h2];exact ih
     |ok s2=>
      rw[h2]at ih;obtain⟨s1',e1,e2⟩:=swap_ok hxy h1 h2;simp only[e1,yT,runL,hx,e2];exact ih
theorem mem_rem{n i:Nat}{listed:Array Bool}:i∈rem n listed<->i<n/\listed.getD i true=false:=by
 simp[rem]
theorem rem_split{n i:Nat}{listed:Array Bool}(hn:listed.size=n)(h:i∈rem n listed):∃A B,rem n listed=A++i::B/\rem n (listed.setIfInBounds i true)=A++B/\∀a∈A,a<i/\a∈rem n listed:=by
 have hi:=(mem_rem.1 h).1;have hr:yI n=yI i++i::List.range' (i+1) (n-i-1):=by
  rw[List.range_eq_range',List.range_eq_range'];have:n=i+(1+(n-i-1)):=by omega
  conv=>lhs;rw[this]
  rw[<-List.range'_append,<-List.range'_append];simp[List.range'_one]
 have hset:∀j,j≠i->(!(listed.setIfInBounds i true).getD j true)=(!listed.getD j true):=fun j hj=>by
  rw[getD_set_ne true (Ne.symm hj)]
 refine⟨(yI i).filter fun i=> !listed.getD i true,(List.range' (i+1) (n-i-1)).filter fun i=> !listed.getD i true,?_,?_,?_⟩
 ·unfold rem;rw[hr,List.filter_append,List.filter_cons,if_pos (by simp[(mem_rem.1 h).2])]
 ·unfold rem;rw[hr,List.filter_append,List.filter_cons,if_neg]
  ·congr 1
   ·apply List.filter_congr;intro j hj;have:=List.mem_range.1 hj;exact hset j (by omega)
   ·apply List.filter_congr;intro j hj;have:=List.mem_range'.1 hj;exact hset j (by omega)
  ·have hlt:i<listed.size:=by omega
   simp[hlt]
 ·intro a ha;obtain⟨h1,h2⟩:=List.mem_filter.1 ha;have:=List.mem_range.1 h1;exact⟨this,mem_rem.2 ⟨by omega,by simpa using h2⟩⟩
theorem getD_tf{listed:Array Bool}{i:Nat}(h:i<listed.size)(d d':Bool):listed.getD i d=listed.getD i d':=by
 simp[h]
theorem ranks(h:(lowEdges ops||rankAll ops)=true)(md:Region.Mode):∃r:Nat->Nat,∀j o,ops[j]? =some o->∀e∈o.after,Region.binds md e=true->r e.on<r j/\e.on<ops.size:=by
 have key:∀r,ranked md ops r=true->∃r:Nat->Nat,∀j o,ops[j]? =some o->∀e∈o.after,Region.binds md e=true->r e.on<r j/\e.on<ops.size:=by
  intro r hr;refine⟨r,fun j o ho e he hb=>?_⟩;have hj:j<ops.size:=(yr.1 ho).1;simp only[ranked,yq,List.mem_range]at hr;have h1:=hr j hj;rw[ho]at h1;have h2:=Array.all_eq_true_iff_forall_mem.1 h1 e he;simp only[hb,Bool.not_true,yQ,yb,decide_eq_true_eq]at h2;exact h2
 rw[yS]at h;rcases h with h|h
 ·refine⟨id,fun j o ho e he hb=>?_⟩;have hj:j<ops.size:=(yr.1 ho).1;simp only[lowEdges,yq,List.mem_range]at h;have h1:=h j hj;rw[ho]at h1;have h2:=Array.all_eq_true_iff_forall_mem.1 h1 e he;simp only[decide_eq_true_eq]at h2;exact⟨h2,by omega⟩
 ·simp only[rankAll,yb]at h;cases md with
  |text=>exact key _ h.1.1
  |gc=>exact key _ h.1.2
  |any=>exact key _ h.2
theorem go_runL(md:Region.Mode)(hck:zbe ops gops=true):∀(fuel t:Nat) (listed:Array Bool) (s:St) (sr:SR),listed.size=ops.size->Closed ops listed->(rem ops.size listed).length<=fuel→
  runL cf gops (rem ops.size listed) s=some sr->runL cf gops (Region.linearise.go md ops fuel t listed []) s=some sr
 |0,t,listed,s,sr,hsz,hc,hf,h=>by
  have:rem ops.size listed=[]:=yA (by omega);rw[this]at h;exact h
 |fuel+1,t,listed,s,sr,hsz,hc,hf,h=>by
  have hck':=hck;simp only[zbe,yb,yH,decide_eq_true_eq,yq,List.mem_range]at hck';obtain⟨⟨hlen,hlow⟩,hind⟩:=hck';have hgo:Region.linearise.go md ops (fuel+1) t listed []=(match(Region.ready md ops listed)[t%(Region.ready md ops listed).length]? with
   |some i=>Region.linearise.go md ops fuel (t/(Region.ready md ops listed).length) (listed.setIfInBounds i true) [i]
   |none=>[].reverse):=rfl
  rw[hgo];cases hpick:(Region.ready md ops listed)[t%(Region.ready md ops listed).length]? with
  |none=>
   have hnil:Region.ready md ops listed=[]:=by
    cases hr:Region.ready md ops listed with
    |nil=>rfl
    |cons x xs=>
     rw[hr]at hpick;have hlt:t%(x::xs).length<(x::xs).length:=Nat.mod_lt _ (by simp);simp at hpick;simp at hlt;omega
   have hrem:rem ops.size listed=[]:=by
    obtain⟨r,hr⟩:=ranks hlow md;have key:∀(k i:Nat),r i<=k->i∈rem ops.size listed->False:=by
     intro k
     induction k using yFa with
     |ind k ihk=>
      intro i hk hi;have hlt:=(mem_rem.1 hi).1;by_cases hall:∀o,ops[i]? =some o->∀e∈o.after,Region.binds md e=true->listed.getD e.on false=true
      ·have:=mem_ready.2 ⟨(mem_rem.1 hi).2,_,yO hlt,fun e he hb=>hall _ (yO hlt) e he hb⟩;rw[hnil]at this;cases this
      ·simp only[Classical.not_forall]at hall;obtain⟨o,ho,e,he,hb,hl⟩:=hall;obtain⟨h1,h2⟩:=hr i o ho e he hb;exact ihk (r e.on) (by omega) e.on (yd _) (mem_rem.2 ⟨h2,by rw[getD_tf (by omega) true false];simpa using hl⟩)
    cases hrm:rem ops.size listed with
    |nil=>rfl
    |cons i t=>exact(key (r i) i (yd _) (by rw[hrm];exact yJa)).elim
   rw[hrem]at h;exact h
  |some i=>
   simp only;rw[linearise_go_acc,List.reverse_singleton,List.singleton_append];obtain⟨hu,o,ho,hall⟩:=mem_ready.1 (yga hpick);have hi:i<ops.size:=(yr.1 ho).1;have hirem:i∈rem ops.size listed:=mem_rem.2 ⟨hi,hu⟩;have hpre:∀o,ops[i]? =some o->∀e∈o.after,Region.binds .any e=true->listed.getD e.on false=true:=fun o' ho' e he hb=>by
    rw[ho]at ho';cases ho';exact hall e he (binds_all hb md)
   obtain⟨A,B,e1,e2,e3⟩:=rem_split hsz hirem;have hgi:i<gops.length:=by omega
   rw[e1]at h;have hsw:=swap_many (cf:=cf) (yg hgi) A s B sr (fun a ha=>by
    obtain⟨q1,q2⟩:=e3 a ha;have hga:a<gops.length:=by omega
    have hia:i<(ancs ops.toList []).length:=by rw[ancs_length];simpa using hi
    have h1:=pairs_get hind i _ _ (yg hia) (yg hgi) a _ (by omega) (yg hga);rcases h1 with h1|h1
    ·have:=ancs_marks ops.toList [] rfl (fun j m h=>by simp at h) i _ (yg hia) listed hc hpre a h1;have hq:=(mem_rem.1 q2)
     rw[getD_tf (by omega) true false]at hq;rw[hq.2]at this;cases this
    ·exact⟨_,yg hga,h1⟩) h
   simp only[runL,yg hgi]at hsw ⊢;cases hst:step cf gops[i] s with
   |none=>rw[hst]at hsw;cases hsw
   |some r=>
    cases r with
    |pan v st=>rw[hst]at hsw;exact hsw
    |ok s1=>
     rw[hst]at hsw;simp only at hsw ⊢;refine go_runL md hck fuel _ _ s1 sr (by simpa using hsz) ?_ ?_ (by rw[e2];exact hsw)
     ·intro j o' hj ho' e he hb;by_cases hji:j=i
      ·subst hji;exact getD_set_true (hpre o' ho' e he hb)
      ·rw[getD_set_ne false (Ne.symm hji)]at hj;exact getD_set_true (hc j o' hj ho' e he hb)
     ·rw[e2];rw[e1]at hf;simp only[yi,yj]at hf ⊢;omega
theorem draw_runL(hck:zbe ops gops=true){s:St}{sr:SR}(h:zOc cf gops s=some sr)(mixed:Bool)(t:Nat):runL cf gops (Region.schedule mixed ops t) s=some sr:=by
 have hck':=hck;simp only[zbe,yb,yH,decide_eq_true_eq]at hck';obtain⟨⟨hlen,_⟩,_⟩:=hck';have hrem:rem ops.size (Array.replicate ops.size false)=yI gops.length:=by
  unfold rem;rw[hlen];apply List.filter_eq_self.2;intro i hi;have:=List.mem_range.1 hi;simp[this]
 have key:∀md t,runL cf gops (Region.linearise md ops t) s=some sr:=by
  intro md t;unfold Region.linearise;refine go_runL md hck _ _ _ s sr (by simp) ?_ ?_ ?_
  ·intro j o hj;by_cases hlt:j<ops.size
   ·simp[hlt]at hj
   ·simp[hlt]at hj
  ·rw[hrem];simp[hlen]
  ·rw[hrem,runL_range];exact h
 unfold Region.schedule;split
 ·exact key _ _
 ·exact key _ _
end
section
variable {P:Program} {G G':Gh} {N:Nat} {s:St} {a:Act} {w w':World} {oper:Oper} {T:Tabs} {cf:zL}
theorem run_sound(hcf:Good P T cf){op:IOp}(hS:Sim G N s a w)(hT:T.In G w)(hd:∀t,oper.dst=some t->t<N)(hdn:op.needsDst=true->oper.dst≠none)(hc:zm P oper.op op=true)
  {sr:SR} (h:zI cf oper.dst op s=some sr) {K:Act->World->Prop} {Q:Exit->Act->World->Prop}
  (hK:∀s',sr= .ok s'->∀G' a' w',Sim G' N s' a' w'->Ext G s.st w G' s'.st w'->K a' w')
  (hQ:∀v st',sr= .pan v st'->∀G' w' mv,SimS G' st' w'->Ext G s.st w G' st' w'->VR (G'.im w') (zk G'.lc st') v mv->Q (.panic [{v:=mv,recovered:=false}]) a w'):
  oper.wp P a w K Q:=by
 have gen:(∀pk f args,op≠ .call pk f args)->(∀pk f args,op≠ .callP pk f args)->(∀f args,op≠ .callR f args)->(∀f args,op≠ .callK f args)->(∀x,op≠ .panic x)->oper.wp P a w K Q:=by
  intro h1 h3 h4 h5 h2;have hr:zI cf oper.dst op s=(match op.sem s.fr (zZ s.bx op.box?) s.st with
   |some (v,b',st')=>some (.ok {fr:=zHa (zDa s.fr op.takes) oper.dst v,bx:=zKb s.bx op.box? b',st:=st'})
   |none=>none):=by
   cases op<;>first
    |rfl
    |exact absurd rfl (h1 _ _ _)
    |exact absurd rfl (h3 _ _ _)
    |exact absurd rfl (h4 _ _)
    |exact absurd rfl (h5 _ _)
    |exact absurd rfl (h2 _)
  rw[hr]at h;split at h
  ·rename_i v b' st' hsem;cases h;exact upon_good (op_sound hS hd hdn hc hsem) (fun G' a' w' q1 q2=>hK _ rfl G' a' w' q1 q2)
  ·cases h
 cases op with
 |call pk f args=>exact call_sound hcf hS hT hd hc h hK hQ
 |callP pk f args=>exact callP_sound hcf hS hT hd hc h hK hQ
 |callR f args=>exact callR_sound hcf hS hT hd hc h hK hQ
 |callK f args=>exact callK_sound hcf hS hT hd hc h hK hQ
 |panic x=>exact panic_sound hS hc h hQ
 |_=>exact gen (fun _ _ _ e=>by cases e) (fun _ _ _ e=>by cases e) (fun _ _ e=>by cases e) (fun _ _ e=>by cases e) (fun _ e=>by cases e)
theorem step_sound(hcf:Good P T cf){ops:Array Oper}{i:Nat}{o:Oper}{g:GOp}(hi:ops[i]? =some o)(hg:zZd P N ops o g=true)(hS:Sim G N s a w)(hT:T.In G w)
  {sr:SR} (h:step cf g s=some sr) {K:Act->World->Prop} {Q:Exit->Act->World->Prop}
  (hK:∀s',sr= .ok s'->∀G' a' w',Sim G' N s' a' w'->Ext G s.st w G' s'.st w'->K a' w')
  (hQ:∀v st',sr= .pan v st'->∀G' w' mv,SimS G' st' w'->Ext G s.st w G' st' w'->VR (G'.im w') (zk G'.lc st') v mv->Q (.panic [{v:=mv,recovered:=false}]) a w'):
  wpOp P ops Q i K a w:=by
 obtain⟨h1,h2,h3,h4,h5⟩:=zqf hg;obtain⟨g1,g2⟩:=guard_wanted hS h4;unfold wpOp;simp only[hi];unfold step at h;cases hgd:g.g with
 |none=>
  rw[hgd]at h;simp only[g1 hgd,if_true];rw[<-h1]at h;exact .inl (run_sound hcf hS hT h2 h3 h5 h hK hQ)
 |some x=>
  obtain⟨t,v⟩:=x;rw[hgd]at h;simp only at h;split at h
  case h_3=>cases h
  ·rename_i hb;rw[g2 t v true hgd hb];simp only[if_true];rw[<-h1]at h;exact .inl (run_sound hcf hS hT h2 h3 h5 h hK hQ)
  ·rename_i hb;rw[g2 t v false hgd hb];simp only[yAa,if_false];cases h;refine hK _ rfl G _ w ?_ (Ext.refl _ _ _);have:=hS.put h2 (v:= .tup []) (mv:=Go.undef) (fun t _=>VR.tr (.tup (vs:= #[]) rfl (fun j c v h=>by simp at h))) (fun k off e=>by cases e);rw[h1]at this ⊢;exact this
def opersOk(P:Program)(N:Nat)(ops:Array Oper):List Oper->List GOp->Bool
 | [],[]=>true
 |o::os,g::gs=>zZd P N ops o g&&opersOk P N ops os gs
 |_,_=>false
theorem zRd{ops:Array Oper}:∀(os:List Oper) (gs:List GOp),opersOk P N ops os gs=true->os.length=gs.length/\∀(i:Nat) o g,os[i]? =some o->gs[i]? =some g->zZd P N ops o g=true
 | [],[],_=>⟨rfl,fun i o g h=>by simp at h⟩
 | [],_::_,h=>by cases h
 |_::_,[],h=>by cases h
 |o::os,g::gs,h=>by
  simp only[opersOk,yb]at h;obtain⟨e1,e2⟩:=zRd os gs h.2;refine⟨by simp[e1],fun i o' g' ho hg=>?_⟩;cases i with
  |zero=>simp at ho hg;subst ho;subst hg;exact h.1
  |succ i=>exact e2 i o' g' (by simpa using ho) (by simpa using hg)
theorem ops_sound(hcf:Good P T cf){ops:Array Oper}{gops:List GOp}(hck:opersOk P N ops ops.toList gops=true){Q:Exit->Act->World->Prop}:
  ∀(l:List Nat) (s:St) (G:Gh) (a:Act) (w:World) (sr:SR),runL cf gops l s=some sr->Sim G N s a w->T.In G w→
  (∀s',sr= .ok s'->∀G' a' w',Sim G' N s' a' w'->Ext G s.st w G' s'.st w'->Q .normal a' w')→
  (∀v st',sr= .pan v st'->∀G' a' w' mv,a'.defers=G'.dfr->SimS G' st' w'->Ext G s.st w G' st' w'->VR (G'.im w') (zk G'.lc st') v mv->Q (.panic [{v:=mv,recovered:=false}]) a' w')→
  wpOps P ops Q l a w
 | [],s,G,a,w,sr,h,hS,hT,hK,hQ=>by
  cases h;exact hK s rfl G a w hS (Ext.refl _ _ _)
 |i::l,s,G,a,w,sr,h,hS,hT,hK,hQ=>by
  obtain⟨e1,e2⟩:=zRd _ _ hck;simp only[runL]at h;cases hg:gops[i]? with
  |none=>rw[hg]at h;cases h
  |some g=>
   rw[hg]at h;simp only at h;have hlt:i<ops.size:=by
    have:=(ya.1 hg).1;simp at e1;omega
   have ho:ops[i]? =some ops[i]:=yO hlt;have hck1:=e2 i ops[i] g (by simp[hlt]) hg;rw[wpOps_cons];cases hst:step cf g s with
   |none=>rw[hst]at h;cases h
   |some r=>
    rw[hst]at h;refine step_sound hcf ho hck1 hS hT hst (sr:=r) ?_ ?_
    ·intro s1 e G1 a1 w1 hS1 hE1;subst e;simp only at h;exact ops_sound hcf hck l s1 G1 a1 w1 sr h hS1 (hT.ext hE1) (fun s' e G' a' w' q1 q2=>hK s' e G' a' w' q1 (hE1.trans q2))
      (fun v st' e G' a' w' mv q0 q1 q2 q3=>hQ v st' e G' a' w' mv q0 q1 (hE1.trans q2) q3)
    ·intro v st' e G' w' mv q1 q2 q3;subst e;cases h;exact hQ v st' rfl G' a w' mv (hS.defers.trans q2.dfr.symm) q1 q2 q3
def zya(P:Program)(N:Nat):Code->ICode->Bool
 | .skip,.skip=>true
 | .region _ ops draw,.region gops=>opersOk P N ops ops.toList gops&&(!draw||zbe ops gops)
 | .seq a b,.seq a' b'=>zya P N a a'&&zya P N b b'
 | .cond c a b,.cond c' a' b'=>zP c c'&&zya P N a a'&&zya P N b b'
 | .block id b,.block id' b'=>decide (id=id')&&zya P N b b'
 | .loop b,.loop _ _ b'=>zya P N b b'
 | .exit id,.exit id'=>decide (id=id')
 | .ret,.ret=>true
 |_,.bad=>true
 |_,_=>false
def Post(G:Gh)(N:Nat)(st:zc)(w:World)(e:Ex)(s':St)(Q:Exit->Act->World->Prop):Prop:=
 match e with
 | .normal=>∀G' a' w',Sim G' N s' a' w'->Ext G st w G' s'.st w'->Q .normal a' w'
 | .exit id=>∀G' a' w',Sim G' N s' a' w'->Ext G st w G' s'.st w'->Q (.exit id) a' w'
 | .ret=>∀G' a' w',Sim G' N s' a' w'->Ext G st w G' s'.st w'->Q .ret a' w'
 | .pan v=>∀G' a' w' mv,a'.defers=G'.dfr->SimS G' s'.st w'->Ext G st w G' s'.st w'->VR (G'.im w') (zk G'.lc s'.st) v mv->Q (.panic [{v:=mv,recovered:=false}]) a' w'
theorem Post.after{st st1:zc}{G1:Gh}{w1:World}{e:Ex}{s':St}{Q:Exit->Act->World->Prop}(hE:Ext G st w G1 st1 w1)(h:Post G N st w e s' Q):Post G1 N st1 w1 e s' Q:=by
 cases e with
 |normal=>exact fun G' a' w' q1 q2=>h G' a' w' q1 (hE.trans q2)
 |exit id=>exact fun G' a' w' q1 q2=>h G' a' w' q1 (hE.trans q2)
 |ret=>exact fun G' a' w' q1 q2=>h G' a' w' q1 (hE.trans q2)
 |pan v=>exact fun G' a' w' mv q0 q1 q2 q3=>h G' a' w' mv q0 q1 (hE.trans q2) q3
theorem Post.then{st:zc}{e:Ex}{s':St}{K:Act->World->Prop}{Q:Exit->Act->World->Prop}(hne:e≠ .normal)(h:Post G N st w e s' Q):Post G N st w e s' (Exit.then K Q):=by
 cases e with
 |normal=>exact absurd rfl hne
 |exit id=>exact h
 |ret=>exact h
 |pan v=>exact h
def Again(P:Program)(c:Code)(Q:Exit->Act->World->Prop)(a:Act)(w:World):Prop:=
 ∀(b:Frame) (k:List Item) (cs:List Frame),∃e a' w',Q e a' w'/\Arrives P (lone (b.at a (.code c:: .inLoop c::k)) cs w) b k cs e a' w'
theorem again_round{c:Code}{Q:Exit->Act->World->Prop}(h:c.wp P (Exit.then (Again P c Q) Q) a w):Again P c Q a w:=by
 intro b k cs;obtain⟨e,a₁,w₁,hq,harr⟩:=h b (.inLoop c::k) cs;cases e with
 |normal=>
  obtain⟨e₂,a₂,w₂,hq₂,harr₂⟩:=hq b k cs;exact⟨e₂,a₂,w₂,hq₂,.of_steps (Steps.trans harr (.one step_inLoop)) harr₂⟩
 |exit id=>exact⟨_,a₁,w₁,hq,.pass (x:= .inLoop c) rfl (fun _ _=> .inl (by simp)) harr⟩
 |goto l=>exact⟨_,a₁,w₁,hq,.pass (x:= .inLoop c) rfl (fun _ _=> .inl (by simp)) harr⟩
 |ret=>exact⟨_,a₁,w₁,hq,.pass (x:= .inLoop c) rfl (fun _ _=> .inl (by simp)) harr⟩
 |panic ch=>exact⟨_,a₁,w₁,hq,.pass (x:= .inLoop c) rfl (fun _ _=> .inl (by simp)) harr⟩
 |outgrown=>exact⟨_,a₁,w₁,hq,.pass (x:= .inLoop c) rfl (fun _ _=> .inl (by simp)) harr⟩
theorem wp_loop_of{c:Code}{Q:Exit->Act->World->Prop}(h:Again P c Q a w):(Code.loop c).wp P Q a w:=
 fun b k cs=>let⟨e,a',w',q,r⟩:=h b k cs;⟨e,a',w',q,.of_steps (.one step_loop) r⟩
theorem keepFr_at(fr:Fr):∀(l:List Nat) (t:Nat),keepFr fr l t=if t∈l then fr t else .undef
 | [],t=>by simp[keepFr]
 |x::l,t=>by
  simp only[keepFr,upd,keepFr_at fr l,yw];by_cases h:t=x
  ·subst h;simp
  ·simp[h]
theorem dropBx_at(bx:Bxs):∀(l:List Nat) (k:Nat),dropBx bx l k=if k∈l then .no else bx k
 | [],t=>by simp[dropBx]
 |x::l,t=>by
  simp only[dropBx,upd,dropBx_at bx l,yw];by_cases h:t=x
  ·subst h;simp
  ·simp[h]
theorem havoc_sound{keep dead:List Nat}{s1:St}(hS:Sim G N s a w)(h:havoc keep dead s=some s1):Sim G N s1 a w/\s1.st=s.st:=by
 unfold havoc at h;split at h
 case isFalse=>cases h
 rename_i hk;cases h;refine⟨⟨hS.defers,hS.size,?_,?_,?_,?_,hS.store⟩,rfl⟩
 ·intro t ht;simp only[keepFr_at];split
  ·exact hS.tmp t ht
  ·exact VR.undef _
 ·intro t ht;simp only[keepFr_at];split
  ·exact hS.hi t ht
  ·rfl
 ·intro t k off e;simp only[keepFr_at]at e;split at e
  ·rename_i hmem;have h1:=yq.1 hk t hmem;rw[e]at h1;simp only[zRc,yH]at h1;simp only[dropBx_at];rw[if_neg (by simpa using h1)];exact hS.lp t k off e
  ·cases e
 ·intro k;simp only[dropBx_at];split
  ·trivial
  ·exact hS.box k
theorem zrb(hcf:Good P T cf):∀(n:Nat),
  (∀(c:Code) (ic:ICode) (s:St) (e:Ex) (s':St) (G:Gh) (a:Act) (w:World) (Q:Exit->Act->World->Prop),zD cf n ic s=some (e,s')->zya P N c ic=true->Sim G N s a w->T.In G w→
   Post G N s.st w e s' Q->c.wp P Q a w)∧
  (∀(c:Code) (keep dead:List Nat) (b:ICode) (s:St) (e:Ex) (s':St) (G:Gh) (a:Act) (w:World) (Q:Exit->Act->World->Prop),zD cf n (.loop keep dead b) s=some (e,s')->zya P N c b=true->Sim G N s a w->T.In G w→
   Post G N s.st w e s' Q->Again P c Q a w):=by
 intro n
 induction n with
 |zero=>exact⟨fun c ic s e s' G a w Q h=>by simp[zD]at h,fun c keep dead b s e s' G a w Q h=>by simp[zD]at h⟩
 |succ n ih=>
  obtain⟨ihA,ihB⟩:=ih;have hB:∀(c:Code) (keep dead:List Nat) (b:ICode) (s:St) (e:Ex) (s':St) (G:Gh) (a:Act) (w:World) (Q:Exit->Act->World->Prop),zD cf (n+1) (.loop keep dead b) s=some (e,s')->zya P N c b=true->Sim G N s a w->T.In G w→
    Post G N s.st w e s' Q->Again P c Q a w:=by
   intro c keep dead b s e s' G a w Q h hck hS hT hpost;simp only[zD]at h;cases hh:havoc keep dead s with
   |none=>rw[hh]at h;cases h
   |some s1=>
    rw[hh]at h;simp only at h;obtain⟨hS1,hst⟩:=havoc_sound hS hh;apply again_round;cases hb:zD cf n b s1 with
    |none=>rw[hb]at h;cases h
    |some r=>
     obtain⟨e1,s2⟩:=r;rw[hb]at h;cases e1 with
     |normal=>
      simp only at h;refine ihA c b s1 .normal s2 G a w _ hb hck hS1 hT ?_;intro G' a' w' q1 q2;rw[hst]at q2;exact ihB c keep dead b s2 e s' G' a' w' Q h hck q1 (hT.ext q2) (hpost.after q2)
     |exit id=>cases h;exact ihA c b s1 _ _ G a w _ hb hck hS1 hT (by rw[hst];exact Post.then (fun q=>by cases q) hpost)
     |ret=>cases h;exact ihA c b s1 _ _ G a w _ hb hck hS1 hT (by rw[hst];exact Post.then (fun q=>by cases q) hpost)
     |pan v=>cases h;exact ihA c b s1 _ _ G a w _ hb hck hS1 hT (by rw[hst];exact Post.then (fun q=>by cases q) hpost)
  refine⟨?_,hB⟩;intro c ic s e s' G a w Q h hck hS hT hpost;cases ic with
  |bad=>simp[zD]at h
  |skip=>
   cases c<;>simp only[zya]at hck<;>try(cases hck;done)
   simp only[zD]at h;cases h;exact wp_skip (hpost G a w hS (Ext.refl _ _ _))
  |ret=>
   cases c<;>simp only[zya]at hck<;>try(cases hck;done)
   simp only[zD]at h;cases h;exact wp_ret (hpost G a w hS (Ext.refl _ _ _))
  |exit id=>
   cases c<;>simp only[zya,decide_eq_true_eq]at hck<;>try(cases hck;done)
   subst hck;simp only[zD]at h;cases h;exact wp_exit (hpost G a w hS (Ext.refl _ _ _))
  |region gops=>
   cases c<;>simp only[zya,yb,yS,yH]at hck<;>try(cases hck;done)
   rename_i id ops draw;obtain⟨hck1,hck2⟩:=hck;simp only[zD]at h;have hlen:ops.size=gops.length:=by
    have:=(zRd _ _ hck1).1;simpa using this
   cases hst:zOc cf gops s with
   |none=>rw[hst]at h;cases h
   |some r=>
    rw[hst]at h;have fin:∀(l:List Nat) (w1:World),Sim G N s a w1->Ext G s.st w G s.st w1->runL cf gops l s=some r->wpOps P ops Q l a w1:=by
     intro l w1 hS1 hE1 hl;cases r with
     |ok s1=>
      cases h;refine ops_sound hcf hck1 l s G a w1 _ hl hS1 (hT.ext hE1) ?_ (fun v st' e=>by cases e);intro s2 e G' a' w' q1 q2;cases e;exact hpost G' a' w' q1 (hE1.trans q2)
     |pan v st1=>
      cases h;refine ops_sound hcf hck1 l s G a w1 _ hl hS1 (hT.ext hE1) (fun v e=>by cases e) ?_;intro v' st' e G' a' w' mv q0 q1 q2 q3;cases e;exact hpost G' a' w' mv q0 q1 (hE1.trans q2) q3
    cases draw with
    |false=>
     refine wp_region (fin _ w hS (Ext.refl _ _ _) ?_);rw[hlen,runL_range];exact hst
    |true=>
     have hck2':zbe ops gops=true:=by
      rcases hck2 with h'|h'
      ·cases h'
      ·exact h'
     refine wp_region_draw fun t=>?_
     exact fin _ w.drew hS.drew ⟨fun _ _ _ x=>x,fun _ _ x=>x,fun _ x=>⟨x,rfl,rfl⟩,yd _,rfl,rfl,fun _ _=>rfl,rfl⟩ (draw_runL hck2' hst _ t)
  |seq x y=>
   cases c<;>simp only[zya,yb]at hck<;>try(cases hck;done)
   rename_i cx cy;simp only[zD]at h;apply wp_seq;cases hx:zD cf n x s with
   |none=>rw[hx]at h;cases h
   |some r=>
    obtain⟨e1,s1⟩:=r;rw[hx]at h;cases e1 with
    |normal=>
     simp only at h;refine ihA cx x s .normal s1 G a w _ hx hck.1 hS hT ?_;intro G' a' w' q1 q2;exact ihA cy y s1 e s' G' a' w' Q h hck.2 q1 (hT.ext q2) (hpost.after q2)
    |exit id=>cases h;exact ihA cx x s _ _ G a w _ hx hck.1 hS hT (hpost.then (by simp))
    |ret=>cases h;exact ihA cx x s _ _ G a w _ hx hck.1 hS hT (hpost.then (by simp))
    |pan v=>cases h;exact ihA cx x s _ _ G a w _ hx hck.1 hS hT (hpost.then (by simp))
  |cond b x y=>
   cases c<;>simp only[zya,yb]at hck<;>try(cases hck;done)
   rename_i cb cx cy;obtain⟨⟨h1,h2⟩,h3⟩:=hck;simp only[zD]at h;split at h
   ·rename_i hb;exact wp_cond (zDd hS h1 hb) (ihA cx x s e s' G a w Q h h2 hS hT hpost)
   ·rename_i hb;exact wp_cond (zDd hS h1 hb) (ihA cy y s e s' G a w Q h h3 hS hT hpost)
   ·cases h
  |block id x=>
   cases c<;>simp only[zya,yb,decide_eq_true_eq]at hck<;>try(cases hck;done)
   rename_i id' cx;obtain⟨rfl,hck⟩:=hck;simp only[zD]at h;apply wp_block;cases hx:zD cf n x s with
   |none=>rw[hx]at h;cases h
   |some r=>
    obtain⟨e1,s1⟩:=r;rw[hx]at h;cases e1 with
    |normal=>cases h;exact ihA cx x s _ _ G a w _ hx hck hS hT hpost
    |exit id=>
     simp only at h;refine ihA cx x s _ _ G a w _ hx hck hS hT ?_;split at h
     ·rename_i e1;cases h;intro G' a' w' q1 q2;simp only[Exit.inBlock,e1,if_true];exact hpost G' a' w' q1 q2
     ·rename_i e1;cases h;intro G' a' w' q1 q2;simp only[Exit.inBlock,e1,if_false];exact hpost G' a' w' q1 q2
    |ret=>cases h;exact ihA cx x s _ _ G a w _ hx hck hS hT hpost
    |pan v=>cases h;exact ihA cx x s _ _ G a w _ hx hck hS hT hpost
  |loop keep dead x=>
   cases c<;>simp only[zya]at hck<;>try(cases hck;done)
   exact wp_loop_of (hB _ keep dead x s e s' G a w Q h hck hS hT hpost)
end
section
variable {G G':Gh} {w w':World} {st st':zc}
def blockSize(w:World)(b:Nat):Nat:=match w.heap[b]? with
 |some (.cells c _ _)=>c.size
 |_=>0
def letGo(n:Nat):Cl->Option Cl
 | .loc l=>if l<n then some (.loc l)else none
 | .ownS l i j=>if l<n then some (.ownS l i j)else none
 |κ=>some κ
def Gh.drop(G:Gh)(w:World)(n:Nat):Gh where
 loc:=G.loc
 room:=G.room
 box:=G.box
 dfr:=G.dfr
 cl:=fun b=>(G.cl b).bind (letGo n)
 fz:=fun b=>match G.cl b with
  |some (.loc l)=>if l<n then G.fz b else max (G.fz b) (blockSize w b)
  |_=>G.fz b
theorem drop_fz(G:Gh)(w:World)(n b:Nat):G.fz b<=(G.drop w n).fz b:=by
 unfold Gh.drop;simp only;split
 ·split<;>omega
 ·omega
theorem znf(G:Gh)(w:World)(n:Nat):(G.im w).le ((G.drop w n).im w):=by
 intro b o v h;unfold Gh.im at h ⊢;split at h
 ·rename_i hlt;rw[if_pos (Nat.lt_of_lt_of_le hlt (drop_fz G w n b))];exact h
 ·cases h
theorem drop_keep{n b:Nat}{κ:Cl}(h:G.cl b=some κ)(hk:letGo n κ=some κ):(G.drop w n).cl b=some κ/\(G.drop w n).fz b=G.fz b:=by
 refine⟨by simp[Gh.drop,h,hk],?_⟩;unfold Gh.drop;simp only[h];cases κ with
 |loc l=>
  simp only[letGo]at hk;split at hk
  ·rename_i hl;simp[hl]
  ·cases hk
 |_=>rfl
theorem drop_cr{n:Nat}{L L':Loc}{κ:Cl}(hk:letGo n κ=some κ)(hL:∀l x,l<n->L l=some x->L' l=some x){c:PV}{mv:Value}(hb:zx n c=true)(h:CR G w L κ c mv):CR (G.drop w n) w L' κ c mv:=by
 refine⟨h.1,?_⟩;obtain⟨_,h⟩:=h;have plain:∀{c},zx n c=true->VR (G.im w) L c mv->VR ((G.drop w n).im w) L' c mv:=fun hb h=>h.under (znf G w n) hL hb
 cases c with
 |slice k sz l=>
  cases k with
  |own=>
   obtain⟨b,cap,arr,e,h1,h2,h3,h5,h6,h7,h8,h9,h10⟩:=h;obtain⟨k1,k2⟩:=drop_keep (w:=w) h2 hk;exact⟨b,cap,arr,e,h1,k1,h3,h5,h6,h7,by rw[k2];exact h8,h9,plain (by simpa[zx]using hb) h10⟩
  |plain=>exact plain hb h
  |fit=>exact plain hb h
 |_=>exact plain hb h
theorem zBd{loc:Nat->Nat×Nat}{n:Nat}:∀l x,l<n->zk loc st l=some x->zk loc (st.take n) l=some x:=by
 intro l x hl h;unfold zk at h ⊢;rw[yE,if_pos hl];exact h
theorem belowP_get{n:Nat}:∀{l:List (PV×PV)},zqc n l=true->∀{i:Nat} {k v},l[i]? =some (k,v)->zx n k=true/\zx n v=true
 | [],_,i,k,v,h=>by simp at h
 |(k0,v0)::r,hb,i,k,v,h=>by
  simp only[zqc,yb]at hb;cases i with
  |zero=>simp at h;obtain⟨rfl,rfl⟩:=h;exact⟨hb.1.1,hb.1.2⟩
  |succ i=>exact belowP_get hb.2 (by simpa using h)
theorem drop_sim{n:Nat}(hS:SimS G st w)(hwf:zc.wf n (st.take n)=true):SimS (G.drop w n) (st.take n) w:=by
 refine⟨fun l o hl=>?_,fun b hb=>?_⟩
 ·have hlt:l<n:=by
   have:=(ya.1 hl).1;simp at this;omega
  have hbo:o.below n=true:=yq.1 hwf o (yZ.2 ⟨l,hl⟩);have hl':st[l]? =some o:=by rw[yE,if_pos hlt]at hl;exact hl
  have hobj:=hS.obj l o hl';cases o with
  |arr sz es=>
   obtain⟨h1,h2,arr,e,h3,h4,h5⟩:=hobj;obtain⟨k1,k2⟩:=drop_keep (w:=w) (n:=n) h1 (by simp[letGo,hlt]);refine⟨k1,by rw[show(G.drop w n).loc=G.loc from rfl,k2];exact h2,arr,e,h3,h4,fun i v hv=>⟨(h5 i v hv).1,(h5 i v hv).2.1,fun j c hc=>?_⟩⟩;obtain⟨mv,m1,m2⟩:=(h5 i v hv).2.2 j c hc;simp only[Obj.below]at hbo;exact⟨mv,m1,drop_cr (by simp[letGo,hlt]) zBd (ztf (ztb hbo hv) c (yZ.2 ⟨j,hc⟩)) m2⟩
  |mp es=>
   obtain⟨h1,h2,ents,clock,h3,h4,h6⟩:=hobj;obtain⟨k1,k2⟩:=drop_keep (w:=w) (n:=n) h1 (by simp[letGo,hlt]);refine⟨k1,by rw[show(G.drop w n).loc=G.loc from rfl,k2];exact h2,ents,clock,h3,h4,fun i k v hv=>?_⟩;obtain⟨en,m1,m2,m3⟩:=h6 i k v hv;simp only[Obj.below]at hbo;obtain⟨b1,b2⟩:=belowP_get hbo hv;exact⟨en,m1,m2.under (znf G w n) zBd b1,m3.under (znf G w n) zBd b2⟩
  |dead z=>trivial
 ·obtain⟨f1,f2⟩:=hS.fresh b hb;simp[Gh.drop,f1,f2]
theorem drop_ext{G0:Gh}{st0:zc}{w0:World}(hE:Ext G0 st0 w0 G st w):Ext G0 st0 w0 (G.drop w st0.length) (st.take st0.length) w:=by
 refine⟨Im.le_trans hE.im (znf _ _ _),fun l x h=>?_,fun b hb=>?_,hE.size,hE.os,hE.output,hE.frozen,hE.dfr⟩
 ·have hlt:l<st0.length:=by
   unfold zk at h;rw[yc]at h;obtain⟨o,ho,_⟩:=h;exact(ya.1 ho).1
  exact zBd l x hlt (hE.loc l x h)
 ·obtain⟨p1,p2,p3⟩:=hE.prot b hb;obtain⟨k1,k2⟩:=drop_keep (w:=w) (n:=st0.length) p1 rfl;exact⟨k1,by rw[k2,p2],p3⟩
theorem freeze1_vr{n:Nat}(hS:SimS G st w){v:PV}{mv:Value}(h:VR (G.im w) (zk G.lc st) v mv)(hb:zx n (zDe n st v)=true):
  VR ((G.drop w n).im w) (zk (G.drop w n).lc (st.take n)) (zDe n st v) mv:=by
 have dflt:∀{v},VR (G.im w) (zk G.lc st) v mv->zx n v=true->VR ((G.drop w n).im w) (zk (G.drop w n).lc (st.take n)) v mv:=fun h hb=>h.under (znf G w n) zBd hb
 cases v with
 |mslice l off len sz=>
  simp only[zDe]at hb ⊢;split at hb
  ·rename_i hnl;rw[if_pos hnl];split at hb
   ·rename_i s es hst
    try simp only[hst]
    split at hb
    ·rename_i hc;rw[if_pos hc];obtain⟨rfl,hle⟩:=hc;obtain⟨c1,c2,arr,e,c3,c4,c5⟩:=hS.obj l _ hst;have hloc:zk G.lc st l=some (G.loc l,s,G.room l):=by simp[zk,Gh.lc,hst,Obj.sz]
     have hlen:(((es.drop off).take len).map stripA).length=len:=by simp;omega
     have hfz:arr.size<=(G.drop w n).fz (G.loc l):=by
      unfold Gh.drop;simp only[c1];rw[if_neg (by omega)];have:blockSize w (G.loc l)=arr.size:=by simp[blockSize,c3]
      omega
     have him:∀(k:Nat) x,arr[k]? =some x->(G.drop w n).im w (G.loc l) k=some x:=by
      intro k x hk;have hlt:k<arr.size:=(yr.1 hk).1;unfold Gh.im;rw[if_pos (by omega)];show w.cell? _=_
      rw[zZb c3];exact hk
     have mk:∀cap,len<=cap->VR ((G.drop w n).im w) (zk (G.drop w n).lc (st.take n)) (.slice .plain s (((es.drop off).take len).map stripA)) (.slice (some ⟨G.loc l,off*s,none⟩) len cap):=by
      intro cap hcap;have hel:∀(i:Nat) e,(((es.drop off).take len).map stripA)[i]? =some e->∃e0,es[off+i]? =some e0/\e=stripA e0:=by
       intro i e he;simp only[yo,yE,yK,yc]at he;obtain⟨e0,h0,rfl⟩:=he;split at h0
       ·exact⟨e0,h0,rfl⟩
       ·cases h0
      have hcell:∀(i:Nat) e (j:Nat) c,(((es.drop off).take len).map stripA)[i]? =some e->(cellsOf e)[j]? =some c->∃x,arr[(off+i)*s+j]? =some x/\x.oneCell'=true/\VR (G.im w) (zk G.lc st) c x:=by
       intro i e j c he hc;obtain⟨e0,h0,rfl⟩:=hel i e he;rw[zvb,yo,yc]at hc;obtain⟨c0,hc0,rfl⟩:=hc;obtain⟨x,m1,m2⟩:=(c5 _ e0 h0).2.2 j c0 hc0;exact⟨x,m1,m2.1,m2.strip.canon1⟩
      have:=VR.slice (I:=(G.drop w n).im w) (L:=zk (G.drop w n).lc (st.take n)) (k:= .plain) (sz:=s) (l:=((es.drop off).take len).map stripA) (b:=G.loc l) (o:=off*s) (cap:=cap)
       (by simp) (by simp) (by rw[hlen];exact hcap) (fun i j=>arr.getD ((off+i)*s+j) Go.undef) ?_ ?_ ?_
      ·rw[hlen]at this;exact this
      ·intro i e he;obtain⟨e0,h0,rfl⟩:=hel i e he;obtain⟨d1,d2,_⟩:=c5 _ e0 h0;exact⟨by rw[zvb,yu,d1],stripA_var d2⟩
      ·intro i e j c he hc;obtain⟨x,m1,m2,_⟩:=hcell i e j c he hc;have hx:arr.getD ((off+i)*s+j) Go.undef=x:=by simp[m1]
       rw[hx];refine⟨?_,m2⟩;rw[show off*s+i*s+j=(off+i)*s+j from by rw[yJ]];exact him _ _ m1
      ·intro i e j c he hc;obtain⟨x,m1,_,m3⟩:=hcell i e j c he hc;have hx:arr.getD ((off+i)*s+j) Go.undef=x:=by simp[m1]
       rw[hx];simp only[zx]at hb;exact m3.under (znf G w n) zBd (ztf (ztb hb he) c (yZ.2 ⟨j,hc⟩))
     cases h with
     |mslice hh hcap _=>
      rw[hloc]at hh;cases hh;exact mk _ hcap
     |mslice0 a hh=>
      have:(((es.drop off).take 0).map stripA)=[]:=by simp
      rw[this];exact .slice0 _ _ _ _ (by simp) (by simp)
    ·rename_i hc;rw[if_neg hc];exact dflt h hb
   ·rename_i hne;exact dflt h hb
  ·rename_i hnl;rw[if_neg hnl];exact dflt h hb
 |_=>exact dflt h hb
theorem freezeA_vr{n:Nat}(hS:SimS G st w){v:PV}{mv:Value}(h:VR (G.im w) (zk G.lc st) v mv)(hb:zx n (zdd n st v)=true):
  VR ((G.drop w n).im w) (zk (G.drop w n).lc (st.take n)) (zdd n st v) mv:=by
 cases v with
 |agg cs=>
  cases h with
  |agg hl ho hv=>
   simp only[zdd,zx]at hb ⊢;refine .agg (by simpa using hl) ho (fun j c v hc hv'=>?_);have hbc:=ztb hb hc;rw[yo,yc]at hc;obtain⟨c0,h0,rfl⟩:=hc;exact freeze1_vr hS (hv j c0 v h0 hv') hbc
 |_=>exact freeze1_vr hS h hb
def frCell:Nat->Nat->zc->PV->PV->PV
 |k,n,st,.agg _,c=>zR (k-1) n st c
 |k,n,st,_,c=>zR k n st c
theorem frCell_is(k n:Nat)(st:zc)(v c:PV):∃q,q<=k/\frCell k n st v c=zR q n st c:=by
 cases v<;>first|exact⟨k,yd _,rfl⟩|exact⟨k-1,by omega,rfl⟩
theorem freezeK_notAgg(k n:Nat)(st:zc){v:PV}(h:∀cs,v≠ .agg cs):cellsOf (zR k n st v)=[zR k n st v]:=by
 cases k with
 |zero=>cases v<;>first|rfl|exact absurd rfl (h _)
 |succ k=>
  cases v with
  |agg cs=>exact absurd rfl (h _)
  |mslice l off len sz=>
   simp only[zR];split
   ·split
    ·split<;>rfl
    ·rfl
   ·rfl
  |_=>rfl
theorem freezeK_cells(k n:Nat)(st:zc)(v:PV):cellsOf (zR k n st v)=(cellsOf v).map (frCell k n st v):=by
 cases v with
 |agg cs=>
  cases k with
  |zero=>
   show cs=cs.map fun c=>c
   simp
  |succ k=>rfl
 |_=>exact freezeK_notAgg k n st (by intro cs h;cases h)
theorem freezeK_var(k n:Nat)(st:zc){v:PV}(h:zE v=true):zE (zR k n st v)=true:=by
 cases k with
 |zero=>exact h
 |succ k=>
  cases v with
  |mslice l off len sz=>
   simp only[zR];split
   ·split
    ·split<;>rfl
    ·rfl
   ·rfl
  |agg cs=>rfl
  |_=>exact h
theorem freezeK_vr{n:Nat}(hS:SimS G st w):∀(k j:Nat),j<=k->∀{v:PV} {mv:Value},VR (G.im w) (zk G.lc st) v mv->zx n (zR j n st v)=true→
  VR ((G.drop w n).im w) (zk (G.drop w n).lc (st.take n)) (zR j n st v) mv:=by
 have dflt:∀{v mv},VR (G.im w) (zk G.lc st) v mv->zx n v=true->VR ((G.drop w n).im w) (zk (G.drop w n).lc (st.take n)) v mv:=fun h hb=>h.under (znf G w n) zBd hb
 intro k
 induction k with
 |zero=>
  intro j hj v mv h hb;obtain rfl:j=0:=by omega
  exact dflt h hb
 |succ k IH=>
 intro j hj v mv h hb;cases j with
 |zero=>exact dflt h hb
 |succ j=>
 cases v with
 |agg cs=>
  cases h with
  |agg hl ho hv=>
   simp only[zR,zx]at hb ⊢;refine .agg (by simpa using hl) ho (fun i c v hc hv'=>?_);have hbc:=ztb hb hc;rw[yo,yc]at hc;obtain⟨c0,h0,rfl⟩:=hc;exact IH j (by omega) (hv i c0 v h0 hv') hbc
 |mslice l off len sz=>
  simp only[zR]at hb ⊢;split at hb
  ·rename_i hnl;rw[if_pos hnl];split at hb
   ·rename_i s es hst
    try simp only[hst]
    split at hb
    ·rename_i hc;rw[if_pos hc];obtain⟨rfl,hle⟩:=hc;obtain⟨c1,c2,arr,e,c3,c4,c5⟩:=hS.obj l _ hst;have hloc:zk G.lc st l=some (G.loc l,s,G.room l):=by simp[zk,Gh.lc,hst,Obj.sz]
     generalize hfe:(fun e=>zR j n st (stripA e))=fe at hb ⊢;have hfe':∀e,fe e=zR j n st (stripA e):=fun e=>by rw[<-hfe]
     have hlen:(((es.drop off).take len).map fe).length=len:=by simp;omega
     have hfz:arr.size<=(G.drop w n).fz (G.loc l):=by
      unfold Gh.drop;simp only[c1];rw[if_neg (by omega)];have:blockSize w (G.loc l)=arr.size:=by simp[blockSize,c3]
      omega
     have him:∀(k:Nat) x,arr[k]? =some x->(G.drop w n).im w (G.loc l) k=some x:=by
      intro k x hk;have hlt:k<arr.size:=(yr.1 hk).1;unfold Gh.im;rw[if_pos (by omega)];show w.cell? _=_
      rw[zZb c3];exact hk
     have mk:∀cap,len<=cap->VR ((G.drop w n).im w) (zk (G.drop w n).lc (st.take n)) (.slice .plain s (((es.drop off).take len).map fe)) (.slice (some ⟨G.loc l,off*s,none⟩) len cap):=by
      intro cap hcap;have hel:∀(i:Nat) e,(((es.drop off).take len).map fe)[i]? =some e->∃e0,es[off+i]? =some e0/\e=fe e0:=by
       intro i e he;simp only[yo,yE,yK,yc]at he;obtain⟨e0,h0,rfl⟩:=he;split at h0
       ·exact⟨e0,h0,rfl⟩
       ·cases h0
      have hcell:∀(i:Nat) e (m:Nat) c,(((es.drop off).take len).map fe)[i]? =some e->(cellsOf e)[m]? =some c->∃x,arr[(off+i)*s+m]? =some x/\x.oneCell'=true∧
        ∃c0 q,q<=k/\c=zR q n st c0/\VR (G.im w) (zk G.lc st) c0 x:=by
       intro i e m c he hc;obtain⟨e0,h0,rfl⟩:=hel i e he;rw[hfe',freezeK_cells,zvb,List.map_map,yo,yc]at hc;obtain⟨c0,hc0,rfl⟩:=hc;obtain⟨x,m1,m2⟩:=(c5 _ e0 h0).2.2 m c0 hc0;obtain⟨q,hq,e⟩:=frCell_is j n st (stripA e0) (canon1 c0);exact⟨x,m1,m2.1,canon1 c0,q,by omega,e,m2.strip.canon1⟩
      have:=VR.slice (I:=(G.drop w n).im w) (L:=zk (G.drop w n).lc (st.take n)) (k:= .plain) (sz:=s) (l:=((es.drop off).take len).map fe) (b:=G.loc l) (o:=off*s) (cap:=cap)
       (by simp) (by simp) (by rw[hlen];exact hcap) (fun i j=>arr.getD ((off+i)*s+j) Go.undef) ?_ ?_ ?_
      ·rw[hlen]at this;exact this
      ·intro i e he;obtain⟨e0,h0,rfl⟩:=hel i e he;obtain⟨d1,d2,_⟩:=c5 _ e0 h0;exact⟨by rw[hfe',freezeK_cells,yu,zvb,yu,d1],by rw[hfe'];exact freezeK_var _ _ _ (stripA_var d2)⟩
      ·intro i e m c he hc;obtain⟨x,m1,m2,_⟩:=hcell i e m c he hc;have hx:arr.getD ((off+i)*s+m) Go.undef=x:=by simp[m1]
       rw[hx];refine⟨?_,m2⟩;rw[show off*s+i*s+m=(off+i)*s+m from by rw[yJ]];exact him _ _ m1
      ·intro i e m c he hc;obtain⟨x,m1,_,c0,q,hq,rfl,m3⟩:=hcell i e m c he hc;have hx:arr.getD ((off+i)*s+m) Go.undef=x:=by simp[m1]
       rw[hx];simp only[zx]at hb;exact IH q hq m3 (ztf (ztb hb he) _ (yZ.2 ⟨m,hc⟩))
     cases h with
     |mslice hh hcap _=>
      rw[hloc]at hh;cases hh;exact mk _ hcap
     |mslice0 a hh=>
      have:(((es.drop off).take 0).map fe)=[]:=by simp
      rw[this];exact .slice0 _ _ _ _ (by simp) (by simp)
    ·rename_i hc;rw[if_neg hc];exact dflt h hb
   ·rename_i hne;exact dflt h hb
  ·rename_i hnl;rw[if_neg hnl];exact dflt h hb
 |_=>exact dflt h hb
theorem frz_vr{n:Nat}(hS:SimS G st w)(d:Bool){v:PV}{mv:Value}(h:VR (G.im w) (zk G.lc st) v mv)(hb:zx n (frz d n st v)=true):
  VR ((G.drop w n).im w) (zk (G.drop w n).lc (st.take n)) (frz d n st v) mv:=by
 cases d with
 |false=>exact freezeA_vr hS h hb
 |true=>exact freezeK_vr hS 12 12 (yd _) h hb
theorem freeze_res{n:Nat}{d:Bool}(hS:SimS G st w){vs:List PV}{mv:Value}(h:VR (G.im w) (zk G.lc st) (zpe vs) mv)(hb:zJ n (vs.map (frz d n st))=true):
  VR ((G.drop w n).im w) (zk (G.drop w n).lc (st.take n)) (zpe (vs.map (frz d n st))) mv:=by
 have many:∀{vs:List PV},zJ n (vs.map (frz d n st))=true->VR (G.im w) (zk G.lc st) (.tup vs) mv->VR ((G.drop w n).im w) (zk (G.drop w n).lc (st.take n)) (.tup (vs.map (frz d n st))) mv:=by
  intro vs hb h;cases h with
  |tup hl hv=>
   refine .tup (by simpa using hl) (fun j c v hc hv'=>?_);have hbc:=ztb hb hc;rw[yo,yc]at hc;obtain⟨c0,h0,rfl⟩:=hc;exact frz_vr hS d (hv j c0 v h0 hv') hbc
 match vs,h,hb with
 | [],h,hb=>exact many hb h
 | [v],h,hb=>
  simp only[yp,yxa,zJ,Bool.and_true]at hb;exact frz_vr hS d h hb
 |v::v'::vs,h,hb=>exact many hb h
end
section
variable {P:Program} {G G':Gh} {N:Nat} {s:St} {a:Act} {w w':World} {oper:Oper} {T:Tabs} {cf:zL}
def noPinO(pins:List Nat)(o:Oper):Bool:=match o.dst with
 |some t=> !pins.contains t
 |none=>true
def noPin(pins:List Nat):Code->Bool
 | .region _ ops _=>ops.toList.all (noPinO pins)
 | .seq a b=>noPin pins a&&noPin pins b
 | .cond _ a b=>noPin pins a&&noPin pins b
 | .block _ b=>noPin pins b
 | .loop b=>noPin pins b
 | .skip=>true
 | .exit _=>true
 | .ret=>true
 |_=>false
structure KeepT(pins:List Nat)(a a':Act):Prop where
 size:a'.tmps.size=a.tmps.size
 tmp:∀t,t∈pins->a'.tmps.getD t Go.undef=a.tmps.getD t Go.undef
theorem KeepT.refl(pins:List Nat)(a:Act):KeepT pins a a:=⟨rfl,fun _ _=>rfl⟩
theorem KeepT.trans{pins:List Nat}{a b c:Act}(h:KeepT pins a b)(h':KeepT pins b c):KeepT pins a c:=⟨h'.size.trans h.size,fun t ht=>(h'.tmp t ht).trans (h.tmp t ht)⟩
theorem KeepT.put{pins:List Nat}{o:Oper}(h:noPinO pins o=true)(a:Act)(ds:List Deferred)(v:Value):KeepT pins a ({a with defers:=ds}.put o.dst v):=by
 unfold noPinO at h;cases hd:o.dst with
 |none=>exact⟨rfl,fun _ _=>rfl⟩
 |some d=>
  rw[hd]at h;simp only[yH,List.contains_eq_mem,decide_eq_false_iff_not]at h;refine⟨by simp[Act.put],fun t ht=>?_⟩;have hne:d≠t:=fun e=>h (e ▸ ht)
  simp[Act.put,yta,hne]
def keptQ(pins:List Nat)(a:Act)(Q:Exit->Act->World->Prop):Exit->Act->World->Prop
 | .outgrown,a',w'=>Q .outgrown a' w'
 |e,a',w'=>KeepT pins a a'->Q e a' w'
theorem oper_keep{pins:List Nat}{o:Oper}(hp:noPinO pins o=true){K:Act->World->Prop}{Q:Exit->Act->World->Prop}(h:o.wp P a w (fun a' w'=>KeepT pins a a'->K a' w') (keptQ pins a Q)):o.wp P a w K Q:=by
 unfold Oper.wp at*;generalize(execOp a.eval o).run P w=r at*;have hput:∀v,KeepT pins a (a.put o.dst v):=fun v=>KeepT.put hp a a.defers v
 cases r with
 |ok n w'=>
  cases n<;>simp only[Oper.upon]at h ⊢ <;>
   first
    |exact h (hput _)
    |exact h (KeepT.put hp a _ _)
    |exact Calls.mono h (fun e w'' he=>by cases e<;>first|exact he (hput _)|exact he (KeepT.refl _ _)|exact he)
    |exact Rows.mono h (fun _ _ he=>he (hput _))
 |halt x w'=>cases x<;>simp only[Oper.upon]at h ⊢ <;>first|exact h (KeepT.refl _ _)|exact h
theorem wpOp_keep{pins:List Nat}{ops:Array Oper}{i:Nat}(hp:∀o,ops[i]? =some o->noPinO pins o=true){K:Act->World->Prop}{Q:Exit->Act->World->Prop}(h:wpOp P ops (keptQ pins a Q) i (fun a' w'=>KeepT pins a a'->K a' w') a w):wpOp P ops Q i K a w:=by
 unfold wpOp at*;split
 ·rename_i ho;simp only[ho]at h;exact h (KeepT.refl _ _)
 ·rename_i o ho;simp only[ho]at h;split
  ·rename_i hw;simp only[hw,if_true]at h;exact h.imp (oper_keep (hp o ho)) id
  ·rename_i hw;simp only[hw]at h;exact h (KeepT.put (hp o ho) a a.defers _)
theorem ops_soundK{pins:List Nat}(hcf:Good P T cf){ops:Array Oper}{gops:List GOp}(hck:opersOk P N ops ops.toList gops=true)(hp:ops.toList.all (noPinO pins)=true){Q:Exit->Act->World->Prop}:
  ∀(l:List Nat) (s:St) (G:Gh) (a:Act) (w:World) (sr:SR),runL cf gops l s=some sr->Sim G N s a w->T.In G w→
  (∀s',sr= .ok s'->∀G' a' w',Sim G' N s' a' w'->Ext G s.st w G' s'.st w'->KeepT pins a a'->Q .normal a' w')→
  (∀v st',sr= .pan v st'->∀G' a' w' mv,a'.defers=G'.dfr->SimS G' st' w'->Ext G s.st w G' st' w'->VR (G'.im w') (zk G'.lc st') v mv->KeepT pins a a'->Q (.panic [{v:=mv,recovered:=false}]) a' w')→
  wpOps P ops Q l a w
 | [],s,G,a,w,sr,h,hS,hT,hK,hQ=>by
  cases h;exact hK s rfl G a w hS (Ext.refl _ _ _) (KeepT.refl _ _)
 |i::l,s,G,a,w,sr,h,hS,hT,hK,hQ=>by
  obtain⟨e1,e2⟩:=zRd _ _ hck;simp only[runL]at h;cases hg:gops[i]? with
  |none=>rw[hg]at h;cases h
  |some g=>
   rw[hg]at h;simp only at h;have hlt:i<ops.size:=by
    have:=(ya.1 hg).1;simp at e1;omega
   have ho:ops[i]? =some ops[i]:=yO hlt;have hck1:=e2 i ops[i] g (by simp[hlt]) hg;rw[wpOps_cons];cases hst:step cf g s with
   |none=>rw[hst]at h;cases h
   |some r=>
    rw[hst]at h;refine wpOp_keep (pins:=pins) (fun o' ho'=>yq.1 hp o' (yZ.2 ⟨i,by simpa using ho'⟩)) (step_sound hcf ho hck1 hS hT hst (sr:=r) ?_ ?_)
    ·intro s1 e G1 a1 w1 hS1 hE1 hk1;subst e;simp only at h;exact ops_soundK hcf hck hp l s1 G1 a1 w1 sr h hS1 (hT.ext hE1) (fun s' e G' a' w' q1 q2 k2=>hK s' e G' a' w' q1 (hE1.trans q2) (hk1.trans k2))
      (fun v st' e G' a' w' mv q0 q1 q2 q3 k2=>hQ v st' e G' a' w' mv q0 q1 (hE1.trans q2) q3 (hk1.trans k2))
    ·intro v st' e G' w' mv q1 q2 q3 hk1;subst e;cases h;exact hQ v st' rfl G' a w' mv (hS.defers.trans q2.dfr.symm) q1 q2 q3 hk1
def PostK(pins:List Nat)(a0:Act)(G:Gh)(N:Nat)(st:zc)(w:World)(e:Ex)(s':St)(Q:Exit->Act->World->Prop):Prop:=
 match e with
 | .normal=>∀G' a' w',Sim G' N s' a' w'->Ext G st w G' s'.st w'->KeepT pins a0 a'->Q .normal a' w'
 | .exit id=>∀G' a' w',Sim G' N s' a' w'->Ext G st w G' s'.st w'->KeepT pins a0 a'->Q (.exit id) a' w'
 | .ret=>∀G' a' w',Sim G' N s' a' w'->Ext G st w G' s'.st w'->KeepT pins a0 a'->Q .ret a' w'
 | .pan v=>∀G' a' w' mv,a'.defers=G'.dfr->SimS G' s'.st w'->Ext G st w G' s'.st w'->VR (G'.im w') (zk G'.lc s'.st) v mv->KeepT pins a0 a'->Q (.panic [{v:=mv,recovered:=false}]) a' w'
theorem PostK.after{pins:List Nat}{a0 a1:Act}(hk:KeepT pins a0 a1){st st1:zc}{G1:Gh}{w1:World}{e:Ex}{s':St}{Q:Exit->Act->World->Prop}(hE:Ext G st w G1 st1 w1)(h:PostK pins a0 G N st w e s' Q):PostK pins a1 G1 N st1 w1 e s' Q:=by
 cases e with
 |normal=>exact fun G' a' w' q1 q2 k2=>h G' a' w' q1 (hE.trans q2) (hk.trans k2)
 |exit id=>exact fun G' a' w' q1 q2 k2=>h G' a' w' q1 (hE.trans q2) (hk.trans k2)
 |ret=>exact fun G' a' w' q1 q2 k2=>h G' a' w' q1 (hE.trans q2) (hk.trans k2)
 |pan v=>exact fun G' a' w' mv q0 q1 q2 q3 k2=>h G' a' w' mv q0 q1 (hE.trans q2) q3 (hk.trans k2)
theorem PostK.then{pins:List Nat}{a0:Act}{st:zc}{e:Ex}{s':St}{K:Act->World->Prop}{Q:Exit->Act->World->Prop}(hne:e≠ .normal)(h:PostK pins a0 G N st w e s' Q):PostK pins a0 G N st w e s' (Exit.then K Q):=by
 cases e with
 |normal=>exact absurd rfl hne
 |exit id=>exact h
 |ret=>exact h
 |pan v=>exact h
theorem exec_soundK{pins:List Nat}(hcf:Good P T cf):∀(n:Nat),
  (∀(c:Code) (ic:ICode) (s:St) (e:Ex) (s':St) (G:Gh) (a:Act) (w:World) (Q:Exit->Act->World->Prop),zD cf n ic s=some (e,s')->zya P N c ic=true->noPin pins c=true->Sim G N s a w->T.In G w→
   PostK pins a G N s.st w e s' Q->c.wp P Q a w)∧
  (∀(c:Code) (keep dead:List Nat) (b:ICode) (s:St) (e:Ex) (s':St) (G:Gh) (a:Act) (w:World) (Q:Exit->Act->World->Prop),zD cf n (.loop keep dead b) s=some (e,s')->zya P N c b=true->noPin pins c=true->Sim G N s a w->T.In G w→
   PostK pins a G N s.st w e s' Q->Again P c Q a w):=by
 intro n
 induction n with
 |zero=>exact⟨fun c ic s e s' G a w Q h=>by simp[zD]at h,fun c keep dead b s e s' G a w Q h=>by simp[zD]at h⟩
 |succ n ih=>
  obtain⟨ihA,ihB⟩:=ih;have hB:∀(c:Code) (keep dead:List Nat) (b:ICode) (s:St) (e:Ex) (s':St) (G:Gh) (a:Act) (w:World) (Q:Exit->Act->World->Prop),zD cf (n+1) (.loop keep dead b) s=some (e,s')->zya P N c b=true->noPin pins c=true->Sim G N s a w->T.In G w→
    PostK pins a G N s.st w e s' Q->Again P c Q a w:=by
   intro c keep dead b s e s' G a w Q h hck hnp hS hT hpost;simp only[zD]at h;cases hh:havoc keep dead s with
   |none=>rw[hh]at h;cases h
   |some s1=>
    rw[hh]at h;simp only at h;obtain⟨hS1,hst⟩:=havoc_sound hS hh;apply again_round;cases hb:zD cf n b s1 with
    |none=>rw[hb]at h;cases h
    |some r=>
     obtain⟨e1,s2⟩:=r;rw[hb]at h;cases e1 with
     |normal=>
      simp only at h;refine ihA c b s1 .normal s2 G a w _ hb hck hnp hS1 hT ?_;intro G' a' w' q1 q2 k1;rw[hst]at q2;exact ihB c keep dead b s2 e s' G' a' w' Q h hck hnp q1 (hT.ext q2) (hpost.after k1 q2)
     |exit id=>cases h;exact ihA c b s1 _ _ G a w _ hb hck hnp hS1 hT (by rw[hst];exact PostK.then (fun q=>by cases q) hpost)
     |ret=>cases h;exact ihA c b s1 _ _ G a w _ hb hck hnp hS1 hT (by rw[hst];exact PostK.then (fun q=>by cases q) hpost)
     |pan v=>cases h;exact ihA c b s1 _ _ G a w _ hb hck hnp hS1 hT (by rw[hst];exact PostK.then (fun q=>by cases q) hpost)
  refine⟨?_,hB⟩;intro c ic s e s' G a w Q h hck hnp hS hT hpost;cases ic with
  |bad=>simp[zD]at h
  |skip=>
   cases c<;>simp only[zya]at hck<;>try(cases hck;done)
   simp only[zD]at h;cases h;exact wp_skip (hpost G a w hS (Ext.refl _ _ _) (KeepT.refl _ _))
  |ret=>
   cases c<;>simp only[zya]at hck<;>try(cases hck;done)
   simp only[zD]at h;cases h;exact wp_ret (hpost G a w hS (Ext.refl _ _ _) (KeepT.refl _ _))
  |exit id=>
   cases c<;>simp only[zya,decide_eq_true_eq]at hck<;>try(cases hck;done)
   subst hck;simp only[zD]at h;cases h;exact wp_exit (hpost G a w hS (Ext.refl _ _ _) (KeepT.refl _ _))
  |region gops=>
   cases c<;>simp only[zya,yb,yS,yH]at hck<;>try(cases hck;done)
   rename_i id ops draw;obtain⟨hck1,hck2⟩:=hck;simp only[noPin]at hnp;simp only[zD]at h;have hlen:ops.size=gops.length:=by
    have:=(zRd _ _ hck1).1;simpa using this
   cases hst:zOc cf gops s with
   |none=>rw[hst]at h;cases h
   |some r=>
    rw[hst]at h;have fin:∀(l:List Nat) (w1:World),Sim G N s a w1->Ext G s.st w G s.st w1->runL cf gops l s=some r->wpOps P ops Q l a w1:=by
     intro l w1 hS1 hE1 hl;cases r with
     |ok s1=>
      cases h;refine ops_soundK hcf hck1 hnp l s G a w1 _ hl hS1 (hT.ext hE1) ?_ (fun v st' e=>by cases e);intro s2 e G' a' w' q1 q2 k1;cases e;exact hpost G' a' w' q1 (hE1.trans q2) k1
     |pan v st1=>
      cases h;refine ops_soundK hcf hck1 hnp l s G a w1 _ hl hS1 (hT.ext hE1) (fun v e=>by cases e) ?_;intro v' st' e G' a' w' mv q0 q1 q2 q3 k1;cases e;exact hpost G' a' w' mv q0 q1 (hE1.trans q2) q3 k1
    cases draw with
    |false=>
     refine wp_region (fin _ w hS (Ext.refl _ _ _) ?_);rw[hlen,runL_range];exact hst
    |true=>
     have hck2':zbe ops gops=true:=by
      rcases hck2 with h'|h'
      ·cases h'
      ·exact h'
     refine wp_region_draw fun t=>?_
     exact fin _ w.drew hS.drew ⟨fun _ _ _ x=>x,fun _ _ x=>x,fun _ x=>⟨x,rfl,rfl⟩,yd _,rfl,rfl,fun _ _=>rfl,rfl⟩ (draw_runL hck2' hst _ t)
  |seq x y=>
   cases c<;>simp only[zya,yb]at hck<;>try(cases hck;done)
   rename_i cx cy;simp only[noPin,yb]at hnp;simp only[zD]at h;apply wp_seq;cases hx:zD cf n x s with
   |none=>rw[hx]at h;cases h
   |some r=>
    obtain⟨e1,s1⟩:=r;rw[hx]at h;cases e1 with
    |normal=>
     simp only at h;refine ihA cx x s .normal s1 G a w _ hx hck.1 hnp.1 hS hT ?_;intro G' a' w' q1 q2 k1;exact ihA cy y s1 e s' G' a' w' Q h hck.2 hnp.2 q1 (hT.ext q2) (hpost.after k1 q2)
    |exit id=>cases h;exact ihA cx x s _ _ G a w _ hx hck.1 hnp.1 hS hT (hpost.then (by simp))
    |ret=>cases h;exact ihA cx x s _ _ G a w _ hx hck.1 hnp.1 hS hT (hpost.then (by simp))
    |pan v=>cases h;exact ihA cx x s _ _ G a w _ hx hck.1 hnp.1 hS hT (hpost.then (by simp))
  |cond b x y=>
   cases c<;>simp only[zya,yb]at hck<;>try(cases hck;done)
   rename_i cb cx cy;obtain⟨⟨h1,h2⟩,h3⟩:=hck;simp only[noPin,yb]at hnp;simp only[zD]at h;split at h
   ·rename_i hb;exact wp_cond (zDd hS h1 hb) (ihA cx x s e s' G a w Q h h2 hnp.1 hS hT hpost)
   ·rename_i hb;exact wp_cond (zDd hS h1 hb) (ihA cy y s e s' G a w Q h h3 hnp.2 hS hT hpost)
   ·cases h
  |block id x=>
   cases c<;>simp only[zya,yb,decide_eq_true_eq]at hck<;>try(cases hck;done)
   rename_i id' cx;obtain⟨rfl,hck⟩:=hck;simp only[noPin]at hnp;simp only[zD]at h;apply wp_block;cases hx:zD cf n x s with
   |none=>rw[hx]at h;cases h
   |some r=>
    obtain⟨e1,s1⟩:=r;rw[hx]at h;cases e1 with
    |normal=>cases h;exact ihA cx x s _ _ G a w _ hx hck hnp hS hT hpost
    |exit id=>
     simp only at h;refine ihA cx x s _ _ G a w _ hx hck hnp hS hT ?_;split at h
     ·rename_i e1;cases h;intro G' a' w' q1 q2 k1;simp only[Exit.inBlock,e1,if_true];exact hpost G' a' w' q1 q2 k1
     ·rename_i e1;cases h;intro G' a' w' q1 q2 k1;simp only[Exit.inBlock,e1,if_false];exact hpost G' a' w' q1 q2 k1
    |ret=>cases h;exact ihA cx x s _ _ G a w _ hx hck hnp hS hT hpost
    |pan v=>cases h;exact ihA cx x s _ _ G a w _ hx hck hnp hS hT hpost
  |loop keep dead x=>
   cases c<;>simp only[zya]at hck<;>try(cases hck;done)
   simp only[noPin]at hnp;exact wp_loop_of (hB _ keep dead x s e s' G a w Q h hck hnp hS hT hpost)
end
section
variable {P:Program} {G G':Gh} {N:Nat} {s:St} {a:Act} {w w':World}
def resOk(P:Program):ResultVar->IRes->Bool
 | .tmp t,.tmp t'=>decide (t=t')
 | .cell t ty,.cell t' ag sz=>decide (t=t')&&szT P ty sz&&hasU P ty&&(zQc P ty==ag)
 |_,_=>false
def ressOk(P:Program):List ResultVar->List IRes->Bool
 | [],[]=>true
 |r::rs,r'::rs'=>resOk P r r'&&ressOk P rs rs'
 |_,_=>false
def resSem(tmps:Array Value):ResultVar->Sem Value
 | .tmp t=>pure (tmps.getD t Go.undef)
 | .cell a t=>do loadVar t (<-asAddr (tmps.getD a Go.undef))
theorem load_box{k off ty sz:Nat}{ag:Bool}{cs:List PV}{u:PV}(hS:Sim G N s a w)(h2:szT P ty sz=true)(h3:hasU P ty=true)(h4:(zQc P ty==ag)=true)
  (hb:s.bx k= .cells cs) (hu:zM ag sz cs off=some u):∃mv,(loadVar ty ⟨G.box k,off,none⟩).run P w= .ok mv w/\VR (G.im w) (zk G.lc s.st) (stripA u) mv:=by
 have hbx:=hS.box k;rw[hb]at hbx;obtain⟨c1,c2,arr,e,c3,c4,c5⟩:=hbx;obtain⟨mv,hl,hr⟩:=read_ok (I:=G.im w) (L:=zk G.lc s.st) (src:=fun j=>w.cell? ⟨G.box k,j,none⟩) (fun j c hj=>by
  obtain⟨mv,m1,m2⟩:=c5 j c hj;exact⟨mv,by show w.cell? _=_;rw[zZb c3];exact m1,m2.1,m2.strip⟩) hu
 exact⟨mv,zZe h2 h3 h4 hl,hr⟩
theorem load_obj{l i off ty sz sz':Nat}{ag:Bool}{es:List PV}{e0 u:PV}(hS:Sim G N s a w)(h2:szT P ty sz=true)(h3:hasU P ty=true)(h4:(zQc P ty==ag)=true)
  (hst:s.st[l]? =some (.arr sz' es)) (he0:es[i]? =some e0) (hu:zM ag sz (cellsOf e0) off=some u):
  ∃mv,(loadVar ty ⟨G.loc l,i*sz'+off,none⟩).run P w= .ok mv w/\VR (G.im w) (zk G.lc s.st) (stripA u) mv:=by
 obtain⟨c1,c2,arr,e,c3,c4,c5⟩:=hS.store.obj l _ hst;obtain⟨d1,d2,d3⟩:=c5 i e0 he0;obtain⟨mv,hl,hr⟩:=read_ok (I:=G.im w) (L:=zk G.lc s.st) (src:=fun j=>w.cell? ⟨G.loc l,i*sz'+j,none⟩) (fun j c hj=>by
  obtain⟨mv,m1,m2⟩:=d3 j c hj;exact⟨mv,by show w.cell? _=_;rw[zZb c3];exact m1,m2.1,m2.strip⟩) hu
 exact⟨mv,zZe h2 h3 h4 (hl.shift fun j x hx=>by rw[yPa];exact hx),hr⟩
theorem res_sound{r:ResultVar}{r':IRes}(hS:Sim G N s a w)(h:resOk P r r'=true){v:PV}(hg:r'.get s=some v)(hv:zE v=true):
  ∃mv,(resSem a.tmps r).run P w= .ok mv w/\VR (G.im w) (zk G.lc s.st) v mv:=by
 cases r with
 |tmp t=>
  cases r'<;>simp only[resOk,decide_eq_true_eq]at h<;>try(cases h;done)
  subst h;simp only[IRes.get,Option.some.injEq]at hg;subst hg;refine⟨_,rfl,?_⟩;have htN:t<N:=by
   rcases yB t N with h|h
   ·exact h
   ·rw[hS.hi t h]at hv;cases hv
  refine VR.stripA (((hS.tmp t htN).strip .prot).vr ?_ ?_)
  ·intro sz l;cases s.fr t<;>simp[strip]
   rename_i k _ _;cases k<;>simp
  ·intro k off e;rw[isVar_stripA,e]at hv;cases hv
 |cell t ty=>
  cases r'<;>simp only[resOk,yb,decide_eq_true_eq]at h<;>try(cases h;done)
  rename_i t' ag sz;obtain⟨⟨⟨rfl,h2⟩,h3⟩,h4⟩:=h;simp only[IRes.get]at hg;have htN:s.fr t≠ .undef->t<N:=fun hne=>by
   rcases yB t N with h|h
   ·exact h
   ·exact absurd (hS.hi t h) hne
  split at hg
  ·rename_i k off hf;split at hg
   case h_2=>cases hg
   rename_i cs hb;simp only[yc]at hg;obtain⟨u,hu,rfl⟩:=hg;have ht:=hS.tmp t (htN (by rw[hf];simp));rw[hf]at ht;obtain⟨mv,q1,q2⟩:=load_box hS h2 h3 h4 hb hu;refine⟨mv,?_,q2⟩;have ht':a.tmps.getD t Go.undef= .pointer (some ⟨G.box k,off,none⟩):=ht;simp only[resSem,ht'];simp[asAddr,q1]
  ·rename_i l i off hf;split at hg
   case h_2=>cases hg
   rename_i sz' es hst;split at hg
   case h_2=>cases hg
   rename_i e0 he0;simp only[yc]at hg;obtain⟨u,hu,rfl⟩:=hg;have ht:=hS.tmp t (htN (by rw[hf];simp));rw[hf]at ht;have hvr:VR (G.im w) (zk G.lc s.st) (.ptr l i off) (a.tmps.getD t Go.undef):=ht;have hloc:zk G.lc s.st l=some (G.loc l,sz',G.room l):=by simp[zk,Gh.lc,hst,Obj.sz]
   have ht':a.tmps.getD t Go.undef= .pointer (some ⟨G.loc l,i*sz'+off,none⟩):=by
    generalize a.tmps.getD t Go.undef=m at hvr;cases hvr with
    |ptr hh=>rw[hloc]at hh;cases hh;rfl
   obtain⟨mv,q1,q2⟩:=load_obj hS h2 h3 h4 hst he0 hu;refine⟨mv,?_,q2⟩;simp only[resSem,ht'];simp[asAddr,q1]
  ·cases hg
theorem ress_sound(hS:Sim G N s a w):∀{rs:List ResultVar} {rs':List IRes},ressOk P rs rs'=true->∀{vs:List PV},zve s rs'=some vs->vs.all zE=true→
  ∃mvs:List Value,(rs.mapM (resSem a.tmps)).run P w= .ok mvs w/\mvs.length=vs.length/\∀(j:Nat) c x,vs[j]? =some c->mvs[j]? =some x->VR (G.im w) (zk G.lc s.st) c x
 | [],[],_,vs,hg,_=>by
  cases hg;exact⟨[],rfl,rfl,fun j c x h=>by simp at h⟩
 | [],_::_,h,_,_,_=>by cases h
 |_::_,[],h,_,_,_=>by cases h
 |r::rs,r'::rs',h,vs,hg,hv=>by
  simp only[ressOk,yb]at h;simp only[zve]at hg;split at hg
  case h_2=>cases hg
  rename_i v vs' h1 h2;cases hg;simp only[yea,yb]at hv;obtain⟨mv,q1,q2⟩:=res_sound hS h.1 h1 hv.1;obtain⟨mvs,p1,p2,p3⟩:=ress_sound hS h.2 h2 hv.2;refine⟨mv::mvs,?_,by simp[p2],fun j c x hc hx=>?_⟩
  ·simp[List.mapM_cons,q1,p1]
  ·cases j with
   |zero=>simp at hc hx;subst hc;subst hx;exact q2
   |succ j=>exact p3 j c x (by simpa using hc) (by simpa using hx)
theorem zbf(hS:Sim G N s a w){fn:Func}{rs':List IRes}(h:ressOk P fn.results.toList rs'=true){vs:List PV}(hg:zve s rs'=some vs)(hv:vs.all zE=true):
  ∃mv,(results fn a.tmps).run P w= .ok mv w/\VR (G.im w) (zk G.lc s.st) (zpe vs) mv:=by
 obtain⟨mvs,p1,p2,p3⟩:=ress_sound hS h hg hv;have hres:results fn a.tmps=(fn.results.mapM (resSem a.tmps)>>=fun vs=>pure (if h:vs.size=1 then vs[0]else .tuple vs)):=by
  rfl
 rw[hres];simp only[Array.mapM_eq_mapM_toList,Sem.run_bind];have hm:(yWa<$>fn.results.toList.mapM (resSem a.tmps)).run P w= .ok mvs.toArray w:=by
  simp[p1]
 rw[hm];refine⟨_,rfl,?_⟩
 match vs,p2,p3 with
 | [],p2,p3=>
  have:mvs=[]:=yA (by simpa using p2);subst this;exact .tup rfl (fun j c x h=>by simp at h)
 | [v],p2,p3=>
  match mvs,p2,p3 with
  | [mv],_,p3=>exact p3 0 v mv rfl rfl
 |v::v'::vs,p2,p3=>
  match mvs,p2,p3 with
  |mv::mv'::mvs,p2,p3=>
   have:¬(mv::mv'::mvs).toArray.size=1:=by simp
   simp only[this,dite_false];exact .tup (by simpa using p2) (fun j c x hc hx=>p3 j c x hc (by simpa using hx))
def zh(P:Program)(fn:Func)(F:IFn):Bool:=
 (match fn.body with
  |some c=>zya P fn.ntmps c F.body
  |none=>false)&&decide (fn.ntmps=F.ntmps)&&decide (F.nargs<=F.ntmps)&&ressOk P fn.results.toList F.res&& !(fn.name== "runtime.NumGoroutine")
theorem frOf_at:∀(vs:List PV) (k t:Nat),frOf vs k t=if k<=t then(vs[t-k]?).getD .undef else .undef
 | [],k,t=>by simp[frOf]
 |v::r,k,t=>by
  simp only[frOf,upd,frOf_at r];by_cases h:t=k
  ·subst h;simp
  ·rw[if_neg h];by_cases h2:k+1<=t
   ·rw[if_pos h2,if_pos (by omega)];have:t-k=(t-(k+1))+1:=by omega
    rw[this,yU]
   ·rw[if_neg h2,if_neg (by omega)]
theorem entry_sim{args:List PV}{st:zc}{margs:Array Value}{n:Nat}(hD:G.dfr=[])(hS:SimS G st w)(hn:args.length<=n)(hsz:margs.size=args.length)
  (hv:∀(j:Nat) c x,args[j]? =some c->margs[j]? =some x->VR (G.im w) (zk G.lc st) c x):
  Sim G n {fr:=frOf args 0,bx:=fun _=> .no,st:=st} {tmps:=margs++Array.replicate (n-margs.size) Go.undef,defers:=[]} w:=by
 have hat:∀t,frOf args 0 t=(args[t]?).getD .undef:=fun t=>by simp[frOf_at]
 refine⟨hD.symm,by simp;omega,?_,?_,?_,fun k=>trivial,hS⟩
 ·intro t ht;simp only[hat];rcases yB t args.length with h|h
  ·rw[yg h];have h':t<margs.size:=by omega
   have:=hv t args[t] margs[t] (yg h) (yO h');have e:(margs++Array.replicate (n-margs.size) Go.undef).getD t Go.undef=margs[t]:=by
    simp[Array.getElem?_append,h']
   rw[e];exact VR.tr this
  ·rw[yP h];exact VR.undef _
 ·intro t ht;simp only[hat];rw[yP (by omega)];rfl
 ·intro t k off e;simp only[hat]at e;rcases yB t args.length with h|h
  ·rw[yg h]at e;have h':t<margs.size:=by omega
   have:=hv t args[t] margs[t] (yg h) (yO h');simp only[yoa]at e;rw[e]at this;cases this
  ·rw[yP h]at e;cases e
def deferOk(d:Nat)(o:Oper):Bool:=
 decide (o.dst=none)&&decide (o.guard=none)&&(match o.op with
  | .defer c=>(match c.callee with
   | .value (.tmp t)=>decide (t=d)
   |_=>false)&&decide (c.args.size=0)
  |_=>false)
def recOk(N:Nat)(r1:Nat)(o:Oper):Bool:=
 decide (o.dst=some r1)&&decide (r1<N)&&decide (o.guard=none)&&(match o.op with
  | .call c=>(match c.callee with
   | .builtin .recover=>true
   |_=>false)&&decide (c.args.size=0)
  |_=>false)
def copyOk(N:Nat)(r1 r2:Nat)(o:Oper):Bool:=
 decide (o.dst=some r2)&&decide (r2<N)&&decide (o.guard=none)&&(match o.op with
  | .assign (.tmp t)| .move (.tmp t)=>decide (t=r1)
  |_=>false)
def checkPre(P:Program)(N:Nat)(cont:Code->Bool):Code->ICode->Bool
 | .seq a k,ip=>(zya P N a ip&&cont k)||(match ip with
  | .seq p q=>zya P N a p&&checkPre P N cont k q
  |_=>false)
 |_,_=>false
def deferC(P:Program)(N:Nat)(H:HFn):Code->Bool
 | .seq (.region _ ops false) rest=>(zya P N rest H.rest&&(noPin H.pins rest&& !H.pins.contains H.d))&&(match ops.toList with
   | [o1,o2]=>zZd P N ops o1 {g:=none,dst:=some H.d,op:= .mkfn H.k [] H.caps}&&deferOk H.d o2
   |_=>false)
 |_=>false
theorem pre_sound{T:Tabs}{cf:zL}(hcf:Good P T cf){cont:Code->Bool}:∀(c:Code) (n:Nat) (ip:ICode) (s:St) (e:Ex) (s':St) (G:Gh) (a:Act) (w:World) (Q:Exit->Act->World->Prop),checkPre P N cont c ip=true->zD cf n ip s=some (e,s')->Sim G N s a w->T.In G w→
  (e= .normal\/e= .ret)->(e= .normal->∀k,cont k=true->∀G' a' w',Sim G' N s' a' w'->Ext G s.st w G' s'.st w'->k.wp P Q a' w')->(e= .ret->∀G' a' w',Sim G' N s' a' w'->Ext G s.st w G' s'.st w'->Q .ret a' w')->c.wp P Q a w:=by
 intro c
 induction c with
 |seq x k _ ihk=>
  intro n ip s e s' G a w Q hck hex hS hT he hn hr;simp only[checkPre,yS,yb]at hck;rcases hck with⟨h1,h2⟩|h2
  ·apply wp_seq;rcases he with rfl|rfl
   ·refine(zrb hcf n).1 x ip s .normal s' G a w _ hex h1 hS hT ?_;exact fun G' a' w' q1 q2=>hn rfl k h2 G' a' w' q1 q2
   ·refine(zrb hcf n).1 x ip s .ret s' G a w _ hex h1 hS hT ?_;exact fun G' a' w' q1 q2=>hr rfl G' a' w' q1 q2
  ·split at h2
   case h_2=>cases h2
   rename_i p q;simp only[yb]at h2;obtain⟨h1,h2⟩:=h2;cases n with
   |zero=>simp[zD]at hex
   |succ n=>
   simp only[zD]at hex;apply wp_seq;cases hx:zD cf n p s with
   |none=>rw[hx]at hex;cases hex
   |some r=>
    obtain⟨e1,s1⟩:=r;rw[hx]at hex;cases e1 with
    |normal=>
     simp only at hex;refine(zrb hcf n).1 x p s .normal s1 G a w _ hx h1 hS hT ?_;intro G1 a1 w1 q1 q2;exact ihk n q s1 e s' G1 a1 w1 Q h2 hex q1 (hT.ext q2) he (fun e0 k' hk' G' a' w' p1 p2=>hn e0 k' hk' G' a' w' p1 (q2.trans p2)) (fun e0 G' a' w' p1 p2=>hr e0 G' a' w' p1 (q2.trans p2))
    |ret=>
     cases hex;refine(zrb hcf n).1 x p s .ret _ G a w _ hx h1 hS hT ?_;exact fun G' a' w' q1 q2=>hr rfl G' a' w' q1 q2
    |exit id=>cases hex;rcases he with h|h<;>cases h
    |pan v=>cases hex;rcases he with h|h<;>cases h
 |_=>intro n ip s e s' G a w Q hck;simp[checkPre]at hck
def checkH(P:Program)(fn cl:Func)(H:HFn):Bool:=
 (match fn.body with
  |some c=>checkPre P fn.ntmps (deferC P fn.ntmps H) c H.pre
  |none=>false)&&
 (match cl.body with
  |some (.seq (.region _ ops false) c)=>zya P cl.ntmps c H.code&&(match ops.toList with
   | [o1,o2]=>recOk cl.ntmps H.r1 o1&&copyOk cl.ntmps H.r1 H.r2 o2
   |_=>false)
  |_=>false)&&
 decide (fn.ntmps=H.ntmps)&&decide (H.nargs<=H.ntmps)&&ressOk P fn.results.toList H.res&&decide (cl.results.size=0)&&decide (H.caps.length<=cl.ntmps)&& !(fn.name== "runtime.NumGoroutine")&& !(cl.name== "runtime.NumGoroutine")
def HandMode(G:Gh)(w:World)(L:Loc)(q:PV)(u:FrameMode)(x:Value):Prop:=
 (q= .nilif/\u= .returning/\x= .nilIface)\/∃mv,u= .panicking [{v:=mv,recovered:=false}]/\x=mv/\VR (G.im w) L q mv
theorem run_results_none{fn:Func}(h:fn.results.size=0)(tmps:Array Value)(w:World):(results fn tmps).run P w= .ok (.tuple #[]) w:=by
 have:fn.results= #[]:=yBa h;simp[results,this,go_sem]
theorem hand_closure{T:Tabs}{cf:zL}(hcf:Good P T cf){n:Nat}{H:HFn}{cl:Func}{k:Nat}{id:Nat}{ops:Array Oper}{o1 o2:Oper}{c:Code}(h2:P.funcs[k]? =some cl)(hb:cl.body=some (.seq (.region id ops false) c))(hops:ops.toList=[o1,o2])
  (hc:zya P cl.ntmps c H.code=true) (hr1:recOk cl.ntmps H.r1 o1=true) (hr2:copyOk cl.ntmps H.r1 H.r2 o2=true) (hcs:H.caps.length<=cl.ntmps) (hres:cl.results.size=0)
  {cv:List PV} {q:PV} {st2:zc} {e:Ex} {s3:St} {margs:Array Value} {u:FrameMode} {x:Value} {G:Gh} {w:World} (hD:G.dfr=[]) (hT:T.In G w) (hS:SimS G st2 w) (hlen:cv.length=H.caps.length) (hsz:margs.size=cv.length)
  (hv:∀(j:Nat) c x,cv[j]? =some c->margs[j]? =some x->VR (G.im w) (zk G.lc st2) c x)
  (hm:HandMode G w (zk G.lc st2) q u x) (hex:zD cf n H.code (handSt H cv (q,st2))=some (e,s3)) (he:e= .normal\/e= .ret):
  CallsD P k margs u w fun e' u' w'=>e'= .returned (.tuple #[])/\settle u'= .returning/\∃G',SimS G' s3.st w'/\Ext G st2 w G' s3.st w':=by
 have ha:ops= #[o1,o2]:=by rw[<-Array.toArray_toList (xs:=ops),hops]
 subst ha;refine callsD_of_wpS h2 hb fun c₀ cs hu=>?_
 obtain⟨d1,p1,g1,call,hcall,hrec⟩:o1.dst=some H.r1/\H.r1<cl.ntmps/\o1.guard=none/\∃call,o1.op= .call call/\call.callee= .builtin .recover:=by
  simp only[recOk,yb,decide_eq_true_eq]at hr1;obtain⟨⟨⟨a1,a2⟩,a3⟩,a4⟩:=hr1;split at a4
  ·rename_i call hcall;simp only[yb]at a4;refine⟨a1,a2,a3,call,hcall,?_⟩;have:=a4.1;split at this
   ·assumption
   ·cases this
  ·cases a4
 obtain⟨d2,p2,g2,hop2⟩:o2.dst=some H.r2/\H.r2<cl.ntmps/\o2.guard=none/\∀(ρ:Operand->Value) (w:World),(execOp ρ o2).run P w= .ok (.value (ρ (.tmp H.r1))) w:=by
  simp only[copyOk,yb,decide_eq_true_eq]at hr2;obtain⟨⟨⟨a1,a2⟩,a3⟩,a4⟩:=hr2;refine⟨a1,a2,a3,fun ρ w=>?_⟩;split at a4<;>first
   |(cases a4;done)
   |(rename_i t ho;simp only[decide_eq_true_eq]at a4;subst a4;simp[execOp,ho])
 have hrun1:∀(ρ:Operand->Value) (w:World),(execOp ρ o1).run P w= .ok .recover w:=by
  intro ρ w;simp[execOp,hcall,resolve,hrec,invoke,builtin]
 refine wpS_seq (wpS_region ?_);have hent:=entry_sim (n:=cl.ntmps) hD hS (by omega) hsz hv;generalize hact:({tmps:=margs++Array.replicate (cl.ntmps-margs.size) Go.undef,defers:=[]}:Act)=a0 at*;have fin:∀(u':FrameMode),settle u'= .returning->VR (G.im w) (zk G.lc st2) q x→
   c.wpS P (bodyPostS P cl c₀ cs fun e' u' w'=>e'= .returned (.tuple #[])/\settle u'= .returning/\∃G',SimS G' s3.st w'/\Ext G st2 w G' s3.st w') ((a0.put o1.dst x).put o2.dst x) ({c₀ with mode:=u'}::cs) w:=by
  intro u' hset hq;refine wpS_of_wp ?_;have hSp:=(hent.put (d:=o1.dst) (fun t ht=>by rw[d1]at ht;cases ht;exact p1) (v:=q) (mv:=x) (fun t _=>VR.tr hq) (fun k off e=>by subst e;cases hq)).put (d:=o2.dst) (fun t ht=>by rw[d2]at ht;cases ht;exact p2) (v:=q) (mv:=x) (fun t _=>VR.tr hq) (fun k off e=>by subst e;cases hq);rw[d1,d2]at hSp ⊢;refine(zrb hcf n).1 c H.code _ e s3 G _ w _ hex hc hSp hT ?_;rcases he with rfl|rfl
  ·intro G' a' w' q1 q2;exact⟨q1.defers.trans (q2.dfr.trans hD),u',rfl,.tuple #[],run_results_none hres _ _,rfl,hset,G',q1.store,q2⟩
  ·intro G' a' w' q1 q2;exact⟨q1.defers.trans (q2.dfr.trans hD),u',rfl,.tuple #[],run_results_none hres _ _,rfl,hset,G',q1.store,q2⟩
 have hev:∀x:Value,(a0.put o1.dst x).eval (.tmp H.r1)=x:=by
  intro x;have hs:a0.tmps.size=cl.ntmps:=hent.size;simp[Act.eval,Act.put,d1,hs,p1]
 have hw1:Region.wanted o1 (yielded #[o1,o2] a0.tmps)=true:=by simp[Region.wanted,g1]
 have hw2:∀x:Value,Region.wanted o2 (yielded #[o1,o2] (a0.put o1.dst x).tmps)=true:=fun x=>by simp[Region.wanted,g2]
 show wpOpsS P #[o1,o2] _ [0,1] a0 (c₀::cs) w
 rcases hm with⟨rfl,rfl,rfl⟩|⟨mv,rfl,rfl,hq⟩
 ·have hrd:recoverD (c₀::cs)=none:=by simp[recoverD,hu]
  have hc0:({c₀ with mode:= .returning}:Frame)=c₀:=by rw[<-hu]
  have:=fin .returning rfl .nilif;rw[hc0]at this;simp only[wpOpsS,yD,yya,yU,hw1,if_true,hrun1,hrd,hw2,hop2,hev,Oper.upon,Exit.thenS];exact this
 ·have hrd:recoverD (c₀::cs)=some (x,{c₀ with mode:= .panicking [{v:=x,recovered:=true}]}::cs):=by simp[recoverD,hu]
  have:=fin (.panicking [{v:=x,recovered:=true}]) rfl hq;simp only[wpOpsS,yD,yya,yU,hw1,if_true,hrun1,hrd,hw2,hop2,hev,Oper.upon,Exit.thenS];exact this
theorem SimS.redfr{G:Gh}{st:zc}{w:World}(h:SimS G st w)(d:List Deferred):SimS {G with dfr:=d} st w:=⟨h.obj,h.fresh⟩
theorem Ext.redfr{G G':Gh}{st st':zc}{w w':World}(h:Ext G st w G' st' w')(d:List Deferred):Ext {G with dfr:=d} st w {G' with dfr:=d} st' w':=
 ⟨h.im,h.loc,h.prot,h.size,h.os,h.output,h.frozen,rfl⟩
theorem below_resVal{n:Nat}{vs:List PV}(h:zJ n vs=true):zx n (zpe vs)=true:=by
 match vs,h with
 | [],h=>exact h
 | [v],h=>simpa[zJ,zpe]using h
 |v::v'::vs,h=>exact h
theorem hand_out{H:HFn}{fn:Func}(hres:ressOk P fn.results.toList H.res=true){f:Nat}{G:Gh}{st st3 st':zc}{w w3:World}{fr:Fr}{tm:Array Value}{r:CRes}{Gx:Gh}
  (hsz:tm.size=fn.ntmps) (hhi:∀t,fn.ntmps<=t->fr t= .undef) (hpin:∀t l i o,t∈H.pins->fr t= .ptr l i o->VR (Gx.im w3) (zk Gx.lc st3) (.ptr l i o) (tm.getD t Go.undef))
  (hS:SimS Gx st3 w3) (hd:Gx.dfr=[]) (hE:Ext G st w Gx st3 w3) (h:handOut H st.length fr st3=some (r,st')):Leaves P fn tm (Comes1 G st w r st') [] .returning w3:=by
 unfold handOut at h;split at h
 ·cases h
 rename_i vs hvs;split at h
 case isFalse=>cases h
 rename_i hok;simp only[yb,decide_eq_true_eq]at hok;cases h;have hSim:Sim Gx fn.ntmps {fr:=pinFr fr H.pins,bx:=fun _=> .no,st:=st3} {tmps:=tm,defers:=[]} w3:=by
  refine⟨hd.symm,hsz,?_,?_,?_,fun k=>trivial,hS⟩
  ·intro t ht;show TR _ _ _ _ (pinFr fr H.pins t) _
   unfold pinFr;split
   ·rename_i hm;split
    ·rename_i l i o he;exact hpin t l i o hm he
    ·exact VR.undef _
   ·exact VR.undef _
  ·intro t ht;show pinFr fr H.pins t=_
   unfold pinFr;rw[hhi t ht];split<;>rfl
  ·intro t k off e;change pinFr fr H.pins t=_ at e;unfold pinFr at e;split at e
   ·split at e<;>cases e
   ·cases e
 obtain⟨mv,p1,p2⟩:=zbf hSim hres hvs hok.1.1.1;exact⟨mv,p1,Gx.drop w3 st.length,drop_sim hS hok.1.2,drop_ext hE,p2.under (znf _ _ _) zBd (below_resVal hok.1.1.2)⟩
theorem hand_sound{T:Tabs}{cf:zL}(hcf:Good P T cf){n:Nat}{H:HFn}{fn cl:Func}{f:Nat}(h1:P.funcs[f]? =some fn)(h2:P.funcs[H.k]? =some cl)(hck:checkH P fn cl H=true)
  {args:List PV} {st:zc} {r:CRes} {st':zc} (hr:handF (zD cf n) H args st=some (r,st')):GoodF P T f args st r st':=by
 simp only[checkH,yb,decide_eq_true_eq,yH]at hck;obtain⟨⟨⟨⟨⟨⟨⟨⟨hfn,hcl⟩,hnt⟩,hna⟩,hres⟩,hcres⟩,hcs⟩,hname⟩,hcname⟩:=hck;split at hfn
 case h_2=>cases hfn
 rename_i body0 hb;split at hcl
 case h_2=>cases hcl
 rename_i id' ops' c hcb;simp only[yb]at hcl;obtain⟨hcc,hcl⟩:=hcl;split at hcl
 case h_2=>cases hcl
 rename_i p1 p2 hops';simp only[yb]at hcl;obtain⟨hp1,hp2⟩:=hcl;intro G w margs hD hT hS hsz hv;refine⟨⟨fn,_,h1,hname,hb⟩,?_⟩;refine calls_of_wp_defers h1 hb ?_;unfold handF at hr;split at hr
 case isFalse=>cases hr
 rename_i hargs;have hent:=entry_sim (n:=fn.ntmps) hD hS (by omega) hsz hv;cases hx1:zD cf n H.pre {fr:=frOf args 0,bx:=fun _=> .no,st:=st}with
 |none=>rw[hx1]at hr;cases hr
 |some q1=>
 obtain⟨ex1,s1⟩:=q1;rw[hx1]at hr;cases ex1<;>try(cases hr;done)
 case ret=>
  refine pre_sound hcf body0 n H.pre _ .ret s1 G _ w _ hfn hx1 hent hT (.inr rfl) (fun e=>by cases e) ?_;intro _ G1 a1 w1 hS1 hE1;show Leaves P fn a1.tmps _ a1.defers .returning w1
  rw[hS1.defers,hE1.dfr,hD];exact hand_out (f:=f) hres hS1.size hS1.hi (fun t l i o _ he=>by
   have htN:t<fn.ntmps:=by
    rcases yB t fn.ntmps with h|h
    ·exact h
    ·rw[hS1.hi t h]at he;cases he
   have:=hS1.tmp t htN;rw[he]at this;exact this) hS1.store (hE1.dfr.trans hD) hE1 hr
 simp only at hr;split at hr
 case isFalse=>cases hr
 rename_i hcv;refine pre_sound hcf body0 n H.pre _ .normal s1 G _ w _ hfn hx1 hent hT (.inl rfl) ?_ (fun e=>by cases e);intro _ kc hkc G1 a1 w1 hS1 hE1;unfold deferC at hkc;split at hkc
 case h_2=>cases hkc
 rename_i id ops rest;simp only[yb]at hkc;obtain⟨⟨hrest,hnp,hnd⟩,hkc⟩:=hkc;split at hkc
 case h_2=>cases hkc
 rename_i o1 o2 hops;simp only[yb]at hkc;obtain⟨ho1,ho2⟩:=hkc;have ha:ops= #[o1,o2]:=by rw[<-Array.toArray_toList (xs:=ops),hops]
 subst ha;obtain⟨e1,e2,e3,call,e4,e5,e6⟩:o2.dst=none/\o2.guard=none/\True/\∃call,o2.op= .defer call/\call.callee= .value (.tmp H.d)/\call.args.size=0:=by
  simp only[deferOk,yb,decide_eq_true_eq]at ho2;obtain⟨⟨a1,a2⟩,a3⟩:=ho2;refine⟨a1,a2,trivial,?_⟩;split at a3
  ·rename_i call hcall;simp only[yb,decide_eq_true_eq]at a3;refine⟨call,hcall,?_,a3.2⟩;have:=a3.1;split at this
   ·rename_i t ht;simp only[decide_eq_true_eq]at this;subst this;exact ht
   ·cases this
  ·cases a3
 refine wp_seq (wp_region ?_);show wpOps P #[o1,o2] _ [0,1] a1 w1
 rw[wpOps_cons];have hstep:step cf {g:=none,dst:=some H.d,op:= .mkfn H.k [] H.caps} s1=some (.ok {s1 with fr:=upd s1.fr H.d (.fn H.k [] (zp s1.fr H.caps))}):=by
  have hv2:((H.caps.map fun a=>stripA (a.val s1.fr)).all zE)=true:=hcv;simp[step,zI,IOp.sem,hv2,IOp.takes,zDa,zHa,zKb,IOp.box?,zp]
 refine step_sound hcf (i:=0) (o:=o1) rfl ho1 hS1 (hT.ext hE1) hstep ?_ (fun v st' e=>by cases e);intro s2 hs2 G2 a2 w2 hS2 hE2;cases hs2;rw[wpOps_cons];have hdlt:H.d<fn.ntmps:=(zqf ho1).2.1 H.d (zqf ho1).1;have hE02:=hE1.trans hE2;have hd2:G2.dfr=[]:=hE02.dfr.trans hD;generalize hcvs:zp s1.fr H.caps=cv at*;have hclen:cv.length=H.caps.length:=by rw[<-hcvs];simp[zp]
 have htd:=hS2.tmp H.d hdlt;simp only[upd_eq]at htd;obtain⟨us,hfu,husz,husv⟩:∃us:Array Value,a2.tmps.getD H.d Go.undef= .func (.func H.k) #[] us/\us.size=cv.length/\∀(j:Nat) c x,cv[j]? =some c->us[j]? =some x->VR (G2.im w2) (zk G2.lc s1.st) c x:=by
  have h:VR (G2.im w2) (zk G2.lc s1.st) (.fn H.k [] cv) (a2.tmps.getD H.d Go.undef):=htd;generalize a2.tmps.getD H.d Go.undef=mv at h;cases h with
  |fn hl hv hl' hv'=>
   rename_i vs us;have:vs= #[]:=yBa (by simpa using hl);subst this;exact⟨us,rfl,hl',hv'⟩
 let dd:Deferred:={target:= .fn (.func H.k) us,args:= #[]}
 have hrun:(execOp a2.eval o2).run P w2= .ok (.defer dd) w2:=by
  have hargs:call.args= #[]:=yBa e6;have hev:a2.eval (.tmp H.d)= .func (.func H.k) #[] us:=hfu;simp[execOp,e4,resolve,e5,hargs,hev,Deferred.ofValue,dd]
 have hw:Region.wanted o2 (yielded #[o1,o2] a2.tmps)=true:=by simp[Region.wanted,e2]
 unfold wpOp;rw[show(#[o1,o2]:Array Oper)[1]? =some o2 from rfl];simp only[hw,if_true];left;unfold Oper.wp;rw[hrun,Oper.upon_defer,e1];show rest.wp P _ {a2 with defers:=dd::a2.defers} w2
 have hS3:Sim {G2 with dfr:=[dd]} fn.ntmps {s1 with fr:=upd s1.fr H.d (.fn H.k [] cv)} {a2 with defers:=dd::a2.defers} w2:=
  ⟨by show dd::a2.defers=[dd];rw[hS2.defers,hd2],hS2.size,hS2.tmp,hS2.hi,hS2.lp,hS2.box,hS2.store.redfr _⟩
 cases hx2:zD cf n H.rest {s1 with fr:=upd s1.fr H.d (.fn H.k [] cv)}with
 |none=>rw[hx2]at hr;cases hr
 |some q2=>
 obtain⟨ex2,s3⟩:=q2;rw[hx2]at hr;have hG2:({G2 with dfr:=[]}:Gh)=G2:=by cases G2;simp only at hd2;subst hd2;rfl
 have tail:∀(q:PV) (x:Value) (u:FrameMode) (G4:Gh) (tmps:Array Value) (w4:World),u≠ .run->SimS G4 s3.st w4->Ext {G2 with dfr:=[dd]} s1.st w2 G4 s3.st w4->HandMode G4 w4 (zk G4.lc s3.st) q u x->KeepT H.pins a2 {tmps:=tmps,defers:=[]}→
   handEnd H st.length s1.fr (zD cf n H.code (handSt H cv (q,s3.st)))=some (r,st')->Leaves P fn tmps (Comes1 G st w r st') [dd] u w4:=by
  intro q x u G4 tmps w4 hu hS4 hE4 hm hkt hend;refine⟨hu,.func H.k,us,H.k,us,rfl,?_,?_⟩
  ·have hr0:=run_callFunc (P:=P) (w:=w4) h2 hcname hcb us;simpa[invoke,dd]using hr0
  cases hx3:zD cf n H.code (handSt H cv (q,s3.st))with
  |none=>rw[hx3]at hend;cases hend
  |some q5=>
  obtain⟨ex5,s5⟩:=q5;rw[hx3]at hend;have he5:(ex5= .normal\/ex5= .ret)/\handOut H st.length s1.fr s5.st=some (r,st'):=by
   cases ex5<;>simp only[handEnd]at hend<;>try(cases hend;done)
   all_goals exact⟨by simp,hend⟩
  obtain⟨he5,hok⟩:=he5;have hcall:=hand_closure (G:={G4 with dfr:=[]}) hcf h2 hcb hops' hcc hp1 hp2 hcs hcres rfl (show T.In G4 w4 from(show T.In {G2 with dfr:=[dd]} w2 from(hT.ext hE02:T.In G2 w2)).ext hE4) (hS4.redfr []) hclen husz
   (fun j c x hc hx=>(husv j c x hc hx).mono hE4.im hE4.loc) (u:=u) (x:=x) hm hx3 he5
  intro c₀ cs hu0;obtain⟨e',u',w',fr,⟨rfl,hset,G5,hS5,hE5⟩,hsteps,hk,hgo⟩:=hcall c₀ cs hu0;refine⟨_,u',w',fr,?_,hsteps,hk,hgo⟩;show Leaves P fn tmps _ [] (settle u') w'
  rw[hset];have hE45:=hE4.redfr [];rw[hG2]at hE45;have hEx:=hE02.trans (hE45.trans hE5);refine hand_out (f:=f) hres (by have:=hkt.size;simp only at this;rw[this];exact hS2.size) hS1.hi (fun t l i o hm he=>?_) hS5 (hE5.dfr.trans rfl) hEx hok;have htN:t<fn.ntmps:=by
   rcases yB t fn.ntmps with h|h
   ·exact h
   ·rw[hS1.hi t h]at he;cases he
  have hne:t≠H.d:=fun e=>by subst e;simp[hm]at hnd
  have hk1:=hkt.tmp t hm;simp only at hk1;rw[hk1];have h2t:=hS2.tmp t htN;simp only[zkb _ _ hne,he]at h2t;exact VR.mono (Im.le_trans hE45.im hE5.im) (Loc.le_trans hE45.loc hE5.loc) h2t
 refine(exec_soundK (pins:=H.pins) hcf n).1 rest H.rest _ ex2 s3 _ _ w2 _ hx2 hrest hnp hS3 (show T.In {G2 with dfr:=[dd]} w2 from(hT.ext hE02:T.In G2 w2)) ?_;cases ex2 with
 |normal=>
  intro G4 a4 w4 q1 q2 k4;show Leaves P fn a4.tmps _ a4.defers .returning w4
  rw[q1.defers,q2.dfr];exact tail .nilif .nilIface .returning G4 _ w4 (by simp) q1.store q2 (.inl ⟨rfl,rfl,rfl⟩) ⟨k4.size,k4.tmp⟩ hr
 |ret=>
  intro G4 a4 w4 q1 q2 k4;show Leaves P fn a4.tmps _ a4.defers .returning w4
  rw[q1.defers,q2.dfr];exact tail .nilif .nilIface .returning G4 _ w4 (by simp) q1.store q2 (.inl ⟨rfl,rfl,rfl⟩) ⟨k4.size,k4.tmp⟩ hr
 |exit id=>cases hr
 |pan v=>
  intro G4 a4 w4 mv q0 q1 q2 q3 k4;cases v<;>try(cases hr;done)
  rename_i t v;show Leaves P fn a4.tmps _ a4.defers (.panicking _) w4
  rw[q0,q2.dfr];exact tail (.iface t v) mv _ G4 _ w4 (by simp) q1 q2 (.inr ⟨mv,rfl,rfl,q3⟩) ⟨k4.size,k4.tmp⟩ hr
structure EnvOk(P:Program)(T:Tabs)(E:Env):Prop where
 fn:∀f F,E.fn f=some F->∃fn,P.funcs[f]? =some fn/\zh P fn F=true
 ext:∀f g,E.ext f=some g->∀args st r st',g args st=some (r,st')->GoodF P T f args st r st'
 hand:∀f H,E.hand f=some H->∃fn cl,P.funcs[f]? =some fn/\P.funcs[H.k]? =some cl/\checkH P fn cl H=true
theorem callF_good{T:Tabs}{E:Env}(hE:EnvOk P T E):∀n,Good P T (zge E n)
 |0=>fun f args st r st' h=>by cases h
 |n+1=>by
  intro f args st r st' h;simp only[zge]at h;cases hx:E.ext f with
  |some g=>rw[hx]at h;exact hE.ext f g hx args st r st' h
  |none=>
   rw[hx]at h;simp only at h;cases hh:E.hand f with
   |some H=>
    rw[hh]at h;obtain⟨fn,cl,h1,h2,hck⟩:=hE.hand f H hh;exact hand_sound (callF_good hE n) h1 h2 hck h
   |none=>
   rw[hh]at h;simp only at h;cases hf:E.fn f with
   |none=>rw[hf]at h;cases h
   |some F=>
    rw[hf]at h;simp only at h;obtain⟨fn,h1,hck⟩:=hE.fn f F hf;simp only[zh,yb,decide_eq_true_eq,yH]at hck;obtain⟨⟨⟨⟨hbody,hnt⟩,hna⟩,hres⟩,hname⟩:=hck;cases hb:fn.body with
    |none=>rw[hb]at hbody;cases hbody
    |some c=>
     rw[hb]at hbody;simp only at hbody;split at h
     case isFalse=>cases h
     rename_i hargs;intro G w margs hD hT hS hsz hv;refine⟨⟨fn,c,h1,hname,hb⟩,?_⟩;refine calls_of_wp h1 hb ?_;have hent:=entry_sim (n:=fn.ntmps) hD hS (by omega) hsz hv;cases hex:zD (zge E n) n F.body {fr:=frOf args 0,bx:=fun _=> .no,st:=st}with
     |none=>rw[hex]at h;cases h
     |some re=>
      obtain⟨e,s'⟩:=re;rw[hex]at h;have hgood:=callF_good hE n;have fin:zwe F st.length s'=some (r,st')->∀G' a' w',Sim G' fn.ntmps s' a' w'->Ext G st w G' s'.st w'→
        a'.defers=[]/\∃mv,(results fn a'.tmps).run P w'= .ok mv w'/\Comes1 G st w r st' (Ending.returned mv) w':=by
       intro hfin G' a' w' q1 q2;simp only[zwe]at hfin;split at hfin
       ·cases hfin
       ·rename_i vs hvs;split at hfin
        case isFalse=>cases hfin
        rename_i hall;obtain⟨mv,p1,p2⟩:=zbf q1 hres hvs hall;split at hfin
        ·split at hfin
         case isFalse=>cases hfin
         rename_i hok;simp only[yb,decide_eq_true_eq]at hok;cases hfin;exact⟨q1.defers.trans (q2.dfr.trans hD),mv,p1,G'.drop w' st.length,drop_sim q1.store hok.1.2,drop_ext q2,freeze_res q1.store p2 hok.1.1⟩
        ·cases hfin;exact⟨q1.defers.trans (q2.dfr.trans hD),mv,p1,G',q1.store,q2,p2⟩
      cases e with
      |normal=>
       refine(zrb hgood n).1 c F.body _ .normal s' G _ w _ hex hbody hent hT ?_;intro G' a' w' q1 q2;exact fin h G' a' w' q1 q2
      |ret=>
       refine(zrb hgood n).1 c F.body _ .ret s' G _ w _ hex hbody hent hT ?_;intro G' a' w' q1 q2;exact fin h G' a' w' q1 q2
      |exit id=>cases h
      |pan v=>
       refine(zrb hgood n).1 c F.body _ (.pan v) s' G _ w _ hex hbody hent hT ?_;intro G' a' w' mv q0 q1 q2 q3;simp only[finishPan]at h;split at h
       ·split at h
        case isFalse=>cases h
        rename_i hok;simp only[yb,decide_eq_true_eq]at hok;cases h;exact⟨q0.trans (q2.dfr.trans hD),G'.drop w' st.length,mv,rfl,drop_sim q1 hok.1.2,drop_ext q2,q3.under (znf _ _ _) zBd hok.1.1⟩
       ·cases h;exact⟨q0.trans (q2.dfr.trans hD),G',mv,rfl,q1,q2,q3⟩
end
def Leq(f g:zL):Prop:=∀k args st r,f k args st=some r->g k args st=some r
theorem Leq.refl(f:zL):Leq f f:=fun _ _ _ _ h=>h
theorem runOp_mono{f g:zL}(h:Leq f g){d:Option Nat}{o:IOp}{s:St}{r:SR}(hr:zI f d o s=some r):zI g d o s=some r:=by
 cases o
 case call pk x args=>
  simp only[zI]at hr ⊢;cases hx:Arg.val s.fr x<;>rw[hx]at hr<;>try(cases hr;done)
  rename_i k first caps;simp only at hr ⊢;split at hr
  case isFalse=>cases hr
  rename_i hall;rw[if_pos hall];cases hf:f k (first++zp s.fr args++caps) s.st with
  |none=>rw[hf]at hr;cases hr
  |some q=>rw[hf]at hr;rw[h _ _ _ _ hf];exact hr
 case callP pk x args=>
  simp only[zI]at hr ⊢;cases hx:Arg.val s.fr x<;>rw[hx]at hr<;>try(cases hr;done)
  rename_i k first caps;simp only at hr ⊢;split at hr
  case isFalse=>cases hr
  rename_i hall;rw[if_pos hall];cases hf:f k (first++zp s.fr args++caps) []with
  |none=>rw[hf]at hr;cases hr
  |some q=>rw[hf]at hr;rw[h _ _ _ _ hf];exact hr
 case callR x args=>
  simp only[zI]at hr ⊢;cases hx:Arg.val s.fr x<;>rw[hx]at hr<;>try(cases hr;done)
  rename_i k first caps;simp only at hr ⊢;split at hr
  case isFalse=>cases hr
  rename_i hall;rw[if_pos hall];cases hf:f k (first++zp s.fr args++caps) s.st with
  |none=>rw[hf]at hr;cases hr
  |some q=>rw[hf]at hr;rw[h _ _ _ _ hf];exact hr
 case callK x args=>
  simp only[zI]at hr ⊢;cases hx:Arg.val s.fr x<;>rw[hx]at hr<;>try(cases hr;done)
  rename_i k first caps;simp only at hr ⊢;split at hr
  case isFalse=>cases hr
  rename_i hall;rw[if_pos hall];cases hf:f k (first++zp s.fr args++caps) s.st with
  |none=>rw[hf]at hr;cases hr
  |some q=>rw[hf]at hr;rw[h _ _ _ _ hf];exact hr
 all_goals exact hr
theorem step_mono{f g:zL}(h:Leq f g){o:GOp}{s:St}{r:SR}(hr:step f o s=some r):step g o s=some r:=by
 unfold step at hr ⊢;cases hg:o.g with
 |none=>rw[hg]at hr;exact runOp_mono h hr
 |some x=>
  obtain⟨t,w⟩:=x;rw[hg]at hr;simp only at hr ⊢;cases ht:gate w (s.fr t)with
  |none=>rw[ht]at hr;cases hr
  |some b=>
   rw[ht]at hr;cases b
   ·exact hr
   ·exact runOp_mono h hr
theorem steps_mono{f g:zL}(h:Leq f g):∀{l:List GOp} {s:St} {r:SR},zOc f l s=some r->zOc g l s=some r
 | [],s,r,hr=>hr
 |o::l,s,r,hr=>by
  simp only[zOc]at hr ⊢;cases hs:step f o s with
  |none=>rw[hs]at hr;cases hr
  |some q=>
   rw[hs]at hr;rw[step_mono h hs];cases q with
   |ok s'=>exact steps_mono h hr
   |pan v st=>exact hr
theorem zsb{f g:zL}(h:Leq f g):∀(n m:Nat) (c:ICode) (s:St) (r:Ex×St),n<=m->zD f n c s=some r->zD g m c s=some r
 |0,m,c,s,r,_,hr=>by cases hr
 |n+1,0,c,s,r,hn,_=>by omega
 |n+1,m+1,c,s,r,hn,hr=>by
  have ih:=fun c s r=>zsb h n m c s r (by omega)
  cases c with
  |region ops=>
   simp only[zD]at hr ⊢;cases hs:zOc f ops s with
   |none=>rw[hs]at hr;cases hr
   |some q=>rw[hs]at hr;rw[steps_mono h hs];cases q<;>exact hr
  |seq a b=>
   simp only[zD]at hr ⊢;cases hs:zD f n a s with
   |none=>rw[hs]at hr;cases hr
   |some q=>
    obtain⟨e,s1⟩:=q;rw[hs]at hr;rw[ih _ _ _ hs];cases e<;>first|exact ih _ _ _ hr|exact hr
  |cond c a b=>
   simp only[zD]at hr ⊢;cases hv:Arg.val s.fr c<;>rw[hv]at hr<;>try(cases hr;done)
   rename_i b';cases b'<;>exact ih _ _ _ hr
  |block id b=>
   simp only[zD]at hr ⊢;cases hs:zD f n b s with
   |none=>rw[hs]at hr;cases hr
   |some q=>
    obtain⟨e,s1⟩:=q;rw[hs]at hr;rw[ih _ _ _ hs];cases e<;>exact hr
  |loop keep dead b=>
   simp only[zD]at hr ⊢;cases hh:havoc keep dead s with
   |none=>rw[hh]at hr;cases hr
   |some s0=>
    rw[hh]at hr;simp only at hr ⊢;cases hs:zD f n b s0 with
    |none=>rw[hs]at hr;cases hr
    |some q=>
     obtain⟨e,s1⟩:=q;rw[hs]at hr;rw[ih _ _ _ hs];cases e<;>first|exact ih _ _ _ hr|exact hr
  |skip=>exact hr
  |exit id=>exact hr
  |ret=>exact hr
  |bad=>exact hr
def leave(F:IFn)(n:Nat):Option (Ex×St)->Option (CRes×zc)
 |some (.normal,s')=>zwe F n s'
 |some (.ret,s')=>zwe F n s'
 |some (.pan v,s')=>finishPan F n v s'
 |_=>none
theorem handF_mono{ex ex':ICode->St->Option (Ex×St)}{H:HFn}{args:List PV}{st:zc}{r:CRes×zc}(h:∀c s r,ex c s=some r->ex' c s=some r)(hr:handF ex H args st=some r):handF ex' H args st=some r:=by
 unfold handF at hr ⊢;split at hr
 case isFalse=>cases hr
 rename_i hc;rw[if_pos hc];cases h1:ex H.pre {fr:=frOf args 0,bx:=fun _=> .no,st:=st}with
 |none=>rw[h1]at hr;cases hr
 |some q=>
  obtain⟨e,s1⟩:=q;rw[h1]at hr;rw[h _ _ _ h1];cases e<;>try(cases hr;done)
  case ret=>exact hr
  simp only at hr ⊢;split at hr
  case isFalse=>cases hr
  rename_i hv;rw[if_pos hv];cases h2:ex H.rest {s1 with fr:=upd s1.fr H.d (.fn H.k [] (zp s1.fr H.caps))}with
  |none=>rw[h2]at hr;cases hr
  |some q2=>
   rw[h2]at hr;rw[h _ _ _ h2];cases h3:thrown (some q2)with
   |none=>rw[h3]at hr;cases hr
   |some q3=>
    rw[h3]at hr;simp only at hr ⊢;cases h4:ex H.code (handSt H (zp s1.fr H.caps) q3)with
    |none=>rw[h4]at hr;cases hr
    |some q4=>rw[h4]at hr;rw[h _ _ _ h4];exact hr
theorem callF_succ(E:Env)(n f:Nat)(args:List PV)(st:zc):zge E (n+1) f args st=match E.ext f with
  |some g=>g args st
  |none=>match E.hand f with
  |some H=>handF (zD (zge E n) n) H args st
  |none=>match E.fn f with
   |none=>none
   |some F=>if args.length=F.nargs/\args.all zE then leave F st.length (zD (zge E n) n F.body {fr:=frOf args 0,bx:=fun _=> .no,st:=st})else none:=by
 simp only[zge];cases E.ext f with
 |some g=>rfl
 |none=>
  cases E.hand f with
  |some H=>rfl
  |none=>
  cases E.fn f with
  |none=>rfl
  |some F=>
   simp only;split
   ·cases zD (zge E n) n F.body {fr:=frOf args 0,bx:=fun _=> .no,st:=st}with
    |none=>rfl
    |some q=>
     obtain⟨e,s⟩:=q;cases e<;>rfl
   ·rfl
theorem zfd(E:Env):∀(n m:Nat),n<=m->Leq (zge E n) (zge E m)
 |0,m,_=>fun _ _ _ _ h=>by cases h
 |n+1,0,h=>by omega
 |n+1,m+1,hn=>by
  intro f args st r h;have ih:=zfd E n m (by omega);rw[callF_succ]at h ⊢;cases hx:E.ext f with
  |some g=>rw[hx]at h;exact h
  |none=>
   rw[hx]at h;cases hh:E.hand f with
   |some H=>
    rw[hh]at h;exact handF_mono (fun c s r hr=>zsb ih n m c s r (by omega) hr) h
   |none=>
   rw[hh]at h;cases hf:E.fn f with
   |none=>rw[hf]at h;exact h
   |some F=>
    rw[hf]at h;simp only at h ⊢;split
    ·rename_i hc;rw[if_pos hc]at h;cases hs:zD (zge E n) n F.body {fr:=frOf args 0,bx:=fun _=> .no,st:=st}with
     |none=>rw[hs]at h;cases h
     |some q=>rw[hs]at h;rw[zsb ih n m _ _ _ (by omega) hs];exact h
    ·rename_i hc;rw[if_neg hc]at h;exact h
open Classical in
noncomputable def zi(E:Env):zL:=fun f args st=>
 if h:∃n r,zge E n f args st=some r then some h.choose_spec.choose else none
theorem zPd{E:Env}{f:Nat}{args:List PV}{st:zc}{r:CRes×zc}:zi E f args st=some r<->∃n,zge E n f args st=some r:=by
 unfold zi;constructor
 ·intro h;split at h
  ·rename_i hx;cases h;exact⟨hx.choose,hx.choose_spec.choose_spec⟩
  ·cases h
 ·rintro⟨n,h⟩
  have hx:∃n r,zge E n f args st=some r:=⟨n,r,h⟩
  rw[dif_pos hx];have h1:=hx.choose_spec.choose_spec;have e1:=zfd E _ _ (yNa hx.choose n) _ _ _ _ h1;have e2:=zfd E _ _ (yKa hx.choose n) _ _ _ _ h;rw[e1]at e2;exact e2
open Classical in
noncomputable def exec(cf:zL)(c:ICode)(s:St):Option (Ex×St):=
 if h:∃n r,zD cf n c s=some r then some h.choose_spec.choose else none
theorem zFa{cf:zL}{c:ICode}{s:St}{r:Ex×St}:exec cf c s=some r<->∃n,zD cf n c s=some r:=by
 unfold exec;constructor
 ·intro h;split at h
  ·rename_i hx;cases h;exact⟨hx.choose,hx.choose_spec.choose_spec⟩
  ·cases h
 ·rintro⟨n,h⟩
  have hx:∃n r,zD cf n c s=some r:=⟨n,r,h⟩
  rw[dif_pos hx];have h1:=hx.choose_spec.choose_spec;have e1:=zsb (Leq.refl cf) _ _ _ _ _ (yNa hx.choose n) h1;have e2:=zsb (Leq.refl cf) _ _ _ _ _ (yKa hx.choose n) h;rw[e1]at e2;exact e2
section
variable {cf:zL}
@[simp] theorem exec_skip(s:St):exec cf .skip s=some (.normal,s):=zFa.2 ⟨1,rfl⟩
@[simp] theorem exec_exit(id:Nat)(s:St):exec cf (.exit id) s=some (.exit id,s):=zFa.2 ⟨1,rfl⟩
@[simp] theorem exec_ret(s:St):exec cf .ret s=some (.ret,s):=zFa.2 ⟨1,rfl⟩
def regionEnd(s:St):Option SR->Option (Ex×St)
 |some (.ok s')=>some (.normal,s')
 |some (.pan v st')=>some (.pan v,{s with st:=st'})
 |none=>none
theorem exec_region(ops:List GOp)(s:St):exec cf (.region ops) s=regionEnd s (zOc cf ops s):=by
 apply Option.ext;intro r;rw[zFa];constructor
 ·rintro⟨n,h⟩
  cases n with
  |zero=>cases h
  |succ n=>
   simp only[zD]at h;cases hs:zOc cf ops s with
   |none=>rw[hs]at h;cases h
   |some q=>rw[hs]at h;cases q<;>exact h
 ·intro h;refine⟨1,?_⟩;simp only[zD];cases hs:zOc cf ops s with
  |none=>rw[hs]at h;cases h
  |some q=>rw[hs]at h;cases q<;>exact h
def thenSeq(k:St->Option (Ex×St)):Option (Ex×St)->Option (Ex×St)
 |some (.normal,s')=>k s'
 |x=>x
theorem exec_seq(a b:ICode)(s:St):exec cf (.seq a b) s=thenSeq (exec cf b) (exec cf a s):=by
 apply Option.ext;intro r;rw[zFa];constructor
 ·rintro⟨n,h⟩
  cases n with
  |zero=>cases h
  |succ n=>
   simp only[zD]at h;cases hs:zD cf n a s with
   |none=>rw[hs]at h;cases h
   |some q=>
    obtain⟨e,s1⟩:=q;rw[hs]at h;rw[zFa.2 ⟨n,hs⟩];cases e<;>first|exact h|exact zFa.2 ⟨n,h⟩
 ·intro h;cases hs:exec cf a s with
  |none=>rw[hs]at h;cases h
  |some q=>
   obtain⟨e,s1⟩:=q;rw[hs]at h;obtain⟨n,hn⟩:=zFa.1 hs;cases e
   case normal=>
    obtain⟨m,hm⟩:=zFa.1 h;refine⟨max n m+1,?_⟩;simp only[zD];rw[zsb (Leq.refl cf) _ _ _ _ _ (yNa n m) hn];exact zsb (Leq.refl cf) _ _ _ _ _ (yKa n m) hm
   all_goals
    refine⟨n+1,?_⟩;simp only[zD,hn];exact h
def ofCond(x y:Option (Ex×St)):PV->Option (Ex×St)
 | .bool true=>x
 | .bool false=>y
 |_=>none
theorem exec_cond(c:Arg)(a b:ICode)(s:St):exec cf (.cond c a b) s=ofCond (exec cf a s) (exec cf b s) (c.val s.fr):=by
 apply Option.ext;intro r;rw[zFa];constructor
 ·rintro⟨n,h⟩
  cases n with
  |zero=>cases h
  |succ n=>
   simp only[zD]at h;cases hv:Arg.val s.fr c<;>rw[hv]at h<;>try(cases h;done)
   rename_i b';cases b'<;>exact zFa.2 ⟨n,h⟩
 ·intro h;cases hv:Arg.val s.fr c<;>rw[hv]at h<;>try(cases h;done)
  rename_i b';cases b'<;>(obtain⟨n,hn⟩:=zFa.1 h;exact⟨n+1,by simp only[zD,hv];exact hn⟩)
def leaveBlock(id:Nat):Option (Ex×St)->Option (Ex×St)
 |some (.exit id',s')=>if id'=id then some (.normal,s')else some (.exit id',s')
 |x=>x
theorem exec_block(id:Nat)(b:ICode)(s:St):exec cf (.block id b) s=leaveBlock id (exec cf b s):=by
 apply Option.ext;intro r;rw[zFa];constructor
 ·rintro⟨n,h⟩
  cases n with
  |zero=>cases h
  |succ n=>
   simp only[zD]at h;cases hs:zD cf n b s with
   |none=>rw[hs]at h;cases h
   |some q=>
    obtain⟨e,s1⟩:=q;rw[hs]at h;rw[zFa.2 ⟨n,hs⟩];cases e<;>exact h
 ·intro h;cases hs:exec cf b s with
  |none=>rw[hs]at h;cases h
  |some q=>
   obtain⟨e,s1⟩:=q;rw[hs]at h;obtain⟨n,hn⟩:=zFa.1 hs;refine⟨n+1,?_⟩;simp only[zD,hn];cases e<;>exact h
theorem exec_loop(keep dead:List Nat)(b:ICode)(s:St):exec cf (.loop keep dead b) s=match havoc keep dead s with
  |some s0=>thenSeq (exec cf (.loop keep dead b)) (exec cf b s0)
  |none=>none:=by
 apply Option.ext;intro r;rw[zFa];constructor
 ·rintro⟨n,h⟩
  cases n with
  |zero=>cases h
  |succ n=>
   simp only[zD]at h;cases hh:havoc keep dead s with
   |none=>rw[hh]at h;cases h
   |some s0=>
    rw[hh]at h;simp only at h ⊢;cases hs:zD cf n b s0 with
    |none=>rw[hs]at h;cases h
    |some q=>
     obtain⟨e,s1⟩:=q;rw[hs]at h;rw[zFa.2 ⟨n,hs⟩];cases e<;>first|exact h|exact zFa.2 ⟨n,h⟩
 ·intro h;cases hh:havoc keep dead s with
  |none=>rw[hh]at h;cases h
  |some s0=>
   rw[hh]at h;simp only at h;cases hs:exec cf b s0 with
   |none=>rw[hs]at h;cases h
   |some q=>
    obtain⟨e,s1⟩:=q;rw[hs]at h;obtain⟨n,hn⟩:=zFa.1 hs;cases e
    case normal=>
     obtain⟨m,hm⟩:=zFa.1 h;refine⟨max n m+1,?_⟩;simp only[zD,hh];rw[zsb (Leq.refl cf) _ _ _ _ _ (yNa n m) hn];exact zsb (Leq.refl cf) _ _ _ _ _ (yKa n m) hm
    all_goals
     refine⟨n+1,?_⟩;simp only[zD,hh,hn];exact h
end
theorem runOp_fuel{E:Env}{d:Option Nat}{o:IOp}{s:St}{r:SR}(hr:zI (zi E) d o s=some r):∃n,zI (zge E n) d o s=some r:=by
 cases o
 case call pk x args=>
  simp only[zI]at hr ⊢;cases hx:Arg.val s.fr x<;>rw[hx]at hr<;>try(cases hr;done)
  rename_i k first caps;simp only at hr ⊢;split at hr
  case isFalse=>cases hr
  rename_i hall;cases hf:zi E k (first++zp s.fr args++caps) s.st with
  |none=>rw[hf]at hr;cases hr
  |some q=>
   rw[hf]at hr;obtain⟨n,hn⟩:=zPd.1 hf;refine⟨n,?_⟩;rw[if_pos hall,hn];exact hr
 case callP pk x args=>
  simp only[zI]at hr ⊢;cases hx:Arg.val s.fr x<;>rw[hx]at hr<;>try(cases hr;done)
  rename_i k first caps;simp only at hr ⊢;split at hr
  case isFalse=>cases hr
  rename_i hall;cases hf:zi E k (first++zp s.fr args++caps) []with
  |none=>rw[hf]at hr;cases hr
  |some q=>
   rw[hf]at hr;obtain⟨n,hn⟩:=zPd.1 hf;refine⟨n,?_⟩;rw[if_pos hall,hn];exact hr
 case callR x args=>
  simp only[zI]at hr ⊢;cases hx:Arg.val s.fr x<;>rw[hx]at hr<;>try(cases hr;done)
  rename_i k first caps;simp only at hr ⊢;split at hr
  case isFalse=>cases hr
  rename_i hall;cases hf:zi E k (first++zp s.fr args++caps) s.st with
  |none=>rw[hf]at hr;cases hr
  |some q=>
   rw[hf]at hr;obtain⟨n,hn⟩:=zPd.1 hf;refine⟨n,?_⟩;rw[if_pos hall,hn];exact hr
 case callK x args=>
  simp only[zI]at hr ⊢;cases hx:Arg.val s.fr x<;>rw[hx]at hr<;>try(cases hr;done)
  rename_i k first caps;simp only at hr ⊢;split at hr
  case isFalse=>cases hr
  rename_i hall;cases hf:zi E k (first++zp s.fr args++caps) s.st with
  |none=>rw[hf]at hr;cases hr
  |some q=>
   rw[hf]at hr;obtain⟨n,hn⟩:=zPd.1 hf;refine⟨n,?_⟩;rw[if_pos hall,hn];exact hr
 all_goals exact⟨0,hr⟩
theorem step_fuel{E:Env}{o:GOp}{s:St}{r:SR}(hr:step (zi E) o s=some r):∃n,step (zge E n) o s=some r:=by
 unfold step at hr ⊢;cases hg:o.g with
 |none=>rw[hg]at hr;exact runOp_fuel hr
 |some x=>
  obtain⟨t,w⟩:=x;rw[hg]at hr;simp only at hr ⊢;cases ht:gate w (s.fr t)with
  |none=>rw[ht]at hr;cases hr
  |some b=>
   rw[ht]at hr;cases b
   ·exact⟨0,hr⟩
   ·exact runOp_fuel hr
theorem steps_fuel{E:Env}:∀{l:List GOp} {s:St} {r:SR},zOc (zi E) l s=some r->∃n,zOc (zge E n) l s=some r
 | [],s,r,hr=>⟨0,hr⟩
 |o::l,s,r,hr=>by
  simp only[zOc]at hr;cases hs:step (zi E) o s with
  |none=>rw[hs]at hr;cases hr
  |some q=>
   rw[hs]at hr;obtain⟨n,hn⟩:=step_fuel hs;cases q with
   |ok s'=>
    obtain⟨m,hm⟩:=steps_fuel (l:=l) (s:=s') (r:=r) hr;refine⟨max n m,?_⟩;simp only[zOc,step_mono (zfd E n _ (yNa n m)) hn];exact steps_mono (zfd E m _ (yKa n m)) hm
   |pan v st=>exact⟨n,by simp only[zOc,hn];exact hr⟩
theorem execF_fuel{E:Env}:∀(k:Nat) (c:ICode) (s:St) (r:Ex×St),zD (zi E) k c s=some r->∃n,zD (zge E n) k c s=some r
 |0,c,s,r,hr=>by cases hr
 |k+1,c,s,r,hr=>by
  have ih:=fun c s r=>execF_fuel (E:=E) k c s r
  have up:∀{n m:Nat} {c s r},n<=m->zD (zge E n) k c s=some r->zD (zge E m) k c s=some r:=fun hnm h=>zsb (zfd E _ _ hnm) k k _ _ _ (yd _) h
  cases c with
  |region ops=>
   simp only[zD]at hr ⊢;cases hs:zOc (zi E) ops s with
   |none=>rw[hs]at hr;cases hr
   |some q=>
    rw[hs]at hr;obtain⟨n,hn⟩:=steps_fuel hs;exact⟨n,by rw[hn];exact hr⟩
  |seq a b=>
   simp only[zD]at hr ⊢;cases hs:zD (zi E) k a s with
   |none=>rw[hs]at hr;cases hr
   |some q=>
    obtain⟨e,s1⟩:=q;rw[hs]at hr;obtain⟨n,hn⟩:=ih _ _ _ hs;cases e
    case normal=>
     obtain⟨m,hm⟩:=ih _ _ _ hr;exact⟨max n m,by rw[up (yNa n m) hn];exact up (yKa n m) hm⟩
    all_goals exact⟨n,by rw[hn];exact hr⟩
  |cond c a b=>
   simp only[zD]at hr ⊢;cases hv:Arg.val s.fr c<;>rw[hv]at hr<;>try(cases hr;done)
   rename_i b';cases b'<;>exact ih _ _ _ hr
  |block id b=>
   simp only[zD]at hr ⊢;cases hs:zD (zi E) k b s with
   |none=>rw[hs]at hr;cases hr
   |some q=>
    obtain⟨e,s1⟩:=q;rw[hs]at hr;obtain⟨n,hn⟩:=ih _ _ _ hs;refine⟨n,?_⟩;rw[hn];cases e<;>exact hr
  |loop keep dead b=>
   simp only[zD]at hr ⊢;cases hh:havoc keep dead s with
   |none=>rw[hh]at hr;cases hr
   |some s0=>
    rw[hh]at hr;simp only at hr ⊢;cases hs:zD (zi E) k b s0 with
    |none=>rw[hs]at hr;cases hr
    |some q=>
     obtain⟨e,s1⟩:=q;rw[hs]at hr;obtain⟨n,hn⟩:=ih _ _ _ hs;cases e
     case normal=>
      obtain⟨m,hm⟩:=ih _ _ _ hr;exact⟨max n m,by rw[up (yNa n m) hn];exact up (yKa n m) hm⟩
     all_goals exact⟨n,by rw[hn];exact hr⟩
  |skip=>exact⟨0,hr⟩
  |exit id=>exact⟨0,hr⟩
  |ret=>exact⟨0,hr⟩
  |bad=>exact⟨0,hr⟩
theorem pcall_body{E:Env}{f:Nat}{F:IFn}{args:List PV}{st:zc}{r:CRes×zc}(hx:E.ext f=none)(hf:E.fn f=some F)(hl:args.length=F.nargs)(hv:args.all zE=true)(hh:E.hand f=none)
  (h:leave F st.length (exec (zi E) F.body {fr:=frOf args 0,bx:=fun _=> .no,st:=st})=some r):zi E f args st=some r:=by
 rw[zPd];cases he:exec (zi E) F.body {fr:=frOf args 0,bx:=fun _=> .no,st:=st}with
 |none=>rw[he]at h;cases h
 |some q=>
  rw[he]at h;obtain⟨k,hk⟩:=zFa.1 he;obtain⟨n,hn⟩:=execF_fuel k _ _ _ hk;refine⟨max k n+1,?_⟩;rw[callF_succ,hx];simp only[hf,hh];rw[if_pos ⟨hl,hv⟩];rw[zsb (zfd E n _ (yKa k n)) k _ _ _ _ (yNa k n) hn];exact h
theorem zFb{E:Env}{f:Nat}{g:List PV->zc->Option (CRes×zc)}{args:List PV}{st:zc}(hx:E.ext f=some g):zi E f args st=g args st:=by
 apply Option.ext;intro r;rw[zPd];constructor
 ·rintro⟨n,h⟩
  cases n with
  |zero=>cases h
  |succ n=>rw[callF_succ,hx]at h;exact h
 ·intro h;exact⟨1,by rw[callF_succ,hx];exact h⟩
def gh0(w:World):Gh where
 dfr:=[]
 fz:=fun b=>match w.heap[b]? with
  |some (.cells c _ _)=>c.size
  |_=>0
 loc:=fun _=>0
 room:=fun _=>0
 box:=fun _=>0
 cl:=fun b=>if b<w.heap.size then some .prot else none
theorem gh0_sim(w:World):SimS (gh0 w) [] w:=by
 refine⟨fun l o h=>by simp at h,fun b hb=>?_⟩;have h0:w.heap[b]? =none:=by simp[hb]
 exact⟨by simp[gh0,h0],by simp[gh0,hb]⟩
theorem gh0_im{w:World}{b o:Nat}{v:Value}(h:w.cell? ⟨b,o,none⟩=some v):(gh0 w).im w b o=some v:=by
 have h':=h;unfold World.cell? at h';simp only at h';split at h'
 ·rename_i c t fr hc;have hlt:o<c.size:=by
   simp at h';exact(yr.1 h').1
  have hf:(gh0 w).fz b=c.size:=by simp[gh0,hc]
  unfold Gh.im;rw[if_pos (by rw[hf];exact hlt)];exact h
 ·cases h'
theorem upd_at{α:Type}(f:Nat->α)(k:Nat)(v:α)(j:Nat):upd f k v j=if j=k then v else f j:=ye rfl rfl
attribute [simp] exec_seq exec_block
attribute [simp] upd_at frOf Arg.val zp zHa zDa zZ zKb IOp.box? IOp.takes Where.box? zFc zQd asNat scalarEq zvc
 zve IRes.get zpe zM zoc zJb zVa zXe lenOf lenSem slcSem keyOk zuc zS zSb keepFr dropBx
noncomputable abbrev xor64(a b:Int):Int:=xorK .i64 a b
noncomputable abbrev zvf(a b:Int):Int:=andK .i64 a b
noncomputable abbrev or64(a b:Int):Int:=orK .i64 a b
noncomputable abbrev W(n:Int):Int:=zC .i64 n
section
variable (tk:Nat) (ks:List Nat) (k:IntKind) (a b:Int)
@[simp] theorem binSem_and:zga tk ks .and (.int k a) (.int k b)=some (.int k (andK k a b)):=by simp[zga]
@[simp] theorem binSem_or:zga tk ks .or (.int k a) (.int k b)=some (.int k (orK k a b)):=by simp[zga]
@[simp] theorem binSem_xor:zga tk ks .xor (.int k a) (.int k b)=some (.int k (xorK k a b)):=by simp[zga]
@[simp] theorem unSem_not(x:Bool):unSem .not (.bool x)=some (.bool !x):=ye rfl rfl
@[simp] theorem binSem_add:zga tk ks .add (.int k a) (.int k b)=some (.int k (zC k (a+b))):=by simp[zga]
@[simp] theorem binSem_sub:zga tk ks .sub (.int k a) (.int k b)=some (.int k (zC k (a-b))):=by simp[zga]
@[simp] theorem binSem_mul:zga tk ks .mul (.int k a) (.int k b)=some (.int k (zC k (a*b))):=by simp[zga]
@[simp] theorem binSem_quo:zga tk ks .quo (.int k a) (.int k b)=if b=0 then none else some (.int k (zC k (a.tdiv b))):=by simp[zga]
@[simp] theorem binSem_rem:zga tk ks .rem (.int k a) (.int k b)=if b=0 then none else some (.int k (remK a b)):=by simp[zga]
@[simp] theorem binSem_shl(k':IntKind):zga tk ks .shl (.int k a) (.int k' b)=if b<0 then none else some (.int k (zC k (a*2^(min b.toNat k.bits)))):=ye rfl rfl
@[simp] theorem binSem_shr(k':IntKind):zga tk ks .shr (.int k a) (.int k' b)=if b<0 then none else some (.int k (shrK a (min b.toNat k.bits))):=ye rfl rfl
@[simp] theorem binSem_eql:zga tk ks .eql (.int k a) (.int k b)=some (.bool (decide (a=b))):=by simp[zga]
@[simp] theorem binSem_neq:zga tk ks .neq (.int k a) (.int k b)=some (.bool (!decide (a=b))):=by simp[zga]
@[simp] theorem binSem_lss:zga tk ks .lss (.int k a) (.int k b)=some (.bool (decide (a<b))):=by simp[zga]
@[simp] theorem binSem_leq:zga tk ks .leq (.int k a) (.int k b)=some (.bool (decide (a<=b))):=by simp[zga]
@[simp] theorem binSem_gtr:zga tk ks .gtr (.int k a) (.int k b)=some (.bool (decide (b<a))):=by simp[zga]
@[simp] theorem binSem_geq:zga tk ks .geq (.int k a) (.int k b)=some (.bool (decide (b<=a))):=by simp[zga]
@[simp] theorem binSem_sadd(x y:List UInt8):zga tk ks .add (.str x) (.str y)=if x.length+y.length<=9223372036854775807 then some (.str (x++y))else none:=ye rfl rfl
@[simp] theorem binSem_seql(x y:List UInt8):zga tk ks .eql (.str x) (.str y)=some (.bool (decide (x=y))):=ye rfl rfl
@[simp] theorem binSem_sneq(x y:List UInt8):zga tk ks .neq (.str x) (.str y)=some (.bool (!decide (x=y))):=ye rfl rfl
@[simp] theorem binSem_beql(x y:Bool):zga 1 ks .eql (.bool x) (.bool y)=some (.bool (x==y)):=ye rfl rfl
@[simp] theorem binSem_bneq(x y:Bool):zga 1 ks .neq (.bool x) (.bool y)=some (.bool (!(x==y))):=ye rfl rfl
@[simp] theorem binSem_peql:zga 3 ks .eql .nilp .nilp=some (.bool true):=ye rfl rfl
@[simp] theorem binSem_pneq:zga 3 ks .neq .nilp .nilp=some (.bool false):=ye rfl rfl
@[simp] theorem binSem_ieql(cs:List PV)(o:Nat):zga 3 ks .eql (.iptr cs o) .nilp=some (.bool false):=ye rfl rfl
@[simp] theorem binSem_ineq(cs:List PV)(o:Nat):zga 3 ks .neq (.iptr cs o) .nilp=some (.bool true):=ye rfl rfl
@[simp] theorem binSem_aneq(x y:List PV):zga 4 ks .neq (.agg x) (.agg y)=(zvc ks x y).map fun b=> .bool (!b):=ye rfl rfl
end
section
@[simp] theorem s_strip_bool(b:Bool):strip (.bool b)=(.bool b):=ye rfl rfl
@[simp] theorem s_canon1_bool(b:Bool):canon1 (.bool b)=(.bool b):=ye rfl rfl
@[simp] theorem s_stripA_bool(b:Bool):stripA (.bool b)=(.bool b):=ye rfl rfl
@[simp] theorem s_isCell_bool(b:Bool):zwd (.bool b)=true:=ye rfl rfl
@[simp] theorem s_isVar_bool(b:Bool):zE (.bool b)=true:=ye rfl rfl
@[simp] theorem s_cellsOf_bool(b:Bool):cellsOf (.bool b)=[.bool b]:=ye rfl rfl
@[simp] theorem s_strip_int(k:IntKind)(n:Int):strip (.int k n)=(.int k n):=ye rfl rfl
@[simp] theorem s_canon1_int(k:IntKind)(n:Int):canon1 (.int k n)=(.int k n):=ye rfl rfl
@[simp] theorem s_stripA_int(k:IntKind)(n:Int):stripA (.int k n)=(.int k n):=ye rfl rfl
@[simp] theorem s_isCell_int(k:IntKind)(n:Int):zwd (.int k n)=true:=ye rfl rfl
@[simp] theorem s_isVar_int(k:IntKind)(n:Int):zE (.int k n)=true:=ye rfl rfl
@[simp] theorem s_cellsOf_int(k:IntKind)(n:Int):cellsOf (.int k n)=[.int k n]:=ye rfl rfl
@[simp] theorem s_strip_str(s:List UInt8):strip (.str s)=(.str s):=ye rfl rfl
@[simp] theorem s_canon1_str(s:List UInt8):canon1 (.str s)=(.str s):=ye rfl rfl
@[simp] theorem s_stripA_str(s:List UInt8):stripA (.str s)=(.str s):=ye rfl rfl
@[simp] theorem s_isCell_str(s:List UInt8):zwd (.str s)=true:=ye rfl rfl
@[simp] theorem s_isVar_str(s:List UInt8):zE (.str s)=true:=ye rfl rfl
@[simp] theorem s_cellsOf_str(s:List UInt8):cellsOf (.str s)=[.str s]:=ye rfl rfl
@[simp] theorem s_strip_nilp:strip (.nilp)=(.nilp):=ye rfl rfl
@[simp] theorem s_stripA_nilp:stripA (.nilp)=(.nilp):=ye rfl rfl
@[simp] theorem s_isVar_nilp:zE (.nilp)=true:=ye rfl rfl
@[simp] theorem s_strip_ptr(l i o:Nat):strip (.ptr l i o)=(.ptr l i o):=ye rfl rfl
@[simp] theorem s_stripA_ptr(l i o:Nat):stripA (.ptr l i o)=(.ptr l i o):=ye rfl rfl
@[simp] theorem s_isVar_ptr(l i o:Nat):zE (.ptr l i o)=true:=ye rfl rfl
@[simp] theorem s_strip_iptr(l:List PV)(o:Nat):strip (.iptr l o)=(.iptr l o):=ye rfl rfl
@[simp] theorem s_stripA_iptr(l:List PV)(o:Nat):stripA (.iptr l o)=(.iptr l o):=ye rfl rfl
@[simp] theorem s_isVar_iptr(l:List PV)(o:Nat):zE (.iptr l o)=true:=ye rfl rfl
@[simp] theorem s_strip_slice_plain(z:Nat)(l:List PV):strip (.slice .plain z l)=(.slice .plain z l):=ye rfl rfl
@[simp] theorem s_canon1_slice_plain(z:Nat)(l:List PV):canon1 (.slice .plain z l)=(.slice .plain z l):=ye rfl rfl
@[simp] theorem s_stripA_slice_plain(z:Nat)(l:List PV):stripA (.slice .plain z l)=(.slice .plain z l):=ye rfl rfl
@[simp] theorem s_isCell_slice_plain(z:Nat)(l:List PV):zwd (.slice .plain z l)=true:=ye rfl rfl
@[simp] theorem s_isVar_slice_plain(z:Nat)(l:List PV):zE (.slice .plain z l)=true:=ye rfl rfl
@[simp] theorem s_cellsOf_slice_plain(z:Nat)(l:List PV):cellsOf (.slice .plain z l)=[.slice .plain z l]:=ye rfl rfl
@[simp] theorem s_strip_slice_fit(z:Nat)(l:List PV):strip (.slice .fit z l)=(.slice .fit z l):=ye rfl rfl
@[simp] theorem s_canon1_slice_fit(z:Nat)(l:List PV):canon1 (.slice .fit z l)=(.slice .plain z l):=ye rfl rfl
@[simp] theorem s_stripA_slice_fit(z:Nat)(l:List PV):stripA (.slice .fit z l)=(.slice .plain z l):=ye rfl rfl
@[simp] theorem s_isVar_slice_fit(z:Nat)(l:List PV):zE (.slice .fit z l)=true:=ye rfl rfl
@[simp] theorem s_cellsOf_slice_fit(z:Nat)(l:List PV):cellsOf (.slice .fit z l)=[.slice .fit z l]:=ye rfl rfl
@[simp] theorem s_strip_slice_own(z:Nat)(l:List PV):strip (.slice .own z l)=(.slice .plain z l):=ye rfl rfl
@[simp] theorem s_isOwn_slice_own(z:Nat)(l:List PV):isOwn (.slice .own z l)=some (z,l):=ye rfl rfl
@[simp] theorem s_strip_mslice(l o n z:Nat):strip (.mslice l o n z)=(.mslice l o n z):=ye rfl rfl
@[simp] theorem s_canon1_mslice(l o n z:Nat):canon1 (.mslice l o n z)=(.mslice l o n z):=ye rfl rfl
@[simp] theorem s_stripA_mslice(l o n z:Nat):stripA (.mslice l o n z)=(.mslice l o n z):=ye rfl rfl
@[simp] theorem s_isCell_mslice(l o n z:Nat):zwd (.mslice l o n z)=true:=ye rfl rfl
@[simp] theorem s_isVar_mslice(l o n z:Nat):zE (.mslice l o n z)=true:=ye rfl rfl
@[simp] theorem s_cellsOf_mslice(l o n z:Nat):cellsOf (.mslice l o n z)=[.mslice l o n z]:=ye rfl rfl
@[simp] theorem s_strip_agg(l:List PV):strip (.agg l)=(.agg l):=ye rfl rfl
@[simp] theorem s_stripA_agg(l:List PV):stripA (.agg l)= .agg (l.map canon1):=ye rfl rfl
@[simp] theorem s_isVar_agg(l:List PV):zE (.agg l)=true:=ye rfl rfl
@[simp] theorem s_cellsOf_agg(l:List PV):cellsOf (.agg l)=l:=ye rfl rfl
@[simp] theorem s_strip_tup(l:List PV):strip (.tup l)=(.tup l):=ye rfl rfl
@[simp] theorem s_strip_fn(f:Nat)(a b:List PV):strip (.fn f a b)=(.fn f a b):=ye rfl rfl
@[simp] theorem s_stripA_fn(f:Nat)(a b:List PV):stripA (.fn f a b)=(.fn f a b):=ye rfl rfl
@[simp] theorem s_isVar_fn(f:Nat)(a b:List PV):zE (.fn f a b)=true:=ye rfl rfl
@[simp] theorem s_strip_nilfn:strip (.nilfn)=(.nilfn):=ye rfl rfl
@[simp] theorem s_strip_mp(r:Nat):strip (.mp r)=(.mp r):=ye rfl rfl
@[simp] theorem s_stripA_mp(r:Nat):stripA (.mp r)=(.mp r):=ye rfl rfl
@[simp] theorem s_isVar_mp(r:Nat):zE (.mp r)=true:=ye rfl rfl
@[simp] theorem s_strip_nilmap:strip (.nilmap)=(.nilmap):=ye rfl rfl
@[simp] theorem s_strip_nilif:strip (.nilif)=(.nilif):=ye rfl rfl
end
def doOp(d:Option Nat)(T:List Nat)(k:Option Nat)(s:St):Option (PV×Bx×zc)->Option SR
 |some (v,b',st')=>some (.ok {fr:=zHa (zDa s.fr T) d v,bx:=zKb s.bx k b',st:=st'})
 |none=>none
@[simp] theorem doOp_some(d:Option Nat)(T:List Nat)(k:Option Nat)(s:St)(v:PV)(b:Bx)(st:zc):doOp d T k s (some (v,b,st))=some (.ok {fr:=zHa (zDa s.fr T) d v,bx:=zKb s.bx k b,st:=st}):=ye rfl rfl
def appendS(sz bytes:Nat)(b:Bx)(st:zc)(x:Option (List PV)):PV->Option (PV×Bx×zc)
 | .slice .own s l=>if s=sz then
   x.bind fun l'=>if(l.length+l'.length)*bytes<=zo then some (.slice .own sz (l++l'),b,st)else none
  else none
 | .slice .fit s l=>if s=sz then
   x.bind fun l'=>
    if l'=[]then some (.slice .fit sz l,b,st)else
    if(l.length+l'.length)*bytes<=zo then some (.slice .own sz (l++l'),b,st)else none
  else none
 |_=>none
def appendO(sz bytes:Nat)(b:Bx)(st:zc)(x:Option (List PV)):PV->Option (PV×Bx×zc)
 | .slice .fit s []=>if s=sz then
   x.bind fun l'=>if l'=[]then some (.slice .fit sz [],b,st)else if 0<l'.length/\l'.length*bytes<=zo then some (.mslice st.length 0 l'.length sz,b,st++[.arr sz l'])else none
  else none
 | .mslice l 0 (n+1) s=>if s=sz then
   (zlb st sz (.mslice l 0 (n+1) s)).bind fun l0=>x.bind fun l'=>
    if 0<l'.length/\(l0.length+l'.length)*bytes<=zo then some (.mslice st.length 0 (l0.length+l'.length) sz,b,st.set l (.dead sz)++[.arr sz (l0++l')])else none
  else none
 |_=>none
def pickS(x y:PV)(b:Bx)(st:zc):PV->Option (PV×Bx×zc)
 | .bool true=>some (strip x,b,st)
 | .bool false=>some (strip y,b,st)
 |_=>none
@[simp] theorem pickS_true(x y:PV)(b:Bx)(st:zc):pickS x y b st (.bool true)=some (strip x,b,st):=ye rfl rfl
@[simp] theorem pickS_false(x y:PV)(b:Bx)(st:zc):pickS x y b st (.bool false)=some (strip y,b,st):=ye rfl rfl
section
variable (cf:zL) (d:Option Nat) (q0:St) (fr:Fr) (b:Bx) (st:zc)
@[simp] theorem ro_mv(a:Arg):zI cf d (.mv a) q0=doOp d (IOp.takes (.mv a)) (IOp.box? (.mv a)) q0 (IOp.sem q0.fr (zZ q0.bx (IOp.box? (.mv a))) q0.st (.mv a)):=ye rfl rfl
@[simp] theorem so_mv(a:Arg):IOp.sem fr b st (.mv a)=some (strip (a.val fr),b,st):=ye rfl rfl
@[simp] theorem ro_take(s:Nat):zI cf d (.take s) q0=doOp d (IOp.takes (.take s)) (IOp.box? (.take s)) q0 (IOp.sem q0.fr (zZ q0.bx (IOp.box? (.take s))) q0.st (.take s)):=ye rfl rfl
@[simp] theorem so_take(s:Nat):IOp.sem fr b st (.take s)=some (fr s,b,st):=ye rfl rfl
@[simp] theorem ro_pick(c:Arg)(x:Arg)(y:Arg):zI cf d (.pick c x y) q0=doOp d (IOp.takes (.pick c x y)) (IOp.box? (.pick c x y)) q0 (IOp.sem q0.fr (zZ q0.bx (IOp.box? (.pick c x y))) q0.st (.pick c x y)):=ye rfl rfl
@[simp] theorem so_pick(c:Arg)(x:Arg)(y:Arg):IOp.sem fr b st (.pick c x y)=pickS (x.val fr) (y.val fr) b st (c.val fr):=ye rfl rfl
@[simp] theorem ro_boxL(k:Nat)(a:Arg):zI cf d (.boxL k a) q0=doOp d (IOp.takes (.boxL k a)) (IOp.box? (.boxL k a)) q0 (IOp.sem q0.fr (zZ q0.bx (IOp.box? (.boxL k a))) q0.st (.boxL k a)):=ye rfl rfl
@[simp] theorem so_boxL(k:Nat)(a:Arg):IOp.sem fr b st (.boxL k a)=
  match b with
  | .no=>if zE (strip (a.val fr))then some (.lptr k 0,.cells (cellsOf (strip (a.val fr))),st)else none
  |_=>none:=ye rfl rfl
@[simp] theorem ro_boxI(a:Arg):zI cf d (.boxI a) q0=doOp d (IOp.takes (.boxI a)) (IOp.box? (.boxI a)) q0 (IOp.sem q0.fr (zZ q0.bx (IOp.box? (.boxI a))) q0.st (.boxI a)):=ye rfl rfl
@[simp] theorem so_boxI(a:Arg):IOp.sem fr b st (.boxI a)=if zE (stripA (a.val fr))then some (.iptr (cellsOf (stripA (a.val fr))) 0,b,st)else none:=ye rfl rfl
@[simp] theorem ro_boxS(sz:Nat)(a:Arg):zI cf d (.boxS sz a) q0=doOp d (IOp.takes (.boxS sz a)) (IOp.box? (.boxS sz a)) q0 (IOp.sem q0.fr (zZ q0.bx (IOp.box? (.boxS sz a))) q0.st (.boxS sz a)):=ye rfl rfl
@[simp] theorem so_boxS(sz:Nat)(a:Arg):IOp.sem fr b st (.boxS sz a)=
  if zE (strip (a.val fr))&&(cellsOf (strip (a.val fr))).length==sz then some (.ptr st.length 0 0,b,st++[.arr sz [strip (a.val fr)]])else none:=ye rfl rfl
@[simp] theorem ro_build(zero:List PV)(parts:List (Nat×Nat×Arg)):zI cf d (.build zero parts) q0=doOp d (IOp.takes (.build zero parts)) (IOp.box? (.build zero parts)) q0 (IOp.sem q0.fr (zZ q0.bx (IOp.box? (.build zero parts))) q0.st (.build zero parts)):=ye rfl rfl
@[simp] theorem so_build(zero:List PV)(parts:List (Nat×Nat×Arg)):IOp.sem fr b st (.build zero parts)=(zoc fr zero parts).map fun cs=>(.agg cs,b,st):=ye rfl rfl
@[simp] theorem ro_buildF(zero:List PV)(parts:List (Nat×Nat×Arg)):zI cf d (.buildF zero parts) q0=doOp d (IOp.takes (.buildF zero parts)) (IOp.box? (.buildF zero parts)) q0 (IOp.sem q0.fr (zZ q0.bx (IOp.box? (.buildF zero parts))) q0.st (.buildF zero parts)):=ye rfl rfl
@[simp] theorem so_buildF(zero:List PV)(parts:List (Nat×Nat×Arg)):IOp.sem fr b st (.buildF zero parts)=(zJb fr zero parts).map fun cs=>(.agg cs,b,st):=ye rfl rfl
@[simp] theorem ro_bslice(sz:Nat)(zero:PV)(n:Nat)(parts:List (Nat×Arg)):zI cf d (.bslice sz zero n parts) q0=doOp d (IOp.takes (.bslice sz zero n parts)) (IOp.box? (.bslice sz zero n parts)) q0 (IOp.sem q0.fr (zZ q0.bx (IOp.box? (.bslice sz zero n parts))) q0.st (.bslice sz zero n parts)):=ye rfl rfl
@[simp] theorem so_bslice(sz:Nat)(zero:PV)(n:Nat)(parts:List (Nat×Arg)):IOp.sem fr b st (.bslice sz zero n parts)=(zVa fr sz (yX n zero) parts).map fun es=>(.slice .fit sz es,b,st):=ye rfl rfl
@[simp] theorem ro_bsliceS(sz:Nat)(zero:PV)(n:Nat)(parts:List (Nat×Arg)):zI cf d (.bsliceS sz zero n parts) q0=doOp d (IOp.takes (.bsliceS sz zero n parts)) (IOp.box? (.bsliceS sz zero n parts)) q0 (IOp.sem q0.fr (zZ q0.bx (IOp.box? (.bsliceS sz zero n parts))) q0.st (.bsliceS sz zero n parts)):=ye rfl rfl
@[simp] theorem so_bsliceS(sz:Nat)(zero:PV)(n:Nat)(parts:List (Nat×Arg)):IOp.sem fr b st (.bsliceS sz zero n parts)=(zVa fr sz (yX n zero) parts).map fun es=>(.mslice st.length 0 n sz,b,st++[.arr sz es]):=ye rfl rfl
@[simp] theorem ro_load(w:Where)(ag:Bool)(sz:Nat)(a:Arg):zI cf d (.load w ag sz a) q0=doOp d (IOp.takes (.load w ag sz a)) (IOp.box? (.load w ag sz a)) q0 (IOp.sem q0.fr (zZ q0.bx (IOp.box? (.load w ag sz a))) q0.st (.load w ag sz a)):=ye rfl rfl
@[simp] theorem so_load(w:Where)(ag:Bool)(sz:Nat)(a:Arg):IOp.sem fr b st (.load w ag sz a)=
  match w,a.val fr with
  | .box k,.lptr k' off=>if k=k' then
    match b with
    | .cells cs=>(zM ag sz cs off).map fun v=>(stripA v,b,st)
    |_=>none
   else none
  | .any,.iptr cs off=>(zM ag sz cs off).map fun v=>(v,b,st)
  | .imm,.iptr cs off=>(zM ag sz cs off).map fun v=>(v,b,st)
  | .any,.ptr l i off=>
   match st[l]? with
   |some (.arr _ es)=>match es[i]? with
    |some e=>(zM ag sz (cellsOf e) off).map fun v=>(stripA v,b,st)
    |none=>none
   |_=>none
  |_,_=>none:=ye rfl rfl
@[simp] theorem ro_loadT(w:Where)(a:Arg):zI cf d (.loadT w a) q0=doOp d (IOp.takes (.loadT w a)) (IOp.box? (.loadT w a)) q0 (IOp.sem q0.fr (zZ q0.bx (IOp.box? (.loadT w a))) q0.st (.loadT w a)):=ye rfl rfl
@[simp] theorem so_loadT(w:Where)(a:Arg):IOp.sem fr b st (.loadT w a)=
  match w,a.val fr with
  | .box k,.lptr k' off=>if k=k' then
    match b with
    | .cells cs=>(cs[off]?).map fun v=>(v,.cells (cs.set off (strip v)),st)
    |_=>none
   else none
  | .any,.ptr l i off=>
   match st[l]? with
   |some (.arr sz es)=>match es[i]? with
    |some e=>((cellsOf e)[off]?).map fun v=>(v,b,st.set l (.arr sz (es.set i (zOa e ((cellsOf e).set off (strip v))))))
    |none=>none
   |_=>none
  |_,_=>none:=ye rfl rfl
@[simp] theorem ro_store(w:Where)(sz:Nat)(a:Arg)(v:Arg):zI cf d (.store w sz a v) q0=doOp d (IOp.takes (.store w sz a v)) (IOp.box? (.store w sz a v)) q0 (IOp.sem q0.fr (zZ q0.bx (IOp.box? (.store w sz a v))) q0.st (.store w sz a v)):=ye rfl rfl
@[simp] theorem so_store(w:Where)(sz:Nat)(a:Arg)(v:Arg):IOp.sem fr b st (.store w sz a v)=zFc fr b st w sz a (v.val fr):=ye rfl rfl
@[simp] theorem ro_storeT(w:Where)(a:Arg)(t:Nat):zI cf d (.storeT w a t) q0=doOp d (IOp.takes (.storeT w a t)) (IOp.box? (.storeT w a t)) q0 (IOp.sem q0.fr (zZ q0.bx (IOp.box? (.storeT w a t))) q0.st (.storeT w a t)):=ye rfl rfl
@[simp] theorem so_storeT(w:Where)(a:Arg)(t:Nat):IOp.sem fr b st (.storeT w a t)=
  match isOwn (fr t)with
  |none=>zFc fr b st w 1 a (fr t)
  |some (z,l)=>
   match w,a.val fr with
   | .box k,.lptr k' off=>if k=k' then
     match b with
     | .cells cs=>if off<cs.length then some (.undef,.cells (cs.set off (.slice .own z l)),st)else none
     |_=>none
    else none
   | .any,.ptr l' i off=>
    match st[l']? with
    |some (.arr s es)=>match es[i]? with
     |some e=>if off<(cellsOf e).length then some (.undef,b,st.set l' (.arr s (es.set i (zOa e ((cellsOf e).set off (.slice .own z l))))))else none
     |none=>none
    |_=>none
   |_,_=>none:=ye rfl rfl
@[simp] theorem ro_nilck(a:Arg):zI cf d (.nilck a) q0=doOp d (IOp.takes (.nilck a)) (IOp.box? (.nilck a)) q0 (IOp.sem q0.fr (zZ q0.bx (IOp.box? (.nilck a))) q0.st (.nilck a)):=ye rfl rfl
@[simp] theorem so_nilck(a:Arg):IOp.sem fr b st (.nilck a)=match a.val fr with
  | .iptr cs off=>some (.iptr cs off,b,st)
  | .ptr l i off=>some (.ptr l i off,b,st)
  | .lptr k off=>some (.lptr k off,b,st)
  | .fn f x y=>some (.fn f x y,b,st)
  |_=>none:=ye rfl rfl
@[simp] theorem ro_bin(tk:Nat)(ks:List Nat)(op:BinOp)(x:Arg)(y:Arg):zI cf d (.bin tk ks op x y) q0=doOp d (IOp.takes (.bin tk ks op x y)) (IOp.box? (.bin tk ks op x y)) q0 (IOp.sem q0.fr (zZ q0.bx (IOp.box? (.bin tk ks op x y))) q0.st (.bin tk ks op x y)):=ye rfl rfl
@[simp] theorem so_bin(tk:Nat)(ks:List Nat)(op:BinOp)(x:Arg)(y:Arg):IOp.sem fr b st (.bin tk ks op x y)=(zga tk ks op (x.val fr) (y.val fr)).map (·,b,st):=ye rfl rfl
@[simp] theorem ro_un(op:UnOp)(x:Arg):zI cf d (.un op x) q0=doOp d (IOp.takes (.un op x)) (IOp.box? (.un op x)) q0 (IOp.sem q0.fr (zZ q0.bx (IOp.box? (.un op x))) q0.st (.un op x)):=ye rfl rfl
@[simp] theorem so_un(op:UnOp)(x:Arg):IOp.sem fr b st (.un op x)=(unSem op (x.val fr)).map (·,b,st):=ye rfl rfl
@[simp] theorem ro_conv(k:IntKind)(a:Arg):zI cf d (.conv k a) q0=doOp d (IOp.takes (.conv k a)) (IOp.box? (.conv k a)) q0 (IOp.sem q0.fr (zZ q0.bx (IOp.box? (.conv k a))) q0.st (.conv k a)):=ye rfl rfl
@[simp] theorem so_conv(k:IntKind)(a:Arg):IOp.sem fr b st (.conv k a)=match a.val fr with
  | .int _ n=>some (.int k (zC k n),b,st)
  |_=>none:=ye rfl rfl
@[simp] theorem ro_mkfn(f:Nat)(first:List Arg)(caps:List Arg):zI cf d (.mkfn f first caps) q0=doOp d (IOp.takes (.mkfn f first caps)) (IOp.box? (.mkfn f first caps)) q0 (IOp.sem q0.fr (zZ q0.bx (IOp.box? (.mkfn f first caps))) q0.st (.mkfn f first caps)):=ye rfl rfl
@[simp] theorem so_mkfn(f:Nat)(first:List Arg)(caps:List Arg):IOp.sem fr b st (.mkfn f first caps)=
  if(first.map fun a=>stripA (a.val fr)).all zE&&(caps.map fun a=>stripA (a.val fr)).all zE then
   some (.fn f (first.map fun a=>stripA (a.val fr)) (caps.map fun a=>stripA (a.val fr)),b,st)
  else none:=ye rfl rfl
@[simp] theorem ro_mkmap:zI cf d (.mkmap) q0=doOp d (IOp.takes (.mkmap)) (IOp.box? (.mkmap)) q0 (IOp.sem q0.fr (zZ q0.bx (IOp.box? (.mkmap))) q0.st (.mkmap)):=ye rfl rfl
@[simp] theorem so_mkmap:IOp.sem fr b st (.mkmap)=some (.mp st.length,b,st++[.mp []]):=ye rfl rfl
@[simp] theorem ro_lookup(ks:Bool)(ok:Bool)(zero:PV)(m:Arg)(k:Arg):zI cf d (.lookup ks ok zero m k) q0=doOp d (IOp.takes (.lookup ks ok zero m k)) (IOp.box? (.lookup ks ok zero m k)) q0 (IOp.sem q0.fr (zZ q0.bx (IOp.box? (.lookup ks ok zero m k))) q0.st (.lookup ks ok zero m k)):=ye rfl rfl
@[simp] theorem so_lookup(ks:Bool)(ok:Bool)(zero:PV)(m:Arg)(k:Arg):IOp.sem fr b st (.lookup ks ok zero m k)=
  if keyOk (k.val fr)then
  match m.val fr with
  | .nilmap=>if ok then some (.tup [zero,.bool false],b,st)else some (zero,b,st)
  | .mp r=>match st[r]? with
   |some (.mp es)=>(zS ks (k.val fr) es).map fun
    |some v=>(if ok then .tup [v,.bool true]else v,b,st)
    |none=>(if ok then .tup [zero,.bool false]else zero,b,st)
   |_=>none
  |_=>none
  else none:=ye rfl rfl
@[simp] theorem ro_mapset(ks:Bool)(m:Arg)(k:Arg)(v:Arg):zI cf d (.mapset ks m k v) q0=doOp d (IOp.takes (.mapset ks m k v)) (IOp.box? (.mapset ks m k v)) q0 (IOp.sem q0.fr (zZ q0.bx (IOp.box? (.mapset ks m k v))) q0.st (.mapset ks m k v)):=ye rfl rfl
@[simp] theorem so_mapset(ks:Bool)(m:Arg)(k:Arg)(v:Arg):IOp.sem fr b st (.mapset ks m k v)=
  if zE (stripA (v.val fr))&&keyOk (k.val fr)then
  match m.val fr with
  | .mp r=>match st[r]? with
   |some (.mp es)=>(zSb ks (k.val fr) (stripA (v.val fr)) es).map fun es'=>(.undef,b,st.set r (.mp es'))
   |_=>none
  |_=>none
  else none:=ye rfl rfl
@[simp] theorem so_mkslice(sz:Nat)(zero:PV)(bytes:Nat)(ln:Arg)(cp:Arg):IOp.sem fr b st (.mkslice sz zero bytes ln cp)=
  match ln.val fr,cp.val fr with
  | .int .i64 n,.int .i64 c=>if n=c/\0<=n/\n<=9223372036854775807/\bytes*n<=281474976710656 then some (.slice .fit sz (yX n.toNat zero),b,st)else none
  |_,_=>none:=ye rfl rfl
@[simp] theorem ro_mksliceS(sz:Nat)(zero:PV)(bytes:Nat)(ln:Arg)(cp:Arg):zI cf d (.mksliceS sz zero bytes ln cp) q0=doOp d (IOp.takes (.mksliceS sz zero bytes ln cp)) (IOp.box? (.mksliceS sz zero bytes ln cp)) q0 (IOp.sem q0.fr (zZ q0.bx (IOp.box? (.mksliceS sz zero bytes ln cp))) q0.st (.mksliceS sz zero bytes ln cp)):=ye rfl rfl
@[simp] theorem so_mksliceS(sz:Nat)(zero:PV)(bytes:Nat)(ln:Arg)(cp:Arg):IOp.sem fr b st (.mksliceS sz zero bytes ln cp)=
  match ln.val fr,cp.val fr with
  | .int .i64 n,.int .i64 c=>if n=c/\0<=n/\n<=9223372036854775807/\bytes*n<=281474976710656 then some (.mslice st.length 0 n.toNat sz,b,st++[.arr sz (yX n.toNat zero)])else none
  |_,_=>none:=ye rfl rfl
@[simp] theorem ro_slc(isS:Bool)(z:Nat)(x:Arg)(lo:Option Arg)(hi:Option Arg)(mx:Option Arg):zI cf d (.slc isS z x lo hi mx) q0=doOp d (IOp.takes (.slc isS z x lo hi mx)) (IOp.box? (.slc isS z x lo hi mx)) q0 (IOp.sem q0.fr (zZ q0.bx (IOp.box? (.slc isS z x lo hi mx))) q0.st (.slc isS z x lo hi mx)):=ye rfl rfl
@[simp] theorem so_slc(isS:Bool)(z:Nat)(x:Arg)(lo:Option Arg)(hi:Option Arg)(mx:Option Arg):IOp.sem fr b st (.slc isS z x lo hi mx)=
  match zQd fr lo 0,zQd fr hi (lenOf 0 (x.val fr)),(match mx with|none=>some none|some a=>(asNat (a.val fr)).map some)with
  |some l,some h,some m=>(slcSem isS z (x.val fr) l h m).map (·,b,st)
  |_,_,_=>none:=ye rfl rfl
@[simp] theorem ro_faddr(off:Nat)(a:Arg):zI cf d (.faddr off a) q0=doOp d (IOp.takes (.faddr off a)) (IOp.box? (.faddr off a)) q0 (IOp.sem q0.fr (zZ q0.bx (IOp.box? (.faddr off a))) q0.st (.faddr off a)):=ye rfl rfl
@[simp] theorem so_faddr(off:Nat)(a:Arg):IOp.sem fr b st (.faddr off a)=match a.val fr with
  | .iptr cs o=>some (.iptr cs (o+off),b,st)
  | .ptr l i o=>some (.ptr l i (o+off),b,st)
  | .lptr k o=>some (.lptr k (o+off),b,st)
  |_=>none:=ye rfl rfl
@[simp] theorem ro_iaddr(sz:Nat)(a:Arg)(i:Arg):zI cf d (.iaddr sz a i) q0=doOp d (IOp.takes (.iaddr sz a i)) (IOp.box? (.iaddr sz a i)) q0 (IOp.sem q0.fr (zZ q0.bx (IOp.box? (.iaddr sz a i))) q0.st (.iaddr sz a i)):=ye rfl rfl
@[simp] theorem so_iaddr(sz:Nat)(a:Arg)(i:Arg):IOp.sem fr b st (.iaddr sz a i)=match asNat (i.val fr),a.val fr with
  |some n,.slice _ s l=>if s=sz then(l[n]?).map fun e=>(.iptr (cellsOf e) 0,b,st)else none
  |some n,.mslice l off ln s=>if s=sz/\n<ln then some (.ptr l (off+n) 0,b,st)else none
  |_,_=>none:=ye rfl rfl
@[simp] theorem ro_iaddrA(n:Nat)(sz:Nat)(a:Arg)(i:Arg):zI cf d (.iaddrA n sz a i) q0=doOp d (IOp.takes (.iaddrA n sz a i)) (IOp.box? (.iaddrA n sz a i)) q0 (IOp.sem q0.fr (zZ q0.bx (IOp.box? (.iaddrA n sz a i))) q0.st (.iaddrA n sz a i)):=ye rfl rfl
@[simp] theorem so_iaddrA(n:Nat)(sz:Nat)(a:Arg)(i:Arg):IOp.sem fr b st (.iaddrA n sz a i)=match asNat (i.val fr),a.val fr with
  |some j,.iptr cs o=>if j<n then some (.iptr cs (o+j*sz),b,st)else none
  |some j,.ptr l i o=>if j<n then some (.ptr l i (o+j*sz),b,st)else none
  |some j,.lptr k o=>if j<n then some (.lptr k (o+j*sz),b,st)else none
  |_,_=>none:=ye rfl rfl
@[simp] theorem ro_idxS(a:Arg)(i:Arg):zI cf d (.idxS a i) q0=doOp d (IOp.takes (.idxS a i)) (IOp.box? (.idxS a i)) q0 (IOp.sem q0.fr (zZ q0.bx (IOp.box? (.idxS a i))) q0.st (.idxS a i)):=ye rfl rfl
@[simp] theorem so_idxS(a:Arg)(i:Arg):IOp.sem fr b st (.idxS a i)=match a.val fr,asNat (i.val fr)with
  | .str s,some n=>(s[n]?).map fun c=>(.int .u8 c.toNat,b,st)
  |_,_=>none:=ye rfl rfl
@[simp] theorem ro_ext(a:Arg)(i:Nat):zI cf d (.ext a i) q0=doOp d (IOp.takes (.ext a i)) (IOp.box? (.ext a i)) q0 (IOp.sem q0.fr (zZ q0.bx (IOp.box? (.ext a i))) q0.st (.ext a i)):=ye rfl rfl
@[simp] theorem so_ext(a:Arg)(i:Nat):IOp.sem fr b st (.ext a i)=match a.val fr with
  | .tup vs=>(vs[i]?).map (·,b,st)
  |_=>none:=ye rfl rfl
@[simp] theorem ro_fld(ag:Bool)(off:Nat)(sz:Nat)(a:Arg):zI cf d (.fld ag off sz a) q0=doOp d (IOp.takes (.fld ag off sz a)) (IOp.box? (.fld ag off sz a)) q0 (IOp.sem q0.fr (zZ q0.bx (IOp.box? (.fld ag off sz a))) q0.st (.fld ag off sz a)):=ye rfl rfl
@[simp] theorem so_fld(ag:Bool)(off:Nat)(sz:Nat)(a:Arg):IOp.sem fr b st (.fld ag off sz a)=match a.val fr with
  | .agg cs=>(zM ag sz cs off).map (·,b,st)
  |_=>none:=ye rfl rfl
@[simp] theorem ro_len(tk:Nat)(a:Arg):zI cf d (.len tk a) q0=doOp d (IOp.takes (.len tk a)) (IOp.box? (.len tk a)) q0 (IOp.sem q0.fr (zZ q0.bx (IOp.box? (.len tk a))) q0.st (.len tk a)):=ye rfl rfl
@[simp] theorem so_len(tk:Nat)(a:Arg):IOp.sem fr b st (.len tk a)=(lenSem st tk (a.val fr)).map (·,b,st):=ye rfl rfl
@[simp] theorem ro_append(sz:Nat)(bytes:Nat)(a:Arg)(x:Arg):zI cf d (.append sz bytes a x) q0=doOp d (IOp.takes (.append sz bytes a x)) (IOp.box? (.append sz bytes a x)) q0 (IOp.sem q0.fr (zZ q0.bx (IOp.box? (.append sz bytes a x))) q0.st (.append sz bytes a x)):=ye rfl rfl
@[simp] theorem so_append(sz:Nat)(bytes:Nat)(a:Arg)(x:Arg):IOp.sem fr b st (.append sz bytes a x)=appendS sz bytes b st (zlb st sz (x.val fr)) (a.val fr):=ye rfl rfl
@[simp] theorem ro_appendS(sz:Nat)(bytes:Nat)(a:Arg)(x:Arg):zI cf d (.appendS sz bytes a x) q0=doOp d (IOp.takes (.appendS sz bytes a x)) (IOp.box? (.appendS sz bytes a x)) q0 (IOp.sem q0.fr (zZ q0.bx (IOp.box? (.appendS sz bytes a x))) q0.st (.appendS sz bytes a x)):=ye rfl rfl
@[simp] theorem so_appendS(sz:Nat)(bytes:Nat)(a:Arg)(x:Arg):IOp.sem fr b st (.appendS sz bytes a x)=appendO sz bytes b st (zlb st sz (x.val fr)) (a.val fr):=ye rfl rfl
@[simp] theorem ro_max2(x:Arg)(y:Arg):zI cf d (.max2 x y) q0=doOp d (IOp.takes (.max2 x y)) (IOp.box? (.max2 x y)) q0 (IOp.sem q0.fr (zZ q0.bx (IOp.box? (.max2 x y))) q0.st (.max2 x y)):=ye rfl rfl
@[simp] theorem so_max2(x:Arg)(y:Arg):IOp.sem fr b st (.max2 x y)=match x.val fr,y.val fr with
  | .int k p,.int k' q=>if k=k' then some (.int k (if p<q then q else p),b,st)else none
  |_,_=>none:=ye rfl rfl
@[simp] theorem ro_rng(k:Nat)(a:Arg):zI cf d (.rng k a) q0=doOp d (IOp.takes (.rng k a)) (IOp.box? (.rng k a)) q0 (IOp.sem q0.fr (zZ q0.bx (IOp.box? (.rng k a))) q0.st (.rng k a)):=ye rfl rfl
@[simp] theorem so_rng(k:Nat)(a:Arg):IOp.sem fr b st (.rng k a)=match b,a.val fr with
  | .no,.str s=>some (.lptr k 0,.iter s 0,st)
  |_,_=>none:=ye rfl rfl
@[simp] theorem ro_next(k:Nat)(a:Arg):zI cf d (.next k a) q0=doOp d (IOp.takes (.next k a)) (IOp.box? (.next k a)) q0 (IOp.sem q0.fr (zZ q0.bx (IOp.box? (.next k a))) q0.st (.next k a)):=ye rfl rfl
@[simp] theorem so_next(k:Nat)(a:Arg):IOp.sem fr b st (.next k a)=match b,a.val fr with
  | .iter s pos,.lptr k' 0=>if k=k' then
    if pos<s.length then
     some (.tup [.bool true,.int .i64 pos,.int .i32 (Utf8.decode ⟨s.toArray⟩ pos).1],.iter s (pos+(Utf8.decode ⟨s.toArray⟩ pos).2),st)
    else some (.tup [.bool false],b,st)
   else none
  |_,_=>none:=ye rfl rfl
@[simp] theorem ro_call(pk:Bool)(f:Arg)(args:List Arg):zI cf d (.call pk f args) q0=
  match f.val q0.fr with
  | .fn k first caps=>
   if(zp q0.fr args).all zE then
   match cf k (first++zp q0.fr args++caps) q0.st with
   |some (.ret v,st')=>some (.ok {fr:=zHa q0.fr d v,bx:=q0.bx,st:=st'})
   |some (.pan v,st')=>if pk then some (.pan v st')else none
   |none=>none
   else none
  |_=>none:=ye rfl rfl
@[simp] theorem ro_callP(pk:Bool)(f:Arg)(args:List Arg):zI cf d (.callP pk f args) q0=
  match f.val q0.fr with
  | .fn k first caps=>
   if(zp q0.fr args).all zE&&zJ 0 (first++zp q0.fr args++caps)then
   match cf k (first++zp q0.fr args++caps) []with
   |some (.ret v,_)=>if zx 0 v then some (.ok {fr:=zHa q0.fr d v,bx:=q0.bx,st:=q0.st})else none
   |some (.pan v,_)=>if pk&&zx 0 v then some (.pan v q0.st)else none
   |none=>none
   else none
  |_=>none:=ye rfl rfl
@[simp] theorem ro_callR(f:Arg)(args:List Arg):zI cf d (.callR f args) q0=
  match f.val q0.fr with
  | .fn k first caps=>
   if(zp q0.fr args).all zE then
   match cf k (first++zp q0.fr args++caps) q0.st with
   |some (.ret v,st')=>if same st' q0.st then some (.ok {fr:=zHa q0.fr d v,bx:=q0.bx,st:=q0.st})else none
   |_=>none
   else none
  |_=>none:=ye rfl rfl
@[simp] theorem ro_callK(f:Arg)(args:List Arg):zI cf d (.callK f args) q0=
  match f.val q0.fr with
  | .fn k first caps=>
   if(zp q0.fr args).all zE then
   match cf k (first++zp q0.fr args++caps) q0.st with
   |some (.ret v,st')=>if sameBig st' q0.st then some (.ok {fr:=zHa q0.fr d v,bx:=q0.bx,st:=st'})else none
   |_=>none
   else none
  |_=>none:=ye rfl rfl
@[simp] theorem ro_loadB(ag:Bool)(sz:Nat)(a:Arg):zI cf d (.loadB ag sz a) q0=doOp d (IOp.takes (.loadB ag sz a)) (IOp.box? (.loadB ag sz a)) q0 (IOp.sem q0.fr (zZ q0.bx (IOp.box? (.loadB ag sz a))) q0.st (.loadB ag sz a)):=ye rfl rfl
@[simp] theorem so_loadB(ag:Bool)(sz:Nat)(a:Arg):IOp.sem fr b st (.loadB ag sz a)=(match a.val fr with
  | .ptr l i off=>(bigAt st l).bind fun es=>(es[i]?).bind fun e=>(zM ag sz (cellsOf e) off).map fun v=>(stripA v,b,st)
  |_=>none):=ye rfl rfl
end
@[simp] theorem av_bool(dead:List Nat)(b:Bool):zRc dead (.bool b)=true:=ye rfl rfl
@[simp] theorem av_int(dead:List Nat)(k:IntKind)(m:Int):zRc dead (.int k m)=true:=ye rfl rfl
@[simp] theorem av_str(dead:List Nat)(s:List UInt8):zRc dead (.str s)=true:=ye rfl rfl
@[simp] theorem av_ptr(dead:List Nat)(l i o:Nat):zRc dead (.ptr l i o)=true:=ye rfl rfl
@[simp] theorem av_slice(dead:List Nat)(k:SK)(z:Nat)(l:List PV):zRc dead (.slice k z l)=true:=ye rfl rfl
@[simp] theorem av_mslice(dead:List Nat)(l o n z:Nat):zRc dead (.mslice l o n z)=true:=ye rfl rfl
@[simp] theorem av_fn(dead:List Nat)(f:Nat)(a b:List PV):zRc dead (.fn f a b)=true:=ye rfl rfl
@[simp] theorem av_mp(dead:List Nat)(r:Nat):zRc dead (.mp r)=true:=ye rfl rfl
@[simp] theorem av_lptr(dead:List Nat)(k o:Nat):zRc dead (.lptr k o)= !dead.contains k:=ye rfl rfl
@[simp] theorem appendO_nil(sz bytes:Nat)(b:Bx)(st:zc)(x:Option (List PV))(s:Nat):appendO sz bytes b st x (.slice .fit s [])=if s=sz then
   x.bind fun l'=>if l'=[]then some (.slice .fit sz [],b,st)else if 0<l'.length/\l'.length*bytes<=zo then some (.mslice st.length 0 l'.length sz,b,st++[.arr sz l'])else none
  else none:=ye rfl rfl
@[simp] theorem appendO_ms(sz bytes:Nat)(b:Bx)(st:zc)(x:Option (List PV))(l k s:Nat)(h:0<k):appendO sz bytes b st x (.mslice l 0 k s)=if s=sz then
   (zlb st sz (.mslice l 0 k s)).bind fun l0=>x.bind fun l'=>
    if 0<l'.length/\(l0.length+l'.length)*bytes<=zo then some (.mslice st.length 0 (l0.length+l'.length) sz,b,st.set l (.dead sz)++[.arr sz (l0++l')])else none
  else none:=by
 cases k with
 |zero=>omega
 |succ n=>exact ye rfl rfl
@[simp] theorem appendS_own(sz bytes:Nat)(b:Bx)(st:zc)(x:Option (List PV))(s:Nat)(l:List PV):appendS sz bytes b st x (.slice .own s l)=(if s=sz then x.bind fun l'=>if(l.length+l'.length)*bytes<=zo then some (.slice .own sz (l++l'),b,st)else none else none):=ye rfl rfl
@[simp] theorem appendS_fit(sz bytes:Nat)(b:Bx)(st:zc)(x:Option (List PV))(s:Nat)(l:List PV):appendS sz bytes b st x (.slice .fit s l)=(if s=sz then x.bind fun l'=>if l'=[]then some (.slice .fit sz l,b,st)else if(l.length+l'.length)*bytes<=zo then some (.slice .own sz (l++l'),b,st)else none else none):=ye rfl rfl
@[simp] theorem avoids_nil(v:PV):zRc [] v=true:=by cases v<;>rfl
@[simp] theorem src_slice(st:zc)(sz z:Nat)(k:SK)(l:List PV):zlb st sz (.slice k z l)=if sz=z then some l else none:=ye rfl rfl
@[simp] theorem src_mslice(st:zc)(sz z l off len:Nat):zlb st sz (.mslice l off len z)=if sz=z then
   match st[l]? with
   |some (.arr s es)=>if s=sz&&off+len<=es.length then some (((es.drop off).take len).map stripA)else none
   |_=>none
  else none:=ye rfl rfl
def zva(x:Option (Ex×St))(Q:Ex->St->Prop):Prop:=match x with
 |some (e,s)=>Q e s
 |none=>False
@[simp] theorem holds_some(e:Ex)(s:St)(Q:Ex->St->Prop):zva (some (e,s)) Q=Q e s:=ye rfl rfl
theorem holds_iff{x:Option (Ex×St)}{Q:Ex->St->Prop}:zva x Q<->∃e s,x=some (e,s)/\Q e s:=by
 cases x with
 |none=>exact⟨fun h=>h.elim,fun⟨_,_,h,_⟩=>by cases h⟩
 |some q=>obtain⟨e,s⟩:=q;exact⟨fun h=>⟨e,s,rfl,h⟩,fun⟨_,_,h,h'⟩=>by cases h;exact h'⟩
theorem zva.mono{x:Option (Ex×St)}{Q R:Ex->St->Prop}(h:zva x Q)(hq:∀e s,Q e s->R e s):zva x R:=by
 cases x with
 |none=>exact h
 |some q=>obtain⟨e,s⟩:=q;exact hq e s h
def seqQ(k:St->Option (Ex×St))(Q:Ex->St->Prop):Ex->St->Prop
 | .normal,s=>zva (k s) Q
 |e,s=>Q e s
@[simp] theorem seqQ_normal(k:St->Option (Ex×St))(Q:Ex->St->Prop)(s:St):seqQ k Q .normal s=zva (k s) Q:=ye rfl rfl
@[simp] theorem seqQ_exit(k:St->Option (Ex×St))(Q:Ex->St->Prop)(s:St)(i:Nat):seqQ k Q (.exit i) s=Q (.exit i) s:=ye rfl rfl
@[simp] theorem seqQ_ret(k:St->Option (Ex×St))(Q:Ex->St->Prop)(s:St):seqQ k Q .ret s=Q .ret s:=ye rfl rfl
@[simp] theorem holds_thenSeq(k:St->Option (Ex×St))(x:Option (Ex×St))(Q:Ex->St->Prop):zva (thenSeq k x) Q=zva x (seqQ k Q):=by
 cases x with
 |none=>rfl
 |some q=>obtain⟨e,s⟩:=q;cases e<;>rfl
def blkQ(id:Nat)(Q:Ex->St->Prop):Ex->St->Prop
 | .exit i,s=>if i=id then Q .normal s else Q (.exit i) s
 |e,s=>Q e s
@[simp] theorem blkQ_normal(id:Nat)(Q:Ex->St->Prop)(s:St):blkQ id Q .normal s=Q .normal s:=ye rfl rfl
@[simp] theorem blkQ_exit(id i:Nat)(Q:Ex->St->Prop)(s:St):blkQ id Q (.exit i) s=if i=id then Q .normal s else Q (.exit i) s:=ye rfl rfl
@[simp] theorem blkQ_ret(id:Nat)(Q:Ex->St->Prop)(s:St):blkQ id Q .ret s=Q .ret s:=ye rfl rfl
@[simp] theorem holds_leaveBlock(id:Nat)(x:Option (Ex×St))(Q:Ex->St->Prop):zva (leaveBlock id x) Q=zva x (blkQ id Q):=by
 cases x with
 |none=>rfl
 |some q=>
  obtain⟨e,s⟩:=q;cases e<;>try rfl
  rename_i i;by_cases h:i=id<;>simp[leaveBlock,h]
noncomputable def wpS(cf:zL)(s0:St)(ops:List GOp)(s:St)(Q:Ex->St->Prop):Prop:=zva (regionEnd s0 (zOc cf ops s)) Q
def after(cf:zL)(s0:St)(r:List GOp)(Q:Ex->St->Prop):Option SR->Prop
 |some (.ok s')=>wpS cf s0 r s' Q
 |some (.pan v st)=>Q (.pan v) {s0 with st:=st}
 |none=>False
@[simp] theorem after_ok(cf:zL)(s0:St)(r:List GOp)(Q:Ex->St->Prop)(s:St):after cf s0 r Q (some (.ok s))=wpS cf s0 r s Q:=ye rfl rfl
@[simp] theorem wpS_nil(cf:zL)(s0 s:St)(Q:Ex->St->Prop):wpS cf s0 [] s Q=Q .normal s:=ye rfl rfl
noncomputable def zla(cf:zL)(w:Bool)(d:Option Nat)(o:IOp)(s:St):PV->Option SR
 | .bool b=>if b=w then zI cf d o s else some (.ok {s with fr:=zHa s.fr d (.tup [])})
 | .tup []=>some (.ok {s with fr:=zHa s.fr d (.tup [])})
 |_=>none
theorem step_guarded(cf:zL)(g:Nat)(w:Bool)(d:Option Nat)(o:IOp)(s:St):step cf ⟨some (g,w),d,o⟩ s=zla cf w d o s (s.fr g):=by
 simp only[step];generalize s.fr g=v;cases v<;>try rfl
 ·rename_i b;cases b<;>cases w<;>rfl
 ·rename_i l;cases l<;>rfl
@[simp] theorem wpS_free(cf:zL)(s0:St)(d:Option Nat)(o:IOp)(r:List GOp)(s:St)(Q:Ex->St->Prop):wpS cf s0 (⟨none,d,o⟩::r) s Q=after cf s0 r Q (zI cf d o s):=by
 have:step cf ⟨none,d,o⟩ s=zI cf d o s:=rfl;simp only[wpS,zOc,this];cases zI cf d o s with
 |none=>rfl
 |some q=>cases q<;>rfl
@[simp] theorem wpS_guard(cf:zL)(s0:St)(g:Nat)(w:Bool)(d:Option Nat)(o:IOp)(r:List GOp)(s:St)(Q:Ex->St->Prop):wpS cf s0 (⟨some (g,w),d,o⟩::r) s Q=after cf s0 r Q (zla cf w d o s (s.fr g)):=by
 simp only[wpS,zOc,step_guarded];cases zla cf w d o s (s.fr g)with
 |none=>rfl
 |some q=>cases q<;>rfl
@[simp] theorem guarded_tt(cf:zL)(d:Option Nat)(o:IOp)(s:St):zla cf true d o s (.bool true)=zI cf d o s:=ye rfl rfl
@[simp] theorem guarded_ff(cf:zL)(d:Option Nat)(o:IOp)(s:St):zla cf false d o s (.bool false)=zI cf d o s:=ye rfl rfl
@[simp] theorem guarded_tf(cf:zL)(d:Option Nat)(o:IOp)(s:St):zla cf true d o s (.bool false)=some (.ok {s with fr:=zHa s.fr d (.tup [])}):=ye rfl rfl
@[simp] theorem guarded_ft(cf:zL)(d:Option Nat)(o:IOp)(s:St):zla cf false d o s (.bool true)=some (.ok {s with fr:=zHa s.fr d (.tup [])}):=ye rfl rfl
@[simp] theorem guarded_nil(cf:zL)(w:Bool)(d:Option Nat)(o:IOp)(s:St):zla cf w d o s (.tup [])=some (.ok {s with fr:=zHa s.fr d (.tup [])}):=ye rfl rfl
theorem wp_region(cf:zL)(ops:List GOp)(s:St)(Q:Ex->St->Prop):zva (exec cf (.region ops) s) Q=wpS cf s ops s Q:=by
 rw[exec_region];rfl
theorem guard_split{cf:zL}{s0:St}{r:List GOp}{Q:Ex->St->Prop}{w:Bool}{d:Option Nat}{o:IOp}{s:St}(b:Bool)
  (h1:b=true->after cf s0 r Q (zla cf w d o s (.bool true))) (h2:b=false->after cf s0 r Q (zla cf w d o s (.bool false))):after cf s0 r Q (zla cf w d o s (.bool b)):=by
 cases b
 ·exact h2 rfl
 ·exact h1 rfl
theorem guard_splitP{cf:zL}{s0:St}{r:List GOp}{Q:Ex->St->Prop}{w:Bool}{d:Option Nat}{o:IOp}{s:St}(p:Prop)[Decidable p]
  (h1:p->after cf s0 r Q (zla cf w d o s (.bool true))) (h2:¬p->after cf s0 r Q (zla cf w d o s (.bool false))):after cf s0 r Q (zla cf w d o s (.bool (decide p))):=by
 by_cases h:p
 ·simpa[h]using h1 h
 ·simpa[h]using h2 h
noncomputable def condX(cf:zL)(a b:ICode)(s:St):PV->Option (Ex×St)
 | .bool true=>exec cf a s
 | .bool false=>exec cf b s
 |_=>none
@[simp] theorem condX_true(cf:zL)(a b:ICode)(s:St):condX cf a b s (.bool true)=exec cf a s:=ye rfl rfl
@[simp] theorem condX_false(cf:zL)(a b:ICode)(s:St):condX cf a b s (.bool false)=exec cf b s:=ye rfl rfl
@[simp] theorem wp_cond(cf:zL)(c:Arg)(a b:ICode)(s:St):exec cf (.cond c a b) s=condX cf a b s (c.val s.fr):=by
 rw[exec_cond];generalize c.val s.fr=v;cases v with
 |bool x=>cases x<;>rfl
 |_=>rfl
theorem cond_split{cf:zL}{x y:ICode}{s:St}{Q:Ex->St->Prop}(b:Bool)(h1:b=true->zva (exec cf x s) Q)(h2:b=false->zva (exec cf y s) Q):zva (condX cf x y s (.bool b)) Q:=by
 cases b
 ·exact h2 rfl
 ·exact h1 rfl
theorem cond_splitP{cf:zL}{x y:ICode}{s:St}{Q:Ex->St->Prop}(p:Prop)[Decidable p](h1:p->zva (exec cf x s) Q)(h2:¬p->zva (exec cf y s) Q):zva (condX cf x y s (.bool (decide p))) Q:=by
 by_cases h:p
 ·have:decide p=true:=decide_eq_true h;rw[this];exact h1 h
 ·have:decide p=false:=decide_eq_false h;rw[this];exact h2 h
theorem guard_splitN{cf:zL}{s0:St}{r:List GOp}{Q:Ex->St->Prop}{w:Bool}{d:Option Nat}{o:IOp}{s:St}(p:Prop)[Decidable p]
  (h1:¬p->after cf s0 r Q (zla cf w d o s (.bool true))) (h2:p->after cf s0 r Q (zla cf w d o s (.bool false))):after cf s0 r Q (zla cf w d o s (.bool (!decide p))):=by
 by_cases h:p
 ·simpa[h]using h2 h
 ·simpa[h]using h1 h
theorem guard_splitM{cf:zL}{s0:St}{r:List GOp}{Q:Ex->St->Prop}{w:Bool}{d:Option Nat}{o:IOp}{s:St}(b:Bool)
  (h1:b=false->after cf s0 r Q (zla cf w d o s (.bool true))) (h2:b=true->after cf s0 r Q (zla cf w d o s (.bool false))):after cf s0 r Q (zla cf w d o s (.bool (!b))):=by
 cases b
 ·exact h1 rfl
 ·exact h2 rfl
theorem cond_splitN{cf:zL}{x y:ICode}{s:St}{Q:Ex->St->Prop}(p:Prop)[Decidable p](h1:¬p->zva (exec cf x s) Q)(h2:p->zva (exec cf y s) Q):zva (condX cf x y s (.bool (!decide p))) Q:=by
 by_cases h:p
 ·have:decide p=true:=decide_eq_true h;rw[this];exact h2 h
 ·have:decide p=false:=decide_eq_false h;rw[this];exact h1 h
theorem cond_splitM{cf:zL}{x y:ICode}{s:St}{Q:Ex->St->Prop}(b:Bool)(h1:b=false->zva (exec cf x s) Q)(h2:b=true->zva (exec cf y s) Q):zva (condX cf x y s (.bool (!b))) Q:=by
 cases b
 ·exact h1 rfl
 ·exact h2 rfl
theorem sP{cf:zL}{x y:ICode}{s:St}{Q:Ex->St->Prop}(p:Prop)[Decidable p](h1:p->zva (exec cf x s) Q)(h2:¬p->zva (exec cf y s) Q):zva (condX cf x y s (.bool (decide p))) Q:=cond_splitP p h1 h2
theorem gP{cf:zL}{s0:St}{r:List GOp}{Q:Ex->St->Prop}{w:Bool}{d:Option Nat}{o:IOp}{s:St}(p:Prop)[Decidable p]
  (h1:p->after cf s0 r Q (zla cf w d o s (.bool true))) (h2:¬p->after cf s0 r Q (zla cf w d o s (.bool false))):after cf s0 r Q (zla cf w d o s (.bool (decide p))):=guard_splitP p h1 h2
theorem sN{cf:zL}{x y:ICode}{s:St}{Q:Ex->St->Prop}(p:Prop)[Decidable p](h1:¬p->zva (exec cf x s) Q)(h2:p->zva (exec cf y s) Q):zva (condX cf x y s (.bool (!decide p))) Q:=cond_splitN p h1 h2
theorem gN{cf:zL}{s0:St}{r:List GOp}{Q:Ex->St->Prop}{w:Bool}{d:Option Nat}{o:IOp}{s:St}(p:Prop)[Decidable p]
  (h1:¬p->after cf s0 r Q (zla cf w d o s (.bool true))) (h2:p->after cf s0 r Q (zla cf w d o s (.bool false))):after cf s0 r Q (zla cf w d o s (.bool (!decide p))):=guard_splitN p h1 h2
theorem sM{cf:zL}{x y:ICode}{s:St}{Q:Ex->St->Prop}(b:Bool)(h1:b=false->zva (exec cf x s) Q)(h2:b=true->zva (exec cf y s) Q):zva (condX cf x y s (.bool (!b))) Q:=cond_splitM b h1 h2
theorem gM{cf:zL}{s0:St}{r:List GOp}{Q:Ex->St->Prop}{w:Bool}{d:Option Nat}{o:IOp}{s:St}(b:Bool)
  (h1:b=false->after cf s0 r Q (zla cf w d o s (.bool true))) (h2:b=true->after cf s0 r Q (zla cf w d o s (.bool false))):after cf s0 r Q (zla cf w d o s (.bool (!b))):=guard_splitM b h1 h2
theorem sB{cf:zL}{x y:ICode}{s:St}{Q:Ex->St->Prop}(b:Bool)(h1:b=true->zva (exec cf x s) Q)(h2:b=false->zva (exec cf y s) Q):zva (condX cf x y s (.bool b)) Q:=cond_split b h1 h2
theorem gB{cf:zL}{s0:St}{r:List GOp}{Q:Ex->St->Prop}{w:Bool}{d:Option Nat}{o:IOp}{s:St}(b:Bool)
  (h1:b=true->after cf s0 r Q (zla cf w d o s (.bool true))) (h2:b=false->after cf s0 r Q (zla cf w d o s (.bool false))):after cf s0 r Q (zla cf w d o s (.bool b)):=guard_split b h1 h2
theorem eqp{p:Prop}(h:p):p=True:=eq_true h
theorem eqn{p:Prop}(h:¬p):p=False:=eq_false h
def loopQ(I:St->Prop)(Q:Ex->St->Prop):Ex->St->Prop
 | .normal,s=>I s
 |e,s=>Q e s
@[simp] theorem loopQ_normal(I:St->Prop)(Q:Ex->St->Prop)(s:St):loopQ I Q .normal s=I s:=ye rfl rfl
@[simp] theorem loopQ_exit(I:St->Prop)(Q:Ex->St->Prop)(s:St)(i:Nat):loopQ I Q (.exit i) s=Q (.exit i) s:=ye rfl rfl
@[simp] theorem loopQ_ret(I:St->Prop)(Q:Ex->St->Prop)(s:St):loopQ I Q .ret s=Q .ret s:=ye rfl rfl
def round(cf:zL)(keep dead:List Nat)(b:ICode)(s:St)(Q:Ex->St->Prop):Prop:=match havoc keep dead s with
 |some s0=>zva (exec cf b s0) Q
 |none=>False
theorem round_eq(cf:zL)(keep dead:List Nat)(b:ICode)(s:St)(Q:Ex->St->Prop):
  round cf keep dead b s Q=(keep.all (fun t=>zRc dead (s.fr t))=true/\zva (exec cf b {fr:=keepFr s.fr keep,bx:=dropBx s.bx dead,st:=s.st}) Q):=by
 unfold round havoc;generalize keep.all (fun t=>zRc dead (s.fr t))=c;cases c<;>simp
theorem holds_loop(cf:zL)(keep dead:List Nat)(b:ICode)(s:St)(Q:Ex->St->Prop):
  zva (exec cf (.loop keep dead b) s) Q=round cf keep dead b s (seqQ (exec cf (.loop keep dead b)) Q):=by
 rw[exec_loop];unfold round;cases havoc keep dead s with
 |none=>rfl
 |some s0=>exact holds_thenSeq _ _ _
theorem wp_loop{cf:zL}{keep dead:List Nat}{b:ICode}{Q:Ex->St->Prop}(I:Nat->St->Prop)
  (hstep:∀n s,I n s->round cf keep dead b s (loopQ (fun s'=>∃m,m<n/\I m s') Q)):∀n s,I n s->zva (exec cf (.loop keep dead b) s) Q:=by
 intro n
 induction n using yFa with
 |ind n ih=>
  intro s hI;rw[holds_loop];have h:=hstep n s hI;unfold round at h ⊢;cases hh:havoc keep dead s with
  |none=>rw[hh]at h;exact h
  |some s0=>
   rw[hh]at h;refine zva.mono h ?_;intro e s' h';cases e with
   |normal=>obtain⟨m,hm,hI'⟩:=h';exact ih m hm s' hI'
   |exit i=>exact h'
   |ret=>exact h'
   |pan v=>exact h'
theorem zj{n:Int}(h0: -9223372036854775808<=n)(h1:n<=9223372036854775807):zC .i64 n=n:=by
 rw[zCa];simp only[yEa,yja,IntKind.signed,yka];split
 ·rename_i h;have:=of_decide_eq_true h;omega
 ·rename_i h;have:¬(n%2^64>=2^(64-1)):=fun hh=>h (decide_eq_true hh)
  omega
theorem wp_list{α:Type}{cf:zL}{keep dead:List Nat}{b:ICode}{Q:Ex->St->Prop}{s:St}(l:List α)(I:List α->St->Prop)(hb:l.length<2^62)(h0:I [] s)
  (hstep:∀d x r s,l=d++x::r->(hlt:d.length<l.length)->l[d.length]? =some x->l[d.length]'hlt=x->zC .i64 ((d.length:Int)+1)=(d.length:Int)+1->I d s->round cf keep dead b s (loopQ (I (d++[x])) Q))
  (hend:∀s,I l s->round cf keep dead b s (loopQ (fun _=>False) Q)):zva (exec cf (.loop keep dead b) s) Q:=by
 have key:∀(r d:List α) (s:St),l=d++r->I d s->zva (exec cf (.loop keep dead b) s) Q:=by
  intro r
  induction r with
  |nil=>
   intro d s hl hI;rw[List.append_nil]at hl;subst hl;rw[holds_loop];have h:=hend s hI;unfold round at h ⊢;cases hh:havoc keep dead s with
   |none=>rw[hh]at h;exact h
   |some s0=>
    rw[hh]at h;refine zva.mono h ?_;intro e s' h';cases e with
    |normal=>exact h'.elim
    |exit i=>exact h'
    |ret=>exact h'
    |pan v=>exact h'
  |cons x r ih=>
   intro d s hl hI;rw[holds_loop];have h:=hstep d x r s hl (by rw[hl];simp) (by rw[hl];simp) (by simp[hl]) (zj (by omega) (by have:=congrArg yV hl;simp at this;omega)) hI;unfold round at h ⊢;cases hh:havoc keep dead s with
   |none=>rw[hh]at h;exact h
   |some s0=>
    rw[hh]at h;refine zva.mono h ?_;intro e s' h';cases e with
    |normal=>exact ih (d++[x]) s' (by simpa using hl) h'
    |exit i=>exact h'
    |ret=>exact h'
    |pan v=>exact h'
 exact key l [] s rfl h0
def Split{α:Type}(l d:List α)(x:α)(r:List α):Prop:=l=d++x::r
def kept(K B:List Nat)(s0 s:St):Prop:=(∀t∈K,s.fr t=s0.fr t)/\(∀k∈B,s.bx k=s0.bx k)
def has(V:List (Nat×PV))(s:St):Prop:=∀p∈V,s.fr p.1=p.2
@[simp] theorem kept_eq(K B:List Nat)(s0 s:St):kept K B s0 s=((∀t∈K,s.fr t=s0.fr t)/\(∀k∈B,s.bx k=s0.bx k)):=ye rfl rfl
@[simp] theorem has_nil(s:St):has [] s=True:=by simp[has]
@[simp] theorem has_cons(t:Nat)(v:PV)(V:List (Nat×PV))(s:St):has ((t,v)::V) s=(s.fr t=v/\has V s):=by simp[has]
def hasB(W:List (Nat×Bx))(s:St):Prop:=∀p∈W,s.bx p.1=p.2
@[simp] theorem hasB_nil(s:St):hasB [] s=True:=by simp[hasB]
@[simp] theorem hasB_cons(t:Nat)(v:Bx)(W:List (Nat×Bx))(s:St):hasB ((t,v)::W) s=(s.bx t=v/\hasB W s):=by simp[hasB]
def Inv(K B:List Nat)(s0:St)(V:List (Nat×PV))(W:List (Nat×Bx))(σ:zc)(P:Prop)(s:St):Prop:=kept K B s0 s/\has V s/\hasB W s/\s.st=σ/\P
@[simp] theorem Inv_eq(K B:List Nat)(s0:St)(V:List (Nat×PV))(W:List (Nat×Bx))(σ:zc)(P:Prop)(s:St):Inv K B s0 V W σ P s=(kept K B s0 s/\has V s/\hasB W s/\s.st=σ/\P):=ye rfl rfl
theorem zhe{α:Type}{cf:zL}{keep dead:List Nat}{b:ICode}{Q:Ex->St->Prop}{s0:St}(l:List α)(K B:List Nat)(V:List α->List (Nat×PV))(W:List α->List (Nat×Bx))(σ:List α->zc)(P:List α->Prop)
  (hb:l.length<2^62) (h0:has (V []) s0/\hasB (W []) s0/\s0.st=σ []/\P [])
  (hstep:∀d x r s,Split l d x r->(hlt:d.length<l.length)->l[d.length]? =some x->l[d.length]'hlt=x->zC .i64 ((d.length:Int)+1)=(d.length:Int)+1->P d→
   (∀t∈K,s.fr t=s0.fr t)->(∀k∈B,s.bx k=s0.bx k)->has (V d) s->hasB (W d) s->s.st=σ d->round cf keep dead b s (loopQ (Inv K B s0 (V (d++[x])) (W (d++[x])) (σ (d++[x])) (P (d++[x]))) Q))
  (hend:∀s,P l->(∀t∈K,s.fr t=s0.fr t)->(∀k∈B,s.bx k=s0.bx k)->has (V l) s->hasB (W l) s->s.st=σ l->round cf keep dead b s (loopQ (fun _=>False) Q)):zva (exec cf (.loop keep dead b) s0) Q:=by
 refine wp_list l (fun d s=>Inv K B s0 (V d) (W d) (σ d) (P d) s) hb ?_ ?_ ?_
 ·exact⟨⟨fun _ _=>rfl,fun _ _=>rfl⟩,h0⟩
 ·rintro d x r s hl hlt hg hg' hw ⟨⟨h1,h2⟩,h3,h3',h4,h5⟩
  exact hstep d x r s hl hlt hg hg' hw h5 h1 h2 h3 h3' h4
 ·rintro s ⟨⟨h1,h2⟩,h3,h3',h4,h5⟩
  exact hend s h5 h1 h2 h3 h3' h4
theorem zG{α:Type}{cf:zL}{keep dead:List Nat}{b:ICode}{Q:Ex->St->Prop}{s0:St}(l:List α)(K B:List Nat)(V:List α->List (Nat×PV))(σ:List α->zc)(P:List α->Prop)
  (hb:l.length<2^62) (h0:has (V []) s0/\s0.st=σ []/\P [])
  (hstep:∀d x r s,Split l d x r->(hlt:d.length<l.length)->l[d.length]? =some x->l[d.length]'hlt=x->zC .i64 ((d.length:Int)+1)=(d.length:Int)+1->P d→
   (∀t∈K,s.fr t=s0.fr t)->(∀k∈B,s.bx k=s0.bx k)->has (V d) s->s.st=σ d->round cf keep dead b s (loopQ (Inv K B s0 (V (d++[x])) [] (σ (d++[x])) (P (d++[x]))) Q))
  (hend:∀s,P l->(∀t∈K,s.fr t=s0.fr t)->(∀k∈B,s.bx k=s0.bx k)->has (V l) s->s.st=σ l->round cf keep dead b s (loopQ (fun _=>False) Q)):zva (exec cf (.loop keep dead b) s0) Q:=
 zhe l K B V (fun _=>[]) σ P hb ⟨h0.1,by simp,h0.2⟩ (fun d x r s a1 a2 a3 a4 a5 a6 a7 a8 a9 _ a10=>hstep d x r s a1 a2 a3 a4 a5 a6 a7 a8 a9 a10) (fun s a1 a2 a3 a4 _ a5=>hend s a1 a2 a3 a4 a5)
theorem zha{β:Type}{cf:zL}{keep dead:List Nat}{b:ICode}{Q:Ex->St->Prop}{s0:St}(K B:List Nat)(μ:β->Nat)(V:β->List (Nat×PV))(W:β->List (Nat×Bx))(σ:β->zc)(P:β->Prop)(c0:β)
  (h0:has (V c0) s0/\hasB (W c0) s0/\s0.st=σ c0/\P c0)
  (hstep:∀c s,P c->(∀t∈K,s.fr t=s0.fr t)->(∀k∈B,s.bx k=s0.bx k)->has (V c) s->hasB (W c) s->s.st=σ c→
   round cf keep dead b s (loopQ (fun s'=>∃c',μ c'<μ c/\Inv K B s0 (V c') (W c') (σ c') (P c') s') Q)):zva (exec cf (.loop keep dead b) s0) Q:=by
 refine wp_loop (fun n s=>∃c,μ c=n/\Inv K B s0 (V c) (W c) (σ c) (P c) s) ?_ (μ c0) s0 ⟨c0,rfl,⟨fun _ _=>rfl,fun _ _=>rfl⟩,h0⟩
 rintro n s ⟨c,rfl,⟨h1,h2⟩,h3,h3',h4,h5⟩
 have h:=hstep c s h5 h1 h2 h3 h3' h4;unfold round at h ⊢;cases hh:havoc keep dead s with
 |none=>rw[hh]at h;exact h
 |some s1=>
  rw[hh]at h;refine zva.mono h ?_;intro e s' h';cases e with
  |normal=>obtain⟨c',q1,q2⟩:=h';exact⟨μ c',q1,c',rfl,q2⟩
  |exit i=>exact h'
  |ret=>exact h'
  |pan v=>exact h'
def PC(x:Option (CRes×zc))(R:CRes->zc->Prop):Prop:=match x with
 |some (r,st)=>R r st
 |none=>False
theorem zee{x:Option (CRes×zc)}{R:CRes->zc->Prop}:PC x R<->∃r st,x=some (r,st)/\R r st:=by
 cases x with
 |none=>exact⟨fun h=>h.elim,fun⟨_,_,h,_⟩=>by cases h⟩
 |some q=>obtain⟨e,s⟩:=q;exact⟨fun h=>⟨e,s,rfl,h⟩,fun⟨_,_,h,h'⟩=>by cases h;exact h'⟩
def fin(res:List IRes)(fz:Bool)(n:Nat)(s:St):Option (CRes×zc):=
 match zve s res with
 |none=>none
 |some vs=>if vs.all zE then
   if fz then
    if zJ n (vs.map (zdd n s.st))&&zc.wf n (s.st.take n)&&decide (n<=s.st.length)then some (.ret (zpe (vs.map (zdd n s.st))),s.st.take n)else none
   else some (.ret (zpe vs),s.st)
  else none
def finPan(fz:Bool)(n:Nat)(v:PV)(s:St):Option (CRes×zc):=
 if fz then
  if zx n v&&zc.wf n (s.st.take n)&&decide (n<=s.st.length)then some (.pan v,s.st.take n)else none
 else some (.pan v,s.st)
def leaveQ(res:List IRes)(fz:Bool)(n:Nat)(R:CRes->zc->Prop):Ex->St->Prop
 | .normal,s=>PC (fin res fz n s) R
 | .ret,s=>PC (fin res fz n s) R
 | .pan v,s=>PC (finPan fz n v s) R
 |_,_=>False
section
variable (res:List IRes) (fz:Bool) (n:Nat) (R:CRes->zc->Prop) (s:St)
@[simp] theorem leaveQ_normal:leaveQ res fz n R .normal s=PC (fin res fz n s) R:=ye rfl rfl
@[simp] theorem leaveQ_ret:leaveQ res fz n R .ret s=PC (fin res fz n s) R:=ye rfl rfl
@[simp] theorem fin_false:fin res false n s=match zve s res with
 |none=>none
 |some vs=>if vs.all zE then some (.ret (zpe vs),s.st)else none:=ye rfl rfl
@[simp] theorem PC_some(r:CRes)(st:zc):PC (some (r,st)) R=R r st:=ye rfl rfl
end
def finD(res:List IRes)(n:Nat)(s:St):Option (CRes×zc):=
 match zve s res with
 |none=>none
 |some vs=>if vs.all zE then
   if zJ n (vs.map (zR 12 n s.st))&&zc.wf n (s.st.take n)&&decide (n<=s.st.length)then some (.ret (zpe (vs.map (zR 12 n s.st))),s.st.take n)else none
  else none
def leaveD(res:List IRes)(n:Nat)(R:CRes->zc->Prop):Ex->St->Prop
 | .normal,s=>PC (finD res n s) R
 | .ret,s=>PC (finD res n s) R
 | .pan v,s=>PC (finPan true n v s) R
 |_,_=>False
section
variable (res:List IRes) (n:Nat) (R:CRes->zc->Prop) (s:St)
@[simp] theorem leaveD_ret:leaveD res n R .ret s=PC (finD res n s) R:=ye rfl rfl
end
theorem zqa{E:Env}{f:Nat}{F:IFn}{args:List PV}{st:zc}{R:CRes->zc->Prop}(hx:E.ext f=none)(hf:E.fn f=some F)(hl:args.length=F.nargs)(hv:args.all zE=true)
  (h:zva (exec (zi E) F.body {fr:=frOf args 0,bx:=fun _=> .no,st:=st}) (leaveQ F.res F.freeze st.length R)) (hh:E.hand f=none:=by rfl) (hd:F.deep=false:=by rfl):PC (zi E f args st) R:=by
 rw[holds_iff]at h;obtain⟨e,s,h1,h2⟩:=h;have h3:PC (leave F st.length (some (e,s))) R:=by
  cases e with
  |normal=>show PC (zwe F st.length s) R;unfold zwe;rw[hd];exact h2
  |ret=>show PC (zwe F st.length s) R;unfold zwe;rw[hd];exact h2
  |pan v=>exact h2
  |exit i=>exact h2.elim
 rw[zee]at h3;obtain⟨r,st',h4,h5⟩:=h3;rw[pcall_body hx hf hl hv hh (by rw[h1];exact h4)];exact h5
theorem pcall_wpDP{E:Env}{f:Nat}{F:IFn}{args:List PV}{st:zc}{R:CRes->zc->Prop}(hx:E.ext f=none)(hf:E.fn f=some F)(hl:args.length=F.nargs)(hv:args.all zE=true)
  (h:zva (exec (zi E) F.body {fr:=frOf args 0,bx:=fun _=> .no,st:=st}) (leaveD F.res st.length R)) (hh:E.hand f=none:=by rfl) (hz:F.freeze=true:=by rfl) (hd:F.deep=true:=by rfl):PC (zi E f args st) R:=by
 rw[holds_iff]at h;obtain⟨e,s,h1,h2⟩:=h;have h3:PC (leave F st.length (some (e,s))) R:=by
  cases e with
  |normal=>show PC (zwe F st.length s) R;unfold zwe;rw[hd,hz];exact h2
  |ret=>show PC (zwe F st.length s) R;unfold zwe;rw[hd,hz];exact h2
  |pan v=>show PC (finishPan F st.length v s) R;unfold finishPan;rw[hz];exact h2
  |exit i=>exact h2.elim
 rw[zee]at h3;obtain⟨r,st',h4,h5⟩:=h3;rw[pcall_body hx hf hl hv hh (by rw[h1];exact h4)];exact h5
def isR(r:CRes×zc):CRes->zc->Prop:=fun r' st'=>r'=r.1/\st'=r.2
theorem zd{E:Env}{f:Nat}{F:IFn}{args:List PV}{st:zc}{r:CRes×zc}(hx:E.ext f=none)(hf:E.fn f=some F)(hl:args.length=F.nargs)(hv:args.all zE=true)
  (h:zva (exec (zi E) F.body {fr:=frOf args 0,bx:=fun _=> .no,st:=st}) (leaveQ F.res F.freeze st.length (isR r))) (hh:E.hand f=none:=by rfl) (hd:F.deep=false:=by rfl):zi E f args st=some r:=by
 have h1:=zqa (R:=isR r) hx hf hl hv h hh hd;rw[zee]at h1;obtain⟨r',st',e,q1,q2⟩:=h1;rw[e,q1,q2]
theorem pcall_wpD{E:Env}{f:Nat}{F:IFn}{args:List PV}{st:zc}{r:CRes×zc}(hx:E.ext f=none)(hf:E.fn f=some F)(hl:args.length=F.nargs)(hv:args.all zE=true)
  (h:zva (exec (zi E) F.body {fr:=frOf args 0,bx:=fun _=> .no,st:=st}) (leaveD F.res st.length (isR r))) (hh:E.hand f=none:=by rfl) (hz:F.freeze=true:=by rfl) (hd:F.deep=true:=by rfl):zi E f args st=some r:=by
 have h1:=pcall_wpDP (R:=isR r) hx hf hl hv h hh hz hd;rw[zee]at h1;obtain⟨r',st',e,q1,q2⟩:=h1;rw[e,q1,q2]
@[simp] theorem isR_mk(r r':CRes)(st st':zc):isR (r,st) r' st'=(r'=r/\st'=st):=ye rfl rfl
attribute [simp] wp_region round_eq
section
variable (n:Nat)
@[simp] theorem below_bool(b:Bool):zx n (.bool b)=true:=ye rfl rfl
@[simp] theorem below_int(k:IntKind)(m:Int):zx n (.int k m)=true:=ye rfl rfl
@[simp] theorem below_str(m:List UInt8):zx n (.str m)=true:=ye rfl rfl
@[simp] theorem below_ptr(l i o:Nat):zx n (.ptr l i o)=decide (l<n):=ye rfl rfl
@[simp] theorem below_mslice(l i o z:Nat):zx n (.mslice l i o z)=decide (l<n):=ye rfl rfl
@[simp] theorem below_mp(l:Nat):zx n (.mp l)=decide (l<n):=ye rfl rfl
@[simp] theorem below_iptr(l:List PV)(o:Nat):zx n (.iptr l o)=zJ n l:=ye rfl rfl
@[simp] theorem below_slice(k:SK)(z:Nat)(l:List PV):zx n (.slice k z l)=zJ n l:=ye rfl rfl
@[simp] theorem below_agg(l:List PV):zx n (.agg l)=zJ n l:=ye rfl rfl
@[simp] theorem below_tup(l:List PV):zx n (.tup l)=zJ n l:=ye rfl rfl
@[simp] theorem below_fn(f:Nat)(a b:List PV):zx n (.fn f a b)=(zJ n a&&zJ n b):=ye rfl rfl
@[simp] theorem below_nilif:zx n .nilif=true:=ye rfl rfl
@[simp] theorem below_iface(t:Nat)(v:PV):zx n (.iface t v)=zx n v:=ye rfl rfl
@[simp] theorem belowL_nil:zJ n []=true:=ye rfl rfl
@[simp] theorem belowL_cons(v:PV)(l:List PV):zJ n (v::l)=(zx n v&&zJ n l):=ye rfl rfl
end
@[simp] theorem zab{α:Type}(n:Nat)(f:α->PV)(l:List α)(h:∀x,zx n (f x)=true):zJ n (l.map f)=true:=by
 induction l with
 |nil=>rfl
 |cons x r ih=>simp[h,ih]
@[simp] theorem belowL_append(n:Nat)(a b:List PV):zJ n (a++b)=(zJ n a&&zJ n b):=by
 induction a with
 |nil=>simp
 |cons x r ih=>simp[ih,Bool.and_assoc]
theorem Split.mem{α:Type}{l d:List α}{x:α}{r:List α}(h:Split l d x r):x∈l:=by
 have h:l=d++x::r:=h;rw[h];simp
theorem Split.eq{α:Type}{l d:List α}{x:α}{r:List α}(h:Split l d x r):l=d++x::r:=h
theorem byte_lt(b:UInt8):(b.toNat:Int)<256:=by
 have:=b.toNat_lt;omega
@[simp] theorem wrapK_byte(k:IntKind)(h:k≠ .i8)(b:UInt8):zC k b.toNat=b.toNat:=by
 have:=byte_lt b;have h0:(0:Int)<=b.toNat:=by omega
 rw[zCa];cases k<;>first|exact absurd rfl h|(simp only[yEa,yja,IntKind.signed,yka,Bool.false_and];split<;>rename_i h<;>first|omega|(have:=of_decide_eq_true h;omega)|(exact absurd h (by simp)))
section
variable (n:Nat) (st:zc)
@[simp] theorem frA_bool(b:Bool):zdd n st (.bool b)=(.bool b):=ye rfl rfl
@[simp] theorem fr1_int(k:IntKind)(m:Int):zDe n st (.int k m)=(.int k m):=ye rfl rfl
@[simp] theorem frA_int(k:IntKind)(m:Int):zdd n st (.int k m)=(.int k m):=ye rfl rfl
@[simp] theorem fr1_slice(k:SK)(z:Nat)(l:List PV):zDe n st (.slice k z l)=(.slice k z l):=ye rfl rfl
@[simp] theorem frA_slice(k:SK)(z:Nat)(l:List PV):zdd n st (.slice k z l)=(.slice k z l):=ye rfl rfl
@[simp] theorem frA_agg(l:List PV):zdd n st (.agg l)= .agg (l.map (zDe n st)):=ye rfl rfl
theorem frA_mslice(l o k z:Nat):zdd n st (.mslice l o k z)=zDe n st (.mslice l o k z):=ye rfl rfl
theorem fr1_mslice(l o k z:Nat):zDe n st (.mslice l o k z)=if n<=l then
   match st[l]? with
   |some (.arr s es)=>if s=z/\o+k<=es.length then .slice .plain z (((es.drop o).take k).map stripA)else .mslice l o k z
   |_=> .mslice l o k z
  else .mslice l o k z:=ye rfl rfl
end
@[simp] theorem fin_true0(res:List IRes)(s:St):fin res true 0 s=match zve s res with
 |none=>none
 |some vs=>if vs.all zE then if zJ 0 (vs.map (zdd 0 s.st))then some (.ret (zpe (vs.map (zdd 0 s.st))),[])else none else none:=by
 unfold fin;cases zve s res with
 |none=>rfl
 |some vs=>simp[zc.wf]
def acc(sz:Nat)(l:List PV):PV:=match l with
 | []=> .slice .fit sz []
 |x::r=> .slice .own sz (x::r)
@[simp] theorem acc_nil(sz:Nat):acc sz []= .slice .fit sz []:=ye rfl rfl
@[simp] theorem acc_cons(sz:Nat)(x:PV)(r:List PV):acc sz (x::r)= .slice .own sz (x::r):=ye rfl rfl
theorem acc_ne{sz:Nat}{l:List PV}(h:l≠ []):acc sz l= .slice .own sz l:=by cases l<;>first|exact absurd rfl h|rfl
@[simp] theorem canon1_acc(sz:Nat)(l:List PV):canon1 (acc sz l)= .slice .plain sz l:=by cases l<;>rfl
@[simp] theorem stripA_acc(sz:Nat)(l:List PV):stripA (acc sz l)= .slice .plain sz l:=by cases l<;>rfl
@[simp] theorem avoids_acc(dead:List Nat)(sz:Nat)(l:List PV):zRc dead (acc sz l)=true:=by cases l<;>rfl
@[simp] theorem appendS_acc(sz bytes:Nat)(b:Bx)(st:zc)(l l':List PV)(h:(l.length+l'.length)*bytes<=zo):appendS sz bytes b st (some l') (acc sz l)=some (acc sz (l++l'),b,st):=by
 cases l with
 |nil=>
  cases l' with
  |nil=>simp
  |cons y r=>
   simp at h;simp;exact h
 |cons x r=>simp at h;simp;exact h
@[simp high] theorem appendS_nil(sz bytes:Nat)(b:Bx)(st:zc)(l':List PV)(h:l'.length*bytes<=zo):appendS sz bytes b st (some l') (.slice .fit sz [])=some (acc sz l',b,st):=by
 have:=appendS_acc sz bytes b st [] l' (by simpa using h);simpa using this
@[simp] theorem stripA_sacc(sz:Nat)(l:List PV):stripA (strip (acc sz l))= .slice .plain sz l:=by cases l<;>rfl
end PE

namespace PE.U
open Go PE
structure Tok where
 kind:Int
 text:List UInt8
 line:Int
 deriving DecidableEq
structure Expr where
 kind:Int
 op:Int
 n:Int
 name:List UInt8
 args:List Expr
structure Stmt where
 kind:Int
 type:Int
 name:List UInt8
 args:List Expr
 thn:List Stmt
 els:List Stmt
structure Par where
 name:List UInt8
 type:Int
structure Func where
 name:List UInt8
 type:Int
 params:List Par
 body:List Stmt
structure PArr where
 name:List UInt8
 size:Int
structure Prog where
 arrays:List PArr
 funcs:List Func
def zA(t:Tok):PV:= .agg [.int .i64 t.kind,.str t.text,.int .i64 t.line]
def toks(l:List Tok):PV:= .slice .plain 3 (l.map zA)
mutual
def zn:Expr->PV
 |⟨k,o,n,s,a⟩=> .agg [.int .i64 k,.int .i64 o,.int .i64 n,.str s,.slice .plain 5 (encEs a)]
def encEs:List Expr->List PV
 | []=>[]
 |x::r=>zn x::encEs r
end
theorem encEs_eq(l:List Expr):encEs l=l.map zn:=by
 induction l with
 |nil=>rfl
 |cons x r ih=>rw[encEs,ih];rfl
def ze(l:List Expr):PV:= .slice .plain 5 (l.map zn)
theorem za(x:Expr):zn x= .agg [.int .i64 x.kind,.int .i64 x.op,.int .i64 x.n,.str x.name,ze x.args]:=by
 cases x;simp[zn,encEs_eq,ze]
mutual
def zw:Stmt->PV
 |⟨k,t,s,a,th,el⟩=> .agg [.int .i64 k,.int .i64 t,.str s,ze a,.slice .plain 6 (encSs th),.slice .plain 6 (encSs el)]
def encSs:List Stmt->List PV
 | []=>[]
 |x::r=>zw x::encSs r
end
theorem encSs_eq(l:List Stmt):encSs l=l.map zw:=by
 induction l with
 |nil=>rfl
 |cons x r ih=>rw[encSs,ih];rfl
def zg(l:List Stmt):PV:= .slice .plain 6 (l.map zw)
theorem zb(x:Stmt):zw x= .agg [.int .i64 x.kind,.int .i64 x.type,.str x.name,ze x.args,zg x.thn,zg x.els]:=by
 cases x;simp[zw,encSs_eq,zg]
def encPar(p:Par):PV:= .agg [.str p.name,.int .i64 p.type]
def parsV(l:List Par):PV:= .slice .plain 2 (l.map encPar)
def zl(f:Func):PV:= .agg [.str f.name,.int .i64 f.type,parsV f.params,zg f.body]
def funcs(l:List Func):PV:= .slice .plain 4 (l.map zl)
def zK(a:PArr):PV:= .agg [.str a.name,.int .i64 a.size]
def zia(l:List PArr):PV:= .slice .plain 2 (l.map zK)
def zf(p:Prog):PV:= .agg [zia p.arrays,funcs p.funcs]
mutual
theorem flatE(k:Nat):∀x:Expr,zx k (zn x)=true
 |⟨_,_,_,_,a⟩=>by simp[zn,flatEs k a]
theorem flatEs(k:Nat):∀l:List Expr,zJ k (encEs l)=true
 | []=>rfl
 |x::r=>by simp[encEs,flatE k x,flatEs k r]
end
theorem flat_exprs(k:Nat)(l:List Expr):zx k (ze l)=true:=by
 have:=flatEs k l;rw[encEs_eq]at this;simpa[ze]using this
mutual
theorem flatS(k:Nat):∀x:Stmt,zx k (zw x)=true
 |⟨_,_,_,a,th,el⟩=>by simp[zw,flat_exprs,flatSs k th,flatSs k el]
theorem flatSs(k:Nat):∀l:List Stmt,zJ k (encSs l)=true
 | []=>rfl
 |x::r=>by simp[encSs,flatS k x,flatSs k r]
end
section
variable (k:Nat)
@[simp high] theorem pl_tok(l:List Tok):zJ k (l.map zA)=true:=zab _ _ _ (fun x=>by simp[zA])
@[simp high] theorem pl_expr(l:List Expr):zJ k (l.map zn)=true:=zab _ _ _ (flatE k)
@[simp high] theorem pl_stmt(l:List Stmt):zJ k (l.map zw)=true:=zab _ _ _ (flatS k)
@[simp high] theorem pl_par(l:List Par):zJ k (l.map encPar)=true:=zab _ _ _ (fun x=>by simp[encPar])
@[simp high] theorem pl_parr(l:List PArr):zJ k (l.map zK)=true:=zab _ _ _ (fun x=>by simp[zK])
@[simp] theorem fl_stmts(l:List Stmt):zx k (zg l)=true:=by simp[zg]
@[simp] theorem fl_pars(l:List Par):zx k (parsV l)=true:=by simp[parsV]
@[simp] theorem fl_func(x:Func):zx k (zl x)=true:=by simp[zl]
@[simp high] theorem pl_func(l:List Func):zJ k (l.map zl)=true:=zab _ _ _ (fl_func k)
@[simp] theorem fl_funcs(l:List Func):zx k (funcs l)=true:=by simp[funcs]
@[simp] theorem fl_parrs(l:List PArr):zx k (zia l)=true:=by simp[zia]
end
section
end
section
@[simp high] theorem canon1_exprs(l:List Expr):canon1 (ze l)=ze l:=ye rfl rfl
end
section
@[simp high] theorem isVar_stmts(l:List Stmt):zE (zg l)=true:=ye rfl rfl
@[simp high] theorem canon1_stmts(l:List Stmt):canon1 (zg l)=zg l:=ye rfl rfl
@[simp high] theorem stripA_stmts(l:List Stmt):stripA (zg l)=zg l:=ye rfl rfl
end
section
@[simp high] theorem isVar_parsV(l:List Par):zE (parsV l)=true:=ye rfl rfl
@[simp high] theorem canon1_parsV(l:List Par):canon1 (parsV l)=parsV l:=ye rfl rfl
@[simp high] theorem strip_parsV(l:List Par):strip (parsV l)=parsV l:=ye rfl rfl
@[simp high] theorem stripA_parsV(l:List Par):stripA (parsV l)=parsV l:=ye rfl rfl
end
section
@[simp high] theorem canon1_funcs(l:List Func):canon1 (funcs l)=funcs l:=ye rfl rfl
end
section
@[simp high] theorem canon1_parrs(l:List PArr):canon1 (zia l)=zia l:=ye rfl rfl
end
mutual
def wtE:Expr->Nat
 |⟨_,_,_,s,a⟩=>1+s.length+wtEs a
def wtEs:List Expr->Nat
 | []=>0
 |x::r=>1+wtE x+wtEs r
end
mutual
def wtS:Stmt->Nat
 |⟨_,_,s,a,th,el⟩=>1+s.length+wtEs a+wtSs th+wtSs el
def wtSs:List Stmt->Nat
 | []=>0
 |x::r=>1+wtS x+wtSs r
end
theorem zvd(x:Expr):wtE x=1+x.name.length+wtEs x.args:=by cases x;rfl
theorem zta(x:Stmt):wtS x=1+x.name.length+wtEs x.args+wtSs x.thn+wtSs x.els:=by cases x;rfl
theorem wtEs_append(a b:List Expr):wtEs (a++b)=wtEs a+wtEs b:=by
 induction a with
 |nil=>simp[wtEs]
 |cons x r ih=>simp[wtEs,ih];omega
theorem zJd(a b:List Stmt):wtSs (a++b)=wtSs a+wtSs b:=by
 induction a with
 |nil=>simp[wtSs]
 |cons x r ih=>simp[wtSs,ih];omega
theorem zXb(l:List Expr):l.length<=wtEs l:=by
 induction l with
 |nil=>simp
 |cons x r ih=>simp[wtEs];omega
theorem zra(l:List Stmt):l.length<=wtSs l:=by
 induction l with
 |nil=>simp
 |cons x r ih=>simp[wtSs];omega
theorem zAb{x:Expr}{l:List Expr}(h:x∈l):wtE x+1<=wtEs l:=by
 induction l with
 |nil=>cases h
 |cons y r ih=>
  simp only[wtEs];rcases yw.1 h with rfl|h
  ·omega
  ·have:=ih h;omega
theorem zSc{x:Stmt}{l:List Stmt}(h:x∈l):wtS x+1<=wtSs l:=by
 induction l with
 |nil=>cases h
 |cons y r ih=>
  simp only[wtSs];rcases yw.1 h with rfl|h
  ·omega
  ·have:=ih h;omega
structure Node where
 kind:Int
 op:Int
 n:Int
 name:List UInt8
 args:List Int
 outs:List Int
 params:List Int
 kids:List (List Node)
structure Flow where
 name:List UInt8
 type:Int
 params:Int
 types:List Int
 body:List Node
structure Arr where
 name:List UInt8
 size:Int
structure Unt where
 arrays:List Arr
 flows:List Flow
abbrev int(n:Int):PV:= .int .i64 n
def ints(l:List Int):PV:= .slice .plain 1 (l.map (PV.int .i64))
mutual
def encNode:Node->PV
 |⟨k,o,n,s,a,u,p,ks⟩=> .agg [.int .i64 k,.int .i64 o,.int .i64 n,.str s,ints a,ints u,ints p,.slice .plain 1 (encK ks)]
def encL:List Node->List PV
 | []=>[]
 |x::r=>encNode x::encL r
def encK:List (List Node)->List PV
 | []=>[]
 |l::r=> .slice .plain 8 (encL l)::encK r
end
def nodes(l:List Node):PV:= .slice .plain 8 (l.map encNode)
def kids(l:List (List Node)):PV:= .slice .plain 1 (l.map nodes)
def encFlow(f:Flow):PV:= .agg [.str f.name,.int .i64 f.type,.int .i64 f.params,ints f.types,nodes f.body]
def encArr(a:Arr):PV:= .agg [.str a.name,.int .i64 a.size]
def flows(l:List Flow):PV:= .slice .plain 5 (l.map encFlow)
def arrs(l:List Arr):PV:= .slice .plain 2 (l.map encArr)
section
variable (k:Nat)
@[simp] theorem flat_ints(l:List Int):zx k (ints l)=true:=by simp[ints]
end
section
variable (n:Nat)
@[simp high] theorem bl_int(l:List Int):zJ n (l.map (PV.int .i64))=true:=zab _ _ _ (fun _=>rfl)
end
section
@[simp high] theorem isVar_ints(l:List Int):zE (ints l)=true:=ye rfl rfl
@[simp high] theorem stripA_ints(l:List Int):stripA (ints l)=ints l:=ye rfl rfl
end
end PE.U

namespace PE
open Go
@[simp] def cI(n:Int):Arg:= .c (.int .i64 n)
@[simp] def oM(a b:Nat):GOp:=⟨none,some a,.mv (.t b)⟩
@[simp] def oC(a:Nat)(v:PV):GOp:=⟨none,some a,.mv (.c v)⟩
@[simp] def oO(a:Nat)(x:IOp):GOp:=⟨none,some a,x⟩
@[simp] def oN(x:IOp):GOp:=⟨none,none,x⟩
@[simp] def oT(g a:Nat)(x:IOp):GOp:=⟨some (g,true),some a,x⟩
@[simp] def oF(g a:Nat)(x:IOp):GOp:=⟨some (g,false),some a,x⟩
@[simp] def oA(a off t:Nat):GOp:=⟨none,some a,.faddr off (.t t)⟩
@[simp] def oX(a t i:Nat):GOp:=⟨none,some a,.ext (.t t) i⟩
@[simp] def oL(a k t:Nat):GOp:=⟨none,some a,.load (.box k) false 1 (.t t)⟩
@[simp] def oLa(a k sz t:Nat):GOp:=⟨none,some a,.load (.box k) true sz (.t t)⟩
@[simp] def oG(a t:Nat):GOp:=⟨none,some a,.load .any false 1 (.t t)⟩
@[simp] def oS(k sz t v:Nat):GOp:=⟨none,none,.store (.box k) sz (.t t) (.t v)⟩
@[simp] def oB(a:Nat)(op:BinOp)(x y:Arg):GOp:=⟨none,some a,.bin 0 [] op x y⟩
@[simp] def bF:PV:= .bool false
@[simp] def bT:PV:= .bool true
@[simp] def sr(o:List GOp)(r:ICode):ICode:= .seq (.region o) r
@[simp] def cP(a f:Nat)(l:List Arg):GOp:=⟨none,some a,.callP false (.c (.fn f [] [])) l⟩
@[simp] def cF(a f:Nat)(l:List Arg):GOp:=⟨none,some a,.call false (.c (.fn f [] [])) l⟩
@[simp] def oK(a t:Nat):GOp:=⟨none,some a,.nilck (.t t)⟩
@[simp] def oI(a z t i:Nat):GOp:=⟨none,some a,.iaddr z (.t t) (.t i)⟩
@[simp] def oE(a t:Nat):GOp:=⟨none,some a,.take t⟩
@[simp] def oZ(a:Nat)(n:Int):GOp:=⟨none,some a,.mv (.c (.int .i64 n))⟩
@[simp] def oY(a t:Nat):GOp:=⟨none,some a,.len 1 (.t t)⟩
@[simp] def oW(a z t:Nat):GOp:=⟨none,some a,.load .any true z (.t t)⟩
@[simp] def oH(a t:Nat):GOp:=⟨none,some a,.load .imm false 1 (.t t)⟩
@[simp] def oU(a t:Nat):GOp:=⟨none,some a,.un .not (.t t)⟩
@[simp] def oV(t v:Nat):GOp:=⟨none,none,.store .any 1 (.t t) (.t v)⟩
@[simp] def oP(a:Nat)(op:BinOp)(x y:Nat):GOp:=⟨none,some a,.bin 0 [] op (.t x) (.t y)⟩
@[simp] def oD(a:Nat)(op:BinOp)(x:Nat)(y:Int):GOp:=⟨none,some a,.bin 0 [] op (.t x) (.c (.int .i64 y))⟩
@[simp] def oTm(g a t:Nat):GOp:=⟨some (g,true),some a,.mv (.t t)⟩
@[simp] def oFm(g a t:Nat):GOp:=⟨some (g,false),some a,.mv (.t t)⟩
@[simp] def pP(n:Nat)(l:List Arg):IOp:= .callP false (.c (.fn n [] [])) l
@[simp] def pF(n:Nat)(l:List Arg):IOp:= .call false (.c (.fn n [] [])) l
end PE
