/-
  Texts joined by program: PfReadD, AZW3.
-/
import Derived.Test.YtianoihfjikdgaaGreatP04
set_option linter.unusedVariables false
set_option linter.unusedSectionVars false
set_option linter.unusedSimpArgs false
open Bool renaming and_eq_true→ya
open List renaming all_eq_true→ym,getElem?_eq_getElem→ye,getElem?_eq_some_iff→yb,getElem?_map→yi,length_cons→yP,map_cons→yu,map_nil→yAa,mem_cons→yS,mem_map→ysa,mem_of_getElem?→yB,range→yO,sum_cons→yma,take_length→yFa
open Nat renaming sub_self→yHa
open Option renaming bind_eq_some_iff→yI,getD_some→yU,map_eq_some_iff→yc
namespace PE
open Go Go.RowKit
def CellsD(P:Program){H:Type}:Nat->TypeId->List PV->DataW H->Prop
 |0,_,_,_=>False
 |n+1,t,l,d=>match P.underlying t with
  |some (.int k)=>∃z,l=[.int k z]/\(Lit.int k z).wf=true
  |some .bool=>∃b,l=[.bool b]
  |some .string=>∃s:List UInt8,l=[.str s]/\s.length<=maxLen/\d= .lit (.string s)
  |some (.struct fs)=>l.length=P.cellsOf t/\∃ds,d= .agg ds/\∀(i:Nat) f,fs.toList[i]? =some f->∃y,ds[i]? =some y/\CellsD P n f.type ((l.drop f.offset).take (P.cellsOf f.type)) y
  |some (.slice e)=>∃(es:List (List PV)) (ds:List (DataW H)),l=[.slice .plain (P.cellsOf e) (es.map (packT P e))]/\es.length<=maxLen/\es.length=ds.length/\(ds=[]\/∃sp,d= .slice ds sp)/\∀(i:Nat) c y,es[i]? =some c->ds[i]? =some y->CellsD P n e c y
  |_=>False
theorem CellsD.toT{P:Program}{H:Type}:∀(n:Nat) (t:TypeId) (l:List PV) (d:DataW H),CellsD P n t l d->CellsT P n t l:=by
 intro n
 induction n with
 |zero=>intro t l d h;exact h.elim
 |succ n ih=>
  intro t l d h;unfold CellsD at h;unfold CellsT;split at h
  ·rename_i hu;rw[hu];exact h
  ·rename_i hu;rw[hu];exact h
  ·rename_i hu;rw[hu];obtain⟨s,h1,h2,_⟩:=h;exact⟨s,h1,h2⟩
  ·rename_i hu;rw[hu];obtain⟨h1,ds,h2,h3⟩:=h;refine⟨h1,fun f hf=>?_⟩;obtain⟨i,hi⟩:=List.getElem?_of_mem hf;obtain⟨y,_,hy⟩:=h3 i f hi;exact ih _ _ _ hy
  ·rename_i hu;rw[hu];obtain⟨es,ds,h1,h2,h3,h4,h5⟩:=h;refine⟨es,h1,h2,fun c hc=>?_⟩;obtain⟨i,hi⟩:=List.getElem?_of_mem hc;have hlt:i<ds.length:=by rw[<-h3];exact(yb.1 hi).1
   exact ih _ _ _ (h5 i c _ hi (ye hlt))
  ·exact h.elim
theorem lay_joinD{P:Program}{w:World}{cs:List Value}{Φ:Field->List PV->Prop}:∀(fs:List Field) (o total:Nat),layB P fs o total=true->total=cs.length→
  (∀f∈fs,∃l,Rs w l ((cs.drop f.offset).take (P.cellsOf f.type))/\Φ f l)→
  ∃l,Rs w l (cs.drop o)/\∀f∈fs,o<=f.offset/\Φ f ((l.drop (f.offset-o)).take (P.cellsOf f.type)):=by
 intro fs
 induction fs with
 |nil=>
  intro o total hl ht _;simp only[layB,beq_iff_eq]at hl;refine⟨[],⟨?_,fun j c v hc=>by simp at hc⟩,fun f hf=>by simp at hf⟩;simp;omega
 |cons f r ih=>
  intro o total hl ht hf;simp only[layB,ya,beq_iff_eq]at hl;obtain⟨ho,hl⟩:=hl;obtain⟨l1,h1,c1⟩:=hf f (by simp);obtain⟨l2,h2,c2⟩:=ih _ _ hl ht (fun g hg=>hf g (by simp[hg]));have hle:∀(fs:List Field) (o total:Nat),layB P fs o total=true->o<=total:=by
   intro fs
   induction fs with
   |nil=>intro o total h;simp only[layB,beq_iff_eq]at h;omega
   |cons g s ihs=>
    intro o total h;simp only[layB,ya,beq_iff_eq]at h;have:=ihs _ _ h.2;omega
  have hn:=hle _ _ _ hl;have hlen1:l1.length=P.cellsOf f.type:=by
   rw[h1.1,List.length_take,List.length_drop,ho];omega
  refine⟨l1++l2,?_,?_⟩
  ·have:cs.drop o=(cs.drop f.offset).take (P.cellsOf f.type)++cs.drop (o+P.cellsOf f.type):=by
    rw[ho,<-List.drop_drop,List.take_append_drop]
   rw[this];exact h1.append h2
  ·intro g hg;rcases yS.1 hg with rfl|hg
   ·refine⟨by omega,?_⟩;rw[ho,yHa,List.drop_zero,List.take_append_of_le_length (by omega),<-hlen1,yFa];exact c1
   ·obtain⟨h3,h4⟩:=c2 g hg;refine⟨by omega,?_⟩;have:(l1++l2).drop (g.offset-o)=l2.drop (g.offset-(o+P.cellsOf f.type)):=by
     rw[List.drop_append,List.drop_of_length_le (by omega),List.nil_append];congr 1;omega
    rw[this];exact h4
theorem read_cellsD{P:Program}{S:List TypeId}(hp:plainB P S=true){H:Type}{enc:TypeId×Value->H}{w:World}{sp:Nat->Bool}:∀(n:Nat) (t:TypeId) (cs:List Value) (x:DataW H×List MemPlace),t∈S→
  DataW.trod enc P w 0 sp true n t cs=some x->∃l,Rs w l cs/\CellsD P n t l x.1/\cs.length=P.cellsOf t:=by
 intro n
 induction n with
 |zero=>intro t cs x _ h;simp[DataW.trod]at h
 |succ n ih=>
  intro t cs x ht h;have hp':=ym.1 hp t ht;split at hp'
  ·rename_i k hu;obtain⟨z,rfl,_,hw⟩:=DataW.trod_int hu h;simp only[beq_iff_eq]at hp';exact⟨[.int k z],Rs.one ⟨.int _ _,rfl,rfl⟩,by unfold CellsD;rw[hu];exact⟨z,rfl,hw⟩,by simp[hp']⟩
  ·rename_i hu;obtain⟨z,rfl,_⟩:=DataW.trod_bool hu h;simp only[beq_iff_eq]at hp';exact⟨[.bool z],Rs.one ⟨.bool _,rfl,rfl⟩,by unfold CellsD;rw[hu];exact⟨z,rfl⟩,by simp[hp']⟩
  ·rename_i hu;obtain⟨s,rfl,hx,hm⟩:=DataW.trod_string hu h;simp only[beq_iff_eq]at hp';exact⟨[.str s.data.toList],Rs.one ⟨str_vr _ _,rfl,rfl⟩,by unfold CellsD;rw[hu];exact⟨_,rfl,str_len hm,by rw[hx]⟩,by simp[hp']⟩
  ·rename_i fs hu;simp only[ya,ym,List.contains_iff_mem]at hp';obtain⟨hS,hlay⟩:=hp';obtain⟨xs,m,hm,hx,hlen,hxs,hget⟩:=DataW.trod_struct hu h;cases hm;obtain⟨l,hl,hc⟩:=lay_joinD (w:=w) (cs:=cs) (Φ:=fun f l=>∀(i:Nat),fs.toList[i]? =some f->∃y,(xs.map (·.1))[i]? =some y/\CellsD P n f.type l y) fs.toList 0 _ hlay hlen.symm (by
    intro f hf;have key:∀(i:Nat),fs.toList[i]? =some f->∃l y,Rs w l ((cs.drop f.offset).take (P.cellsOf f.type))/\(xs.map (·.1))[i]? =some y/\CellsD P n f.type l y:=by
     intro i hi;have hi':fs[i]? =some f:=by simpa using hi
     have hg:=hget i f hi';have hlt:i<xs.length:=by rw[hxs];simpa using(yb.1 hi).1
     rw[ye hlt]at hg;obtain⟨l,h1,h2,_⟩:=ih _ _ _ (hS f hf) hg;exact⟨l,_,h1,by rw[yi,ye hlt];rfl,h2⟩
    have same:∀(i j:Nat),fs.toList[i]? =some f->fs.toList[j]? =some f->i=j\/True:=fun _ _ _ _=> .inr trivial
    obtain⟨i,hi⟩:=List.getElem?_of_mem hf;obtain⟨l,y,h1,h2,h3⟩:=key i hi;refine⟨l,h1,fun j hj=>?_⟩;have gi:=hget i f (by simpa using hi);have gj:=hget j f (by simpa using hj);have e:xs[i]? =xs[j]? :=gi.symm.trans gj;refine⟨y,?_,h3⟩;rw[yi,<-e,<-yi];exact h2)
   rw[List.drop_zero]at hl;refine⟨l,hl,?_,hlen⟩;unfold CellsD;rw[hu];refine⟨by rw[hl.1,hlen],xs.map (·.1),by rw[hx],fun i f hi=>?_⟩;have:=(hc f (yB hi)).2 i hi;rwa[Nat.sub_zero]at this
  ·rename_i e hu;simp only[ya,List.contains_iff_mem,decide_eq_true_eq,beq_iff_eq]at hp';obtain⟨⟨hS,hpos⟩,h1⟩:=hp';rcases DataW.trod_slice hu h with⟨rfl,_⟩|⟨a,len,cap,elems,rest,m,hm,rfl,hx,_,hle,hcap,hel,hget,_,_⟩
   ·exact⟨[.slice .plain (P.cellsOf e) []],Rs.one ⟨.slice0 _ _ _ _ (by simp) (by simp),rfl,rfl⟩,by unfold CellsD;rw[hu];exact⟨[],[],rfl,by simp,rfl,.inl rfl,by simp⟩,by simp[h1]⟩
   ·cases hm;have key:∀i,i<len->∃l:List PV,l.length=P.cellsOf e/\(∃y,(elems.map (·.1))[i]? =some y/\CellsD P n e l y)/\cellsOf (packT P e l)=l/\zo (packT P e l)=true/\∀(j:Nat) c,l[j]? =some c->∃v,w.cell? ((a.add (i*P.cellsOf e)).add j)=some v/\R1 w c v:=by
     intro i hi;have hg:=hget i hi;have hlt:i<elems.length:=by omega
     rw[ye hlt,yI]at hg;obtain⟨cs',h2,h3⟩:=hg;obtain⟨l,h4,h5,h6⟩:=ih _ _ _ hS h3;obtain⟨h7,h8⟩:=cells?_get h2;obtain⟨h9,h10⟩:=cells_packed h4 (CellsD.toT _ _ _ _ h5) h6;refine⟨l,by rw[h4.1,h6],⟨_,by rw[yi,ye hlt];rfl,h5⟩,h9,h10,fun j c hc=>?_⟩;have hj:j<cs'.length:=by rw[<-h4.1];exact(yb.1 hc).1
     exact⟨cs'[j],h8 j _ (ye hj),h4.2 j c _ hc (ye hj)⟩
    let g:Nat->List PV:=fun i=>if hi:i<len then(key i hi).choose else[]
    have hg:∀i,i<len->(g i).length=P.cellsOf e/\(∃y,(elems.map (·.1))[i]? =some y/\CellsD P n e (g i) y)/\cellsOf (packT P e (g i))=g i/\zo (packT P e (g i))=true/\∀(j:Nat) c,(g i)[j]? =some c->∃v,w.cell? ((a.add (i*P.cellsOf e)).add j)=some v/\R1 w c v:=by
     intro i hi;have:=(key i hi).choose_spec;simp only[g,dif_pos hi];exact this
    have hel':∀(i:Nat) x,(((yO len).map g).map (packT P e))[i]? =some x->i<len/\x=packT P e (g i):=by
     intro i x hx;rw[List.map_map,yi,yc]at hx;obtain⟨k,hk,rfl⟩:=hx;obtain⟨hk1,hk2⟩:=yb.1 hk;rw[List.length_range]at hk1;rw[List.getElem_range]at hk2;subst hk2;exact⟨hk1,rfl⟩
    refine⟨[.slice .plain (P.cellsOf e) (((yO len).map g).map (packT P e))],Rs.one ⟨?_,rfl,rfl⟩,?_,by simp[h1]⟩
    ·by_cases h0:len=0
     ·subst h0;exact .slice0 _ _ _ _ (by simp) (by simp)
     ·obtain⟨q1,q2,q3,q4,q5⟩:=hg 0 (by omega);have hspot:a.spot=none:=by
       have hlt:0<(g 0).length:=by omega
       obtain⟨v,hv,_⟩:=q5 0 _ (ye hlt);have hsp:=World.cell?_spot hv;obtain⟨b,o,s⟩:=a;simpa[Addr.add]using hsp
      obtain⟨b,o,s⟩:=a;simp only at hspot;subst hspot;have hcell:∀(i:Nat) x (j:Nat) c,(((yO len).map g).map (packT P e))[i]? =some x->(cellsOf x)[j]? =some c->∃v,(gh0 w).im w b (o+i*P.cellsOf e+j)=some v/\R1 w c v:=by
       intro i x j c hx hc;obtain⟨hi,rfl⟩:=hel' i x hx;obtain⟨r1,r2,r3,r4,r5⟩:=hg i hi;rw[r3]at hc;obtain⟨v,hv,hr⟩:=r5 j c hc;refine⟨v,gh0_im ?_,hr⟩;rw[add_add ⟨b,o,none⟩ rfl,add_add ⟨b,o+i*P.cellsOf e,none⟩ rfl]at hv;exact hv
      have hlen:(((yO len).map g).map (packT P e)).length=len:=by simp
      have:=VR.slice (I:=(gh0 w).im w) (L:=fun _=>none) (k:= .plain) (sz:=P.cellsOf e) (l:=((yO len).map g).map (packT P e)) (b:=b) (o:=o) (cap:=cap)
       (by simp) (by simp) (by rw[hlen];exact hle) (fun i j=>((gh0 w).im w b (o+i*P.cellsOf e+j)).getD (.bool false)) ?_ ?_ ?_
      ·rw[hlen]at this;exact this
      ·intro i x hx;obtain⟨hi,rfl⟩:=hel' i x hx;obtain⟨r1,r2,r3,r4,r5⟩:=hg i hi;exact⟨by rw[r3,r1],r4⟩
      ·intro i x j c hx hc;obtain⟨v,hv,hr⟩:=hcell i x j c hx hc;simp only[hv,yU];exact⟨trivial,hr.2.2⟩
      ·intro i x j c hx hc;obtain⟨v,hv,hr⟩:=hcell i x j c hx hc;simp only[hv,yU];exact hr.1
    ·unfold CellsD;rw[hu];refine⟨(yO len).map g,elems.map (·.1),rfl,by simp;omega,by simp[hel],.inr ⟨_,by rw[hx]⟩,?_⟩;intro i c y hc hy;rw[yi,yc]at hc;obtain⟨k,hk,rfl⟩:=hc;obtain⟨hk1,hk2⟩:=yb.1 hk;rw[List.length_range]at hk1;rw[List.getElem_range]at hk2;subst hk2;obtain⟨_,⟨z,hz,hd⟩,_⟩:=hg i hk1;rw[hz]at hy;cases hy;exact hd
  ·cases hp'
theorem CellsD.struct{P:Program}{H:Type}{n t:Nat}{l:List PV}{d:DataW H}{fs:Array Field}(h:CellsD P n t l d)(hu:P.underlying t=some (.struct fs)):∃m ds,n=m+1/\l.length=P.cellsOf t/\d= .agg ds/\∀(i:Nat) f,fs.toList[i]? =some f->∃y,ds[i]? =some y/\CellsD P m f.type ((l.drop f.offset).take (P.cellsOf f.type)) y:=by
 cases n with
 |zero=>exact h.elim
 |succ n=>unfold CellsD at h;rw[hu]at h;obtain⟨h1,ds,h2,h3⟩:=h;exact⟨n,ds,rfl,h1,h2,h3⟩
theorem CellsD.int{P:Program}{H:Type}{n t:Nat}{l:List PV}{d:DataW H}{k:IntKind}(h:CellsD P n t l d)(hu:P.underlying t=some (.int k)):∃z,l=[.int k z]/\(Lit.int k z).wf=true:=by
 cases n with
 |zero=>exact h.elim
 |succ n=>unfold CellsD at h;rw[hu]at h;exact h
theorem CellsD.string{P:Program}{H:Type}{n t:Nat}{l:List PV}{d:DataW H}(h:CellsD P n t l d)(hu:P.underlying t=some .string):∃s:List UInt8,l=[.str s]/\s.length<=maxLen/\d= .lit (.string s):=by
 cases n with
 |zero=>exact h.elim
 |succ n=>unfold CellsD at h;rw[hu]at h;exact h
theorem CellsD.row{P:Program}{H:Type}{n t e:Nat}{l:List PV}{d:DataW H}(h:CellsD P n t l d)(hu:P.underlying t=some (.slice e)):∃(m:Nat) (es:List (List PV)) (ds:List (DataW H)),n=m+1/\l=[.slice .plain (P.cellsOf e) (es.map (packT P e))]/\es.length=ds.length/\(ds=[]\/∃sp,d= .slice ds sp)/\∀(i:Nat) c y,es[i]? =some c->ds[i]? =some y->CellsD P m e c y:=by
 cases n with
 |zero=>exact h.elim
 |succ n=>unfold CellsD at h;rw[hu]at h;obtain⟨es,ds,h1,h2,h3,h4,h5⟩:=h;exact⟨n,es,ds,rfl,h1,h3,h4,h5⟩
theorem read_rec{P:Program}{S:List TypeId}(hp:plainB P S=true){H:Type}{enc:TypeId×Value->H}{w:World}{sp:Nat->Bool}{t:TypeId}(ht:t∈S){d:DataW H}{ps:List MemPlace}{cs:Array Value}(h:DataW.Trod enc P w 0 sp true t (.agg cs) d ps):
  ∃(n:Nat) (l:List PV),VR ((gh0 w).im w) (fun _=>none) (.agg l) (.agg cs)/\CellsD P n t l d:=by
 obtain⟨n,hf⟩:=h;obtain⟨l,h1,h2,h3⟩:=read_cellsD hp n t _ _ ht hf;simp only[Value.cells]at h1;refine⟨n,l,.agg (by have:=h1.1;simpa using this.symm) ?_ ?_,h2⟩
 ·intro j v hv;have hv':cs.toList[j]? =some v:=by simpa using hv
  have hj:j<l.length:=by rw[h1.1];exact(yb.1 hv').1
  exact(h1.2 j _ _ (ye hj) hv').2.2
 ·intro j c v hc hv;have hv':cs.toList[j]? =some v:=by simpa using hv
  exact(h1.2 j _ _ hc hv').1
end PE

namespace PE.U
open Go PE Go.Proofs
section
variable {H:Type} {bk:DataW H->Nat}
structure Bulk(bk:DataW H->Nat):Prop where
 one:∀d,1<=bk d
 agg:∀ds,bk (.agg ds)=(ds.map bk).sum+1
 slice:∀ds sp,(ds.map bk).sum+1<=bk (.slice ds sp)
 str:∀s,s.length+1<=bk (.lit (.string s))
theorem many{α:Type}(enc:α->PV)(wt:α->Nat)(pk:List PV->PV){R:List PV->DataW H->Prop}(hR:∀c y,R c y->∃x,pk c=enc x/\wt x<=bk y):
  ∀(es:List (List PV)) (ds:List (DataW H)),es.length=ds.length->(∀(i:Nat) c y,es[i]? =some c->ds[i]? =some y->R c y)→
   ∃xs:List α,es.map pk=xs.map enc/\(xs.map wt).sum<=(ds.map bk).sum:=by
 intro es
 induction es with
 |nil=>intro ds hl _;exact⟨[],rfl,by simp⟩
 |cons c r ih=>
  intro ds hl h
  match ds,hl with
  |y::s,hl=>
   obtain⟨x,h1,h2⟩:=hR c y (h 0 c y rfl rfl);obtain⟨xs,h3,h4⟩:=ih s (by simpa using hl) (fun i c' y' hc hy=>h (i+1) c' y' (by simpa using hc) (by simpa using hy));exact⟨x::xs,by rw[yu,yu,h1,h3],by simp only[yu,yma];omega⟩
theorem row_of{α:Type}(hb:Bulk bk)(enc:α->PV)(wt:α->Nat){P:Program}{n t e:Nat}{l:List PV}{d:DataW H}(h:CellsD P n t l d)(hu:P.underlying t=some (.slice e))
  (hR:∀m c y,m<n->CellsD P m e c y->∃x,packT P e c=enc x/\wt x<=bk y):∃xs:List α,l=[.slice .plain (P.cellsOf e) (xs.map enc)]/\(xs.map wt).sum+1<=bk d:=by
 obtain⟨m,es,ds,rfl,rfl,hl,hd,hc⟩:=h.row hu;obtain⟨xs,h1,h2⟩:=many (bk:=bk) enc wt (packT P e) (fun c y hcy=>hR m c y (by omega) hcy) es ds hl hc;refine⟨xs,by rw[h1],?_⟩;rcases hd with rfl|⟨sp,rfl⟩
 ·simp at h2;have:=hb.one d;omega
 ·have:=hb.slice ds sp;omega
theorem cells8{l:List PV}{a b c d e f g h:PV}(hl:l.length=8)(h0:(l.drop 0).take 1=[a])(h1:(l.drop 1).take 1=[b])(h2:(l.drop 2).take 1=[c])(h3:(l.drop 3).take 1=[d])(h4:(l.drop 4).take 1=[e])(h5:(l.drop 5).take 1=[f])(h6:(l.drop 6).take 1=[g])(h7:(l.drop 7).take 1=[h]):l=[a,b,c,d,e,f,g,h]:=by
 match l,hl with
 | [_,_,_,_,_,_,_,_],_=>simp at h0 h1 h2 h3 h4 h5 h6 h7;rw[h0,h1,h2,h3,h4,h5,h6,h7]
theorem cells5{l:List PV}{a b c d e:PV}(hl:l.length=5)(h0:(l.drop 0).take 1=[a])(h1:(l.drop 1).take 1=[b])(h2:(l.drop 2).take 1=[c])(h3:(l.drop 3).take 1=[d])(h4:(l.drop 4).take 1=[e]):l=[a,b,c,d,e]:=by
 match l,hl with
 | [_,_,_,_,_],_=>simp at h0 h1 h2 h3 h4;rw[h0,h1,h2,h3,h4]
theorem cells2{l:List PV}{a b:PV}(hl:l.length=2)(h0:(l.drop 0).take 1=[a])(h1:(l.drop 1).take 1=[b]):l=[a,b]:=by
 match l,hl with
 | [_,_],_=>simp at h0 h1;rw[h0,h1]
theorem get_sum:∀(ds:List (DataW H)) (is:List (Nat×DataW H)),(∀p∈is,ds[p.1]? =some p.2)->(is.map (·.1)).Pairwise (· < ·)->(is.map fun p=>bk p.2).sum<=(ds.map bk).sum:=by
 intro ds
 induction ds with
 |nil=>
  intro is h _;cases is with
  |nil=>simp
  |cons p r=>have:=h p (by simp);simp at this
 |cons d r ih=>
  intro is h hp;have shift:∀js:List (Nat×DataW H),(∀p∈js,0<p.1)->(∀p∈js,(d::r)[p.1]? =some p.2)->(js.map (·.1)).Pairwise (· < ·)->(js.map fun p=>bk p.2).sum<=(r.map bk).sum:=by
   intro js hj h hp;have:=ih (js.map fun p=>(p.1-1,p.2)) (by
    intro p hp;rw[ysa]at hp;obtain⟨q,hq,rfl⟩:=hp;have h1:=hj q hq;have h2:=h q hq;rw[List.getElem?_cons]at h2;rw[if_neg (by omega)]at h2;exact h2) (by
    rw[List.map_map,List.pairwise_map];rw[List.pairwise_map]at hp;refine hp.imp_of_mem ?_;intro a b ha hb hab;have:=hj a ha;have:=hj b hb;simp only[Function.comp_apply];omega)
   rw[List.map_map]at this;exact this
  cases is with
  |nil=>simp
  |cons p q=>
   rw[yu,List.pairwise_cons]at hp;have hq:∀x∈q,p.1<x.1:=fun x hx=>hp.1 x.1 (List.mem_map_of_mem hx)
   by_cases h0:p.1=0
   ·have h1:=h p (by simp);rw[h0]at h1;simp at h1;have:=shift q (fun x hx=>by have:=hq x hx;omega) (fun x hx=>h x (by simp[hx])) hp.2;simp only[yu,yma];rw[h1];omega
   ·have hpos:∀x∈p::q,0<x.1:=by
     intro x hx;rcases yS.1 hx with rfl|hx
     ·omega
     ·have:=hq x hx;omega
    have:=shift (p::q) hpos h (by rw[yu,List.pairwise_cons];exact hp);simp only[yu,yma]at this ⊢;omega
theorem ints_of(hb:Bulk bk){n:Nat}{l:List PV}{d:DataW H}(h:CellsD Tryz.prog n 26 l d):∃zs:List Int,l=[ints zs]/\zs.length+1<=bk d:=by
 obtain⟨xs,h1,h2⟩:=row_of hb (PV.int .i64) (fun _=>1) h Tryz.underlying26 (fun m c y _ hc=>by
  obtain⟨z,rfl,_⟩:=hc.int Tryz.underlying3;refine⟨z,?_,hb.one y⟩;unfold packT;rw[Tryz.underlying3];rfl)
 refine⟨xs,?_,?_⟩
 ·rw[h1,show Tryz.prog.cellsOf 3=1 from by kernel_rfl];rfl
 ·have e:∀l:List Int,(l.map fun _=>1).sum=l.length:=by
   intro l
   induction l with
   |nil=>rfl
   |cons a r ih=>rw[yu,yma,ih,yP];omega
  rw[e]at h2;exact h2
theorem one_int:Tryz.prog.cellsOf 3=1:=by kernel_rfl
theorem one_str:Tryz.prog.cellsOf 9=1:=by kernel_rfl
theorem one_ints:Tryz.prog.cellsOf 26=1:=by kernel_rfl
theorem one_kids:Tryz.prog.cellsOf 51=1:=by kernel_rfl
theorem one_list:Tryz.prog.cellsOf 47=1:=by kernel_rfl
theorem one_flows:Tryz.prog.cellsOf 23=1:=by kernel_rfl
theorem one_arrs:Tryz.prog.cellsOf 22=1:=by kernel_rfl
theorem c_node:Tryz.prog.cellsOf 53=8:=by kernel_rfl
theorem c_flow:Tryz.prog.cellsOf 49=5:=by kernel_rfl
theorem c_arr:Tryz.prog.cellsOf 46=2:=by kernel_rfl
theorem c_unt:Tryz.prog.cellsOf 25=2:=by kernel_rfl
theorem sum_wtL(l:List Node):(l.map fun x=>1+wtN x).sum=wtL l:=by
 induction l with
 |nil=>rfl
 |cons a r ih=>rw[yu,yma,ih,wtL]
theorem sum_wtK(l:List (List Node)):(l.map fun x=>1+wtL x).sum=wtK l:=by
 induction l with
 |nil=>rfl
 |cons a r ih=>rw[yu,yma,ih,wtK]
theorem inode_of(hb:Bulk bk):∀(n:Nat) (l:List PV) (d:DataW H),CellsD Tryz.prog n 53 l d->∃x:Node,PV.agg l=zD x/\1+wtN x<=bk d:=by
 intro n
 induction n using Nat.strongRecOn with
 |ind n ih=>
  intro l d h;obtain⟨m,ds,rfl,hl,rfl,hf⟩:=h.struct Tryz.underlying53;rw[c_node]at hl;obtain⟨y0,g0,c0⟩:=hf 0 ⟨_,_,0,_,_,_,_⟩ rfl;obtain⟨y1,g1,c1⟩:=hf 1 ⟨_,_,1,_,_,_,_⟩ rfl;obtain⟨y2,g2,c2⟩:=hf 2 ⟨_,_,2,_,_,_,_⟩ rfl;obtain⟨y3,g3,c3⟩:=hf 3 ⟨_,_,3,_,_,_,_⟩ rfl;obtain⟨y4,g4,c4⟩:=hf 4 ⟨_,_,4,_,_,_,_⟩ rfl;obtain⟨y5,g5,c5⟩:=hf 5 ⟨_,_,5,_,_,_,_⟩ rfl;obtain⟨y6,g6,c6⟩:=hf 6 ⟨_,_,6,_,_,_,_⟩ rfl;obtain⟨y7,g7,c7⟩:=hf 7 ⟨_,_,7,_,_,_,_⟩ rfl;obtain⟨k,e0,_⟩:=c0.int Tryz.underlying3;obtain⟨o,e1,_⟩:=c1.int Tryz.underlying3;obtain⟨q,e2,_⟩:=c2.int Tryz.underlying3;obtain⟨s,e3,_,b3⟩:=c3.string Tryz.underlying9;obtain⟨a,e4,b4⟩:=ints_of hb c4;obtain⟨us,e5,b5⟩:=ints_of hb c5;obtain⟨ps,e6,b6⟩:=ints_of hb c6;obtain⟨ks,e7,b7⟩:=row_of hb zk (fun x=>1+wtL x) c7 Tryz.underlying51 (fun m1 c y hm1 hc=>by
   obtain⟨xs,f1,f2⟩:=row_of hb zD (fun x=>1+wtN x) hc Tryz.underlying47 (fun m2 c2 y2 hm2 hc2=>by
    obtain⟨x,w1,w2⟩:=ih m2 (by omega) c2 y2 hc2;exact⟨x,by rw[packT_struct Tryz.underlying53,w1],w2⟩)
   refine⟨xs,?_,by rw[sum_wtL]at f2;omega⟩;unfold packT;rw[Tryz.underlying47,f1,c_node];rfl)
  rw[sum_wtK]at b7;rw[one_int]at e0 e1 e2;rw[one_str]at e3;rw[one_ints]at e4 e5 e6;rw[one_kids,one_list]at e7;refine⟨⟨k,o,q,s,a,us,ps,ks⟩,?_,?_⟩
  ·rw[cells8 hl e0 e1 e2 e3 e4 e5 e6 e7,za];rfl
  ·have hs:=get_sum (bk:=bk) ds [(0,y0),(1,y1),(2,y2),(3,y3),(4,y4),(5,y5),(6,y6),(7,y7)] (by simp[g0,g1,g2,g3,g4,g5,g6,g7]) (by simp);simp only[yu,yAa,yma,List.sum_nil]at hs;have s3:=hb.str s;rw[<-b3]at s3;rw[hb.agg,zEa];simp only;have:=hb.one y0;have:=hb.one y1;omega
theorem iflow_of(hb:Bulk bk){n:Nat}{l:List PV}{d:DataW H}(h:CellsD Tryz.prog n 49 l d):∃f:Flow,PV.agg l=ze f/\1+(f.name.length+f.types.length+wtL f.body)<=bk d:=by
 obtain⟨m,ds,rfl,hl,rfl,hf⟩:=h.struct Tryz.underlying49;rw[c_flow]at hl;obtain⟨y0,g0,c0⟩:=hf 0 ⟨_,_,0,_,_,_,_⟩ rfl;obtain⟨y1,g1,c1⟩:=hf 1 ⟨_,_,1,_,_,_,_⟩ rfl;obtain⟨y2,g2,c2⟩:=hf 2 ⟨_,_,2,_,_,_,_⟩ rfl;obtain⟨y3,g3,c3⟩:=hf 3 ⟨_,_,3,_,_,_,_⟩ rfl;obtain⟨y4,g4,c4⟩:=hf 4 ⟨_,_,4,_,_,_,_⟩ rfl;obtain⟨s,e0,_,b0⟩:=c0.string Tryz.underlying9;obtain⟨t,e1,_⟩:=c1.int Tryz.underlying3;obtain⟨p,e2,_⟩:=c2.int Tryz.underlying3;obtain⟨ty,e3,b3⟩:=ints_of hb c3;obtain⟨xs,e4,b4⟩:=row_of hb zD (fun x=>1+wtN x) c4 Tryz.underlying47 (fun m2 c2 y2 hm2 hc2=>by
  obtain⟨x,w1,w2⟩:=inode_of hb m2 c2 y2 hc2;exact⟨x,by rw[packT_struct Tryz.underlying53,w1],w2⟩)
 rw[sum_wtL]at b4;rw[one_str]at e0;rw[one_int]at e1 e2;rw[one_ints]at e3;rw[one_list,c_node]at e4;refine⟨⟨s,t,p,ty,xs⟩,?_,?_⟩
 ·rw[cells5 hl e0 e1 e2 e3 e4];rfl
 ·have hs:=get_sum (bk:=bk) ds [(0,y0),(1,y1),(2,y2),(3,y3),(4,y4)] (by simp[g0,g1,g2,g3,g4]) (by simp);simp only[yu,yAa,yma,List.sum_nil]at hs;have s0:=hb.str s;rw[<-b0]at s0;rw[hb.agg];simp only;omega
theorem iarr_of(hb:Bulk bk){n:Nat}{l:List PV}{d:DataW H}(h:CellsD Tryz.prog n 46 l d):∃f:Arr,PV.agg l=zz f/\1+f.name.length<=bk d:=by
 obtain⟨m,ds,rfl,hl,rfl,hf⟩:=h.struct Tryz.underlying46;rw[c_arr]at hl;obtain⟨y0,g0,c0⟩:=hf 0 ⟨_,_,0,_,_,_,_⟩ rfl;obtain⟨y1,g1,c1⟩:=hf 1 ⟨_,_,1,_,_,_,_⟩ rfl;obtain⟨s,e0,_,b0⟩:=c0.string Tryz.underlying9;obtain⟨t,e1,_⟩:=c1.int Tryz.underlying3;rw[one_str]at e0;rw[one_int]at e1;refine⟨⟨s,t⟩,?_,?_⟩
 ·rw[cells2 hl e0 e1];rfl
 ·have hs:=get_sum (bk:=bk) ds [(0,y0),(1,y1)] (by simp[g0,g1]) (by simp);simp only[yu,yAa,yma,List.sum_nil]at hs;have s0:=hb.str s;rw[<-b0]at s0;rw[hb.agg];simp only;omega
theorem sum_flow:∀(l:List Flow),l.length+wgF l<=(l.map fun f=>1+(f.name.length+f.types.length+wtL f.body)).sum/\∀f∈l,f.types.length+wtL f.body<=(l.map fun f=>1+(f.name.length+f.types.length+wtL f.body)).sum
 | []=>⟨by simp[wgF],fun f hf=>by cases hf⟩
 |a::r=>by
  obtain⟨h1,h2⟩:=sum_flow r;have h3:=wgS_le a.body;rw[yu,yma,wgF,yP];refine⟨by omega,fun f hf=>?_⟩;rcases yS.1 hf with rfl|hf
  ·omega
  ·have:=h2 f hf;omega
theorem sum_arr:∀(l:List Arr),l.length+wgA l=(l.map fun f=>1+f.name.length).sum
 | []=>rfl
 |a::r=>by
  have h1:=sum_arr r;rw[yu,yma,wgA,yP];omega
theorem unit_read(hb:Bulk bk){n:Nat}{l:List PV}{d:DataW H}(h:CellsD Tryz.prog n 25 l d)(hd:bk d<=1048576):
  ∃u:Unt,PV.agg l=encUnt u/\USz u/\(∀f∈u.flows,wtL f.body<1099511000000)/\weightM u<1099511627776:=by
 obtain⟨m,ds,rfl,hl,rfl,hf⟩:=h.struct Tryz.underlying25;rw[c_unt]at hl;obtain⟨y0,g0,c0⟩:=hf 0 ⟨_,_,0,_,_,_,_⟩ rfl;obtain⟨y1,g1,c1⟩:=hf 1 ⟨_,_,1,_,_,_,_⟩ rfl;obtain⟨ars,e0,b0⟩:=row_of hb zz (fun f=>1+f.name.length) c0 Tryz.underlying22 (fun m2 c2 y2 hm2 hc2=>by
  obtain⟨x,w1,w2⟩:=iarr_of hb hc2;exact⟨x,by rw[packT_struct Tryz.underlying46,w1],w2⟩)
 obtain⟨fs,e1,b1⟩:=row_of hb ze (fun f=>1+(f.name.length+f.types.length+wtL f.body)) c1 Tryz.underlying23 (fun m2 c2 y2 hm2 hc2=>by
  obtain⟨x,w1,w2⟩:=iflow_of hb hc2;exact⟨x,by rw[packT_struct Tryz.underlying49,w1],w2⟩)
 rw[one_arrs,c_arr]at e0;rw[one_flows,c_flow]at e1;have hs:=get_sum (bk:=bk) ds [(0,y0),(1,y1)] (by simp[g0,g1]) (by simp);simp only[yu,yAa,yma,List.sum_nil]at hs;rw[hb.agg]at hd;have ha:=sum_arr ars;obtain⟨f1,f2⟩:=sum_flow fs;refine⟨⟨ars,fs⟩,?_,⟨?_,?_,?_,?_⟩,?_,?_⟩
 ·rw[cells2 hl e0 e1];rfl
 ·simp only;omega
 ·simp only;omega
 ·intro f hf;have:=f2 f hf;omega
 ·intro f hf;have:=f2 f hf;omega
 ·intro f hf;have:=f2 f hf;omega
 ·simp only[weightM];omega
end
end PE.U
