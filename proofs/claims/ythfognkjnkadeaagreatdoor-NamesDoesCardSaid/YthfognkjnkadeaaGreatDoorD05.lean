/-
  Texts joined by program: AKR2, AKR3, AKR4, AKT10, AKT11, AKR5, AKR6, AKM4a, AKN6a, AKN4u, AKT5a, AKN5, AKN6u, AKK0, AKY2, AKT11a, AKM5a, AKM9, AKK1, AKK2, AKS3a, AKK3, AKY0, AKT14, AKL1, AKL2, AKY3, AKY4, AKP21, AKP22, AKP23, AKP24, AKP25, AKP26, AKP27, AKP28, AKP29, AKT13a, AKW1, AKV1, AKV2, AKV3, AKY5, AKY6, AKM4u, AKY7, AKM10, AKM11, AKM12, AKM13, AKY8, AKK9, AKK10, AKK11, AKK12, AKK13, AKS1, AKM13b, AKT12, AKJ4.
-/
import Derived.Test.YthfognkjnkadeaaGreatDoorD04
import Derived.Lib.AtoiAll
import Derived.Lib.Bytealg
import Derived.Lib.IndexMore
import Derived.Laws.BitsLemmas
set_option linter.unusedVariables false
set_option linter.unusedSectionVars false
set_option linter.unusedSimpArgs false
open BitVec renaming ofInt→yz
open Bool renaming and_eq_true→yb,false_or→yQ,not_eq_true'→yH,or_eq_true→yS
open Eq renaming trans→ye
open Go.IntKind renaming bits→yja,wrap→yEa
open List renaming all_append→yY,all_cons→yea,all_eq_true→yq,append_assoc→yR,cons_append→yT,contains_eq_any_beq→yhb,eq_nil_of_length_eq_zero→yA,ext_getElem?→yba,find?_eq_none→yma,getElem?_append_left→yf,getElem?_append_right→yh,getElem?_drop→yK,getElem?_eq_getElem→yg,getElem?_eq_none→yP,getElem?_eq_some_iff→ya,getElem?_map→yo,getElem?_set→ypa,getElem?_set_ne→yk,getElem?_set_self→yl,getElem?_take_of_lt→yua,length→yV,length_append→yi,length_cons→yj,length_drop→yra,length_eq_one_iff→yF,length_eq_zero_iff→yLa,length_map→yu,length_nil→yn,length_pos_iff→yva,length_set→ywa,length_singleton→yC,map_append→yda,map_cons→yp,map_nil→yxa,mem_append→yx,mem_cons→yw,mem_map→yHa,mem_of_getElem?→yga,mem_singleton→yL,nil_append→yla,nodup_append→yVa,range→yI,replicate→yX,reverse_cons→yUa,set_append_right→yqa,set_getElem_self→yRa,takeWhile_cons→yDa,takeWhile_prefix→yQa,take_length→yGa,take_of_length_le→yy
open Nat renaming le_refl→yd,le_trans→yfa,lt_or_ge→yB,lt_succ_self→yha,mul_le_mul_left→yIa,strongRecOn→yFa,zero_add→yaa
open Option renaming bind_eq_some_iff→yia,getD_some→yoa,map_some→yN
open Or renaming inl→yTa,inr→yZa
open UInt8 renaming ofNat→yG
namespace PE.U
open Go PE
def okR(tk:Int)(l:List Int)(y:Int):Bool:= !((!decide (tk=0)&& !decide (y=tk))|| !decide (y=at0 l))
theorem made_oper(p:Prog)(s:List Vr)(k o:Int)(nm:List UInt8)(l:List Int)(h:(k=4/\l.length=1)\/(k=5/\l.length=2)):zTd p s k o nm l=((operR o).2,l.all (okR (operR o).1 l)):=by
 have hk:k=4\/k=5:=by rcases h with h|h<;>simp[h.1]
 have key:∀x:Int,(takesT o x).1=(operR o).2/\((takesT o x).2=true<->((operR o).1=0\/x=(operR o).1)):=by
  intro x;unfold takesT operR;split
  ·simp
  split
  ·simp
  split
  ·rw[if_pos (by omega)];simp
  ·rw[if_neg (by omega)];simp
 obtain⟨k1,k2⟩:=key (at0 l);rcases h with⟨rfl,hl⟩|⟨rfl,hl⟩
 ·obtain⟨x,rfl⟩:=yF.1 hl;unfold zTd;simp only[show¬(4:Int)=2 from by decide,show¬(4:Int)=3 from by decide,show¬(4:Int)=6 from by decide,if_false,if_true];refine Prod.ext k1 ?_;simp only;rw[Bool.eq_iff_iff,k2];simp[okR,at0]
 ·obtain⟨x,y,rfl⟩:∃x y,l=[x,y]:=by
   match l,hl with
   | [x,y],_=>exact⟨x,y,rfl⟩
  unfold zTd;simp only[show¬(5:Int)=2 from by decide,show¬(5:Int)=3 from by decide,show¬(5:Int)=6 from by decide,show¬(5:Int)=4 from by decide,if_false,if_true];refine Prod.ext k1 ?_;simp only;rw[Bool.eq_iff_iff,yb,k2];simp[okR,at0,at1];grind
def typeTail:ICode:=sq2 (sq2 (sq2 (sq2 F124.body)))
set_option maxRecDepth 20000 in
set_option maxHeartbeats 8000000 in
theorem type_tail(p:Prog)(s:List Vr)(e:Expr)(m:Int)(hz:Fit p)(hw:wtE e<1099510000000)(hm:zyb e.args m=true)(hk:zud e.kind e.op e.n e.name e.args.length=true)(h0:zwb p s e.kind e.name e.args.length=0)
  (IH:∀x∈e.args,∀m,zjb x m=true->zi E 124 [zf p,parsV (zxa s),zn x] []=some (.ret (zub (zLb p s x)),[]))
  (s1:St) (b1:s1.bx 3= .cells [zia p.arrays,funcs p.funcs]) (b2:s1.bx 5= .cells [.int .i64 e.kind,.int .i64 e.op,.int .i64 e.n,.str e.name,ze e.args])
  (t1:s1.fr 1=parsV (zxa s)) (t3:s1.fr 3= .lptr 3 0) (t5:s1.fr 5= .lptr 5 0) (t8:s1.fr 8= .int .i64 (zBa p e.name)) (t9:s1.fr 9= .int .i64 (typeV s e.name)) (st:s1.st=[]):
  zva (exec (zi E) typeTail s1) (leaveQ F124.res false 0 (isR (.ret (zub (zLb p s e)),[]))):=by
 have hla:=zXb e.args;rw[zvd]at hw;obtain⟨fr,bx,st'⟩:=s1;simp only at b1 b2 t1 t3 t5 t8 t9 st;subst st;have hT:=(exprT_eq p s e).symm;rw[if_neg (by rw[h0];simp)]at hT;generalize zLb p s e=R at hT ⊢;simp[typeTail,sq2,F124,ze]at b2 ⊢;refine zG e.args K124_0 B124_0 (fun d=>[(11,acc 1 ((zWa p s d).1.map (PV.int .i64))),(12,.int .i64 d.length)]) (fun _=>[]) (fun d=>(zWa p s d).2=0) (by omega) (by simp[zWa]) ?_ ?_
 ·intros d x r s1 hl' hlt hget hget' hw1 hp h1 h2 h3 h4;have hx:zjb x (m-1)=true:=by
   rw[exprsR_all,yq]at hm;have:=hm x hl'.mem;simp at this;exact this.2
  have ih:=IH x hl'.mem _ hx;have hlen:=argsT_len p s d hp;obtain⟨f1,f2⟩:=argsT_pre p s x r d hp;rw[<-hl'.eq]at f1;clear IH hm hx hl' hk h0;rw[za]at ih;simp[zub,zf,ze]at ih;simp at h1 h2 h3;have hroom:(d.length+1)*8<=zo:=by simp only[zo];omega
  generalize zLb p s x=q at*;obtain⟨t,f⟩:=q;simp only at ih f1 f2;by_cases hf:f=0
  ·subst hf;have f2:=f2 rfl;clear f1 hT;simp[*,za,ze]
   all_goals(try grind)
  ·have f1:=f1 hf;clear f2;rw[f1]at hT;simp[hf]at hT;replace hf:=eqn hf;clear f1;subst hT;simp[*,za,ze,zub]
 intros s1 hp h1 h2 h3 h4;have hlen:=argsT_len p s e.args hp;rw[if_neg (by rw[hp];simp)]at hT;rw[<-hlen]at hk;generalize(zWa p s e.args).1=l at*;simp at h1 h2 h3;clear IH hm hp;by_cases k2:e.kind=2
 ·replace k2:=eqp k2;simp[zTd,k2]at hT;clear hk h0;subst hT;simp[*,zub]
 by_cases k3:e.kind=3
 ·have hv:zTd p s e.kind e.op e.name l=(typeV s e.name,true):=by unfold zTd;rw[if_neg k2,if_pos k3];rfl
  rw[hv]at hT;simp at hT;replace k2:=eqn k2;replace k3:=eqp k3;clear hk h0 hv;subst hT;simp[*,zub]
 by_cases k7:e.kind=7
 ·have hl1:l.length<=8:=by
   unfold zud at hk;simp[k2,k3,k7]at hk;exact hk.2.2
  rcases znc (fun f:Func=>decide (f.name=e.name)) p.funcs with⟨a1,a2⟩|⟨n,f,a1,a2,a3,a4,a5⟩
  ·have a2:zKa p e.name=none:=a2;unfold zwb at h0;rw[if_neg k3,if_neg (by omega),if_pos k7,a2]at h0;exact absurd h0 (by simp)
  ·have a1:zBa p e.name=n:=a1;have a3:zKa p e.name=some f:=a3;have hpl:f.params.length=l.length:=by
    unfold zwb at h0;rw[if_neg k3,if_neg (by omega),if_pos k7,a3]at h0;simp only at h0;split at h0
    ·omega
    ·exact absurd h0 (by decide)
   have hv:zTd p s e.kind e.op e.name l=(f.type,decide (l=f.params.map (·.type))):=by
    unfold zTd;rw[if_neg k2,if_neg k3,if_neg (by omega),if_neg (by omega),if_neg (by omega),if_pos k7,a3]
   rw[hv,types_eq hpl.symm]at hT;rw[a1]at t8;have n0:¬((n:Int)<0):=by omega
   have n1:(0<=(n:Int)):=by omega
   replace k2:=eqn k2;replace k3:=eqn k3;replace k7:=eqp k7;clear hk h0 hv a5 a4 a1 a3;simp[*,funcs];refine zG (l.zip f.params) K124_1 B124_1 (fun d=>[(15,.int .i64 d.length)]) (fun _=>[]) (fun d=>(d.all fun x=>decide (x.1=x.2.type))=true) (by simp;omega) ?_ ?_ ?_
   ·simp[*]
   ·intros d x r s2 hl' hlt hget hget' hw2 hp g1 g2 g3 g4;simp at g1 g2 g3;have hzz:(l.zip f.params)[d.length]? =some x:=hget;rw[List.getElem?_zip_eq_some]at hzz;obtain⟨z1,z2⟩:=hzz;obtain⟨x1,x2⟩:=x;simp only at z1 z2;have hz2:(l.zip f.params).length=l.length:=by simp[hpl]
    have hlt':(d.length:Int)<l.length:=by rw[hz2]at hlt;omega
    have hlt2:(d.length:Int)<e.args.length:=by omega
    by_cases hx:x1=x2.type
    ·replace hp:((d++[(x1,x2)]).all fun x=>decide (x.1=x.2.type))=true:=by rw[yY,hp];simp[hx]
     replace hx:=eqp hx;clear hl' hget hget' hlt hz2 hT;simp[*,zjc,zl,parsV,encPar,funcs]
     all_goals(try grind)
    ·have hf:((l.zip f.params).all fun x=>decide (x.1=x.2.type))=false:=by rw[hl'.eq];simp[hx]
     rw[hf]at hT;simp at hT;replace hx:=eqn hx;clear hl' hget hget' hp hlt hz2;subst hT;simp[*,zjc,zl,parsV,encPar,funcs,zub]
   ·intros s2 hp g1 g2 g3 g4;simp at g1 g2 g3;rw[hp]at hT;simp at hT;have hz2:(l.zip f.params).length=l.length:=by simp[hpl]
    rw[hpl,Nat.min_self]at g3;have hnl:¬((l.length:Int)<l.length):=by omega
    clear hp hz2;subst hT;simp[*,zjc,zl,parsV,encPar,funcs,zub]
 by_cases k6:e.kind=6
 ·have hl:l.length=1:=by
   unfold zud at hk;simp[k2,k3,k6]at hk;exact hk.2.2
  obtain⟨x,rfl⟩:=yF.1 hl;have hv:zTd p s e.kind e.op e.name [x]=(1,decide (x=1)):=by unfold zTd;rw[if_neg k2,if_neg k3,if_pos k6];rfl
  rw[hv]at hT;replace k2:=eqn k2;replace k3:=eqn k3;replace k7:=eqn k7;replace k6:=eqp k6;clear hk h0 hv hl;by_cases hx:x=1
  ·subst hx;simp at hT;subst hT;simp[*,zub]
  ·simp[hx]at hT;replace hx:=eqn hx;subst hT;simp[*,zub]
 by_cases k45:e.kind=4\/e.kind=5
 ·have hll:(e.kind=4/\l.length=1)\/(e.kind=5/\l.length=2):=by
   rcases k45 with k|k
   ·left;refine⟨k,?_⟩;unfold zud at hk;simp[k]at hk;exact hk.2.2.2
   ·right;refine⟨k,?_⟩;unfold zud at hk;simp[k]at hk;exact hk.2.2.2
  rw[made_oper p s _ _ _ _ hll]at hT;have ho:=oper_spec e.op;have hl0:∃x r,l=x::r:=by
   rcases hll with⟨_,h⟩|⟨_,h⟩<;>cases l<;>simp at h ⊢
  have hl2:l.length<=2:=by rcases hll with⟨_,h⟩|⟨_,h⟩<;>omega
  obtain⟨x0,r0,hx0⟩:=hl0;have hat:at0 l=x0:=by rw[hx0];rfl
  have hg0:l[0]? =some x0:=by rw[hx0];rfl
  generalize operR e.op=oq at*;obtain⟨tk,mk⟩:=oq;simp only at hT ho;unfold okR at hT;rw[hat]at hT;replace k2:=eqn k2;replace k3:=eqn k3;replace k7:=eqn k7;replace k6:=eqn k6;clear hk h0 hat hx0 hll hlen hla hw hz;have k4':e.kind=5->(e.kind=4)=False:=fun h=>eqn (by omega)
  rcases k45 with k4|k4
  case' inl=>replace k4:=eqp k4;clear k4'
  case' inr=>replace k4':=k4' k4;replace k4:=eqp k4
  all_goals
   simp[*];refine zG l K124_2 B124_2 (fun d=>[(18,.int .i64 d.length)]) (fun _=>[]) (fun d=>(d.all fun y=> !((!decide (tk=0)&& !decide (y=tk))|| !decide (y=x0)))=true) (by omega) ?_ ?_ ?_
   ·simp[*]
   ·intros d x r s2 hl' hlt hget hget' hw2 hp g1 g2 g3 g4;simp at g1 g2 g3;have hbad:(!((!decide (tk=0)&& !decide (x=tk))|| !decide (x=x0)))=false->(l.all fun y=> !((!decide (tk=0)&& !decide (y=tk))|| !decide (y=x0)))=false:=by
     intro h;rw[hl'.eq,yY,yea,h];simp
    have hgood:(!((!decide (tk=0)&& !decide (x=tk))|| !decide (x=x0)))=true->((d++[x]).all fun y=> !((!decide (tk=0)&& !decide (y=tk))|| !decide (y=x0)))=true:=by
     intro h;rw[yY,hp,yea,h];simp
    clear hl' hp h1 h2 h3;by_cases c1:tk=0
    ·by_cases c2:x=x0
     ·replace hgood:=hgood (by simp[c1,c2]);replace c1:=eqp c1;replace c2:=eqp c2;clear hbad hT;simp[*,zjc]
      all_goals(try grind)
     ·rw[hbad (by simp[c2])]at hT;simp at hT;replace c1:=eqp c1;replace c2:=eqn c2;clear hbad hgood;subst hT;simp[*,zjc,zub]
    ·by_cases c3:x=tk
     ·by_cases c2:x=x0
      ·replace hgood:=hgood (by rw[decide_eq_true c3,decide_eq_true c2];simp);replace c1:=eqn c1;replace c2:=eqp c2;replace c3:=eqp c3;clear hbad hT;simp[*,zjc]
       all_goals(try grind)
      ·rw[hbad (by simp[c2])]at hT;simp at hT;replace c1:=eqn c1;replace c2:=eqn c2;replace c3:=eqp c3;clear hbad hgood;subst hT;simp[*,zjc,zub]
     ·rw[hbad (by simp[c1,c3])]at hT;simp at hT;replace c1:=eqn c1;replace c3:=eqn c3;clear hbad hgood;subst hT;simp[*,zjc,zub]
   ·intros s2 hp g1 g2 g3 g4;simp at g1 g2 g3;rw[hp]at hT;simp at hT;clear hp h1 h2 h3;subst hT;simp[*,zjc,zub]
 ·have k4:¬e.kind=4:=fun h=>k45 (yTa h)
  have k5:¬e.kind=5:=fun h=>k45 (yZa h)
  have hv:zTd p s e.kind e.op e.name l=(1,true):=by unfold zTd;rw[if_neg k2,if_neg k3,if_neg k6,if_neg k4,if_neg k5,if_neg k7]
  rw[hv]at hT;simp at hT;replace k2:=eqn k2;replace k3:=eqn k3;replace k7:=eqn k7;replace k6:=eqn k6;replace k4:=eqn k4;replace k5:=eqn k5;clear hk h0 hv k45;subst hT;simp[*,zjc,zub]
set_option maxRecDepth 20000 in
set_option maxHeartbeats 8000000 in
theorem rTypeOf_spec':∀w (p:Prog) (s:List Vr) (e:Expr) (m:Int),Fit p->wtE e<=w->w<1099510000000->s.length<1099509000000->zjb e m=true->zi E 124 [zf p,parsV (zxa s),zn e] []=some (.ret (zub (zLb p s e)),[]):=by
 intro w
 induction w with
 |zero=>intro p s e m _ h _ _ _;rw[zvd]at h;omega
 |succ w ih=>
  intro p s e m hz h hw hsl hR;rw[exprR_eq,yb]at hR;obtain⟨hm,hk⟩:=hR;have hla:=zXb e.args;have hwe:=zvd e;have hp:=zVc p e.name (by have:=hz.f;omega);have ha:=zYc p e.name (by have:=hz.a;omega);have hf:=rfind_spec s e.name (by omega);have hT:=(exprT_eq p s e).symm;have tail:=type_tail p s e m hz (by omega) hm hk;have h3:(zYa p e.name<0)=(znb p e.name=false):=by
   have:decide (0<=zYa p e.name)=znb p e.name:=idx_ge (fun f:PArr=>decide (f.name=e.name)) p.arrays;rw[<-this,decide_eq_false_iff_not];apply propext;omega
  replace tail:=fun h0=>tail h0 (fun x hx m' hm'=>ih p s x m' hz (by have:=zAb hx;omega) (by omega) hsl hm')
  have hal:e.args.length<1099510000000:=by omega
  clear h hw hm hk hla hwe ih;generalize zLb p s e=R at*;refine zd rfl rfl rfl (by simp[zf,za,parsV]) ?_;rw[show F124.body= .seq (sq1 F124.body) (.seq (sq1 (sq2 F124.body)) (.seq (sq1 (sq2 (sq2 F124.body))) (.seq (sq1 (sq2 (sq2 (sq2 F124.body)))) typeTail)))from rfl];simp[zf,parsV,zub]at hp ha hf;unfold zwb at hT tail;by_cases k3:e.kind=3
  ·rw[if_pos k3]at hT tail;have k7:(e.kind=7)=False:=eqn (by omega);have k6:(e.kind=6)=False:=eqn (by omega);replace k3:=eqp k3;by_cases hv:zIa s e.name=[]
   ·rw[if_pos hv]at hT;simp at hT;replace hv:=eqp hv;clear tail;subst hT;simp[*,F124,sq1,sq2,zf,za,parsV,zub,ze]
   ·rw[if_neg hv]at tail;replace tail:=tail rfl;replace hv:=eqn hv;clear hT;simp[*,F124,sq1,sq2,zf,za,parsV,zub,ze];refine tail _ ?_ ?_ ?_ ?_ ?_ ?_ ?_ ?_<;>simp[*,parsV,ze]
  rw[if_neg k3]at hT tail;by_cases k6:e.kind=6
  ·rw[if_pos k6]at hT tail;have k7:(e.kind=7)=False:=eqn (by omega);replace k3:=eqn k3;replace k6:=eqp k6;cases hb:znb p e.name
   ·rw[hb]at hT h3;simp at hT h3;replace h3:=eqp h3;clear tail;subst hT;simp[*,F124,sq1,sq2,zf,za,parsV,zub,ze]
   ·rw[hb]at tail h3;replace tail:=tail rfl;replace h3:(zYa p e.name<0)=False:=by rw[h3];simp
    clear hT;simp[*,F124,sq1,sq2,zf,za,parsV,zub,ze];refine tail _ ?_ ?_ ?_ ?_ ?_ ?_ ?_ ?_<;>simp[*,parsV,ze]
  rw[if_neg k6]at hT tail;by_cases k7:e.kind=7
  ·rw[if_pos k7]at hT tail;replace k3:=eqn k3;replace k6:=eqn k6;replace k7:=eqp k7;rcases znc (fun f:Func=>decide (f.name=e.name)) p.funcs with⟨a1,a2⟩|⟨n,f,a1,a2,a3,a4,a5⟩
   ·have a1:zBa p e.name= -1:=a1;have a2:zKa p e.name=none:=a2;rw[a2]at hT;simp at hT;rw[a1]at hp;clear tail a2;subst hT;simp[*,F124,sq1,sq2,zf,za,parsV,zub,ze]
   ·have a1:zBa p e.name=n:=a1;have a3:zKa p e.name=some f:=a3;have hpf:=hz.p f (yga a2);rw[a3]at hT tail;simp only at hT tail;have n0:¬((n:Int)<0):=by omega
    rw[a1]at hp tail;simp only[funcs]at hp;by_cases hq:f.params.length=e.args.length
    ·rw[if_pos hq]at tail;replace tail:=tail rfl;have hq':((e.args.length:Int)=f.params.length)=True:=eqp (by omega);clear hT a5 a4 a3 a1 hq;simp[*,F124,sq1,sq2,zf,za,parsV,zub,ze,funcs,zl];refine tail _ ?_ ?_ ?_ ?_ ?_ ?_ ?_ ?_<;>simp[*,parsV,ze,funcs]
    ·rw[if_neg hq]at hT;simp at hT;have hq':((e.args.length:Int)=f.params.length)=False:=eqn (by omega);clear tail a5 a4 a3 a1 hq;subst hT;simp[*,F124,sq1,sq2,zf,za,parsV,zub,ze,funcs,zl]
  ·rw[if_neg k7]at tail;replace tail:=tail rfl;replace k3:=eqn k3;replace k6:=eqn k6;replace k7:=eqn k7;clear hT;simp[*,F124,sq1,sq2,zf,za,parsV,zub,ze];refine tail _ ?_ ?_ ?_ ?_ ?_ ?_ ?_ ?_<;>simp[*,parsV,ze]
theorem rTypeOf_spec(p:Prog)(s:List Vr)(e:Expr)(m:Int)(hz:Fit p)(hw:wtE e<1099510000000)(hs:s.length<1099509000000)(hR:zjb e m=true):zi E 124 [zf p,parsV (zxa s),zn e] []=some (.ret (zub (zLb p s e)),[]):=
 rTypeOf_spec' (wtE e) p s e m hz (yd _) hw hs hR
set_option maxHeartbeats 1000000 in
theorem breaks_spec':∀w (l:List Stmt),wtSs l<=w->w<1099508500000->zi E 100 [zg l] []=some (.ret (.bool (zoa l)),[])
 |w,l,h,hw=>by
  have hlen:=zra l;refine zd rfl rfl rfl (by simp[zg]) ?_;simp[F100,zg];refine zG l K100_0 B100_0 (fun d=>[(3,.int .i64 d.length)]) (fun _=>[]) (fun d=>zoa d=false) (by omega) (by simp[zoa]) ?_ ?_
  ·intros d x r s1 hl' hlt hget hget' hw1 hp h1 h2 h3 h4;simp at h1 h2 h3;have hwx:=zSc hl'.mem;rw[zta]at hwx;obtain⟨w,rfl⟩:∃k,w=k+1:=⟨w-1,by omega⟩
   have i1:=breaks_spec' w x.thn (by omega) (by omega);have i2:=breaks_spec' w x.els (by omega) (by omega);have hyes:ztd x=true->zoa l=true:=by intro h;rw[leavesT_any,hl'.eq];simp[h]
   have hno:ztd x=false->zoa (d++[x])=false:=by intro h;rw[leavesT_any]at hp ⊢;rw[List.any_append,hp];simp[h]
   rw[leaves1_eq]at hyes hno;clear hl' hp h hwx;simp[zg]at i1 i2;generalize zoa x.thn=b1 at*;generalize zoa x.els=b2 at*;by_cases k6:x.kind=6
   ·replace hyes:=hyes (by simp[k6]);replace k6:=eqp k6;clear hno;simp[*,zb,zg]
   by_cases k4:x.kind=4
   ·cases b1
    ·cases b2
     ·replace hno:=hno (by simp[k4]);replace k6:=eqn k6;replace k4:=eqp k4;clear hyes;simp[*,zb,zg]
      all_goals(try grind)
     ·replace hyes:=hyes (by simp[k4]);replace k6:=eqn k6;replace k4:=eqp k4;clear hno;simp[*,zb,zg]
    ·replace hyes:=hyes (by simp[k4]);replace k6:=eqn k6;replace k4:=eqp k4;clear hno;simp[*,zb,zg]
   ·replace hno:=hno (by simp[k4,k6]);replace k6:=eqn k6;replace k4:=eqn k4;clear hyes;simp[*,zb,zg]
    all_goals(try grind)
  ·intros s1 hp h1 h2 h3 h4;simp at h1 h2 h3;simp[*]
theorem breaks_spec(l:List Stmt)(h:wtSs l<1099508000000):zi E 100 [zg l] []=some (.ret (.bool (zoa l)),[]):=breaks_spec' (wtSs l) l (yd _) (by omega)
set_option maxHeartbeats 1000000 in
theorem rends_spec':∀w (l:List Stmt) (m:Int),wtSs l<=w->w<1099508000000->zQ l m=true->zi E 75 [zg l] []=some (.ret (.bool (zMb l)),[])
 |w,l,m,h,hw,hR=>by
  have hlen:=zra l;refine zd rfl rfl rfl (by simp[zg]) ?_;simp[F75,zg];refine zG l K75_0 B75_0 (fun d=>[(3,.int .i64 d.length)]) (fun _=>[]) (fun d=>zMb d=false) (by omega) (by simp[zMb]) ?_ ?_
  ·intros d x r s1 hl' hlt hget hget' hw1 hp h1 h2 h3 h4;simp at h1 h2 h3;have hwx:=zSc hl'.mem;rw[zta]at hwx;obtain⟨w,rfl⟩:∃k,w=k+1:=⟨w-1,by omega⟩
   have hxR:zPb x m=true:=by rw[stmtsR_all,yq]at hR;exact hR x hl'.mem
   obtain⟨r1,r2,r3,r4⟩:=zkc hxR;have i1:=rends_spec' w x.thn _ (by omega) (by omega) r3;have i2:=rends_spec' w x.els _ (by omega) (by omega) r4;have i3:=breaks_spec x.thn (by omega);have hyes:ends1 x=true->zMb l=true:=by intro h;rw[endsT_any,hl'.eq];simp[h]
   have hno:ends1 x=false->zMb (d++[x])=false:=by intro h;rw[endsT_any]at hp ⊢;rw[List.any_append,hp];simp[h]
   rw[ends1_eq]at hyes hno;clear hl' hp h hwx hxR hR r2 r3 r4;simp[zg]at i1 i2 i3;generalize zMb x.thn=b1 at*;generalize zMb x.els=b2 at*;generalize zoa x.thn=b3 at*;by_cases k8:x.kind=8
   ·replace hyes:=hyes (by simp[k8]);replace k8:=eqp k8;clear hno r1;simp[*,zb,zg,ze]
   by_cases k4:x.kind=4
   ·rw[if_neg k8,if_pos k4]at hyes hno;have k5:(x.kind=5)=False:=eqn (by omega);replace k8:=eqn k8;replace k4:=eqp k4;clear r1;cases b1
    ·replace hno:=hno rfl;clear hyes;simp[*,zb,zg,ze]
     all_goals(try grind)
    ·cases b2
     ·replace hno:=hno rfl;clear hyes;simp[*,zb,zg,ze]
      all_goals(try grind)
     ·replace hyes:=hyes rfl;clear hno;simp[*,zb,zg,ze]
   by_cases k5:x.kind=5
   ·rw[if_neg k8,if_neg k4,if_pos k5]at hyes hno;have hl1:x.args.length=1:=by rw[k5]at r1;simp[zN]at r1;omega
    obtain⟨y,hy⟩:=yF.1 hl1;have hg0:x.args[0]? =some y:=by rw[hy];rfl
    have ha0:arg0 x.args=y:=by unfold arg0;rw[hg0];rfl
    rw[ha0]at hyes hno;clear hy hl1 r1 ha0;replace k8:=eqn k8;replace k4:=eqn k4;replace k5:=eqp k5;by_cases y2:y.kind=2
    ·by_cases y1:y.n=1
     ·cases b3
      ·replace hyes:=hyes (by simp[y1,y2]);replace y2:=eqp y2;replace y1:=eqp y1;clear hno;simp[*,zb,zg,ze,za]
      ·replace hno:=hno (by simp);replace y2:=eqp y2;replace y1:=eqp y1;clear hyes;simp[*,zb,zg,ze,za]
       all_goals(try grind)
     ·replace hno:=hno (by simp[y1]);replace y2:=eqp y2;replace y1:=eqn y1;clear hyes;simp[*,zb,zg,ze,za]
      all_goals(try grind)
    ·replace hno:=hno (by simp[y2]);replace y2:=eqn y2;clear hyes;simp[*,zb,zg,ze,za]
     all_goals(try grind)
   ·rw[if_neg k8,if_neg k4,if_neg k5]at hyes hno;replace hno:=hno rfl;replace k8:=eqn k8;replace k4:=eqn k4;replace k5:=eqn k5;clear hyes r1;simp[*,zb,zg,ze]
    all_goals(try grind)
  ·intros s1 hp h1 h2 h3 h4;simp at h1 h2 h3;clear hR;simp[*]
theorem rends_spec(l:List Stmt)(m:Int)(h:wtSs l<1099508000000)(hR:zQ l m=true):zi E 75 [zg l] []=some (.ret (.bool (zMb l)),[]):=rends_spec' (wtSs l) l m (yd _) h hR
def cob(p:Prog)(f:Func)(n:Int):Obj:= .arr 7 [.agg [zia p.arrays,funcs p.funcs,.str f.name,.int .i64 f.type,parsV f.params,zg f.body,.int .i64 n]]
theorem rwant_spec{p:Prog}{g:Func}{s:List Vr}{e:Expr}{t m:Int}{σ:zc}{k:Nat}{n:Int}(hk:σ[k]? =some (cob p g n))(hz:Fit p)(hs:s.length<1099509000000)(hw:wtE e<1099510000000)(hR:zjb e m=true):
  zi E 123 [.ptr k 0 0,parsV (zxa s),zn e,.int .i64 t] σ=some (.ret (.int .i64 (ztc p s e t)),σ):=by
 refine zd rfl rfl rfl (by simp[za,parsV]) ?_;have h1:=rTypeOf_spec p s e m hz hw hs hR;unfold ztc;generalize zLb p s e=q at*;obtain⟨ty,f⟩:=q;simp only;clear hR hw hz hs;rw[za]at h1;simp[zf,ze,zub,parsV]at h1;unfold cob at hk;by_cases hf:f=0
 ·subst hf;by_cases ht:ty=t
  ·replace ht:=eqp ht;simp[*,F123,za,ze,parsV]
  ·replace ht:=eqn ht;simp[*,F123,za,ze,parsV]
 ·replace hf:=eqn hf;simp[*,F123,za,ze,parsV]
theorem findV_append(a b:List Vr)(nm:List UInt8):zIa (a++b) nm=if zIa a nm=[]then zIa b nm else zIa a nm++b:=by
 induction a with
 |nil=>simp[zIa]
 |cons v r ih=>
  rw[yT,zpb,zpb,ih];by_cases h:v.name=nm<;>simp[h]
theorem findV_mem{s:List Vr}{nm:List UInt8}{v:Vr}{r:List Vr}(h:zIa s nm=v::r):v∈s:=by
 induction s with
 |nil=>simp[zIa]at h
 |cons x q ih=>
  rw[zpb]at h;split at h
  ·cases h;simp
  ·simp[ih h]
structure Lay(s:List Vr)(d:Int)(q:Nat) where
 inner:List Vr
 outer:List Vr
 eq:s=inner++outer
 len:outer.length=q
 ins:∀v∈inner,v.depth=d
 outs:∀v∈outer,v.depth<d
theorem lay_let{s:List Vr}{d:Int}{q:Nat}(L:Lay s d q)(nm:List UInt8):(match zIa s nm with| []=>(0:Int)|v::_=>if v.depth<d then 0 else 50)=if zIa L.inner nm=[]then 0 else 50:=by
 obtain⟨inner,outer,rfl,len,ins,outs⟩:=L;simp only;rw[findV_append];by_cases h:zIa inner nm=[]
 ·rw[if_pos h,if_pos h];cases hb:zIa outer nm with
  |nil=>rfl
  |cons v r=>
   simp only;rw[if_pos (outs v (findV_mem hb))]
 ·rw[if_neg h,if_neg h];cases hb:zIa inner nm with
  |nil=>exact absurd hb h
  |cons v r=>
   simp only[yT];rw[if_neg (by rw[ins v (findV_mem hb)];omega)]
theorem lay_drop{s:List Vr}{d:Int}{q:Nat}(L:Lay s d q):(zxa s).drop q=zxa L.inner:=by
 obtain⟨inner,outer,rfl,len,ins,outs⟩:=L;simp only;rw[varsOf_append,List.drop_append_of_le_length (by rw[zHb,len];exact yd _),List.drop_of_length_le (by rw[zHb,len];exact yd _),yla]
set_option maxRecDepth 20000 in
set_option maxHeartbeats 8000000 in
theorem rown_spec{p:Prog}{g:Func}{s:List Vr}{x:Stmt}{d m:Int}{loop:Bool}{σ:zc}{k q:Nat}{n:Int}(hk:σ[k]? =some (cob p g n))(L:Lay s d q)(hz:Fit p)(hs:s.length<1099509000000)(hw:wtS x<1099509000000)(hR:zPb x m=true):
  zi E 99 [.ptr k 0 0,zw x,parsV (zxa s),.int .i64 q,.bool loop] σ=some (.ret (.int .i64 (stmtT p g.type s x.kind x.type x.name x.args d loop)),σ):=by
 refine zd rfl rfl rfl (by simp[zb,parsV]) ?_;obtain⟨r1,r2,_,_⟩:=zkc hR;rw[zta]at hw;have hwant:∀y∈x.args,∀t,zi E 123 [.ptr k 0 0,parsV (zxa s),zn y,.int .i64 t] σ=some (.ret (.int .i64 (ztc p s y t)),σ):=by
  intro y hy t;have:=zAb hy;exact rwant_spec hk hz hs (by omega) (r2 y hy)
 have hexp:∀y∈x.args,zi E 124 [zf p,parsV (zxa s),zn y] []=some (.ret (zub (zLb p s y)),[]):=by
  intro y hy;have:=zAb hy;exact rTypeOf_spec p s y 100 hz (by omega) hs (r2 y hy)
 have hone:(x.kind=1\/x.kind=2\/x.kind=4\/x.kind=5\/x.kind=8\/x.kind=9\/x.kind=10)->∃y,x.args=[y]:=by
  intro h;have:x.args.length=1:=by rcases h with h|h|h|h|h|h|h<;>(rw[h]at r1;simp[zN]at r1;omega)
  exact yF.1 this
 have hkind:1<=x.kind/\x.kind<=10:=by
  by_cases h:1<=x.kind/\x.kind<=10
  ·exact h
  ·exfalso;have:(zN x.kind).2.2.1= -1:=by
    unfold zN
    repeat' (first|rw[if_neg (by omega)]|rfl)
   omega
 have hf:=rfind_spec s x.name (by omega);have hil:L.inner.length<1099511627776:=by
  have:=congrArg yV L.eq;rw[yi]at this;omega
 have hql:q<=s.length:=by
  have:=congrArg yV L.eq;rw[yi,L.len]at this;omega
 have hfi:=rfind_spec L.inner x.name hil;have hdrop:=lay_drop L;have hlet:=lay_let L x.name;have hvl:=zHb s;have hh:=zYc p x.name (by have:=hz.a;omega);have h3:decide (0<=zYa p x.name)=znb p x.name:=idx_ge (fun f:PArr=>decide (f.name=x.name)) p.arrays;have h3':(zYa p x.name<0)=(znb p x.name=false):=by
  rw[<-h3,decide_eq_false_iff_not];apply propext;omega
 have hlvl:((zxa s).map encPar).length=s.length:=by simp[zxa]
 clear r2 hR hw hz h3 hil;unfold stmtT;unfold cob at hk;simp[zf]at hh;have one:∀y,x.args=[y]->x.args[0]? =some y/\arg0 x.args=y:=by
  intro y hy;have hget:x.args[0]? =some y:=by rw[hy];rfl
  exact⟨hget,by unfold arg0;rw[hget];rfl⟩
 by_cases k1:x.kind=1
 ·obtain⟨y,hy⟩:=hone (by simp[k1]);obtain⟨hget,ha0⟩:=one y hy;have hw1:=hwant y (by rw[hy];simp) x.type;rw[if_neg (by omega),if_neg (by omega),if_neg (by omega),if_neg (by omega),if_neg (by omega)];have hb:boundT p s x.kind x.type x.name x.args d=if ztc p s (arg0 x.args) x.type≠0 then ztc p s (arg0 x.args) x.type else if zIa L.inner x.name=[]then 0 else 50:=by
   unfold boundT;rw[if_pos k1];split
   ·rfl
   ·exact hlet
  rw[hb,ha0];rw[za]at hw1;simp[ze,parsV]at hw1 hfi;have hd2:List.drop q ((zxa s).map encPar)=(zxa L.inner).map encPar:=by rw[<-List.map_drop,hdrop]
  have htk:List.take s.length ((zxa s).map encPar)=(zxa s).map encPar:=yy (by rw[hlvl];exact yd _);unfold parsV;generalize(zxa s).map encPar=vs at*;replace k1:=eqp k1;clear hy r1 ha0 hwant hexp hone hkind h3' hh one hf hlet hdrop hvl hb;generalize ztc p s y x.type=f at*;have q0:(0<=(q:Int)):=by omega
  by_cases hff:f=0
  ·subst hff;by_cases hin:zIa L.inner x.name=[]
   ·replace hin:=eqp hin;simp[*,F99,zb,ze,za,parsV]
   ·replace hin:=eqn hin;simp[*,F99,zb,ze,za,parsV]
  ·replace hff:=eqn hff;simp[*,F99,zb,ze,za,parsV]
 clear hfi hdrop hlet hql hvl hlvl;by_cases k2:x.kind=2
 ·obtain⟨y,hy⟩:=hone (by simp[k2]);obtain⟨hget,ha0⟩:=one y hy;have hw1:=hwant y (by rw[hy];simp);rw[if_neg (by omega),if_neg (by omega),if_neg (by omega),if_neg (by omega),if_neg (by omega)];unfold boundT;rw[if_neg k1,if_pos k2,ha0];clear hy r1 ha0 hwant hexp hone hkind h3' hh one;replace k1:=eqn k1;replace k2:=eqp k2;unfold typeV at hf;generalize zIa s x.name=vs at*;cases vs with
  |nil=>
   clear hw1;simp[parsV]at hf;simp[*,F99,zb,ze,za,parsV]
  |cons v r=>
   have hw1:=hw1 v.type;rw[za]at hw1;simp[ze,parsV]at hw1 hf;simp[*,F99,zb,ze,za,parsV]
 clear hf;by_cases k3:x.kind=3
 ·have hl2:x.args.length=2:=by rw[k3]at r1;simp[zN]at r1;omega
  obtain⟨y,z,hy⟩:∃y z,x.args=[y,z]:=by
   match h:x.args,hl2 with
   | [y,z],_=>exact⟨y,z,rfl⟩
  have hget:x.args[0]? =some y:=by rw[hy];rfl
  have hget1:x.args[1]? =some z:=by rw[hy];rfl
  have ha0:arg0 x.args=y:=by unfold arg0;rw[hget];rfl
  have ha1:arg1 x.args=z:=by unfold arg1;rw[hget1];rfl
  rw[if_neg (by omega),if_neg (by omega),if_neg (by omega),if_neg (by omega),if_neg (by omega)];unfold boundT;rw[if_neg k1,if_neg k2,ha0,ha1];have hw1:=hwant y (by rw[hy];simp) 1;have hw2:=hwant z (by rw[hy];simp) 1;clear hy hl2 r1 ha0 ha1 hwant hexp hone hkind one;replace k1:=eqn k1;replace k2:=eqn k2;replace k3:=eqp k3;rw[za]at hw1 hw2;simp[ze,parsV]at hw1 hw2;generalize znb p x.name=b at*;cases b
  ·clear hw1 hw2;simp at h3';replace h3':=eqp h3';simp[*,F99,zb,ze,za,parsV]
  ·simp at h3';replace h3':(zYa p x.name<0)=False:=eqn (by omega);generalize ztc p s y 1=f at*;by_cases hff:f=0
   ·subst hff;simp[*,F99,zb,ze,za,parsV]
   ·replace hff:=eqn hff;simp[*,F99,zb,ze,za,parsV]
 clear hh h3';by_cases k45:x.kind=4\/x.kind=5
 ·obtain⟨y,hy⟩:=hone (by rcases k45 with h|h<;>simp[h]);obtain⟨hget,ha0⟩:=one y hy;have hw1:=hwant y (by rw[hy];simp) 2;rw[if_pos k45,ha0];rw[za]at hw1;simp[ze,parsV]at hw1;clear hy r1 ha0 hwant hexp hone one;have k5':x.kind=5->(x.kind=4)=False:=fun h=>eqn (by omega)
  replace k1:=eqn k1;replace k2:=eqn k2;replace k3:=eqn k3;clear hkind;rcases k45 with k4|k4
  ·replace k4:=eqp k4;clear k5';simp[*,F99,zb,ze,za,parsV]
  ·replace k5':=k5' k4;replace k4:=eqp k4;simp[*,F99,zb,ze,za,parsV]
 rw[if_neg k45];have k4:(x.kind=4)=False:=eqn fun h=>k45 (yTa h)
 have k5:(x.kind=5)=False:=eqn fun h=>k45 (yZa h)
 replace k1:=eqn k1;replace k2:=eqn k2;replace k3:=eqn k3;clear k45;by_cases k8:x.kind=8
 ·obtain⟨y,hy⟩:=hone (by simp[k8]);obtain⟨hget,ha0⟩:=one y hy;have hw1:=hwant y (by rw[hy];simp) g.type;rw[if_pos k8,ha0];rw[za]at hw1;simp[ze,parsV]at hw1;clear hy r1 ha0 hwant hexp hone one hkind;replace k8:=eqp k8;simp[*,F99,zb,ze,za,parsV]
 by_cases k9:x.kind=9
 ·obtain⟨y,hy⟩:=hone (by simp[k9]);obtain⟨hget,ha0⟩:=one y hy;have hw1:=hwant y (by rw[hy];simp) 1;rw[if_neg k8,if_pos k9,ha0];rw[za]at hw1;simp[ze,parsV]at hw1;clear hy r1 ha0 hwant hexp hone one hkind;replace k8:=eqn k8;replace k9:=eqp k9;simp[*,F99,zb,ze,za,parsV]
 by_cases k10:x.kind=10
 ·obtain⟨y,hy⟩:=hone (by simp[k10]);obtain⟨hget,ha0⟩:=one y hy;have hw1:=hexp y (by rw[hy];simp);rw[if_neg k8,if_neg k9,if_pos k10,ha0];rw[za]at hw1;simp[ze,parsV,zf,zub]at hw1;clear hy r1 ha0 hwant hexp hone one hkind;replace k8:=eqn k8;replace k9:=eqn k9;replace k10:=eqp k10;simp[*,F99,zb,ze,za,parsV]
 rw[if_neg k8,if_neg k9,if_neg k10,if_pos (by
  have:=of_eq_false k1;have:=of_eq_false k2;have:=of_eq_false k3;have:=of_eq_false k4;have:=of_eq_false k5;omega)]
 replace k8:=eqn k8;replace k9:=eqn k9;replace k10:=eqn k10;clear r1 hwant hexp hone one hkind;cases loop<;>simp[*,F99,zb,ze,za,parsV]
theorem blockGo_len(p:Prog)(res d:Int)(loop:Bool):∀(l:List Stmt) (vs:List Vr) (n:Int),(zJa p res d loop l vs n).1.length<=vs.length+l.length
 | [],vs,n=>by simp[zJa]
 |x::r,vs,n=>by
  have h2:=blockGo_len p res d loop r (zpa d x vs) (zec p res x vs d loop n).2;have h1:(zpa d x vs).length<=vs.length+1:=by unfold zpa;split<;>simp
  simp only[zJa,yj];omega
theorem lay_behind{s:List Vr}{d:Int}{q:Nat}(L:Lay s d q)(x:Stmt):Nonempty (Lay (zpa d x s) d q):=by
 obtain⟨inner,outer,rfl,len,ins,outs⟩:=L;unfold zpa;split
 ·refine⟨⟨⟨x.name,x.type,d⟩::inner,outer,rfl,len,?_,outs⟩⟩;intro v hv;rcases yw.1 hv with rfl|hv
  ·rfl
  ·exact ins v hv
 ·exact⟨⟨inner,outer,rfl,len,ins,outs⟩⟩
theorem lay_under{s:List Vr}{d:Int}{q:Nat}(L:Lay s d q):∀v∈s,v.depth<d+1:=by
 obtain⟨inner,outer,rfl,len,ins,outs⟩:=L;intro v hv;rcases yx.1 hv with h|h
 ·have:=ins v h;omega
 ·have:=outs v h;omega
set_option maxRecDepth 20000 in
set_option maxHeartbeats 16000000 in
theorem rblock_spec':∀w (p:Prog) (g:Func) (l:List Stmt) (vs:List Vr) (d m n:Int) (loop:Bool) (σ:zc) (k:Nat),wtSs l<=w->w<1099508000000->Fit p->zQ l m=true->0<=n->n+wtSs l<4000000000000->vs.length+wtSs l<1099508500000->(∀v∈vs,v.depth<d)->σ[k]? =some (cob p g n)→
  zi E 74 [.ptr k 0 0,zg l,parsV (zxa vs),.bool loop] σ=some (.ret (.int .i64 (zca p g.type l vs d loop n).1),σ.set k (cob p g (zca p g.type l vs d loop n).2)):=by
 intro w
 induction w with
 |zero=>
  intro p g l vs d m n loop σ k h hw hz hR hn0 hnw hvl hvd hk;have hl:l=[]:=by
   have:=zra l;exact yA (by omega)
  subst hl;have hset:σ.set k (cob p g n)=σ:=by
   have hlt:=(ya.1 hk)
   obtain⟨h1,h2⟩:=hlt;rw[<-h2,yRa]
  have hvl2:=zHb vs;have hroom:vs.length*24<=zo:=by simp only[zo];omega
  refine zd rfl rfl rfl (by simp[zg,parsV]) ?_;simp only[zca,hset];simp[F74,zg,parsV,hvl2,hroom];refine zG ([]:List Stmt) K74_0 B74_0 (fun d'=>[(9,acc 2 ((zxa vs).map encPar)),(10,.int .i64 d'.length)]) (fun _=>σ) (fun _=>True) (by simp) (by simp) ?_ ?_
  ·intros d' x r s1 hl' hlt;simp at hlt
  ·intros s1 hp h1 h2 h3 h4;simp at h1 h2 h3;simp[*]
 |succ w ih=>
  intro p g l vs d m n loop σ k h hw hz hR hn0 hnw hvl hvd hk;have hlen:=zra l;have hset:σ.set k (cob p g n)=σ:=by
   have hlt:=(ya.1 hk)
   obtain⟨h1,h2⟩:=hlt;rw[<-h2,yRa]
  have hklt:k<σ.length:=(ya.1 hk).1;have hvl2:=zHb vs;have hroom:vs.length*24<=zo:=by simp only[zo];omega
  refine zd rfl rfl rfl (by simp[zg,parsV]) ?_;simp[F74,zg,parsV,hvl2,hroom];refine zG l K74_0 B74_0 (fun q=>[(9,acc 2 ((zxa (zJa p g.type d loop q vs n).1).map encPar)),(10,.int .i64 q.length)]) (fun q=>σ.set k (cob p g (zJa p g.type d loop q vs n).2)) (fun q=>zpc p g.type d loop q vs n/\Nonempty (Lay (zJa p g.type d loop q vs n).1 d vs.length)) (by omega) ?_ ?_ ?_
  ·simp[zJa,zpc,hset];exact⟨⟨[],vs,rfl,rfl,by simp,hvd⟩⟩
  ·intros q x r s1 hl' hlt hget hget' hw1 hp h1 h2 h3 h4;obtain⟨hp,⟨L⟩⟩:=hp;have hT:=blockT_go p g.type d loop (x::r) q vs n hp;rw[<-hl'.eq,zTb,zce]at hT;have hG:=blockGo_snoc p g.type d loop x q vs n;have hF:=zEe p g.type d loop x q vs n hp;rw[zce]at hG hF;have hxR:zPb x m=true:=by rw[stmtsR_all,yq]at hR;exact hR x hl'.mem
   have hwx:=zSc hl'.mem;rw[zta]at hwx;obtain⟨r1,r2,r3,r4⟩:=zkc hxR;have hgc:=zsf p g.type d loop q vs n;have hgl:=blockGo_len p g.type d loop q vs n;have hws:wtSs l=wtSs q+(1+wtS x+wtSs r):=by rw[hl'.eq,zJd];rfl
   rw[zta]at hws;have hlq:=zra q;generalize zJa p g.type d loop q vs n=gg at*;obtain⟨v1,n1⟩:=gg;simp only at hT hG hF h3 h4 hgc hgl L;have hwn:zC .i64 (n1+1)=n1+1:=zj (by omega) (by omega);have hk1:(σ.set k (cob p g n1))[k]? =some (cob p g n1):=by rw[yl hklt]
   have hst:=rown_spec (x:=x) (loop:=loop) hk1 L hz (by omega) (by rw[zta];omega) hxR;obtain⟨L2⟩:=lay_behind L x;have hun:=lay_under L2;have hbl:(zpa d x v1).length<=v1.length+1:=by unfold zpa;split<;>simp
   have hvv:=zHb v1;have hi1:=ih p g x.thn (zpa d x v1) (d+1) (m-1) (n1+1) (loop||decide (x.kind=5)) (σ.set k (cob p g (n1+1))) k (by omega) (by omega) hz r3 (by omega) (by omega) (by omega) hun (by rw[yl hklt]);rw[List.set_set]at hi1;have hc1:=zqd p g.type x.thn (zpa d x v1) (d+1) (loop||decide (x.kind=5)) (n1+1);generalize hT1:zca p g.type x.thn (zpa d x v1) (d+1) (loop||decide (x.kind=5)) (n1+1)=t1 at*;obtain⟨f1,n2⟩:=t1;simp only at hc1;have hi2:=ih p g x.els (zpa d x v1) (d+1) (m-1) n2 loop (σ.set k (cob p g n2)) k (by omega) (by omega) hz r4 (by omega) (by omega) (by omega) hun (by rw[yl hklt]);rw[List.set_set]at hi2;simp only at hT hG hF hi1;generalize hT2:zca p g.type x.els (zpa d x v1) (d+1) loop n2=t2 at*;obtain⟨f2,n3⟩:=t2;simp only at hT hG hF hi2;generalize stmtT p g.type v1 x.kind x.type x.name x.args d loop=f0 at*;have hb:zpa d x v1=if x.kind=1 then⟨x.name,x.type,d⟩::v1 else v1:=rfl
   have hroom1:(v1.length+1)*24<=zo:=by simp only[zo];omega
   have hL3:Nonempty (Lay (zpa d x v1) d vs.length):=⟨L2⟩
   clear ih hT1 hT2 r1 r2 r3 r4 hws hgc hc1 hnw hn0 hwx hxR hl' hR h hlen hset L L2 hun hlq hbl hgl hroom hvd hvl;rw[zb]at hst;simp[ze,zg,parsV]at hst hi1 hi2;simp[ze,zg]at h1 h2 h3 h4;unfold cob at*;simp only[zg,parsV]at hst hi1 hi2 h4 hk ⊢;by_cases hf0:f0=0
   case neg=>
    simp[hf0]at hT;rw[hT];clear hT hG hF hi1 hi2 hb hp hL3;replace hf0:=eqn hf0;simp[*,zb,ze,zg,parsV]
   subst hf0;by_cases hk1:x.kind=1
   ·have hk5:¬x.kind=5:=by omega
    rw[if_pos hk1]at hb;replace hk1:=eqp hk1;replace hk5:=eqn hk5;rw[hb]at hi1 hi2 hG hL3;clear hb;rw[zLd]at hi1 hi2;simp only[parOf,hk5,decide_false,Bool.or_false,yda,yp,yxa,encPar]at hi1 hi2;by_cases hf1:f1=0
    case neg=>
     simp[hf1]at hT;rw[hT];clear hT hG hF hi2 hp hL3;replace hf1:=eqn hf1;cases loop<;>simp[*,zb,ze,zg,parsV]
    subst hf1;by_cases hf2:f2=0
    case neg=>
     simp[hf2]at hT;rw[hT];clear hT hG hF hp hL3;replace hf2:=eqn hf2;cases loop<;>simp[*,zb,ze,zg,parsV]
    subst hf2;simp at hG hF;clear hT hp;have hv2:(zxa (⟨x.name,x.type,d⟩::v1)).map encPar=(zxa v1).map encPar++[.agg [.str x.name,.int .i64 x.type]]:=by rw[zLd];simp[parOf,encPar]
    cases loop<;>simp[*,zb,ze,zg,parsV]
   ·rw[if_neg hk1]at hb;replace hk1:=eqn hk1;rw[hb]at hi1 hi2 hG hL3;clear hb;by_cases hf1:f1=0
    case neg=>
     simp[hf1]at hT;rw[hT];clear hT hG hF hi2 hp hL3;replace hf1:=eqn hf1;cases loop<;>simp at hi1<;>simp[*,zb,ze,zg,parsV]
    subst hf1;by_cases hf2:f2=0
    case neg=>
     simp[hf2]at hT;rw[hT];clear hT hG hF hp hL3;replace hf2:=eqn hf2;cases loop<;>simp at hi1<;>simp[*,zb,ze,zg,parsV]
    subst hf2;simp at hG hF;clear hT hp;cases loop<;>simp at hi1<;>simp[*,zb,ze,zg,parsV]
  ·intros s1 hp h1 h2 h3 h4;obtain⟨hp,_⟩:=hp;have hT:=blockT_go p g.type d loop [] l vs n hp;rw[List.append_nil,zca]at hT;rw[hT];simp at h1 h2 h3 h4;clear hT hp hR ih;simp[*]
abbrev Cnt:=List (List UInt8×Int)
def zYd(l:Cnt):List (PV×PV):=l.map fun x=>(.str x.1,.int .i64 x.2)
def getC(nm:List UInt8):Cnt->Int
 | []=>0
 |x::r=>if nm=x.1 then x.2 else getC nm r
def hasC(nm:List UInt8)(l:Cnt):Bool:=l.any fun x=>decide (nm=x.1)
def setC(nm:List UInt8)(v:Int):Cnt->Cnt
 | []=>[(nm,v)]
 |x::r=>if nm=x.1 then(nm,v)::r else x::setC nm v r
theorem find_cnt(nm:List UInt8)(l:Cnt):zS true (.str nm) (zYd l)=some (if hasC nm l then some (.int .i64 (getC nm l))else none):=by
 induction l with
 |nil=>simp[zYd,hasC]
 |cons x r ih=>
  have ih':zS true (.str nm) (r.map fun x=>(PV.str x.1,PV.int .i64 x.2))=_:=ih;simp only[zYd,yp,zS,zuc,if_true];by_cases h:nm=x.1
  ·simp[h,hasC,getC]
  ·have hd:decide (nm=x.1)=false:=decide_eq_false h;simp only[decide_eq_false h,ih',getC,if_neg h,hasC,List.any_cons,yQ];rfl
theorem set_cnt(nm:List UInt8)(v:Int)(l:Cnt):zSb true (.str nm) (.int .i64 v) (zYd l)=some (zYd (setC nm v l)):=by
 induction l with
 |nil=>simp[zYd,setC]
 |cons x r ih=>
  have ih':zSb true (.str nm) (.int .i64 v) (r.map fun x=>(PV.str x.1,PV.int .i64 x.2))=_:=ih;simp only[zYd,yp,zSb,zuc,if_true];by_cases h:nm=x.1
  ·simp[h,setC]
  ·simp[h,ih',setC,zYd]
noncomputable def bump(l:Cnt)(nm:List UInt8):Cnt:=setC nm (zC .i64 (getC nm l+1)) l
noncomputable def zfa(l:Cnt)(d:List (List UInt8)):Cnt:=d.foldl bump l
theorem zpf(l:Cnt)(d:List (List UInt8))(x:List UInt8):zfa l (d++[x])=bump (zfa l d) x:=by simp[zfa]
theorem getC_none{nm:List UInt8}{l:Cnt}(h:hasC nm l=false):getC nm l=0:=by
 induction l with
 |nil=>rfl
 |cons x r ih=>
  simp[hasC]at h ih;rw[getC,if_neg h.1];exact ih (by simpa[hasC]using h.2)
theorem setC_keys(nm:List UInt8)(v:Int)(l:Cnt):(setC nm v l).length=(if hasC nm l then l.length else l.length+1)/\∀y,hasC y (setC nm v l)=(decide (y=nm)||hasC y l):=by
 induction l with
 |nil=>simp[setC,hasC]
 |cons x r ih=>
  obtain⟨i1,i2⟩:=ih;unfold setC;by_cases h:nm=x.1
  ·rw[if_pos h];subst h;refine⟨by simp[hasC],fun y=>?_⟩;simp[hasC]
  ·rw[if_neg h];refine⟨?_,fun y=>?_⟩
   ·have:hasC nm (x::r)=hasC nm r:=by simp[hasC,h]
    rw[yj,i1,this];split<;>simp
   ·have e1:hasC y (x::setC nm v r)=(decide (y=x.1)||hasC y (setC nm v r)):=by simp[hasC]
    have e2:hasC y (x::r)=(decide (y=x.1)||hasC y r):=by simp[hasC]
    rw[e1,e2,i2];cases decide (y=x.1)<;>simp
theorem counts_len(d:List (List UInt8)):(zfa [] d).length<=d.length/\((zfa [] d).length=d.length<->d.Nodup)/\∀y,hasC y (zfa [] d)=decide (y∈d):=by
 suffices h:∀d:List (List UInt8),(zfa [] d.reverse).length<=d.length/\((zfa [] d.reverse).length=d.length<->d.Nodup)/\∀y,hasC y (zfa [] d.reverse)=decide (y∈d) by
  have:=h d.reverse;rw[(List.reverse_perm d).nodup_iff]at this;simpa using this
 intro d
 induction d with
 |nil=>simp[zfa,hasC]
 |cons x r ih=>
  obtain⟨i1,i2,i3⟩:=ih;rw[yUa,zpf];unfold bump;obtain⟨k1,k2⟩:=setC_keys x (zC .i64 (getC x (zfa [] r.reverse)+1)) (zfa [] r.reverse);rw[i3]at k1;refine⟨?_,?_,?_⟩
  ·rw[k1];split<;>simp<;>omega
  ·rw[k1,List.nodup_cons];by_cases hx:x∈r
   ·simp[hx];omega
   ·simp[hx];exact i2
  ·intro y;rw[k2,i3];simp
theorem mapLen(l:Cnt):(zYd l).length=l.length:=by simp[zYd]
def twiceM(l:List Par):Bool:= !decide ((l.map (·.name)).Nodup)
set_option maxHeartbeats 1000000 in
theorem twice_spec(l:List Par)(hl:l.length<1099511000000):zi E 83 [parsV l] []=some (.ret (.bool (twiceM l)),[]):=by
 refine zd rfl rfl rfl (by simp[parsV]) ?_;simp[F83,parsV];refine zG l K83_0 B83_0 (fun d=>[(9,.int .i64 d.length)]) (fun d=>[.mp (zYd (zfa [] (d.map (·.name))))]) (fun _=>True) (by omega) (by simp[zfa,zYd]) ?_ ?_
 ·intros d x r s1 hl' hlt hget hget' hw1 hp h1 h2 h3 h4;simp at h1 h2 h3 h4;have f1:=find_cnt x.name (zfa [] (d.map (·.name)));have s1':=set_cnt x.name (zC .i64 (getC x.name (zfa [] (d.map (·.name)))+1)) (zfa [] (d.map (·.name)));have e1:zfa [] ((d++[x]).map (·.name))=setC x.name (zC .i64 (getC x.name (zfa [] (d.map (·.name)))+1)) (zfa [] (d.map (·.name))):=by rw[yda,yp,yxa,zpf];rfl
  have e2:=getC_none (nm:=x.name) (l:=zfa [] (d.map (·.name)));generalize zfa [] (d.map (·.name))=c at*;clear hl';cases hh:hasC x.name c
  ·rw[hh]at f1;have e2:=e2 hh;rw[e2]at s1' e1;simp at f1 s1' e1;simp[*,encPar]
  ·rw[hh]at f1;clear e2;simp at f1 s1' e1;simp[*,encPar]
 ·intros s1 hp h1 h2 h3 h4;simp at h1 h2 h3 h4;obtain⟨c1,c2,c3⟩:=counts_len (l.map (·.name));have hlen:=mapLen (zfa [] (l.map (·.name)));simp only[yu]at c1 c2;generalize zfa [] (l.map (·.name))=c at*;have hR:twiceM l=decide ((c.length:Int)<l.length):=by
   unfold twiceM;rw[<-decide_not,decide_eq_decide,<-c2];omega
  clear c1 c2 c3 hp;simp[*]
def zPc:List UInt8:=[109,97,105,110]
def zxc(p:Prog):Bool:=decide ((p.arrays.map (·.name)++p.funcs.map (·.name)).Nodup)&&(match zKa p zPc with
 |some f=>decide (f.type=1)&&decide (f.params=[])
 |none=>false)
set_option maxHeartbeats 4000000 in
theorem tnamed_spec(p:Prog)(hz:Fit p):zi E 82 [zf p] []=some (.ret (.bool (zxc p)),[]):=by
 have ha:=hz.a;have hf:=hz.f;have hpl:=place_spec p zPc [] (by omega);have hsum:zC .i64 ((p.arrays.length:Int)+p.funcs.length)=(p.arrays.length:Int)+p.funcs.length:=zj (by omega) (by omega);refine zd rfl rfl rfl (by simp[zf]) ?_;simp[F82,zf,zia,funcs];refine zG p.arrays K82_0 B82_0 (fun d=>[(13,.int .i64 d.length)]) (fun d=>[.mp (zYd (zfa [] (d.map (·.name))))]) (fun _=>True) (by omega) (by simp[zfa,zYd]) ?_ ?_
 ·intros d x r s1 hl' hlt hget hget' hw1 hp h1 h2 h3 h4;simp at h1 h2 h3 h4;have f1:=find_cnt x.name (zfa [] (d.map (·.name)));have s1':=set_cnt x.name (zC .i64 (getC x.name (zfa [] (d.map (·.name)))+1)) (zfa [] (d.map (·.name)));have e1:zfa [] ((d++[x]).map (·.name))=setC x.name (zC .i64 (getC x.name (zfa [] (d.map (·.name)))+1)) (zfa [] (d.map (·.name))):=by rw[yda,yp,yxa,zpf];rfl
  have e2:=getC_none (nm:=x.name) (l:=zfa [] (d.map (·.name)));generalize zfa [] (d.map (·.name))=c at*;clear hl' hpl hsum ha hf;cases hh:hasC x.name c
  ·rw[hh]at f1;have e2:=e2 hh;rw[e2]at s1' e1;simp at f1 s1' e1;simp[*,zK]
  ·rw[hh]at f1;clear e2;simp at f1 s1' e1;simp[*,zK]
 intros s1 hp h1 h2 h3 h4;simp at h1 h2 h3 h4;clear hp;simp[*];refine zG p.funcs K82_1 B82_1 (fun d=>[(26,.int .i64 d.length)]) (fun d=>[.mp (zYd (zfa [] (p.arrays.map (·.name)++d.map (·.name))))]) (fun _=>True) (by omega) ?_ ?_ ?_
 ·simp[*]
 ·intros d x r s2 hl' hlt hget hget' hw1 hp g1 g2 g3 g4;simp at g1 g2 g3 g4;have f1:=find_cnt x.name (zfa [] (p.arrays.map (·.name)++d.map (·.name)));have s1':=set_cnt x.name (zC .i64 (getC x.name (zfa [] (p.arrays.map (·.name)++d.map (·.name)))+1)) (zfa [] (p.arrays.map (·.name)++d.map (·.name)));have e1:zfa [] (p.arrays.map (·.name)++(d++[x]).map (·.name))=setC x.name (zC .i64 (getC x.name (zfa [] (p.arrays.map (·.name)++d.map (·.name)))+1)) (zfa [] (p.arrays.map (·.name)++d.map (·.name))):=by rw[yda,yp,yxa,<-yR,zpf];rfl
  have e2:=getC_none (nm:=x.name) (l:=zfa [] (p.arrays.map (·.name)++d.map (·.name)));generalize zfa [] (p.arrays.map (·.name)++d.map (·.name))=c at*;clear hl' hpl hsum ha hf h1 h2 h4;cases hh:hasC x.name c
  ·rw[hh]at f1;have e2:=e2 hh;rw[e2]at s1' e1;simp at f1 s1' e1;simp[*,zl]
  ·rw[hh]at f1;clear e2;simp at f1 s1' e1;simp[*,zl]
 ·intros s2 hp g1 g2 g3 g4;simp at g1 g2 g3 g4;obtain⟨c1,c2,c3⟩:=counts_len (p.arrays.map (·.name)++p.funcs.map (·.name));have hlen:=mapLen (zfa [] (p.arrays.map (·.name)++p.funcs.map (·.name)));simp only[yu,yi]at c1 c2;unfold zxc;have hR:decide ((p.arrays.map (·.name)++p.funcs.map (·.name)).Nodup)=decide (((zfa [] (p.arrays.map (·.name)++p.funcs.map (·.name))).length:Int)=(p.arrays.length:Int)+p.funcs.length):=by
   rw[decide_eq_decide,<-c2];omega
  rw[hR];generalize zfa [] (p.arrays.map (·.name)++p.funcs.map (·.name))=c at*;clear c1 c2 c3 hp h1 h2 h4 hR;simp[zf,zPc,zia,funcs]at hpl;rcases znc (fun f:Func=>decide (f.name=zPc)) p.funcs with⟨a1,a2⟩|⟨n,f,a1,a2,a3,a4,a5⟩
  ·have a1:zBa p zPc= -1:=a1;have a2:zKa p zPc=none:=a2;simp[zPc]at a1;rw[a1]at hpl;rw[a2];clear ha hf a2 a1;by_cases hq:(c.length:Int)=(p.arrays.length:Int)+p.funcs.length
   ·replace hq:=eqp hq;simp[*]
   ·replace hq:=eqn hq;simp[*]
  ·have a1:zBa p zPc=n:=a1;have a3:zKa p zPc=some f:=a3;simp[zPc]at a1;rw[a1]at hpl;rw[a3];clear ha hf a3 a4 a5 a1;by_cases hq:(c.length:Int)=(p.arrays.length:Int)+p.funcs.length
   ·replace hq:=eqp hq;by_cases ht:f.type=1
    ·replace ht:=eqp ht;simp[*,zl,parsV]
    ·replace ht:=eqn ht;simp[*,zl,parsV]
   ·replace hq:=eqn hq;simp[*]
def zob(p:Prog)(f:Func):Int×Int:=
 if twiceM f.params then(50,0)
 else
  let q:=zca p f.type f.body (zX f.params) 1 false 0
  (if q.1=0/\zMb f.body=false then 52 else q.1,q.2)
def zwc(p:Prog):List Func->Int->Int×Int×Int
 | [],_=>(0,0,0)
 |f::r,i=>if(zob p f).1≠0 then((zob p f).1,i,(zob p f).2)else zwc p r (i+1)
def zQa(p:Prog):Int×Int×Int:=if zQb p then if zxc p then zwc p p.funcs 0 else(50,0,0)else(1,0,0)
def zLa(r:Int×Int×Int):PV:= .tup [.int .i64 r.1,.agg [.int .i64 r.2.1,.int .i64 r.2.2]]
theorem zae(p:Prog)(r:List Func):∀(d:List Func) (i:Int),(∀f∈d,(zob p f).1=0)->zwc p (d++r) i=zwc p r (i+d.length)
 | [],i,_=>by simp
 |f::d,i,h=>by
  have h1:=h f (by simp);rw[yT,zwc,if_neg (by rw[h1];simp),zae p r d (i+1) (fun g hg=>h g (by simp[hg]))];rw[yj];congr 1;omega
theorem PSz.fit{p:Prog}(h:PSz p):Fit p:=⟨h.1,h.2.1,fun f hf=>(h.2.2 f hf).2⟩
set_option maxRecDepth 20000 in
set_option maxHeartbeats 8000000 in
theorem check_spec(p:Prog)(hz:PSz p):zi E 51 [zf p] []=some (.ret (zLa (zQa p)),[]):=by
 have hfit:=hz.fit;obtain⟨z1,z2,z3⟩:=hz;have hr:=tright_spec p ⟨z1,z2,z3⟩;have hn:=tnamed_spec p hfit;refine zd rfl rfl rfl (by simp[zf]) ?_;unfold zQa;cases hR:zQb p
 ·rw[hR]at hr;clear hn hfit z3;simp[zf]at hr;simp[*,F51,zf,zLa]
 cases hN:zxc p
 ·rw[hR]at hr;rw[hN]at hn;clear hfit z3;simp[zf]at hr hn;simp[*,F51,zf,zLa]
 rw[hR]at hr;rw[hN]at hn;simp[zf,funcs]at hr hn;simp[hr,hn,F51,zf,funcs];refine zhe p.funcs K51_0 B51_0 (fun d=>[(21,.int .i64 d.length)]) (fun d=>[(3,.cells [.int .i64 0,.int .i64 0])]) (fun d=>d.map fun f=>fob p f.type (zob p f).2) (fun d=>∀f∈d,(zob p f).1=0) (by omega) (by simp) ?_ ?_
 ·intros d x r s1 hl' hlt hget hget' hw1 hp h1 h2 h3 h5 h4;have hC:=zae p (x::r) d 0 hp;rw[<-hl'.eq,zwc,Int.zero_add]at hC;obtain⟨y1,y2⟩:=z3 x hl'.mem;have hbR:zQ x.body 100=true:=by
   unfold zQb at hR;rw[yb,yq,yq]at hR;have:=hR.2 x hl'.mem;unfold zAd at this;simp only[yb]at this;exact this.2.2.2.1
  have e1:=twice_spec x.params (by omega);have e2:=scoped_spec x.params [] (by omega);have e3:=ends_spec x.body 100 y1 hbR;have hlen:(d.map fun f=>fob p f.type (zob p f).2).length=d.length:=by simp
  have e4:=block_spec' (wtSs x.body) p x.type x.body (zX x.params) 1 100 0 false ((d.map fun f=>fob p f.type (zob p f).2)++[fob p x.type 0]) d.length (yd _) y1 hfit hbR (by omega) (by omega) (by omega) (by omega) (by omega) (by rw[yh (by omega),hlen];simp);have hnx:(zob p x).1=0->∀f∈d++[x],(zob p f).1=0:=by
   intro h f hf;rcases yx.1 hf with hf|hf
   ·exact hp f hf
   ·rw[yL.1 hf];exact h
  have hset:∀v,((d.map fun f=>fob p f.type (zob p f).2)++[fob p x.type 0]).set d.length v=(d.map fun f=>fob p f.type (zob p f).2)++[v]:=by
   intro v;rw[yqa _ _ (by omega),hlen];simp
  have hmap:(d++[x]).map (fun f=>fob p f.type (zob p f).2)=(d.map fun f=>fob p f.type (zob p f).2)++[fob p x.type (zob p x).2]:=by simp
  rw[hset]at e4;have h1x:zob p x=if twiceM x.params then(50,0)else(if(zca p x.type x.body (zX x.params) 1 false 0).1=0/\zMb x.body=false then 52 else(zca p x.type x.body (zX x.params) 1 false 0).1,(zca p x.type x.body (zX x.params) 1 false 0).2):=rfl
  generalize hfx:zob p x=fx at*;generalize zca p x.type x.body (zX x.params) 1 false 0=q at*;generalize twiceM x.params=tw at*;generalize zMb x.body=en at*;obtain⟨f,n⟩:=q;obtain⟨fe,fn⟩:=fx;simp only at e4 hC hnx hmap h1x;generalize hσ:(d.map fun f=>fob p f.type (zob p f).2)=σ at*;have hget0:(σ++[fob p x.type n])[d.length]? =some (fob p x.type n):=by rw[yh (by omega),hlen];simp
  simp at h1 h2 h3 h4 h5;simp[parsV]at e1 e2;simp[zg]at e3 e4;clear hl' hR hN hset hbR y1 y2 z1 z2 z3 hfit hp;unfold fob at*;simp only[funcs]at e4 hget0 hmap;cases tw
  case true=>
   simp at h1x;obtain⟨rfl,rfl⟩:=h1x;simp at hC;clear e2 e3 e4 hnx hmap hget0 hlen hfx;simp[*,zl,parsV,zg,zLa]
  simp at h1x;obtain⟨ha,rfl⟩:=h1x;by_cases hf:f=0
  ·subst hf;cases en
   ·simp at ha;subst ha;simp at hC;clear hnx hmap hfx;simp[*,zl,parsV,zg,zLa]
   ·simp at ha;subst ha;replace hnx:=hnx rfl;have keep:fn=(zob p x).2/\∀g,g∈d\/g=x->(zob p g).1=0:=⟨by rw[hfx],fun g hg=>hnx g (by simpa using hg)⟩
    clear hC hnx hfx hmap;simp[*,-keep,zl,parsV,zg,zLa];exact⟨⟨rfl,keep.1⟩,keep.2⟩
  ·simp[hf]at ha;subst ha;simp[hf]at hC;replace hf:=eqn hf;clear hnx hmap hfx;simp[*,zl,parsV,zg,zLa]
 ·intros s1 hp h1 h2 h3 h5 h4;have hC:=zae p [] p.funcs 0 hp;rw[List.append_nil,zwc]at hC;rw[hC];simp at h1 h2 h3 h4 h5;clear hp hC z3;simp[*,zLa]
theorem nodup_idx{α:Type}(f:α->List UInt8)(l:List α):(l.map f).Nodup<->∀d x r,l=d++x::r->idx (fun y=>decide (f y=f x)) l=d.length:=by
 constructor
 ·intro h d x r e;subst e;refine idx_hit (x:=x) (r:=r) rfl ?_ (by simp);intro y hy;rw[yda,yVa]at h;exact decide_eq_false (h.2.2 _ (List.mem_map_of_mem hy) _ (by simp))
 ·intro h;have:∀d r,l=d++r->(d.map f).Nodup:=by
   intro d;suffices hs:∀d:List α,∀r,l=d.reverse++r->(d.reverse.map f).Nodup by
    intro r e;have:=hs d.reverse r (by simpa using e);simpa using this
   intro d
   induction d with
   |nil=>intro r _;simp
   |cons x d ih=>
    intro r e;rw[yUa,yR]at e;have h1:=ih _ e;have h2:=h d.reverse x r (by simpa using e);rw[yUa,yda,yVa];refine⟨h1,by simp,?_⟩;intro a ha b hb hab;simp only[yp,yxa,yL]at hb;subst hb;rw[yHa]at ha;obtain⟨y,hy,rfl⟩:=ha;obtain⟨s,t,hst⟩:=List.append_of_mem hy;have h3:idx (fun y=>decide (f y=f x)) l<=s.length:=by
     rw[e,hst];clear h2 h1 ih e h;have:∀s:List α,idx (fun y=>decide (f y=f x)) ((s++y::t)++([x]++r))<=s.length:=by
      intro s;unfold idx;have hf:(((s++y::t)++([x]++r)).findIdx? fun y=>decide (f y=f x)).isSome=true:=by
       rw[List.findIdx?_isSome,List.any_eq_true];exact⟨y,by simp,by simp[hab]⟩
      cases hfi:((s++y::t)++([x]++r)).findIdx? fun y=>decide (f y=f x)with
      |none=>simp
      |some i=>
       simp only;have hle:i<=s.length:=by
        rcases yB s.length i with hlt|hge
        ·rw[List.findIdx?_eq_some_iff_getElem]at hfi;obtain⟨_,_,h3⟩:=hfi;have:=h3 s.length hlt;simp[hab]at this
        ·exact hge
       omega
     exact this s
    rw[h2,hst]at h3;simp at h3;omega
  have:=this l [] (by simp);exact this
theorem idx_neg{α:Type}(p:α->Bool)(l:List α):idx p l<0<->∀y∈l,p y=false:=by
 rcases znc p l with⟨a1,a2⟩|⟨n,f,a1,a2,a3,a4,a5⟩
 ·rw[a1];simp only[yma]at a2;constructor
  ·intro _ y hy;simpa using a2 y hy
  ·intro _;omega
 ·rw[a1];constructor
  ·intro h;omega
  ·intro h;have:=h f (yga a2);rw[a5]at this;exact absurd this (by decide)
set_option maxHeartbeats 4000000 in
theorem globals_spec(p:Prog)(hz:Fit p):zi E 72 [zf p] []=some (.ret (.bool (zxc p)),[]):=by
 have ha:=hz.a;have hf:=hz.f;have hpl:=zVc p zPc (by omega);have hcond:decide ((p.arrays.map (·.name)++p.funcs.map (·.name)).Nodup)=true<->(∀d x r,p.arrays=d++x::r->zYa p x.name=d.length/\zBa p x.name<0)/\(∀d x r,p.funcs=d++x::r->zBa p x.name=d.length):=by
  rw[decide_eq_true_eq,yVa,nodup_idx (fun a:PArr=>a.name),nodup_idx (fun a:Func=>a.name)];constructor
  ·rintro⟨h1,h2,h3⟩
   refine⟨fun d x r e=>⟨h1 d x r e,?_⟩,h2⟩;rw[zBa,idx_neg];intro y hy;have:=h3 x.name (List.mem_map_of_mem (by rw[e];simp)) y.name (List.mem_map_of_mem hy);exact decide_eq_false fun h=>this h.symm
  ·rintro⟨h1,h2⟩
   refine⟨fun d x r e=>(h1 d x r e).1,h2,?_⟩;intro a ha b hb hab;rw[yHa]at ha hb;obtain⟨x,hx,rfl⟩:=ha;obtain⟨y,hy,rfl⟩:=hb;obtain⟨s,t,hst⟩:=List.append_of_mem hx;have:=(h1 s x t hst).2;rw[zBa,idx_neg]at this;have:=this y hy;simp only[decide_eq_false_iff_not]at this;exact this hab.symm
 refine zd rfl rfl rfl (by simp[zf]) ?_;have hno:¬((∀d x r,p.arrays=d++x::r->zYa p x.name=d.length/\zBa p x.name<0)/\(∀d x r,p.funcs=d++x::r->zBa p x.name=d.length))->zxc p=false:=by
  intro h;rw[<-hcond]at h;rw[Bool.not_eq_true]at h;unfold zxc;rw[h];rfl
 simp[F72,zf,zia,funcs];refine zG p.arrays K72_0 B72_0 (fun d=>[(3,.int .i64 d.length)]) (fun _=>[]) (fun d=>∀e x r,d=e++x::r->zYa p x.name=e.length/\zBa p x.name<0) (by omega) (by simp) ?_ ?_
 ·intros d x r s1 hl' hlt hget hget' hw1 hp h1 h2 h3 h4;simp at h1 h2 h3 h4;have e1:=zYc p x.name (by omega);have e2:=zVc p x.name (by omega);simp[zf,zia,funcs]at e1 e2;have hbad:¬(zYa p x.name=d.length/\zBa p x.name<0)->zxc p=false:=fun h=>hno fun hh=>h (hh.1 d x r hl'.eq)
  have hgood:zYa p x.name=d.length->zBa p x.name<0->∀e y q,d++[x]=e++y::q->zYa p y.name=e.length/\zBa p y.name<0:=by
   intro g1 g2 e y q hh;rcases List.append_eq_append_iff.1 hh with⟨a,ha1,ha2⟩|⟨a,ha1,ha2⟩
   ·cases a with
    |nil=>simp at ha1 ha2;obtain⟨rfl,rfl⟩:=ha2;subst ha1;exact⟨g1,g2⟩
    |cons z a=>simp at ha2
   ·cases a with
    |nil=>simp at ha1 ha2;obtain⟨rfl,rfl⟩:=ha2;subst ha1;exact⟨g1,g2⟩
    |cons z a=>
     simp at ha2;obtain⟨rfl,_⟩:=ha2;exact hp e y a ha1
  generalize zxc p=R at*;clear hno hcond hl' hp hpl;by_cases c1:zYa p x.name=d.length
  ·by_cases c2:zBa p x.name<0
   ·replace hgood:=hgood c1 c2;have c2':(0<=zBa p x.name)=False:=eqn (by omega);replace c1:=eqp c1;clear hbad c2;simp[*,-hgood,zK];exact hgood
   ·have hR:=hbad (fun h=>c2 h.2);have c2':(0<=zBa p x.name)=True:=eqp (by omega);subst hR;replace c1:=eqp c1;clear hbad c2 hgood;simp[*,zK]
  ·have hR:=hbad (fun h=>c1 h.1);subst hR;replace c1:=eqn c1;clear hbad hgood;simp[*,zK]
 intros s1 hp h1 h2 h3 h4;simp at h1 h2 h3 h4;simp[h1,h2,h3,h4];refine zG p.funcs K72_1 B72_1 (fun d=>[(4,.int .i64 d.length)]) (fun _=>[]) (fun d=>∀e x r,d=e++x::r->zBa p x.name=e.length) (by omega) ?_ ?_ ?_
 ·simp
 ·intros d x r s2 hl' hlt hget hget' hw1 hp2 g1 g2 g3 g4;simp at g1 g2 g3 g4;have e2:=zVc p x.name (by omega);simp[zf,zia,funcs]at e2;have hbad:¬(zBa p x.name=d.length)->zxc p=false:=fun h=>hno fun hh=>h (hh.2 d x r hl'.eq)
  have hgood:zBa p x.name=d.length->∀e y q,d++[x]=e++y::q->zBa p y.name=e.length:=by
   intro g1 e y q hh;rcases List.append_eq_append_iff.1 hh with⟨a,ha1,ha2⟩|⟨a,ha1,ha2⟩
   ·cases a with
    |nil=>simp at ha1 ha2;obtain⟨rfl,rfl⟩:=ha2;subst ha1;exact g1
    |cons z a=>simp at ha2
   ·cases a with
    |nil=>simp at ha1 ha2;obtain⟨rfl,rfl⟩:=ha2;subst ha1;exact g1
    |cons z a=>
     simp at ha2;obtain⟨rfl,_⟩:=ha2;exact hp2 e y a ha1
  generalize zxc p=R at*;clear hno hcond hl' hp hp2 hpl h1 h3;by_cases c1:zBa p x.name=d.length
  ·replace hgood:=hgood c1;replace c1:=eqp c1;clear hbad;simp[*,-hgood,zl];exact hgood
  ·have hR:=hbad c1;subst hR;replace c1:=eqn c1;clear hbad hgood;simp[*,zl]
 ·intros s2 hp2 g1 g2 g3 g4;simp at g1 g2 g3 g4;have hyes:decide ((p.arrays.map (·.name)++p.funcs.map (·.name)).Nodup)=true:=hcond.2 ⟨fun d x r e=>hp d x r e,fun d x r e=>hp2 d x r e⟩;simp[zf,zPc,zia,funcs]at hpl;clear hcond hno hp hp2 h1 h3;rcases znc (fun f:Func=>decide (f.name=zPc)) p.funcs with⟨a1,a2⟩|⟨n,f,a1,a2,a3,a4,a5⟩
  ·have a1:zBa p zPc= -1:=a1;have a2:zKa p zPc=none:=a2;simp[zPc]at a1;rw[a1]at hpl;have hN:zxc p=false:=by unfold zxc;rw[a2];simp
   rw[hN];clear ha hf a2 a1 hyes;simp[*]
  ·have a1:zBa p zPc=n:=a1;have a3:zKa p zPc=some f:=a3;simp[zPc]at a1;rw[a1]at hpl;have hN:zxc p=(decide (f.type=1)&&decide (f.params=[])):=by unfold zxc;rw[hyes,a3];rfl
   rw[hN];clear ha hf a3 a4 a5 a1 hyes hN;by_cases ht:f.type=1
   ·replace ht:=eqp ht;simp[*,zl,parsV]
   ·replace ht:=eqn ht;simp[*,zl,parsV]
theorem zme(l:List Par):zxa (zX l)=l:=by
 suffices h:∀l:List Par,zxa (zX l.reverse)=l.reverse by
  have:=h l.reverse;simpa using this
 intro l
 induction l with
 |nil=>rfl
 |cons x r ih=>
  rw[yUa,zne,zLd,ih];rfl
theorem scopedV_len(l:List Par):(zX l).length=l.length:=by
 have:=congrArg yV (zme l);rw[zHb]at this;exact this
theorem scopedV_depth(l:List Par):∀v∈zX l,v.depth=0:=by
 suffices h:∀l:List Par,∀v∈zX l.reverse,v.depth=0 by
  have:=h l.reverse;simpa using this
 intro l
 induction l with
 |nil=>intro v hv;simp[zX]at hv
 |cons x r ih=>
  rw[yUa,zne];intro v hv;rcases yw.1 hv with rfl|hv
  ·rfl
  ·exact ih v hv
theorem scopedV_find(l:List Par)(nm:List UInt8):zIa (zX l) nm=[]<->nm ∉ l.map (·.name):=by
 suffices h:∀s:List Vr,zIa s nm=[]<->nm ∉ (zxa s).map (·.name) by
  rw[h,zme]
 intro s
 induction s with
 |nil=>simp[zIa,zxa]
 |cons v r ih=>
  rw[zpb,zLd,yda,yx];by_cases h:v.name=nm
  ·simp[h,parOf]
  ·rw[if_neg h,ih];simp[parOf];intro _ hh;exact h hh.symm
set_option maxRecDepth 20000 in
set_option maxHeartbeats 16000000 in
theorem rcheckP_spec(p:Prog)(hz:PSz p):zi E 39 [zf p] []=some (.ret (zLa (zQa p)),[]):=by
 have hfit:=hz.fit;obtain⟨z1,z2,z3⟩:=hz;have hr:=right_spec p ⟨z1,z2,z3⟩;have hn:=globals_spec p hfit;refine zd rfl rfl rfl (by simp[zf]) ?_;unfold zQa;cases hR:zQb p
 ·rw[hR]at hr;clear hn hfit z3;simp[zf]at hr;simp[*,F39,zf,zLa]
 cases hN:zxc p
 ·rw[hR]at hr;rw[hN]at hn;clear hfit z3;simp[zf]at hr hn;simp[*,F39,zf,zLa]
 rw[hR]at hr;rw[hN]at hn;simp[zf,funcs]at hr hn;simp[hr,hn,F39,zf,funcs];refine zhe p.funcs K39_1 B39_1 (fun d=>[(4,.int .i64 d.length)]) (fun d=>[(3,.cells [.int .i64 0,.int .i64 0])]) (fun d=>d.map fun f=>cob p f (zob p f).2) (fun d=>∀f∈d,(zob p f).1=0) (by omega) (by simp) ?_ ?_
 ·intros d x r s1 hl' hlt hget hget' hw1 hp h1 h2 h3 h5 h4;have hC:=zae p (x::r) d 0 hp;rw[<-hl'.eq,zwc,Int.zero_add]at hC;obtain⟨y1,y2⟩:=z3 x hl'.mem;have hfR:zAd x=true:=by
   unfold zQb at hR;rw[yb,yq,yq]at hR;exact hR.2 x hl'.mem
  have hbR:zQ x.body 100=true:=by
   unfold zAd at hfR;simp only[yb]at hfR;exact hfR.2.2.2.1
  have hp8:x.params.length<=8:=by
   unfold zAd at hfR;simp only[yb,decide_eq_true_eq]at hfR;exact hfR.2.2.1
  have e3:=rends_spec x.body 100 y1 hbR;have hlen:(d.map fun f=>cob p f (zob p f).2).length=d.length:=by simp
  have e4:=rblock_spec' (wtSs x.body) p x x.body (zX x.params) 1 100 0 false ((d.map fun f=>cob p f (zob p f).2)++[cob p x 0]) d.length (yd _) y1 hfit hbR (by omega) (by omega) (by rw[scopedV_len];omega) (by intro v hv;rw[scopedV_depth _ v hv];omega) (by rw[yh (by omega),hlen];simp);rw[zme]at e4;have hnx:(zob p x).1=0->∀f∈d++[x],(zob p f).1=0:=by
   intro h f hf;rcases yx.1 hf with hf|hf
   ·exact hp f hf
   ·rw[yL.1 hf];exact h
  have hset:∀v,((d.map fun f=>cob p f (zob p f).2)++[cob p x 0]).set d.length v=(d.map fun f=>cob p f (zob p f).2)++[v]:=by
   intro v;rw[yqa _ _ (by omega),hlen];simp
  rw[hset]at e4;have h1x:zob p x=if twiceM x.params then(50,0)else(if(zca p x.type x.body (zX x.params) 1 false 0).1=0/\zMb x.body=false then 52 else(zca p x.type x.body (zX x.params) 1 false 0).1,(zca p x.type x.body (zX x.params) 1 false 0).2):=rfl
  generalize hfx:zob p x=fx at*;generalize zca p x.type x.body (zX x.params) 1 false 0=q at*;have htw:twiceM x.params= !decide ((x.params.map (·.name)).Nodup):=rfl;generalize twiceM x.params=tw at*;generalize zMb x.body=en at*;obtain⟨f,n⟩:=q;obtain⟨fe,fn⟩:=fx;simp only at e4 hC hnx h1x;generalize hσ:(d.map fun f=>cob p f (zob p f).2)=σ at*;have hget0:(σ++[cob p x n])[d.length]? =some (cob p x n):=by rw[yh (by omega),hlen];simp
  simp at h1 h2 h3 h4 h5;simp[zg,parsV]at e3 e4;clear hl' hR hN hset hbR hfR y1 y2 z1 z2 z3 hfit hp;have hcx:cob p x 0= .arr 7 [.agg [zia p.arrays,.slice .plain 4 (p.funcs.map zl),.str x.name,.int .i64 x.type,.slice .plain 2 (x.params.map encPar),.slice .plain 6 (x.body.map zw),.int .i64 0]]:=rfl;have hcn:cob p x n= .arr 7 [.agg [zia p.arrays,.slice .plain 4 (p.funcs.map zl),.str x.name,.int .i64 x.type,.slice .plain 2 (x.params.map encPar),.slice .plain 6 (x.body.map zw),.int .i64 n]]:=rfl;rw[hcx,hcn]at e4;rw[hcn]at hget0;have keep:tw=false->fe=0->(.arr 7 [.agg [zia p.arrays,.slice .plain 4 (p.funcs.map zl),.str x.name,.int .i64 x.type,.slice .plain 2 (x.params.map encPar),.slice .plain 6 (x.body.map zw),.int .i64 n]]=cob p x (zob p x).2)/\∀g,g∈d\/g=x->(zob p g).1=0:=by
   intro h1 h2;rw[h1]at h1x;simp at h1x;rw[hfx];simp only;rw[h1x.2,<-hcn];exact⟨rfl,fun g hg=>hnx h2 g (by simpa using hg)⟩
  clear hcx hcn hnx hfx;simp[*,-keep,zl,parsV,zg];refine zhe x.params K39_0 B39_0 (fun d=>[(6,.int .i64 d.length)]) (fun _=>[(3,.cells [.int .i64 0,.int .i64 0])]) (fun _=>σ) (fun d=>(d.map (·.name)).Nodup) (by omega) ?_ ?_ ?_
  ·simp[*,-keep]
  ·intros d2 y r2 s2 hl2 hlt2 hget2 hget2' hw2 hp2 k1 k2 k3 k5 k4;simp at k1 k2 k3 k4 k5;have hf2:=rfind_spec (zX d2) y.name (by rw[scopedV_len];omega);rw[zme]at hf2;have htk:x.params.take d2.length=d2:=by rw[hl2.eq];simp
   have hdup:zIa (zX d2) y.name≠ []->tw=true:=by
    intro h;rw[htw,hl2.eq];simp only[yH,decide_eq_false_iff_not];intro hh;rw[yda,yVa]at hh;rw[ne_eq,scopedV_find,Classical.not_not]at h;exact hh.2.2 _ h _ (by simp) rfl
   have hok:zIa (zX d2) y.name=[]->((d2++[y]).map (·.name)).Nodup:=by
    intro h;rw[scopedV_find]at h;rw[yda,yVa];refine⟨hp2,by simp,?_⟩;intro a ha b hb hab;simp at hb;rw[hb]at hab;rw[hab]at ha;exact h ha
   have htk2:(x.params.map encPar).take d2.length=d2.map encPar:=by rw[<-List.map_take,htk]
   generalize hfv:zIa (zX d2) y.name=fv at*;simp[zub,parsV]at hf2;have hlt2i:(d2.length:Int)<x.params.length:=by omega
   have hle2:d2.length<=x.params.length:=by omega
   clear htw hl2 hp2 e3 e4 htk hfv hget0 keep;cases fv with
   |nil=>
    replace hok:=hok rfl;clear hdup hC;simp at hf2;simp[*,-hok,encPar]
    all_goals(try grind)
   |cons z zr=>
    replace hdup:=hdup (by simp);subst hdup;simp at h1x;obtain⟨rfl,rfl⟩:=h1x;simp at hC;clear hok;simp at hf2;simp[*,encPar,zLa]
  ·intros s2 hp2 k1 k2 k3 k5 k4;simp at k1 k2 k3 k4 k5;have htwf:tw=false:=by rw[htw];simp;exact hp2
   replace keep:=keep htwf;subst htwf;simp at h1x;obtain⟨ha,rfl⟩:=h1x;clear hp2 htw;simp[*,-keep,zl,parsV,zg];by_cases hf:f=0
   ·subst hf;cases en
    ·simp at ha;subst ha;simp at hC;clear keep;simp[*,zl,parsV,zg,zLa]
    ·simp at ha;subst ha;replace keep:=keep rfl;clear hC;simp[*,-keep,zl,parsV,zg,zLa];exact keep
   ·simp[hf]at ha;subst ha;simp[hf]at hC;replace hf:=eqn hf;clear keep;simp[*,zl,parsV,zg,zLa]
 ·intros s1 hp h1 h2 h3 h5 h4;have hC:=zae p [] p.funcs 0 hp;rw[List.append_nil,zwc]at hC;rw[hC];simp at h1 h2 h3 h4 h5;clear hp hC z3;simp[*,zLa]
def zY:List Par->Nm->Nat->List Par×Nm×Nat
 | [],N,c=>([],N,c)
 |x::r,N,c=>
  let z:=zY r ((x.name,newN c)::N) (c+1)
  (⟨newN c,x.type⟩::z.1,z.2)
theorem renPs_append:∀(a b:List Par) (N:Nm) (c:Nat),zY (a++b) N c=((zY a N c).1++(zY b (zY a N c).2.1 (zY a N c).2.2).1,(zY b (zY a N c).2.1 (zY a N c).2.2).2)
 | [],b,N,c=>by simp[zY]
 |x::r,b,N,c=>by simp[zY,renPs_append r b]
theorem zOd:∀(a:List Par) (N:Nm) (c:Nat),(zY a N c).1.length=a.length/\(zY a N c).2.1.length=N.length+a.length/\(zY a N c).2.2=c+a.length
 | [],N,c=>by simp[zY]
 |x::r,N,c=>by
  have:=zOd r ((x.name,newN c)::N) (c+1);simp only[zY,yj]at this ⊢;omega
def renF(f:Func):Func:=⟨f.name,f.type,(zY f.params [] 0).1,(renB f.body (zY f.params [] 0).2.1 (zY f.params [] 0).2.2).1⟩
def renC(f:Func):Nat:=(renB f.body (zY f.params [] 0).2.1 (zY f.params [] 0).2.2).2.2
def renP(p:Prog):Prog:=⟨p.arrays,p.funcs.map renF⟩
def encRen(q:Prog×Int):PV:= .tup [zf q.1,.int .i64 q.2]
def zDc(f:Func)(q:Nat):PV:= .agg [.str f.name,.int .i64 f.type,if f.params=[]then .slice .plain 2 []else .mslice q 0 f.params.length 2,zg f.body]
def zsd(f:Func):List Obj:=if f.params=[]then[]else[.arr 2 (f.params.map encPar)]
def zna(fs:List Func)(qs:List Nat):List PV:=List.zipWith zDc fs qs
theorem openFs_len{fs:List Func}{qs:List Nat}(h:qs.length=fs.length):(zna fs qs).length=fs.length:=by
 unfold zna;rw[List.length_zipWith,h];exact Nat.min_self _
theorem openFs_snoc{fs:List Func}{qs:List Nat}(h:qs.length=fs.length)(f:Func)(q:Nat):zna (fs++[f]) (qs++[q])=zna fs qs++[zDc f q]:=by
 unfold zna;rw[List.zipWith_append h.symm];rfl
theorem openFs_get{fs:List Func}{qs:List Nat}{i:Nat}{f:Func}{q:Nat}(h:fs[i]? =some f)(h':qs[i]? =some q):(zna fs qs)[i]? =some (zDc f q):=by
 unfold zna;rw[List.getElem?_zipWith,h,h']
theorem stripA_openF(f:Func)(q:Nat):stripA (zDc f q)=zDc f q:=by
 unfold zDc;split<;>simp[stripA,strip,zg]
theorem zUe:∀(fs:List Func) (qs:List Nat),(zna fs qs).map stripA=zna fs qs
 | [],qs=>by simp[zna]
 |f::fs,[]=>by simp[zna]
 |f::fs,q::qs=>by
  have ih:=zUe fs qs;unfold zna at ih ⊢;simp only[List.zipWith_cons_cons,yp,stripA_openF,ih]
theorem below_openF{n:Nat}(f:Func)(q:Nat)(h:f.params≠ []->q<n):zx n (zDc f q)=true:=by
 have hb:zJ n (f.body.map zw)=true:=pl_stmt n f.body;unfold zDc;split
 ·simp[zx,zJ,zg,hb]
 ·rename_i hp;simp[zx,zJ,zg,hb,h hp]
theorem below_openFs{n:Nat}:∀(fs:List Func) (qs:List Nat),(∀(i:Nat) f q,fs[i]? =some f->qs[i]? =some q->f.params≠ []->q<n)->zJ n (zna fs qs)=true
 | [],qs,h=>by simp[zna,zJ]
 |f::fs,[],h=>by simp[zna,zJ]
 |f::fs,q::qs,h=>by
  have ih:=below_openFs fs qs (fun i f q a b=>h (i+1) f q (by simpa using a) (by simpa using b));have hq:=below_openF f q (h 0 f q rfl rfl);unfold zna at ih ⊢;simp only[List.zipWith_cons_cons,zJ,ih,hq,Bool.and_self]
structure OpenP(σ:zc)(F:Nat)(fs:List Func)(qs:List Nat):Prop where
 len:qs.length=fs.length
 row:σ[F]? =some (.arr 4 (zna fs qs))
 par:∀(i:Nat) f q,fs[i]? =some f->qs[i]? =some q->f.params≠ []->σ[q]? =some (.arr 2 (f.params.map encPar))/\q≠F
 nd:∀(i j:Nat) f g q,fs[i]? =some f->fs[j]? =some g->qs[i]? =some q->qs[j]? =some q->f.params≠ []->g.params≠ []->i=j
def accF(F n:Nat):PV:=if n=0 then .slice .fit 4 []else .mslice F 0 n 4
def OpenA(σ:zc)(F:Nat)(fs:List Func)(qs:List Nat):Prop:=(fs=[]/\qs=[])\/(fs≠ []/\OpenP σ F fs qs)
theorem snoc_get{α:Type}{l:List α}{x y:α}{i:Nat}(h:(l++[x])[i]? =some y):(i<l.length/\l[i]? =some y)\/(i=l.length/\y=x):=by
 by_cases hi:i<l.length
 ·rw[yf hi]at h;exact .inl ⟨hi,h⟩
 ·rw[yh (by omega)]at h;obtain⟨j,hj⟩:∃j,i-l.length=j:=⟨_,rfl⟩
  rw[hj]at h
  match j,h with
  |0,h=>exact .inr ⟨by omega,by simpa using h.symm⟩
def nextO(σ1:zc)(F:Nat)(fs:List Func)(qs:List Nat)(f:Func)(q:Nat):zc:=(if fs=[]then σ1 else σ1.set F (.dead 4))++[.arr 4 (zna fs qs++[zDc f q])]
theorem OpenA.snoc{σ:zc}{F:Nat}{fs:List Func}{qs:List Nat}(h:OpenA σ F fs qs){σ1:zc}(f:Func)(q:Nat)
  (hkeep:∀(i:Nat) o,σ[i]? =some o->σ1[i]? =some o) (hle:σ.length<=σ1.length) (hq:σ.length<=q) (hpar:f.params≠ []->σ1[q]? =some (.arr 2 (f.params.map encPar))):
  OpenA (nextO σ1 F fs qs f q) σ1.length (fs++[f]) (qs++[q]):=by
 unfold nextO;refine .inr ⟨by simp,?_⟩;rcases h with⟨rfl,rfl⟩|⟨hne,h⟩
 ·rw[if_pos rfl];have hcase:∀(i:Nat) g q',([]++[f])[i]? =some g->([]++[q])[i]? =some q'->i=0/\g=f/\q'=q:=by
   intro i g q' hg hq';rcases snoc_get hg with⟨a,_⟩|⟨a,b⟩
   ·simp at a
   ·rcases snoc_get hq' with⟨c,_⟩|⟨_,d⟩
    ·simp at c
    ·exact⟨a,b,d⟩
  refine⟨rfl,by rw[yh (yd _)];simp[zna],?_,?_⟩
  ·intro i g q' hg hq' hgp;obtain⟨rfl,rfl,rfl⟩:=hcase i g q' hg hq';have h1:=hpar hgp;have h2:=(ya.1 h1).1;exact⟨by rw[yf h2];exact h1,by omega⟩
  ·intro i j g g' q' hg hg' hq' hq'' _ _;rw[(hcase i g q' hg hq').1,(hcase j g' q' hg' hq'').1]
 ·rw[if_neg hne];have hl:(σ1.set F (.dead 4)).length=σ1.length:=by simp
  have hFl:F<σ.length:=(ya.1 h.row).1;have hlt:∀(i:Nat) g q',fs[i]? =some g->qs[i]? =some q'->g.params≠ []->q'<σ.length:=fun i g q' a b c=>(ya.1 (h.par i g q' a b c).1).1
  have hcase:∀(i:Nat) g q',(fs++[f])[i]? =some g->(qs++[q])[i]? =some q'->(i<fs.length/\fs[i]? =some g/\qs[i]? =some q')\/(i=fs.length/\g=f/\q'=q):=by
   intro i g q' hg hq';have hln:=h.len;rcases snoc_get hg with⟨a,b⟩|⟨a,b⟩<;>rcases snoc_get hq' with⟨c,d⟩|⟨c,d⟩
   ·exact .inl ⟨a,b,d⟩
   ·omega
   ·omega
   ·exact .inr ⟨a,b,d⟩
  refine⟨by simp[h.len],by rw[yh (by omega),hl,Nat.sub_self,openFs_snoc h.len];rfl,?_,?_⟩
  ·intro i g q' hg hq' hgp;rcases hcase i g q' hg hq' with⟨_,a,b⟩|⟨_,rfl,rfl⟩
   ·have h1:=h.par i g q' a b hgp;have h2:=hlt i g q' a b hgp;refine⟨?_,by omega⟩;rw[yf (by omega),yk (fun e=>h1.2 e.symm)];exact hkeep _ _ h1.1
   ·have h1:=hpar hgp;have h2:=(ya.1 h1).1;refine⟨?_,by omega⟩;rw[yf (by omega),yk (by omega)];exact h1
  ·intro i j g g' q' hg hg' hq' hq'' hp hp';rcases hcase i g q' hg hq' with⟨_,a,b⟩|⟨a,rfl,rfl⟩<;>rcases hcase j g' q' hg' hq'' with⟨_,c,d⟩|⟨c,e,d⟩
   ·exact h.nd i j g g' q' a c b d hp hp'
   ·have:=hlt i g q' a b hp;omega
   ·have:=hlt j g' q' c d hp';omega
   ·omega
def arrV(l:List PArr):PV:=if l=[]then .slice .plain 2 []else .mslice 0 0 l.length 2
def ArrOk(σ:zc)(F:Nat)(qs:List Nat)(l:List PArr):Prop:=l≠ []->σ[0]? =some (.arr 2 (l.map zK))/\F≠0/\∀q∈qs,q≠0
theorem ArrOk.snoc{σ:zc}{F:Nat}{fs:List Func}{qs:List Nat}{l:List PArr}(h:ArrOk σ F qs l){σ1:zc}(f:Func)(q:Nat)
  (hkeep:∀(i:Nat) o,σ[i]? =some o->σ1[i]? =some o) (hle:σ.length<=σ1.length) (hq:σ.length<=q):ArrOk (nextO σ1 F fs qs f q) σ1.length (qs++[q]) l:=by
 intro hne;obtain⟨h1,h2,h3⟩:=h hne;have hl:=(ya.1 h1).1;refine⟨?_,by omega,?_⟩
 ·unfold nextO;split
  ·rw[yf (by omega)];exact hkeep _ _ h1
  ·rw[yf (by simp;omega),yk h2];exact hkeep _ _ h1
 ·intro q' hq';rcases yx.1 hq' with hm|hm
  ·exact h3 q' hm
  ·simp at hm;omega
theorem wfS_all{σ:zc}:WfS σ<->∀n,σ.length<=n->∀o∈σ,Obj.below n o=true:=by
 unfold WfS zc.wf;simp only[yq]
theorem WfS.snocO{σ:zc}(h:WfS σ){F:Nat}{fs:List Func}{qs:List Nat}(hO:OpenA σ F fs qs){τ:zc}(hτ:∀n,zc.wf n τ=true)(f:Func)(q:Nat)(hq:f.params≠ []->q<(σ++τ).length):
  WfS (nextO (σ++τ) F fs qs f q):=by
 rw[wfS_all];intro n hn o ho;have hln:(σ++τ).length<n:=by
  unfold nextO at hn;split at hn<;>simp at hn ⊢ <;>omega
 have h1:∀o∈σ++τ,Obj.below n o=true:=fun o ho=>by
  rcases yx.1 ho with hm|hm
  ·exact wfS_all.1 h n (by simp at hln;omega) o hm
  ·exact yq.1 (hτ n) o hm
 unfold nextO at ho;rcases yx.1 ho with hm|hm
 ·split at hm
  ·exact h1 o hm
  ·rcases List.mem_or_eq_of_mem_set hm with hm|rfl
   ·exact h1 o hm
   ·rfl
 ·simp at hm;subst hm;show zJ n (zna fs qs++[zDc f q])=true
  rw[belowL_append];have ha:zJ n (zna fs qs)=true:=by
   rcases hO with⟨rfl,rfl⟩|⟨_,hO⟩
   ·rfl
   ·refine below_openFs fs qs fun i g q' a b c=>?_
    have:=(ya.1 (hO.par i g q' a b c).1).1;simp at hln;omega
  have hb:=below_openF (n:=n) f q (fun hp=>by have:=hq hp;omega);simp[ha,zJ,hb]
theorem counter_spec(σ:zc):zi E 87 [] σ=some (.ret (.fn 115 [] [.ptr σ.length 0 0]),σ++[kobj 0]):=by
 refine zd rfl rfl rfl (by simp) ?_;simp[F87,kobj]
def f2s(σ:zc)(es:List (PV×PV))(c:Nat):zc:=σ++[.mp es,kobj c]
def f3s(σ:zc)(es:List (PV×PV))(c:Nat)(row:List PV):zc:=σ++[.mp es,kobj c,.arr 2 row]
section
variable (σ:zc) (es es':List (PV×PV)) (c c':Nat) (row row':List PV)
@[simp] theorem f2s_len:(f2s σ es c).length=σ.length+2:=by simp[f2s]
@[simp] theorem f3s_len:(f3s σ es c row).length=σ.length+3:=by simp[f3s]
@[simp high] theorem f3s_mp:(f3s σ es c row)[σ.length]? =some (.mp es):=by
 unfold f3s;rw[yh (yd _)];simp
@[simp high] theorem f2s_mp:(f2s σ es c)[σ.length]? =some (.mp es):=by
 unfold f2s;rw[yh (yd _)];simp
@[simp high] theorem f3s_row:(f3s σ es c row)[σ.length+2]? =some (.arr 2 row):=by
 unfold f3s;rw[yh (by omega),show σ.length+2-σ.length=2 by omega];rfl
@[simp high] theorem f3s_setmp:(f3s σ es c row).set σ.length (.mp es')=f3s σ es' c row:=by
 unfold f3s;rw[yqa _ _ (yd _)];simp
@[simp high] theorem f3s_setrow:(f3s σ es c row).set (σ.length+2) (.arr 2 row')=f3s σ es c row':=by
 unfold f3s;rw[yqa _ _ (by omega),show σ.length+2-σ.length=2 by omega];rfl
theorem kst_f3:kst (f3s σ es c row) (σ.length+1) c'=f3s σ es c' row:=by
 unfold kst f3s;rw[yqa _ _ (by omega),show σ.length+1-σ.length=1 by omega];rfl
theorem kst_f2:kst (f2s σ es c) (σ.length+1) c'=f2s σ es c':=by
 unfold kst f2s;rw[yqa _ _ (by omega),show σ.length+1-σ.length=1 by omega];rfl
end
theorem wf3{σ:zc}(h:WfS σ){es:List (PV×PV)}{N:Nm}(hM:MapN es N)(c:Nat)(l:List Par):WfS (f3s σ es c (l.map encPar)):=by
 refine h.add fun n=>?_
 have h1:=hM.flat n;have h2:=pl_par (k:=n) l;simp[zc.wf,Obj.below,kobj,h1,h2]
theorem wf2{σ:zc}(h:WfS σ){es:List (PV×PV)}{N:Nm}(hM:MapN es N)(c:Nat):WfS (f2s σ es c):=by
 refine h.add fun n=>?_
 have h1:=hM.flat n;simp[zc.wf,Obj.below,kobj,h1]
set_option maxHeartbeats 8000000 in
theorem pfuncU_spec(σ:zc)(hwf:WfS σ)(f:Func)(hb:wtSs f.body<1099508000000)(hp:f.params.length<1099509000000)(hsc:scSs (f.params.map (·.name)).reverse f.body):PC (zi E 53 [zl f] σ) (fun r st=>r= .ret (zDc (renF f) (σ.length+2))/\∃es c,(∀n,zqc n es=true)/\st=σ++([.mp es,kobj c]++zsd (renF f))):=by
 obtain⟨fnm,fty,ps,body⟩:=f;simp only at hb hp hsc;refine zqa rfl rfl rfl (by simp[zl]) ?_;have hcn:=counter_spec (σ++[.mp []]);simp only[yi,yC,yR,List.singleton_append]at hcn;have hnames:∀(e:List Par) (N:Nm) (c:Nat),(zY e N c).2.1.map (·.1)=(e.map (·.name)).reverse++N.map (·.1):=by
  intro e
  induction e with
  |nil=>intro N c;simp[zY]
  |cons y r ih=>intro N c;simp[zY,ih]
 by_cases hl:ps=[]
 ·subst hl;have hpc:=pclone_nil (σ++[.mp [],kobj 0]);have hbk:=pblock_spec (wtSs body) body [] 0 [] (f2s σ [] 0) σ.length (σ.length+1) (yd _) (by omega) (by simp;omega) (by omega) .nil (by simpa using hsc) (by simp) (by omega) (f2s_mp ..) (wf2 hwf .nil 0);rw[kst_f2,kst_f2]at hbk;have hren:renF ⟨fnm,fty,[],body⟩=⟨fnm,fty,[],(renB body [] 0).1⟩:=rfl;rw[hren];generalize renB body [] 0=q at*;obtain⟨o,N1,c1⟩:=q;simp only at hbk;clear hren hnames hsc hb hp;simp[zg]at hbk;simp[*,F53,zl,parsV,zg];refine zha K53_0 B53_0 (fun _:Unit=>0) (fun _=>[(16,.int .i64 0)]) (fun _=>[]) (fun _=>f2s σ [] 0) (fun _=>True) () ⟨by simp,by simp,by simp[f2s],trivial⟩ ?_
  rintro⟨⟩ s1-q1 q2 q3 q4 q5
  simp at q1 q2 q3 q5;simp[*,zDc,zsd,zg];exact⟨[],fun n=>rfl,c1,by simp[f2s]⟩
 ·have hne:ps.map encPar≠ []:=by simpa using hl
  have hroom:(ps.map encPar).length*24<=zo:=by simp only[zo,yu];omega
  have hpc:=pclone (σ++[.mp [],kobj 0]) hne hroom;simp only[yu,yi,yj,yn,yR,yT,yla,yaa]at hpc;simp[*,F53,zl,parsV,zg];refine zha K53_0 B53_0 (fun q:List Par×List (PV×PV)=>ps.length-q.1.length) (fun q=>[(16,.int .i64 q.1.length)]) (fun _=>[])
   (fun q=>f3s σ q.2 (zY q.1 [] 0).2.2 ((zY q.1 [] 0).1.map encPar++(ps.drop q.1.length).map encPar))
   (fun q=>q.1.length<=ps.length/\q.1=ps.take q.1.length/\MapN q.2 (zY q.1 [] 0).2.1) ([],[]) ⟨by simp,by simp,by simp[zY,f3s],by simp,by simp,by simpa[zY]using MapN.nil⟩ ?_
  rintro⟨d,es0⟩ s1 ⟨hdl,hdt,hM0⟩ h1 h2 h3 h2b h4
  simp only at hdl hdt hM0;simp at h1 h2 h3;clear hcn hpc h2b;by_cases hend:d.length=ps.length
  ·have hdd:d=ps:=by rw[hdt,hend,yGa]
   subst hdd;have hdec:decide (d.length<d.length)=false:=by simp
   simp only[List.drop_length,yxa,List.append_nil]at h4;have hps:=zOd d [] 0;have hnm:=hnames d [] 0;have hbk:=pblock_spec (wtSs body) body (zY d [] 0).2.1 (zY d [] 0).2.2 es0 (f3s σ es0 0 ((zY d [] 0).1.map encPar)) σ.length (σ.length+1) (yd _) (by omega) (by simp at hps;omega) (by omega) hM0 (by rw[hnm];simpa using hsc) (by simp) (by omega) (f3s_mp ..) (wf3 hwf hM0 0 _);rw[kst_f3,kst_f3]at hbk;have hren:renF ⟨fnm,fty,d,body⟩=⟨fnm,fty,(zY d [] 0).1,(renB body (zY d [] 0).2.1 (zY d [] 0).2.2).1⟩:=rfl;rw[hren];generalize zY d [] 0=q0 at*;obtain⟨po,N0,c0⟩:=q0;simp only at hbk hps h4 hren ⊢;obtain rfl:c0=d.length:=by have:=hps.2.2;omega
   generalize renB body N0 d.length=q at*;obtain⟨o,N1,c1⟩:=q;simp only at hbk;have htk2:(po.map encPar).take d.length=po.map encPar:=yy (by rw[yu,hps.1];exact yd _);have hle:d.length<=po.length:=by rw[hps.1];exact yd _
   have hpsl:=hps.1;have hfl:=hM0.flat;clear hren hnames hsc hb hp hdt hM0 hnm hps;simp[zg]at hbk;have hpn:po≠ []:=fun e=>hl (yLa.1 (by rw[<-hpsl,e];rfl))
   simp[*,zDc,zsd,zg];exact⟨es0,hfl,c1,by simp[f3s]⟩
  ·obtain⟨x,rr,hd1⟩:∃x rr,ps.drop d.length=x::rr:=by
    cases hq:ps.drop d.length with
    |nil=>have:=congrArg yV hq;simp at this;omega
    |cons x rr=>exact⟨x,rr,rfl⟩
   have hlt:d.length<ps.length:=by omega
   have hdec:decide (d.length<ps.length)=true:=decide_eq_true hlt;have hd2:ps.drop (d.length+1)=rr:=by rw[<-List.drop_drop,hd1];rfl
   have heq:ps=d++x::rr:=by
    have:=List.take_append_drop d.length ps;rw[hd1,<-hdt]at this;exact this.symm
   have hdt2:d++[x]=ps.take (d++[x]).length:=by
    have hg0:ps[d.length]? =some x:=by rw[heq];simp
    rw[yi,yC,List.take_add_one,<-hdt,hg0];rfl
   have hw1:zC .i64 ((d.length:Int)+1)=(d.length:Int)+1:=by rw[zj]<;>omega
   have hap:=renPs_append d [x] [] 0;have hps:=zOd d [] 0;simp only[hd1,yp]at h4;generalize zY d [] 0=q at*;obtain⟨out,N0,c0⟩:=q;simp only[yn]at hps hap hM0 h4;obtain rfl:c0=d.length:=by have:=hps.2.2;omega
   have hA:(out.map encPar).length=d.length:=by rw[yu];exact hps.1
   generalize hAe:out.map encPar=A at*;generalize hR:rr.map encPar=R at*;have hg:∀e,(A++e::R)[d.length]? =some e:=fun e=>by rw[<-hA];exact mid_get A R e
   have hs:∀e e',(A++e::R).set d.length e'=A++e'::R:=fun e e'=>by rw[<-hA];exact mid_set A R e e'
   obtain⟨nm,ty⟩:=x;obtain⟨es1,hms,hM1⟩:=hM0.set nm (newN d.length);have hfi:zS true (.str nm) es1=some (some (.str (newN d.length))):=by
    have:=hM1.get (x:=nm) (by simp);rw[this];simp[zba]
   have hnx:∀e row,zi E 115 [.ptr (σ.length+1) 0 0] (f3s σ e d.length row)=some (.ret (.str (newN d.length)),f3s σ e (d.length+1) row):=fun e row=>by
    have:=fresh_spec (σ:=f3s σ e 0 row) (j:=σ.length+1) (by simp) d.length (by omega);rwa[kst_f3,kst_f3]at this
   simp only[zY]at hap;generalize newN d.length=nw at*;simp only[encPar]at h4;clear hnames hsc hb hp hdt hM0 heq hl hne hroom hps;replace hap:=Nonempty.intro (PLift.up hap);replace hdt2:=Nonempty.intro (PLift.up hdt2);replace hAe:=Nonempty.intro (PLift.up hAe);replace hR:=Nonempty.intro (PLift.up hR);replace hM1:=Nonempty.intro (PLift.up hM1);simp[*];obtain⟨⟨hap⟩⟩:=hap;obtain⟨⟨hdt2⟩⟩:=hdt2;obtain⟨⟨hAe⟩⟩:=hAe;obtain⟨⟨hR⟩⟩:=hR;obtain⟨⟨hM1⟩⟩:=hM1;refine⟨d++[⟨nm,ty⟩],by simp;omega,by simp,es1,?_,by simp;omega,hdt2,by rw[hap];exact hM1⟩;rw[hap];simp[<-List.map_drop,hd2,hAe,hR,encPar]
def zgb(s:List Vr):List (List UInt8):=s.map (·.name)
theorem findV_nms{s:List Vr}{nm:List UInt8}(h:zIa s nm≠ []):nm∈zgb s:=by
 induction s with
 |nil=>exact absurd rfl h
 |cons v r ih=>
  rw[zpb]at h;unfold zgb;by_cases e:v.name=nm
  ·simp[e]
  ·rw[if_neg e]at h;have:=ih h;unfold zgb at this;simp only[yp,yw];exact .inr this
section
variable {p:Prog} {s:List Vr}
mutual
theorem expr_sc:∀(e:Expr),(zLb p s e).2=0->scE (zgb s) e
 |⟨k,o,n,nm,ar⟩,hz=>by
  rw[zLb]at hz;split at hz
  ·rename_i h1;exact absurd hz h1
  rename_i h1;split at hz
  ·rename_i h2;exact absurd hz h2
  rename_i h2;rw[scE];refine⟨fun hk=>?_,args_sc ar (by simpa using h2)⟩;have h1':zwb p s k nm ar.length=0:=by simpa using h1
  unfold zwb at h1';rw[if_pos hk]at h1';split at h1'
  ·cases h1'
  ·rename_i hf;exact findV_nms hf
theorem args_sc:∀(l:List Expr),(zWa p s l).2=0->scEs (zgb s) l
 | [],_=>by rw[scEs];trivial
 |x::r,hz=>by
  rw[zWa]at hz;split at hz
  ·rename_i h1;exact absurd hz h1
  rename_i h1;split at hz
  ·rename_i h2;exact absurd hz h2
  rename_i h2;rw[scEs];exact⟨expr_sc x (by simpa using h1),args_sc r (by simpa using h2)⟩
end
theorem want_sc{e:Expr}{t:Int}(h:ztc p s e t=0):scE (zgb s) e:=by
 unfold ztc at h;split at h
 ·rename_i h1;exact absurd h h1
 ·rename_i h1;exact expr_sc e (by simpa using h1)
theorem sc_one{l:List Expr}(hl:(l.length:Int)=1)(h:scE (zgb s) (arg0 l)):scEs (zgb s) l:=by
 match l,hl with
 | [x],_=>simp only[scEs];exact⟨h,trivial⟩
 | [],hl=>simp at hl
 |_::_::_,hl=>simp at hl;omega
theorem sc_two{l:List Expr}(hl:(l.length:Int)=2)(h:scE (zgb s) (arg0 l))(h2:scE (zgb s) (arg1 l)):scEs (zgb s) l:=by
 match l,hl with
 | [x,y],_=>simp only[scEs];exact⟨h,h2,trivial⟩
 | [],hl=>simp at hl
 | [_],hl=>simp at hl
 |_::_::_::_,hl=>simp at hl;omega
theorem stmt_sc{res k t d:Int}{nm:List UInt8}{ar:List Expr}{loop:Bool}(hl:(ar.length:Int)=(zN k).2.2.1)(hz:stmtT p res s k t nm ar d loop=0):scEs (zgb s) ar/\(k=2->nm∈zgb s):=by
 unfold stmtT at hz;by_cases k1:k=4\/k=5
 ·rw[if_pos k1]at hz;exact⟨sc_one (by rcases k1 with rfl|rfl<;>simpa[zN]using hl) (want_sc hz),fun e=>by omega⟩
 rw[if_neg k1]at hz;by_cases k2:k=8
 ·rw[if_pos k2]at hz;subst k2;exact⟨sc_one (by simpa[zN]using hl) (want_sc hz),fun e=>by omega⟩
 rw[if_neg k2]at hz;by_cases k3:k=9
 ·rw[if_pos k3]at hz;subst k3;exact⟨sc_one (by simpa[zN]using hl) (want_sc hz),fun e=>by omega⟩
 rw[if_neg k3]at hz;by_cases k4:k=10
 ·rw[if_pos k4]at hz;subst k4;exact⟨sc_one (by simpa[zN]using hl) (expr_sc _ hz),fun e=>by omega⟩
 rw[if_neg k4]at hz;by_cases k5:k=6\/k=7
 ·have:ar=[]:=yA (by rcases k5 with rfl|rfl<;>simp[zN]at hl<;>simp[hl]);subst this;exact⟨by simp[scEs],fun e=>by omega⟩
 rw[if_neg k5]at hz;unfold boundT at hz;by_cases q1:k=1
 ·subst q1;simp only[if_true]at hz;split at hz
  ·rename_i h1;exact absurd hz h1
  rename_i h1;exact⟨sc_one (by simpa[zN]using hl) (want_sc (by simpa using h1)),fun e=>by omega⟩
 simp only[q1,if_false]at hz;by_cases q2:k=2
 ·subst q2;simp only[if_true]at hz;have hf:zIa s nm≠ []:=by intro e;rw[e]at hz;cases hz
  split at hz
  ·cases hz
  exact⟨sc_one (by simpa[zN]using hl) (want_sc hz),fun _=>findV_nms hf⟩
 simp only[q2,if_false]at hz;by_cases q3:k=3
 ·subst q3;split at hz
  ·cases hz
  split at hz
  ·rename_i h4;exact absurd hz h4
  rename_i h4;exact⟨sc_two (by simpa[zN]using hl) (want_sc (by simpa using h4)) (want_sc hz),fun e=>by omega⟩
 ·have h6:¬k=6:=fun e=>k5 (.inl e)
  have h7:¬k=7:=fun e=>k5 (.inr e)
  have h8:¬k=4:=fun e=>k1 (.inl e)
  have h9:¬k=5:=fun e=>k1 (.inr e)
  simp[zN,q1,q2,q3,h6,h7,h8,h9,k2,k3,k4]at hl
end
theorem behind_nms(d:Int)(x:Stmt)(vs:List Vr):zgb (zpa d x vs)=if x.kind=1 then x.name::zgb vs else zgb vs:=by
 unfold zpa zgb;split<;>rfl
mutual
theorem block1_sc{p:Prog}{res:Int}:∀(x:Stmt) (m:Int) (s:List Vr) (d:Int) (loop:Bool) (n:Int),zPb x m=true->(zec p res x s d loop n).1=0->scS (zgb s) x
 |⟨k,t,nm,ar,th,el⟩,m,s,d,loop,n,hR,hz=>by
  obtain⟨r1,r2,r3,r4⟩:=zkc hR;simp only at r1 r2 r3 r4;rw[zce]at hz;simp only at hz;split at hz
  ·rename_i h1;exact absurd hz h1
  rename_i h1;split at hz
  ·rename_i h2;exact absurd hz h2
  rename_i h2;have e0:=stmt_sc (p:=p) (res:=res) r1 (by simpa using h1);have hb:=behind_nms d ⟨k,t,nm,ar,th,el⟩ s;simp only at hb;have e1:=blockT_sc th (m-1) _ (d+1) (loop||decide (k=5)) (n+1) r3 (by simpa using h2);have e2:=blockT_sc el (m-1) _ (d+1) loop _ r4 hz;rw[hb]at e1 e2;rw[scS];exact⟨e0.1,e0.2,e1,e2⟩
theorem blockT_sc{p:Prog}{res:Int}:∀(l:List Stmt) (m:Int) (s:List Vr) (d:Int) (loop:Bool) (n:Int),zQ l m=true->(zca p res l s d loop n).1=0->scSs (zgb s) l
 | [],m,s,d,loop,n,_,_=>by rw[scSs];trivial
 |x::r,m,s,d,loop,n,hR,hz=>by
  simp only[zQ,yb]at hR;rw[zTb]at hz;split at hz
  ·rename_i h1;exact absurd hz h1
  rename_i h1;have e1:=block1_sc x m s d loop n hR.1 (by simpa using h1);have e2:=blockT_sc r m _ d loop _ hR.2 hz;rw[behind_nms]at e2;rw[scSs];exact⟨e1,e2⟩
end
theorem scoped_nms(ps:List Par):zgb (zX ps)=(ps.map (·.name)).reverse:=by
 have:∀(l:List Par) (s:List Vr),zgb (l.foldl (fun s p=>⟨p.name,p.type,0⟩::s) s)=(l.map (·.name)).reverse++zgb s:=by
  intro l
  induction l with
  |nil=>intro s;simp
  |cons x r ih=>intro s;rw[List.foldl_cons,ih];simp[zgb]
 unfold zX;rw[this ps []];simp[zgb]
theorem checkGo_all(p:Prog):∀(l:List Func) (i:Int),(zwc p l i).1=0->∀f∈l,(zob p f).1=0
 | [],_,_,f,hf=>by simp at hf
 |g::r,i,h,f,hf=>by
  rw[zwc]at h;split at h
  ·rename_i h1;exact absurd h h1
  rename_i h1;rcases yw.1 hf with rfl|hf
  ·simpa using h1
  ·exact checkGo_all p r (i+1) h f hf
theorem check_sc(p:Prog)(h:(zQa p).1=0):∀f∈p.funcs,scSs (f.params.map (·.name)).reverse f.body:=by
 unfold zQa at h;split at h
 case isFalse=>cases h
 rename_i hR;split at h
 case isFalse=>cases h
 intro f hf;have h1:=checkGo_all p p.funcs 0 h f hf;unfold zob at h1;split at h1
 ·cases h1
 simp only at h1;unfold zQb at hR;simp only[yb,yq]at hR;have hfR:=hR.2 f hf;have hb:zQ f.body 100=true:=by
  unfold zAd at hfR;simp only[yb]at hfR
  simp_all
 have hz:(zca p f.type f.body (zX f.params) 1 false 0).1=0:=by
  by_cases e:(zca p f.type f.body (zX f.params) 1 false 0).1=0
  ·exact e
  ·simp[e]at h1
 have:=blockT_sc f.body 100 _ 1 false 0 hb hz;rw[scoped_nms]at this;exact this
theorem zhd{σ τ:zc}(i:Nat)(o:Obj)(h:σ[i]? =some o):(σ++τ)[i]? =some o:=by
 rw[yf (ya.1 h).1];exact h
theorem wf_ext{es:List (PV×PV)}(h:∀n,zqc n es=true)(c:Nat)(y:Func):∀n,zc.wf n ([.mp es,kobj c]++zsd y)=true:=by
 intro n;have h2:=pl_par (k:=n) y.params;unfold zsd;split<;>simp[zc.wf,Obj.below,kobj,h n,h2]
theorem arr_wf(ars:List PArr):WfS [.arr 2 (ars.map zK)]:=fun n _=>by
 have:zJ n (ars.map zK)=true:=zab _ _ _ (fun x=>by simp[zK]);simp[zc.wf,Obj.below,this]
theorem ext_par{σ:zc}{es:List (PV×PV)}{c:Nat}{y:Func}(hy:y.params≠ []):(σ++([.mp es,kobj c]++zsd y))[σ.length+2]? =some (.arr 2 (y.params.map encPar)):=by
 rw[yh (by omega),show σ.length+2-σ.length=2 by omega];simp[zsd,hy]
def RenO(p:Prog)(r:CRes)(st:zc):Prop:=∃F qs,r= .ret (.tup [.agg [arrV p.arrays,accF F p.funcs.length],.int .i64 0])/\OpenA st F (p.funcs.map renF) qs/\ArrOk st F qs p.arrays
set_option maxHeartbeats 8000000 in
theorem prenU_spec(p:Prog)(hz:PSz p)(hfn:p.funcs≠ [])(h0:(zQa p).1=0):PC (zi E 27 [zf p] []) (RenO p):=by
 refine zqa rfl rfl rfl (by simp[zf]) ?_;have hc:=check_spec p hz;have hsc:=check_sc p h0;generalize zQa p=q at*;obtain⟨e,n⟩:=q;simp only at h0;subst h0;obtain⟨ars,fs⟩:=p;obtain⟨z1,z2,z3⟩:=hz;simp only at z1 z2 z3 hsc hfn;simp[zLa,zf,zia,funcs]at hc;by_cases hl:ars=[]
 ·subst hl;have hac:=aclone_nil [];simp only[yxa]at hc;simp[*,F27,zf,zia,funcs];clear hc hac;refine zha K27_0 B27_0 (fun q:List Func×zc×Nat×List Nat=>fs.length-q.1.length) (fun q=>[(23,.int .i64 q.1.length)]) (fun q=>[(2,.cells [.slice .plain 2 [],accF q.2.2.1 q.1.length])]) (fun q=>q.2.1)
   (fun q=>q.1.length<=fs.length/\q.1=fs.take q.1.length/\OpenA q.2.1 q.2.2.1 (q.1.map renF) q.2.2.2/\WfS q.2.1/\ArrOk q.2.1 q.2.2.1 q.2.2.2 []) ([],[],1,[]) ⟨by simp,by simp[accF],by simp,by simp,by simp,.inl ⟨rfl,rfl⟩,fun n _=>rfl,fun h=>absurd rfl h⟩ ?_
  rintro⟨d,σ,F,qs⟩ s1 ⟨hdl,hdt,hO,hwf,hA⟩ h1 h2 h3 h2b h4
  simp only at hdl hdt hO hwf hA;simp at h1 h2 h3 h2b h4;by_cases hend:d.length=fs.length
  ·have hdd:d=fs:=by rw[hdt,hend,yGa]
   subst hdd;have hdec:decide (d.length<d.length)=false:=by simp
   replace hO:=Nonempty.intro (PLift.up hO);replace hA:=Nonempty.intro (PLift.up hA);have hac:accF F d.length= .mslice F 0 d.length 4:=by
    unfold accF;rw[if_neg (by simpa using hfn)]
   clear hsc z3 hdt hwf;simp[*,RenO];obtain⟨⟨hO⟩⟩:=hO;obtain⟨⟨hA⟩⟩:=hA;exact⟨F,by simp[arrV,hac],qs,hO,hA⟩
  ·have hlt:d.length<fs.length:=by omega
   obtain⟨x,hx⟩:∃x,fs[d.length]? =some x:=⟨_,yg hlt⟩
   have hmem:=yga hx;have hzx:=z3 x hmem;have hf:=pfuncU_spec σ hwf x hzx.1 hzx.2 (hsc x hmem);rw[zee]at hf;obtain⟨r,st,hf,rfl,es,c,hfl,rfl⟩:=hf;have hdt2:d++[x]=fs.take (d++[x]).length:=by
    rw[yi,yC,List.take_add_one,<-hdt,hx];rfl
   have hnx:=hO.snoc (σ1:=σ++([.mp es,kobj c]++zsd (renF x))) (renF x) (σ.length+2) (fun i o=>zhd i o) (by simp) (by omega) (fun hy=>ext_par hy);have hnA:=hA.snoc (fs:=d.map renF) (σ1:=σ++([.mp es,kobj c]++zsd (renF x))) (renF x) (σ.length+2) (fun i o=>zhd i o) (by simp) (by omega);have hnW:=hwf.snocO hO (wf_ext hfl c (renF x)) (renF x) (σ.length+2) (fun hy=>(ya.1 (ext_par hy)).1);have hdec:decide (d.length<fs.length)=true:=decide_eq_true hlt;have h72:72<=zo:=by simp only[zo];omega
   have hw1:zC .i64 ((d.length:Int)+1)=(d.length:Int)+1:=by rw[zj]<;>omega
   have hroom:(d.length+1)*72<=zo:=by simp only[zo];omega
   have hgx:(fs.map zl)[d.length]? =some (zl x):=by rw[yo,hx];rfl
   have hln:(zna (d.map renF) qs).length=d.length:=by
    rcases hO with⟨a,b⟩|⟨_,hO⟩
    ·rw[b];simp at a;simp[zna,a]
    ·rw[openFs_len hO.len];simp
   have hL0:d=[]->zna (d.map renF) qs=[]:=fun h=>by subst h;exact yLa.1 hln
   have hτF:d≠ []->(σ++([.mp es,kobj c]++zsd (renF x)))[F]? =some (.arr 4 (zna (d.map renF) qs)):=by
    intro hd;rcases hO with⟨a,b⟩|⟨_,hO⟩
    ·simp at a;exact absurd a hd
    ·exact zhd _ _ hO.row
   have hwr:nextO (σ++([.mp es,kobj c]++zsd (renF x))) F (d.map renF) qs (renF x) (σ.length+2)=if d=[]then(σ++([.mp es,kobj c]++zsd (renF x)))++[.arr 4 [zDc (renF x) (σ.length+2)]]else(σ++([.mp es,kobj c]++zsd (renF x))).set F (.dead 4)++[.arr 4 (zna (d.map renF) qs++[zDc (renF x) (σ.length+2)])]:=by
    unfold nextO;by_cases hd:d=[]
    ·rw[if_pos hd,if_pos (by simpa using hd),hL0 hd];rfl
    ·rw[if_neg hd,if_neg (by simpa using hd)]
   have hmr:(d++[x]).map renF=d.map renF++[renF x]:=by simp
   have hRs:=zUe (d.map renF) qs;have hlr:(σ++([.mp es,kobj c]++zsd (renF x))).length=(σ++([.mp es,kobj c]++zsd (renF x))).length:=rfl;rw[<-hmr]at hnx;generalize zna (d.map renF) qs=R at*;generalize σ++([.mp es,kobj c]++zsd (renF x))=τ at*;generalize hσ2:nextO τ F (d.map renF) qs (renF x) (σ.length+2)=σ2 at*;have HN:Nonempty (PLift (OpenA σ2 τ.length ((d++[x]).map renF) (qs++[σ.length+2])/\WfS σ2/\ArrOk σ2 τ.length (qs++[σ.length+2]) [])):=⟨⟨hnx,hnW,hnA⟩⟩
   have HD:Nonempty (PLift (d++[x]=fs.take (d++[x]).length)):=⟨⟨hdt2⟩⟩
   clear hnx hnW hnA hdt2 hsc z3 hO hA hwf hfl hσ2 hmr hlr hdt hmem hzx hgx;by_cases hd0:d=[]
   ·have hR:=hL0 hd0;rw[if_pos hd0]at hwr;have hacc:accF F d.length= .slice .fit 4 []:=by rw[hd0];rfl
    rw[hacc]at h2b;have HZ:Nonempty (PLift (d=[])):=⟨⟨hd0⟩⟩
    have hlt':Nonempty (PLift (d.length<fs.length)):=⟨⟨hlt⟩⟩
    clear hd0 hL0 hτF hacc hln hlt;obtain⟨fnm,fty,ps,body⟩:=x;generalize renF ⟨fnm,fty,ps,body⟩=y at*;obtain⟨ynm,yty,yps,ybody⟩:=y;simp only[zDc]at hf hwr;have hpc:canon1 (if yps=[]then PV.slice .plain 2 []else .mslice (σ.length+2) 0 yps.length 2)=(if yps=[]then PV.slice .plain 2 []else .mslice (σ.length+2) 0 yps.length 2):=by split<;>rfl
    have hps:strip (if yps=[]then PV.slice .plain 2 []else .mslice (σ.length+2) 0 yps.length 2)=(if yps=[]then PV.slice .plain 2 []else .mslice (σ.length+2) 0 yps.length 2):=by split<;>rfl
    generalize(if yps=[]then PV.slice .plain 2 []else .mslice (σ.length+2) 0 yps.length 2)=pv at*;simp[zl,parsV,zg]at hf hwr;simp[*,zl,parsV,zg];obtain⟨⟨HN1,HN2,HN3⟩⟩:=HN;obtain⟨⟨HD⟩⟩:=HD;obtain⟨⟨hlt⟩⟩:=hlt';obtain⟨⟨hd0⟩⟩:=HZ;refine⟨d++[⟨fnm,fty,ps,body⟩],by simp;omega,by simp,_,τ.length,by simp[accF,hd0],rfl,by simp;omega,HD,qs++[σ.length+2],?_,?_,?_⟩<;>rw[<-hwr]
    ·exact HN1
    ·exact HN2
    ·exact HN3
   ·rw[if_neg hd0]at hwr;have hacc:accF F d.length= .mslice F 0 d.length 4:=by unfold accF;rw[if_neg (by simpa using hd0)]
    rw[hacc]at h2b;have hpos:0<d.length:=yva.2 hd0;have hτ:=hτF hd0;have htk:R.take d.length=R:=yy (by omega);have hRl:(0+d.length<=R.length)=True:=eqp (by omega);have hlt':Nonempty (PLift (d.length<fs.length)):=⟨⟨hlt⟩⟩
    clear hd0 hL0 hτF hacc hlt;obtain⟨fnm,fty,ps,body⟩:=x;generalize renF ⟨fnm,fty,ps,body⟩=y at*;obtain⟨ynm,yty,yps,ybody⟩:=y;simp only[zDc]at hf hwr;have hpc:canon1 (if yps=[]then PV.slice .plain 2 []else .mslice (σ.length+2) 0 yps.length 2)=(if yps=[]then PV.slice .plain 2 []else .mslice (σ.length+2) 0 yps.length 2):=by split<;>rfl
    have hps:strip (if yps=[]then PV.slice .plain 2 []else .mslice (σ.length+2) 0 yps.length 2)=(if yps=[]then PV.slice .plain 2 []else .mslice (σ.length+2) 0 yps.length 2):=by split<;>rfl
    generalize(if yps=[]then PV.slice .plain 2 []else .mslice (σ.length+2) 0 yps.length 2)=pv at*;simp[zl,parsV,zg]at hf hwr;simp[*,zl,parsV,zg];obtain⟨⟨HN1,HN2,HN3⟩⟩:=HN;obtain⟨⟨HD⟩⟩:=HD;obtain⟨⟨hlt⟩⟩:=hlt';refine⟨d++[⟨fnm,fty,ps,body⟩],by simp;omega,by simp,_,τ.length,by simp[accF],rfl,by simp;omega,HD,qs++[σ.length+2],?_,?_,?_⟩<;>rw[<-hwr]
    ·exact HN1
    ·exact HN2
    ·exact HN3
 ·have hne:ars.map zK≠ []:=by simpa using hl
  have hroom:(ars.map zK).length*24<=zo:=by simp only[zo,yu];omega
  have hac:=aclone [] hne hroom;simp only[yu,yn,yla]at hac;simp[*,F27,zf,zia,funcs];clear hc hac hroom;refine zha K27_0 B27_0 (fun q:List Func×zc×Nat×List Nat=>fs.length-q.1.length) (fun q=>[(23,.int .i64 q.1.length)]) (fun q=>[(2,.cells [.mslice 0 0 ars.length 2,accF q.2.2.1 q.1.length])]) (fun q=>q.2.1)
   (fun q=>q.1.length<=fs.length/\q.1=fs.take q.1.length/\OpenA q.2.1 q.2.2.1 (q.1.map renF) q.2.2.2/\WfS q.2.1/\ArrOk q.2.1 q.2.2.1 q.2.2.2 ars) ([],[.arr 2 (ars.map zK)],1,[]) ⟨by simp,by simp[accF],by simp,by simp,by simp,.inl ⟨rfl,rfl⟩,arr_wf ars,fun h=>⟨rfl,by simp,by simp⟩⟩ ?_
  rintro⟨d,σ,F,qs⟩ s1 ⟨hdl,hdt,hO,hwf,hA⟩ h1 h2 h3 h2b h4
  simp only at hdl hdt hO hwf hA;simp at h1 h2 h3 h2b h4;by_cases hend:d.length=fs.length
  ·have hdd:d=fs:=by rw[hdt,hend,yGa]
   subst hdd;have hdec:decide (d.length<d.length)=false:=by simp
   replace hO:=Nonempty.intro (PLift.up hO);replace hA:=Nonempty.intro (PLift.up hA);have hac:accF F d.length= .mslice F 0 d.length 4:=by
    unfold accF;rw[if_neg (by simpa using hfn)]
   clear hsc z3 hdt hwf hne;simp[*,RenO];obtain⟨⟨hO⟩⟩:=hO;obtain⟨⟨hA⟩⟩:=hA;exact⟨F,by simp[arrV,show¬ars=[]from hl,hac],qs,hO,hA⟩
  ·have hlt:d.length<fs.length:=by omega
   obtain⟨x,hx⟩:∃x,fs[d.length]? =some x:=⟨_,yg hlt⟩
   have hmem:=yga hx;have hzx:=z3 x hmem;have hf:=pfuncU_spec σ hwf x hzx.1 hzx.2 (hsc x hmem);rw[zee]at hf;obtain⟨r,st,hf,rfl,es,c,hfl,rfl⟩:=hf;have hdt2:d++[x]=fs.take (d++[x]).length:=by
    rw[yi,yC,List.take_add_one,<-hdt,hx];rfl
   have hnx:=hO.snoc (σ1:=σ++([.mp es,kobj c]++zsd (renF x))) (renF x) (σ.length+2) (fun i o=>zhd i o) (by simp) (by omega) (fun hy=>ext_par hy);have hnA:=hA.snoc (fs:=d.map renF) (σ1:=σ++([.mp es,kobj c]++zsd (renF x))) (renF x) (σ.length+2) (fun i o=>zhd i o) (by simp) (by omega);have hnW:=hwf.snocO hO (wf_ext hfl c (renF x)) (renF x) (σ.length+2) (fun hy=>(ya.1 (ext_par hy)).1);have hdec:decide (d.length<fs.length)=true:=decide_eq_true hlt;have h72:72<=zo:=by simp only[zo];omega
   have hw1:zC .i64 ((d.length:Int)+1)=(d.length:Int)+1:=by rw[zj]<;>omega
   have hroom:(d.length+1)*72<=zo:=by simp only[zo];omega
   have hgx:(fs.map zl)[d.length]? =some (zl x):=by rw[yo,hx];rfl
   have hln:(zna (d.map renF) qs).length=d.length:=by
    rcases hO with⟨a,b⟩|⟨_,hO⟩
    ·rw[b];simp at a;simp[zna,a]
    ·rw[openFs_len hO.len];simp
   have hL0:d=[]->zna (d.map renF) qs=[]:=fun h=>by subst h;exact yLa.1 hln
   have hτF:d≠ []->(σ++([.mp es,kobj c]++zsd (renF x)))[F]? =some (.arr 4 (zna (d.map renF) qs)):=by
    intro hd;rcases hO with⟨a,b⟩|⟨_,hO⟩
    ·simp at a;exact absurd a hd
    ·exact zhd _ _ hO.row
   have hwr:nextO (σ++([.mp es,kobj c]++zsd (renF x))) F (d.map renF) qs (renF x) (σ.length+2)=if d=[]then(σ++([.mp es,kobj c]++zsd (renF x)))++[.arr 4 [zDc (renF x) (σ.length+2)]]else(σ++([.mp es,kobj c]++zsd (renF x))).set F (.dead 4)++[.arr 4 (zna (d.map renF) qs++[zDc (renF x) (σ.length+2)])]:=by
    unfold nextO;by_cases hd:d=[]
    ·rw[if_pos hd,if_pos (by simpa using hd),hL0 hd];rfl
    ·rw[if_neg hd,if_neg (by simpa using hd)]
   have hmr:(d++[x]).map renF=d.map renF++[renF x]:=by simp
   have hRs:=zUe (d.map renF) qs;have hlr:(σ++([.mp es,kobj c]++zsd (renF x))).length=(σ++([.mp es,kobj c]++zsd (renF x))).length:=rfl;rw[<-hmr]at hnx;generalize zna (d.map renF) qs=R at*;generalize σ++([.mp es,kobj c]++zsd (renF x))=τ at*;generalize hσ2:nextO τ F (d.map renF) qs (renF x) (σ.length+2)=σ2 at*;have HN:Nonempty (PLift (OpenA σ2 τ.length ((d++[x]).map renF) (qs++[σ.length+2])/\WfS σ2/\ArrOk σ2 τ.length (qs++[σ.length+2]) ars)):=⟨⟨hnx,hnW,hnA⟩⟩
   have HD:Nonempty (PLift (d++[x]=fs.take (d++[x]).length)):=⟨⟨hdt2⟩⟩
   clear hnx hnW hnA hdt2 hsc z3 hO hA hwf hfl hσ2 hmr hlr hdt hmem hzx hgx;by_cases hd0:d=[]
   ·have hR:=hL0 hd0;rw[if_pos hd0]at hwr;have hacc:accF F d.length= .slice .fit 4 []:=by rw[hd0];rfl
    rw[hacc]at h2b;have HZ:Nonempty (PLift (d=[])):=⟨⟨hd0⟩⟩
    have hlt':Nonempty (PLift (d.length<fs.length)):=⟨⟨hlt⟩⟩
    clear hd0 hL0 hτF hacc hln hlt;obtain⟨fnm,fty,ps,body⟩:=x;generalize renF ⟨fnm,fty,ps,body⟩=y at*;obtain⟨ynm,yty,yps,ybody⟩:=y;simp only[zDc]at hf hwr;have hpc:canon1 (if yps=[]then PV.slice .plain 2 []else .mslice (σ.length+2) 0 yps.length 2)=(if yps=[]then PV.slice .plain 2 []else .mslice (σ.length+2) 0 yps.length 2):=by split<;>rfl
    have hps:strip (if yps=[]then PV.slice .plain 2 []else .mslice (σ.length+2) 0 yps.length 2)=(if yps=[]then PV.slice .plain 2 []else .mslice (σ.length+2) 0 yps.length 2):=by split<;>rfl
    generalize(if yps=[]then PV.slice .plain 2 []else .mslice (σ.length+2) 0 yps.length 2)=pv at*;simp[zl,parsV,zg]at hf hwr;simp[*,zl,parsV,zg];obtain⟨⟨HN1,HN2,HN3⟩⟩:=HN;obtain⟨⟨HD⟩⟩:=HD;obtain⟨⟨hlt⟩⟩:=hlt';obtain⟨⟨hd0⟩⟩:=HZ;refine⟨d++[⟨fnm,fty,ps,body⟩],by simp;omega,by simp,_,τ.length,by simp[accF,hd0],rfl,by simp;omega,HD,qs++[σ.length+2],?_,?_,?_⟩<;>rw[<-hwr]
    ·exact HN1
    ·exact HN2
    ·exact HN3
   ·rw[if_neg hd0]at hwr;have hacc:accF F d.length= .mslice F 0 d.length 4:=by unfold accF;rw[if_neg (by simpa using hd0)]
    rw[hacc]at h2b;have hpos:0<d.length:=yva.2 hd0;have hτ:=hτF hd0;have htk:R.take d.length=R:=yy (by omega);have hRl:(0+d.length<=R.length)=True:=eqp (by omega);have hlt':Nonempty (PLift (d.length<fs.length)):=⟨⟨hlt⟩⟩
    clear hd0 hL0 hτF hacc hlt;obtain⟨fnm,fty,ps,body⟩:=x;generalize renF ⟨fnm,fty,ps,body⟩=y at*;obtain⟨ynm,yty,yps,ybody⟩:=y;simp only[zDc]at hf hwr;have hpc:canon1 (if yps=[]then PV.slice .plain 2 []else .mslice (σ.length+2) 0 yps.length 2)=(if yps=[]then PV.slice .plain 2 []else .mslice (σ.length+2) 0 yps.length 2):=by split<;>rfl
    have hps:strip (if yps=[]then PV.slice .plain 2 []else .mslice (σ.length+2) 0 yps.length 2)=(if yps=[]then PV.slice .plain 2 []else .mslice (σ.length+2) 0 yps.length 2):=by split<;>rfl
    generalize(if yps=[]then PV.slice .plain 2 []else .mslice (σ.length+2) 0 yps.length 2)=pv at*;simp[zl,parsV,zg]at hf hwr;simp[*,zl,parsV,zg];obtain⟨⟨HN1,HN2,HN3⟩⟩:=HN;obtain⟨⟨HD⟩⟩:=HD;obtain⟨⟨hlt⟩⟩:=hlt';refine⟨d++[⟨fnm,fty,ps,body⟩],by simp;omega,by simp,_,τ.length,by simp[accF],rfl,by simp;omega,HD,qs++[σ.length+2],?_,?_,?_⟩<;>rw[<-hwr]
    ·exact HN1
    ·exact HN2
    ·exact HN3
def textM(k:Nat):List UInt8:=yG (97+k%26)::(if k<26 then[]else zwa (k/26))
def isW(k:Nat):Bool:=wordM (textM k)
def wK:List Nat:=[216,228,424,436,840,852]
theorem isW_small:∀k,k<1000->isW k=wK.contains k:=by decide+kernel
theorem isW_large{k:Nat}(h:1000<=k)(hk:k<100000000000000):isW k=false:=by
 unfold isW wordM;rw[yhb,List.any_eq_false];intro x hx he;have hall:words.all (fun w=>decide (w.tail=[]\/(∃b∈w.tail,¬(48<=b.toNat/\b.toNat<=57))\/w.tail=zwa 8\/w.tail=zwa 16\/w.tail=zwa 32))=true:=by decide+kernel
 have:=yq.1 hall x hx;simp only[beq_iff_eq]at he;subst he;have ht:(textM k).tail=zwa (k/26):=by
  unfold textM;rw[if_neg (by omega)];rfl
 rw[ht]at this;simp only[decide_eq_true_eq]at this;have hd:k/26<10000000000000:=by omega
 rcases this with h1|⟨b,hb,hn⟩|h1|h1|h1
 ·exact digF_ne 19 _ h1
 ·exact hn (digF_dig 20 _ b hb)
 ·have:=zof hd (by omega) h1;omega
 ·have:=zof hd (by omega) h1;omega
 ·have:=zof hd (by omega) h1;omega
theorem isW_eq{k:Nat}(hk:k<100000000000000):isW k=wK.contains k:=by
 by_cases h:k<1000
 ·exact isW_small k h
 ·rw[isW_large (by omega) hk];unfold wK;symm;rw[yhb,List.any_eq_false];intro x hx he;simp at hx he;omega
open PE.R (nthK fromK)
def nthM(n:Nat):List UInt8:=textM (nthK n)
theorem zdf(n:Nat):n<=nthK n/\nthK n<=n+6:=by
 unfold nthK;constructor<;>(repeat' split)<;>omega
theorem nthK_lt{a b:Nat}(h:a<b):nthK a<nthK b:=by
 unfold nthK
 repeat' split
 all_goals omega
theorem isW_nth{n:Nat}(h:n<10000000000000):isW (nthK n)=false:=by
 rw[isW_eq (by have:=zdf n;omega)];unfold wK nthK;rw[yhb,List.any_eq_false];intro x hx he;simp at hx he;subst he
 repeat' split at hx
 all_goals omega
theorem fromK_le(n:Nat):fromK n<=nthK n/\nthK n<=fromK n+1:=by
 unfold fromK;split
 ·rename_i h;subst h;decide
 ·unfold nthK
  repeat' split
  all_goals omega
theorem from_cases{n:Nat}(hk:fromK n≠nthK n):n=216\/n=227\/n=422\/n=433\/n=836\/n=847:=by
 unfold fromK nthK at hk;split at hk
 ·rename_i h;subst h;exact absurd rfl hk
 ·repeat' split at hk
  all_goals omega
theorem isW_from{n:Nat}(hk:fromK n≠nthK n):isW (fromK n)=true:=by
 rcases from_cases hk with rfl|rfl|rfl|rfl|rfl|rfl<;>decide+kernel
theorem fromK_succ(n:Nat):fromK (n+1)=nthK n+1:=by simp[fromK]
theorem textM_inj{a b:Nat}(ha:a<100000000000000)(hb:b<100000000000000)(h:textM a=textM b):a=b:=by
 unfold textM at h;obtain⟨h1,h2⟩:=List.cons.inj h;have e1:a%26=b%26:=by
  have:=congrArg UInt8.toNat h1;simp at this;omega
 by_cases ha26:a<26<;>by_cases hb26:b<26
 ·omega
 ·rw[if_pos ha26,if_neg hb26]at h2;exact absurd h2.symm (digF_ne 19 _)
 ·rw[if_neg ha26,if_pos hb26]at h2;exact absurd h2 (digF_ne 19 _)
 ·rw[if_neg ha26,if_neg hb26]at h2;have:=zof (by omega) (by omega) h2;omega
theorem nthM_inj{a b:Nat}(ha:a<10000000000000)(hb:b<10000000000000)(h:nthM a=nthM b):a=b:=by
 have h1:=zdf a;have h2:=zdf b;have:=textM_inj (by omega) (by omega) h;rcases Nat.lt_trichotomy a b with h|h|h
 ·have:=nthK_lt h;omega
 ·exact h
 ·have:=nthK_lt h;omega
theorem textM_len{k:Nat}(h:k<100000000000000):(textM k).length<=14:=by
 unfold textM;split
 ·simp
 ·have:=digF_len2 20 13 (k/26) (by omega) (by omega);unfold zwa;simp only[yj];omega
theorem nthM_name{c:Nat}(h:c<10000000000000):zGb (nthM c)=true:=by
 have hk:=zdf c;have hl:=textM_len (k:=nthK c) (by omega);have hw:wordM (nthM c)=false:=isW_nth h;unfold zGb;rw[hw];have hlet:∀a,a<26->zTa (yG (97+a)).toNat=true/\zF (yG (97+a))=true:=by decide
 have hm:nthK c%26<26:=Nat.mod_lt _ (by omega);have hb:(nthM c).all zF=true:=by
  unfold nthM textM;rw[yea,(hlet _ hm).2];split
  ·rfl
  ·exact digF_bytes 20 _
 rw[hb];have hh:zTa ((nthM c).head?.getD 0).toNat=true:=by
  unfold nthM textM;exact(hlet _ hm).1
 rw[hh];have hne:nthM c≠ []:=by unfold nthM textM;simp
 have hlen:(nthM c).length<=20:=by unfold nthM;omega
 simp[hne,hlen]
theorem nthM_len{c:Nat}(h:c<100000000000):(nthM c).length<=12:=by
 have hk:=zdf c;unfold nthM textM;split
 ·simp
 ·have:=digF_len2 20 11 (nthK c/26) (by omega) (by omega);unfold zwa;simp only[yj];omega
theorem txt_eq{p:Nat}(h:p<100000000000000):R.txt p=textM p:=by
 unfold R.txt R.dg textM;by_cases hp:p<26
 ·rw[if_pos hp,if_pos (by omega)]
 ·rw[if_neg hp,if_neg (by omega),itoa_dig (p/26) (by omega)]
theorem wds_eq(s:List UInt8):R.wds.contains s=wordM s:=rfl
theorem steps_ok(N:Nat)(h:N<=200000000001):R.Steps nthK fromK N:=by
 refine⟨rfl,fromK_succ,fun k=>(fromK_le k).1,fun k p hk h1 h2=>?_,fun k hk=>?_,fun k hk=>?_⟩
 ·have hl:=zdf k;have hf:=fromK_le k;have hp:p=fromK k:=by omega
  subst hp;rw[txt_eq (by omega),wds_eq];exact isW_from (by omega)
 ·have hl:=zdf k;rw[txt_eq (by omega),wds_eq];exact isW_nth (by omega)
 ·have hl:=zdf k;omega
end PE.U

namespace PE.U
open Go PE
open PE.R (nthK fromK)
theorem first_x(m:Nat)(hm:m<=200000000000)(σ:zc):zi E 22 [.int .i64 m] σ=some (.ret (.slice .plain 1 (((yI m).map nthM).map .str)),σ):=by
 rw[zFb (E:=E) (f:=22) (g:=firstX) rfl];unfold firstX;simp only;have hst:=steps_ok (m+1) (by omega);rw[if_pos ⟨by omega,by omega,by rw[Int.toNat_natCast];exact hst⟩,Int.toNat_natCast];have heq:(yI m).map (fun k=>R.txt (nthK k))=(yI m).map nthM:=by
  refine List.map_congr_left fun k hk=>?_
  have hk:=List.mem_range.1 hk;have:=zdf k;exact txt_eq (by omega)
 rw[heq]
end PE.U

namespace PE.U
open Go PE
theorem vfindV_mem{s:List Vr}{nm:List UInt8}(h:¬zIa s nm=[]):nm∈zgb s:=by
 induction s with
 |nil=>exact absurd rfl h
 |cons v r ih=>
  rw[zpb]at h;split at h
  ·rename_i hn;simp[zgb,hn]
  ·have:=ih h;simp only[zgb,yp,yw]at this ⊢;exact .inr this
theorem checkGo_ok(p:Prog):∀(l:List Func) (i:Int),(zwc p l i).1=0->∀f∈l,(zob p f).1=0
 | [],_,_,_,h=>by cases h
 |g::r,i,h,f,hf=>by
  rw[zwc]at h;split at h
  ·rename_i h1;exact absurd h h1
  rename_i h1;rcases yw.1 hf with rfl|hf
  ·simpa using h1
  ·exact checkGo_ok p r _ h f hf
theorem newN_inj{a b:Nat}(ha:a<10000000000000)(hb:b<10000000000000)(h:newN a=newN b):a=b:=by
 unfold newN zwa at h;have h:=List.cons.inj h;exact digF_inj 20 a b (Nat.lt_trans ha (by decide)) (Nat.lt_trans hb (by decide)) h.2
def NI(N:Nm)(c:Nat):Prop:=(N.map (·.2)).Nodup/\∀x∈N.map (·.2),∃i,i<c/\x=newN i
theorem NI.next{N:Nm}{c:Nat}(h:NI N c)(hc:c<9000000000000)(nm:List UInt8):NI ((nm,newN c)::N) (c+1):=by
 refine⟨?_,?_⟩
 ·rw[yp,List.nodup_cons];refine⟨fun hm=>?_,h.1⟩;obtain⟨i,hi,he⟩:=h.2 _ hm;have:=newN_inj (by omega) (by omega) he;omega
 ·intro x hx;rw[yp,yw]at hx;rcases hx with rfl|hx
  ·exact⟨c,by omega,rfl⟩
  ·obtain⟨i,hi,he⟩:=h.2 x hx;exact⟨i,by omega,he⟩
theorem NI.le{N:Nm}{c d:Nat}(h:NI N c)(hd:c<=d):NI N d:=⟨h.1,fun x hx=>by obtain⟨i,hi,he⟩:=h.2 x hx;exact⟨i,by omega,he⟩⟩
theorem findN_mem{N:Nm}{nm:List UInt8}(h:nm∈N.map (·.1)):zba nm N∈N.map (·.2):=by
 induction N with
 |nil=>simp at h
 |cons x r ih=>
  unfold zba;split
  ·simp
  ·rename_i hx;rw[yp,yw]at h;rcases h with h|h
   ·exact absurd h.symm hx
   ·rw[yp,yw];exact .inr (ih h)
theorem ren_e0(N:Nm):renE N e0=e0:=by unfold e0;simp[renE,zV]
theorem ren_arg0(N:Nm)(l:List Expr):arg0 (zV N l)=renE N (arg0 l):=by
 cases l with
 |nil=>exact(ren_e0 N).symm
 |cons x r=>simp[zV,arg0]
theorem ren_arg1(N:Nm)(l:List Expr):arg1 (zV N l)=renE N (arg1 l):=by
 match l with
 | []=>exact(ren_e0 N).symm
 | [x]=>simp only[zV];exact(ren_e0 N).symm
 |x::y::r=>simp[zV,arg1]
theorem ni_pars:∀(ps:List Par) (N:Nm) (c:Nat),NI N c->c+ps.length<9000000000000->NI (zY ps N c).2.1 (zY ps N c).2.2
 | [],N,c,h,_=>by simpa[zY]using h
 |x::r,N,c,h,hc=>by
  have:=ni_pars r ((x.name,newN c)::N) (c+1) (h.next (by simp at hc;omega) x.name) (by simp at hc;omega);simpa[zY]using this
theorem ni_ren:∀(s:Stmt) (N:Nm) (c:Nat),NI N c->c+wtS s<=4000000000000->NI (renS s N c).2.1 (renS s N c).2.2
 |⟨k,ty,nm,ar,th,el⟩,N,c,h,hc=>by
  have hb:=renS_bd ⟨k,ty,nm,ar,th,el⟩ N c;have hw:=zta ⟨k,ty,nm,ar,th,el⟩;have h1:=zgc th (if k=1 then(nm,newN c)::N else N) (if k=1 then c+1 else c);have h2:=zgc el (if k=1 then(nm,newN c)::N else N) (renB th (if k=1 then(nm,newN c)::N else N) (if k=1 then c+1 else c)).2.2;simp only[renS]at hb ⊢;by_cases hk:k=1
  ·simp only[hk,if_true]at h1 h2 ⊢;exact(h.next (by omega) nm).le (by omega)
  ·simp only[hk,if_false]at h1 h2 ⊢;exact h.le (by omega)
def NV(N:Nm):Prop:=∀x∈N.map (·.2),zGb x=true
theorem findN_valid{N:Nm}(hv:NV N){nm:List UInt8}(h:zGb nm=true):zGb (zba nm N)=true:=by
 induction N with
 |nil=>exact h
 |cons x r ih=>
  unfold zba;split
  ·exact hv _ (by simp)
  ·exact ih fun y hy=>hv y (by rw[yp,yw];exact .inr hy)
mutual
theorem exprR_ren{N:Nm}(hv:NV N):∀(e:Expr) (m:Int),zjb e m=true->zjb (renE N e) m=true
 |⟨k,o,n,nm,ar⟩,m,h=>by
  rw[zjb,yb]at h;rw[renE,zjb,yb,zKe];refine⟨exprsR_ren hv ar m h.1,?_⟩;by_cases k3:k=3
  ·subst k3;have hk:=h.2;simp[zud]at hk ⊢;exact⟨hk.1,findN_valid hv hk.2.1,hk.2.2⟩
  ·rw[if_neg k3];exact h.2
theorem exprsR_ren{N:Nm}(hv:NV N):∀(l:List Expr) (m:Int),zyb l m=true->zyb (zV N l) m=true
 | [],m,_=>by rw[zV,zyb]
 |x::r,m,h=>by
  rw[zyb,yb,yb]at h;rw[zV,zyb,yb,yb];exact⟨⟨h.1.1,exprR_ren hv x (m-1) h.1.2⟩,exprsR_ren hv r m h.2⟩
end
theorem ren_kind(N:Nm)(e:Expr):(renE N e).kind=e.kind/\(renE N e).n=e.n:=by rw[renE_eq];exact⟨rfl,rfl⟩
mutual
def shS:Stmt->Nm->Nat->Stmt×Nm×Nat
 |⟨k,ty,nm,ar,th,el⟩,N,c=>
  let N1:=if k=1 then(nm,nthM c)::N else N
  let c1:=if k=1 then c+1 else c
  let t:=shB th N1 c1
  let e:=shB el N1 t.2.2
  (⟨k,ty,if k=1\/k=2 then zba nm N1 else nm,zV N ar,t.1,e.1⟩,N1,e.2.2)
def shB:List Stmt->Nm->Nat->List Stmt×Nm×Nat
 | [],N,c=>([],N,c)
 |x::r,N,c=>
  let y:=shS x N c
  let z:=shB r y.2.1 y.2.2
  (y.1::z.1,z.2)
end
theorem renB_lenJ:∀(a:List Stmt) (N:Nm) (c:Nat),(shB a N c).1.length=a.length
 | [],N,c=>by simp[shB]
 |x::r,N,c=>by simp[shB,renB_lenJ r]
mutual
theorem renS_bdJ:∀(s:Stmt) (N:Nm) (c:Nat),(shS s N c).2.1.length<=N.length+1/\c<=(shS s N c).2.2/\(shS s N c).2.2<=c+wtS s
 |⟨k,ty,nm,ar,th,el⟩,N,c=>by
  have h1:=zxd th (if k=1 then(nm,nthM c)::N else N) (if k=1 then c+1 else c);have h2:=zxd el (if k=1 then(nm,nthM c)::N else N) (shB th (if k=1 then(nm,nthM c)::N else N) (if k=1 then c+1 else c)).2.2;have hw:=zta ⟨k,ty,nm,ar,th,el⟩;simp only[shS];simp only at hw;refine⟨by split<;>simp,?_,?_⟩
  ·split at h1<;>split at h2<;>simp_all<;>omega
  ·split at h1<;>split at h2<;>simp_all<;>omega
theorem zxd:∀(l:List Stmt) (N:Nm) (c:Nat),(shB l N c).2.1.length<=N.length+l.length/\c<=(shB l N c).2.2/\(shB l N c).2.2<=c+wtSs l
 | [],N,c=>by simp[shB,wtSs]
 |x::r,N,c=>by
  have h1:=renS_bdJ x N c;have h2:=zxd r (shS x N c).2.1 (shS x N c).2.2;have hw:wtSs (x::r)=wtS x+1+wtSs r:=by simp[wtSs];omega
  simp only[shB,yj];omega
end
def shPs:List Par->Nm->Nat->List Par×Nm×Nat
 | [],N,c=>([],N,c)
 |x::r,N,c=>
  let z:=shPs r ((x.name,nthM c)::N) (c+1)
  (⟨nthM c,x.type⟩::z.1,z.2)
theorem zWc:∀(a:List Par) (N:Nm) (c:Nat),(shPs a N c).1.length=a.length/\(shPs a N c).2.1.length=N.length+a.length/\(shPs a N c).2.2=c+a.length
 | [],N,c=>by simp[shPs]
 |x::r,N,c=>by
  have:=zWc r ((x.name,nthM c)::N) (c+1);simp only[shPs,yj]at this ⊢;omega
def shF(f:Func):Func:=⟨f.name,f.type,(shPs f.params [] 0).1,(shB f.body (shPs f.params [] 0).2.1 (shPs f.params [] 0).2.2).1⟩
def shP(p:Prog):Prog:=⟨p.arrays,p.funcs.map shF⟩
def NJ(N:Nm)(c:Nat):Prop:=(N.map (·.2)).Nodup/\∀x∈N.map (·.2),∃i,i<c/\x=nthM i
theorem NJ.next{N:Nm}{c:Nat}(h:NJ N c)(hc:c<9000000000000)(nm:List UInt8):NJ ((nm,nthM c)::N) (c+1):=by
 refine⟨?_,?_⟩
 ·rw[yp,List.nodup_cons];refine⟨fun hm=>?_,h.1⟩;obtain⟨i,hi,he⟩:=h.2 _ hm;have:=nthM_inj (by omega) (by omega) he;omega
 ·intro x hx;rw[yp,yw]at hx;rcases hx with rfl|hx
  ·exact⟨c,by omega,rfl⟩
  ·obtain⟨i,hi,he⟩:=h.2 x hx;exact⟨i,by omega,he⟩
theorem NJ.le{N:Nm}{c d:Nat}(h:NJ N c)(hd:c<=d):NJ N d:=⟨h.1,fun x hx=>by obtain⟨i,hi,he⟩:=h.2 x hx;exact⟨i,by omega,he⟩⟩
theorem ren_funcJ(p:Prog)(nm:List UInt8):zKa (shP p) nm=(zKa p nm).map shF:=by
 unfold zKa shP;rw[List.find?_map];rfl
theorem ni_parsJ:∀(ps:List Par) (N:Nm) (c:Nat),NJ N c->c+ps.length<9000000000000->NJ (shPs ps N c).2.1 (shPs ps N c).2.2
 | [],N,c,h,_=>by simpa[shPs]using h
 |x::r,N,c,h,hc=>by
  have:=ni_parsJ r ((x.name,nthM c)::N) (c+1) (h.next (by simp at hc;omega) x.name) (by simp at hc;omega);simpa[shPs]using this
theorem ni_renJ:∀(s:Stmt) (N:Nm) (c:Nat),NJ N c->c+wtS s<=4000000000000->NJ (shS s N c).2.1 (shS s N c).2.2
 |⟨k,ty,nm,ar,th,el⟩,N,c,h,hc=>by
  have hb:=renS_bdJ ⟨k,ty,nm,ar,th,el⟩ N c;have hw:=zta ⟨k,ty,nm,ar,th,el⟩;have h1:=zxd th (if k=1 then(nm,nthM c)::N else N) (if k=1 then c+1 else c);have h2:=zxd el (if k=1 then(nm,nthM c)::N else N) (shB th (if k=1 then(nm,nthM c)::N else N) (if k=1 then c+1 else c)).2.2;simp only[shS]at hb ⊢;by_cases hk:k=1
  ·simp only[hk,if_true]at h1 h2 ⊢;exact(h.next (by omega) nm).le (by omega)
  ·simp only[hk,if_false]at h1 h2 ⊢;exact h.le (by omega)
def idN(N:Nm):Prop:=∀x∈N,x.1=x.2
theorem findN_id{N:Nm}(h:idN N)(nm:List UInt8):zba nm N=nm:=by
 induction N with
 |nil=>rfl
 |cons x r ih=>
  unfold zba;split
  ·rename_i e;rw[<-h x (by simp)];exact e
  ·exact ih fun y hy=>h y (by simp[hy])
mutual
theorem renE_id{N:Nm}(h:idN N):∀(e:Expr),renE N e=e
 |⟨k,o,n,nm,ar⟩=>by
  rw[renE,findN_id h,renEs_id h ar];split<;>rfl
theorem renEs_id{N:Nm}(h:idN N):∀(l:List Expr),zV N l=l
 | []=>by rw[zV]
 |x::r=>by rw[zV,renE_id h x,renEs_id h r]
end
mutual
def let1:Stmt->List (List UInt8)
 |⟨k,_,nm,_,th,el⟩=>(if k=1 then[nm]else[])++(zSa th++zSa el)
def zSa:List Stmt->List (List UInt8)
 | []=>[]
 |x::r=>let1 x++zSa r
end
theorem let1_eq(s:Stmt):let1 s=(if s.kind=1 then[s.name]else[])++(zSa s.thn++zSa s.els):=by cases s;rw[let1]
theorem letsM_append(a b:List Stmt):zSa (a++b)=zSa a++zSa b:=by
 induction a with
 |nil=>simp[zSa]
 |cons x r ih=>simp[zSa,ih]
def news(c k:Nat):List (List UInt8):=(List.range' c k).map newN
theorem zef(c a b:Nat):news c a++news (c+a) b=news c (a+b):=by
 unfold news;rw[<-yda,List.range'_append_1]
mutual
theorem let1_ren:∀(s:Stmt) (N:Nm) (c:Nat),∃k,(renS s N c).2.2=c+k/\let1 (renS s N c).1=news c k
 |⟨k,ty,nm,ar,th,el⟩,N,c=>by
  by_cases hk:k=1
  ·subst hk;have hf:zba nm ((nm,newN c)::N)=newN c:=by simp[zba]
   obtain⟨k1,a1,a2⟩:=zNe th ((nm,newN c)::N) (c+1);obtain⟨k2,b1,b2⟩:=zNe el ((nm,newN c)::N) (c+1+k1);simp only[renS,if_true,true_or,hf,let1,a1,a2,b1,b2];refine⟨1+(k1+k2),by omega,?_⟩;rw[zef,<-zef c 1 (k1+k2)];rfl
  ·obtain⟨k1,a1,a2⟩:=zNe th N c;obtain⟨k2,b1,b2⟩:=zNe el N (c+k1);simp only[renS,hk,if_false,false_or,let1,a1,a2,b1,b2];refine⟨k1+k2,by omega,?_⟩;rw[yla,zef]
theorem zNe:∀(l:List Stmt) (N:Nm) (c:Nat),∃k,(renB l N c).2.2=c+k/\zSa (renB l N c).1=news c k
 | [],N,c=>⟨0,by simp[renB],by simp[renB,zSa,news]⟩
 |x::r,N,c=>by
  obtain⟨k1,a1,a2⟩:=let1_ren x N c;obtain⟨k2,b1,b2⟩:=zNe r (renS x N c).2.1 (c+k1);simp only[renB,zSa,a1,a2,b1,b2];exact⟨k1+k2,by omega,zef c k1 k2⟩
end
mutual
theorem renS_againJ:∀(s:Stmt) (N:Nm) (c:Nat) (N':Nm),idN N'->(shS (shS s N c).1 N' c).1=(shS s N c).1/\idN (shS (shS s N c).1 N' c).2.1/\(shS (shS s N c).1 N' c).2.2=(shS s N c).2.2
 |⟨k,ty,nm,ar,th,el⟩,N,c,N',h=>by
  by_cases hk:k=1
  ·subst hk;have hf:zba nm ((nm,nthM c)::N)=nthM c:=by simp[zba]
   simp only[shS,if_true,true_or,hf];have hid:idN ((nthM c,nthM c)::N'):=by
    intro x hx;rcases yw.1 hx with rfl|hx
    ·rfl
    ·exact h x hx
   have e1:=zXc th ((nm,nthM c)::N) (c+1) ((nthM c,nthM c)::N') hid;have e2:=zXc el ((nm,nthM c)::N) (shB th ((nm,nthM c)::N) (c+1)).2.2 ((nthM c,nthM c)::N') hid;rw[e1.1,e1.2.2,e2.1,e2.2.2,renEs_id h,findN_id hid];exact⟨rfl,hid,rfl⟩
  ·simp only[shS,hk,if_false,false_or];have e1:=zXc th N c N' h;have e2:=zXc el N (shB th N c).2.2 N' h;rw[e1.1,e1.2.2,e2.1,e2.2.2,renEs_id h];refine⟨?_,h,rfl⟩;split
   ·rw[findN_id h]
   ·rfl
theorem zXc:∀(l:List Stmt) (N:Nm) (c:Nat) (N':Nm),idN N'->(shB (shB l N c).1 N' c).1=(shB l N c).1/\idN (shB (shB l N c).1 N' c).2.1/\(shB (shB l N c).1 N' c).2.2=(shB l N c).2.2
 | [],N,c,N',h=>by simp only[shB];exact⟨trivial,h,trivial⟩
 |x::r,N,c,N',h=>by
  have e1:=renS_againJ x N c N' h;have e2:=zXc r (shS x N c).2.1 (shS x N c).2.2 (shS (shS x N c).1 N' c).2.1 e1.2.1;simp only[shB];rw[e1.2.2,e1.1];rw[e2.1,e2.2.2];exact⟨rfl,e2.2.1,rfl⟩
end
theorem renPs_againJ:∀(ps:List Par) (N:Nm) (c:Nat) (N':Nm),idN N'->(shPs (shPs ps N c).1 N' c).1=(shPs ps N c).1/\idN (shPs (shPs ps N c).1 N' c).2.1/\(shPs (shPs ps N c).1 N' c).2.2=(shPs ps N c).2.2
 | [],N,c,N',h=>by simp only[shPs];exact⟨trivial,h,trivial⟩
 |x::r,N,c,N',h=>by
  have hid:idN ((nthM c,nthM c)::N'):=by
   intro x hx;rcases yw.1 hx with rfl|hx
   ·rfl
   ·exact h x hx
  have e:=renPs_againJ r ((x.name,nthM c)::N) (c+1) _ hid;simp only[shPs];rw[e.1,e.2.2];exact⟨rfl,e.2.1,rfl⟩
theorem renF_againJ(f:Func):shF (shF f)=shF f:=by
 have e:=renPs_againJ f.params [] 0 [] (fun x h=>by simp at h);have e2:=zXc f.body (shPs f.params [] 0).2.1 (shPs f.params [] 0).2.2 (shPs (shPs f.params [] 0).1 [] 0).2.1 e.2.1;show Func.mk f.name f.type (shPs (shPs f.params [] 0).1 [] 0).1 (shB (shB f.body (shPs f.params [] 0).2.1 (shPs f.params [] 0).2.2).1 (shPs (shPs f.params [] 0).1 [] 0).2.1 (shPs (shPs f.params [] 0).1 [] 0).2.2).1=_
 rw[e.1,e.2.2,e2.1];rfl
theorem renP_againJ(p:Prog):shP (shP p)=shP p:=by
 show Prog.mk p.arrays ((p.funcs.map shF).map shF)=Prog.mk p.arrays (p.funcs.map shF)
 rw[List.map_map];congr 2;funext f;exact renF_againJ f
def numN(s:List UInt8):Nat:=(zie s.tail).toNat
def numM(s:List UInt8):List UInt8:=nthM (numN s)
theorem numN_new{c:Nat}(h:c<=9223372036854775807):numN (newN c)=c:=by simp[numN,newN,value_dig h]
theorem numM_new{c:Nat}(h:c<=9223372036854775807):numM (newN c)=nthM c:=by simp[numM,numN_new h]
mutual
def shortE:Expr->Expr
 |⟨k,op,n,nm,ar⟩=>⟨k,op,n,if k=3 then numM nm else nm,zGa ar⟩
def zGa:List Expr->List Expr
 | []=>[]
 |x::r=>shortE x::zGa r
end
mutual
def shortS:Stmt->Stmt
 |⟨k,ty,nm,ar,th,el⟩=>⟨k,ty,if k=1\/k=2 then numM nm else nm,zGa ar,zua th,zua el⟩
def zua:List Stmt->List Stmt
 | []=>[]
 |x::r=>shortS x::zua r
end
theorem shortEs_append(a b:List Expr):zGa (a++b)=zGa a++zGa b:=by
 induction a with
 |nil=>simp[zGa]
 |cons x r ih=>simp[zGa,ih]
theorem shortEs_len(a:List Expr):(zGa a).length=a.length:=by
 induction a with
 |nil=>simp[zGa]
 |cons x r ih=>simp[zGa,ih]
theorem shortSs_append(a b:List Stmt):zua (a++b)=zua a++zua b:=by
 induction a with
 |nil=>simp[zua]
 |cons x r ih=>simp[zua,ih]
theorem shortSs_len(a:List Stmt):(zua a).length=a.length:=by
 induction a with
 |nil=>simp[zua]
 |cons x r ih=>simp[zua,ih]
def shortP(p:Par):Par:=⟨numM p.name,p.type⟩
def zMd(f:Func):Func:=⟨f.name,f.type,f.params.map shortP,zua f.body⟩
def nvN(c:Nat)(nm:List UInt8):Prop:=∃i,i<c/\nm=newN i
mutual
def nvE(c:Nat):Expr->Prop
 |⟨k,_,_,nm,ar⟩=>(k=3->nvN c nm)/\nvEs c ar
def nvEs(c:Nat):List Expr->Prop
 | []=>True
 |x::r=>nvE c x/\nvEs c r
end
mutual
def nvS(c:Nat):Stmt->Prop
 |⟨k,_,nm,ar,th,el⟩=>(k=1\/k=2->nvN c nm)/\nvEs c ar/\nvSs c th/\nvSs c el
def nvSs(c:Nat):List Stmt->Prop
 | []=>True
 |x::r=>nvS c x/\nvSs c r
end
theorem nvN.le{c d:Nat}{nm:List UInt8}(h:nvN c nm)(hd:c<=d):nvN d nm:=by
 obtain⟨i,hi,he⟩:=h;exact⟨i,by omega,he⟩
mutual
theorem nvE_le{c d:Nat}(hd:c<=d):∀(e:Expr),nvE c e->nvE d e
 |⟨k,op,n,nm,ar⟩,h=>by
  rw[nvE]at h ⊢;exact⟨fun e=>(h.1 e).le hd,nvEs_le hd ar h.2⟩
theorem nvEs_le{c d:Nat}(hd:c<=d):∀(l:List Expr),nvEs c l->nvEs d l
 | [],_=>by rw[nvEs];trivial
 |x::r,h=>by
  rw[nvEs]at h ⊢;exact⟨nvE_le hd x h.1,nvEs_le hd r h.2⟩
end
mutual
theorem nvS_le{c d:Nat}(hd:c<=d):∀(s:Stmt),nvS c s->nvS d s
 |⟨k,ty,nm,ar,th,el⟩,h=>by
  rw[nvS]at h ⊢;exact⟨fun e=>(h.1 e).le hd,nvEs_le hd ar h.2.1,nvSs_le hd th h.2.2.1,nvSs_le hd el h.2.2.2⟩
theorem nvSs_le{c d:Nat}(hd:c<=d):∀(l:List Stmt),nvSs c l->nvSs d l
 | [],_=>by rw[nvSs];trivial
 |x::r,h=>by
  rw[nvSs]at h ⊢;exact⟨nvS_le hd x h.1,nvSs_le hd r h.2⟩
end
theorem nvEs_mem{c:Nat}:∀{l:List Expr},nvEs c l->∀x∈l,nvE c x
 | [],_,x,hx=>by simp at hx
 |y::r,h,x,hx=>by
  rw[nvEs]at h;rcases yw.1 hx with rfl|hx
  ·exact h.1
  ·exact nvEs_mem h.2 x hx
theorem nvSs_mem{c:Nat}:∀{l:List Stmt},nvSs c l->∀x∈l,nvS c x
 | [],_,x,hx=>by simp at hx
 |y::r,h,x,hx=>by
  rw[nvSs]at h;rcases yw.1 hx with rfl|hx
  ·exact h.1
  ·exact nvSs_mem h.2 x hx
theorem nvE_iff{c:Nat}(e:Expr):nvE c e<->(e.kind=3->nvN c e.name)/\nvEs c e.args:=by
 obtain⟨k,op,n,nm,ar⟩:=e;simp[nvE]
theorem nvS_iff{c:Nat}(s:Stmt):nvS c s<->(s.kind=1\/s.kind=2->nvN c s.name)/\nvEs c s.args/\nvSs c s.thn/\nvSs c s.els:=by
 obtain⟨k,ty,nm,ar,th,el⟩:=s;simp[nvS]
def shN(N:Nm):Nm:=N.map fun q=>(q.1,numM q.2)
def NW(N:Nm)(c:Nat):Prop:=∀x∈N.map (·.2),nvN c x
theorem NW.le{N:Nm}{c d:Nat}(h:NW N c)(hd:c<=d):NW N d:=fun x hx=>(h x hx).le hd
theorem NW.next{N:Nm}{c:Nat}(h:NW N c)(nm:List UInt8):NW ((nm,newN c)::N) (c+1):=by
 intro x hx;rw[yp,yw]at hx;rcases hx with rfl|hx
 ·exact⟨c,by omega,rfl⟩
 ·exact(h x hx).le (by omega)
theorem findN_in:∀{N:Nm} {x:List UInt8},x∈N.map (·.1)->zba x N∈N.map (·.2)
 | [],x,h=>by simp at h
 |(a,b)::r,x,h=>by
  unfold zba;by_cases e:a=x
  ·simp[e]
  ·simp only[e,if_false];have:x∈r.map (·.1):=by
    rw[yp,yw]at h;rcases h with h|h
    ·exact absurd h.symm e
    ·exact h
   simp only[yp,yw];exact .inr (findN_in this)
theorem findN_sh:∀{N:Nm} {x:List UInt8},x∈N.map (·.1)->zba x (shN N)=numM (zba x N)
 | [],x,h=>by simp at h
 |(a,b)::r,x,h=>by
  by_cases e:a=x
  ·simp[zba,shN,e]
  ·have:x∈r.map (·.1):=by
    rw[yp,yw]at h;rcases h with h|h
    ·exact absurd h.symm e
    ·exact h
   have ih:=findN_sh this;unfold shN at ih;simp only[zba,shN,yp,e,if_false];exact ih
theorem shN_new{N:Nm}{c:Nat}(hc:c<=9223372036854775807)(nm:List UInt8):shN ((nm,newN c)::N)=(nm,nthM c)::shN N:=by
 simp[shN,numM_new hc]
mutual
theorem shortE_ren{N:Nm}{c:Nat}(hN:NW N c):∀(e:Expr),scE (N.map (·.1)) e->shortE (renE N e)=renE (shN N) e/\nvE c (renE N e)
 |⟨k,op,n,nm,ar⟩,h=>by
  rw[scE]at h;obtain⟨e1,e2⟩:=shortEs_ren hN ar h.2;rw[renE,renE,shortE,nvE,e1];by_cases hk:k=3
  ·have hm:=h.1 hk;simp only[hk,if_true];rw[findN_sh hm];exact⟨rfl,fun _=>hN _ (findN_in hm),e2⟩
  ·simp only[hk,if_false];exact⟨trivial,fun e=>e.elim,e2⟩
theorem shortEs_ren{N:Nm}{c:Nat}(hN:NW N c):∀(l:List Expr),scEs (N.map (·.1)) l->zGa (zV N l)=zV (shN N) l/\nvEs c (zV N l)
 | [],_=>by rw[zV,zV,zGa,nvEs];exact⟨rfl,trivial⟩
 |x::r,h=>by
  rw[scEs]at h;obtain⟨e1,e2⟩:=shortE_ren hN x h.1;obtain⟨e3,e4⟩:=shortEs_ren hN r h.2;rw[zV,zV,zGa,nvEs,e1,e3];exact⟨rfl,e2,e4⟩
end
mutual
theorem shortS_ren:∀(s:Stmt) (N:Nm) (c:Nat),NW N c->c+wtS s<=4000000000000->scS (N.map (·.1)) s→
  shortS (renS s N c).1=(shS s (shN N) c).1/\shN (renS s N c).2.1=(shS s (shN N) c).2.1/\(renS s N c).2.2=(shS s (shN N) c).2.2/\NW (renS s N c).2.1 (renS s N c).2.2∧
   (renS s N c).2.1.map (·.1)=(if s.kind=1 then s.name::N.map (·.1)else N.map (·.1))/\nvS (renS s N c).2.2 (renS s N c).1
 |⟨k,ty,nm,ar,th,el⟩,N,c,hN,hc,h=>by
  have hw:=zta ⟨k,ty,nm,ar,th,el⟩;simp only at hw;rw[scS]at h;obtain⟨h1,h2,h3,h4⟩:=h;obtain⟨a1,a2⟩:=shortEs_ren hN ar h1;by_cases hk:k=1
  ·subst hk;simp only[if_true]at h3 h4;have hN1:=hN.next nm;have b1:=zgc th ((nm,newN c)::N) (c+1);have b2:=zgc el ((nm,newN c)::N) (renB th ((nm,newN c)::N) (c+1)).2.2;obtain⟨t1,t2,t3,t4⟩:=zUc th ((nm,newN c)::N) (c+1) hN1 (by omega) (by simpa using h3);obtain⟨u1,u2,u3,u4⟩:=zUc el ((nm,newN c)::N) (renB th ((nm,newN c)::N) (c+1)).2.2 (hN1.le (by omega)) (by omega) (by simpa using h4);rw[shN_new (by omega)]at t1 t2 u1 u2;have f1:zba nm ((nm,newN c)::N)=newN c:=by simp[zba]
   have f2:zba nm ((nm,nthM c)::shN N)=nthM c:=by simp[zba]
   simp only[renS,shS,if_true,true_or,f1,f2];rw[<-t2,shortS,numM_new (by omega),a1,t1,u1,shN_new (by omega)];refine⟨by simp,rfl,u2,hN1.le (by omega),by simp,?_⟩;rw[nvS];exact⟨fun _=>⟨c,by omega,rfl⟩,nvEs_le (by omega) _ a2,nvSs_le (by omega) _ t4,u4⟩
  ·simp only[hk,if_false]at h3 h4;have b1:=zgc th N c;have b2:=zgc el N (renB th N c).2.2;obtain⟨t1,t2,t3,t4⟩:=zUc th N c hN (by omega) h3;obtain⟨u1,u2,u3,u4⟩:=zUc el N (renB th N c).2.2 (hN.le (by omega)) (by omega) h4;simp only[renS,shS,hk,if_false,false_or];rw[<-t2,shortS,a1,t1,u1];refine⟨?_,(by first|rfl|trivial),u2,hN.le (by omega),(by first|rfl|trivial),?_⟩
   ·by_cases hk2:k=2
    ·simp[hk2,findN_sh (h2 hk2)]
    ·simp[hk,hk2]
   ·rw[nvS];refine⟨fun e=>?_,nvEs_le (by omega) _ a2,nvSs_le (by omega) _ t4,u4⟩;rcases e with e|e
    ·exact absurd e hk
    ·simp only[e,if_true];exact(hN _ (findN_in (h2 e))).le (by omega)
theorem zUc:∀(l:List Stmt) (N:Nm) (c:Nat),NW N c->c+wtSs l<=4000000000000->scSs (N.map (·.1)) l→
  zua (renB l N c).1=(shB l (shN N) c).1/\(renB l N c).2.2=(shB l (shN N) c).2.2/\NW (renB l N c).2.1 (renB l N c).2.2/\nvSs (renB l N c).2.2 (renB l N c).1
 | [],N,c,hN,_,_=>by simp only[renB,shB,zua,nvSs];exact⟨trivial,trivial,hN,trivial⟩
 |x::r,N,c,hN,hc,h=>by
  have hw:wtSs (x::r)=wtS x+1+wtSs r:=by simp[wtSs];omega
  rw[scSs]at h;obtain⟨s1,s2,s3,s4,s5,s6⟩:=shortS_ren x N c hN (by omega) h.1;have b0:=renS_bd x N c;have b1:=zgc r (renS x N c).2.1 (renS x N c).2.2;obtain⟨r1,r2,r3,r4⟩:=zUc r (renS x N c).2.1 (renS x N c).2.2 s4 (by omega) (by rw[s5];exact h.2);simp only[renB,shB];rw[<-s2,<-s3,zua,s1,r1,nvSs];exact⟨rfl,r2,r3,nvS_le (by omega) _ s6,r4⟩
end
theorem shortPs_ren:∀(ps:List Par) (N:Nm) (c:Nat),NW N c->c+ps.length<=4000000000000→
  (zY ps N c).1.map shortP=(shPs ps (shN N) c).1/\shN (zY ps N c).2.1=(shPs ps (shN N) c).2.1/\(zY ps N c).2.2=(shPs ps (shN N) c).2.2/\NW (zY ps N c).2.1 (zY ps N c).2.2∧
   (zY ps N c).2.1.map (·.1)=(ps.map (·.name)).reverse++N.map (·.1)/\∀i p,(zY ps N c).1[i]? =some p->p.name=newN (c+i)
 | [],N,c,hN,_=>by simp only[zY,shPs];exact⟨rfl,trivial,trivial,hN,by simp,by simp⟩
 |x::r,N,c,hN,hc=>by
  rw[yj]at hc;obtain⟨p1,p2,p3,p4,p5,p6⟩:=shortPs_ren r ((x.name,newN c)::N) (c+1) (hN.next x.name) (by omega);rw[shN_new (by omega)]at p1 p2 p3;simp only[zY,shPs,yp];refine⟨?_,p2,p3,p4,by rw[p5];simp,?_⟩
  ·rw[p1,shortP,numM_new (by omega)]
  ·intro i p hp;cases i with
   |zero=>simp at hp;rw[<-hp];rfl
   |succ i=>
    have:=p6 i p (by simpa using hp);rw[this,show c+1+i=c+(i+1) by omega]
theorem shortF_ren(f:Func)(hb:wtSs f.body<1099508000000)(hp:f.params.length<1099509000000)(hsc:scSs (f.params.map (·.name)).reverse f.body):
  zMd (renF f)=shF f/\nvSs (renC f) (renF f).body/\(∀i p,(renF f).params[i]? =some p->p.name=newN i)/\renC f=(renF f).params.length+(zSa (renF f).body).length/\(renF f).params.length=f.params.length:=by
 have hl:=zOd f.params [] 0;obtain⟨p1,p2,p3,p4,p5,p6⟩:=shortPs_ren f.params [] 0 (fun x hx=>by simp at hx) (by omega);have hb1:=zgc f.body (zY f.params [] 0).2.1 (zY f.params [] 0).2.2;obtain⟨s1,s2,s3,s4⟩:=zUc f.body (zY f.params [] 0).2.1 (zY f.params [] 0).2.2 p4 (by simp only[yn]at hl;omega) (by rw[p5];simpa using hsc);have e0:shN []=[]:=rfl;rw[e0]at p1 p2 p3;rw[p2,p3]at s1 s2;obtain⟨k,l1,l2⟩:=zNe f.body (zY f.params [] 0).2.1 (zY f.params [] 0).2.2;refine⟨?_,s4,fun i p h=>by rw[p6 i p h,yaa],?_,hl.1⟩
 ·show Func.mk _ _ ((zY f.params [] 0).1.map shortP) (zua (renB f.body (zY f.params [] 0).2.1 (zY f.params [] 0).2.2).1)=shF f
  rw[p1,p3,s1];rfl
 ·show(renB f.body (zY f.params [] 0).2.1 (zY f.params [] 0).2.2).2.2=(zY f.params [] 0).1.length+(zSa (renB f.body (zY f.params [] 0).2.1 (zY f.params [] 0).2.2).1).length
  rw[l1,l2,hl.1,hl.2.2];simp[news]
def shM(p:Prog):Prog×Int:=if(zQa p).1=0 then(shP p,0)else(⟨[],[]⟩,1)
abbrev KT:=Int×List UInt8
def kt(t:Tok):KT:=(t.kind,t.text)
def valN(n:Nat)(s:List UInt8):Nat:=s.foldl (fun n b=>n*10+(b.toNat-48)) n
theorem valN_nil(n:Nat):valN n []=n:=rfl
theorem valN_cons(n:Nat)(b:UInt8)(r:List UInt8):valN n (b::r)=valN (n*10+(b.toNat-48)) r:=by
 unfold valN;rw[List.foldl_cons]
theorem valN_ge:∀(s:List UInt8) (n:Nat),n<=valN n s
 | [],n=>Nat.le_of_eq (valN_nil n).symm
 |b::r,n=>by
  have:=valN_ge r (n*10+(b.toNat-48));rw[valN_cons];omega
theorem digs_cons{b:UInt8}{r:List UInt8}:digs (b::r)=true<->(48<=b.toNat/\b.toNat<=57)/\digs r=true:=by
 unfold digs;rw[yea,yb];simp[zcc];omega
theorem valGo_N:∀(s:List UInt8) (n:Nat),digs s=true->n<=9223372036854775807->zfe n s=if valN n s<=9223372036854775807 then some (valN n s:Int)else none
 | [],n,_,h=>by simp[zfe,valN_nil,h]
 |b::r,n,hd,h=>by
  obtain⟨hb,hr⟩:=digs_cons.1 hd;rw[zfe,valN_cons];have hc:((b.toNat:Int)-48)=((b.toNat-48:Nat):Int):=by omega
  rw[hc];have hge:=valN_ge r (n*10+(b.toNat-48));split
  ·rename_i hlt;rw[if_neg (by omega)]
  ·rename_i hlt;have e:(n:Int)*10+((b.toNat-48:Nat):Int)=((n*10+(b.toNat-48):Nat):Int):=by omega
   rw[e];exact valGo_N r _ hr (by omega)
theorem parse_N:∀(s:List UInt8) (n:Nat),digs s=true->n<18446744073709551616->Lib.parseUint10 n s=if valN n s<18446744073709551616 then .ok (valN n s)else .range
 | [],n,_,h=>by simp[Lib.parseUint10,valN_nil,h]
 |b::r,n,hd,h=>by
  obtain⟨hb,hr⟩:=digs_cons.1 hd;rw[Lib.parseUint10,if_pos hb,valN_cons];have hge:=valN_ge r (n*10+(b.toNat-48));split
  ·rw[if_neg (by omega)]
  split
  ·rw[if_neg (by omega)]
  ·exact parse_N r _ hr (by omega)
open PE.R (nthK fromK)
theorem atoi_dig{c:Nat}(h:c<=9223372036854775807):Lib.atoiAll (zwa c)= .ok (c:Int):=by
 have hd:=digs_dig c;have hv:=value_dig h;cases hs:zwa c with
 |nil=>exact absurd hs (digF_ne 19 c)
 |cons b r=>
  rw[hs]at hd hv;obtain⟨hb,hr⟩:=digs_cons.1 hd;have hat:Lib.atoiAll (b::r)=match Lib.parseUint10 0 (b::r)with
    | .«syntax» => .«syntax»
    | .range=> .range
    | .ok u=>if 9223372036854775808<=u then .range else .ok (u:Int):=by
   unfold Lib.atoiAll;have h1:¬b.toNat=43:=by omega
   have h2:¬b.toNat=45:=by omega
   simp only[h1,h2,or_self,if_false,false_and,not_false_eq_true,true_and];unfold Lib.parseMag;rfl
  have hN:=valGo_N (b::r) 0 hd (by omega);unfold zie at hv;rw[show(0:Int)=((0:Nat):Int)from rfl,hN]at hv;rw[hat,parse_N _ 0 hd (by omega)];by_cases h63:valN 0 (b::r)<=9223372036854775807
  ·rw[if_pos h63]at hv;simp only at hv;split at hv
   ·omega
   ·rw[if_pos (by omega)];simp only;rw[if_neg (by omega),hv]
  ·rw[if_neg h63]at hv;simp at hv
theorem atoi_d(c:Nat)(h:c<=1000000000000):zi E 90 [.str (zwa c)] []=some (.ret (.tup [.int .i64 c,.nilif]),[]):=by
 rw[zFb (E:=E) (f:=90) (g:=pureX (atoiG 195)) rfl];have hl:=digF_len 20 c;unfold pureX atoiG;simp only;rw[if_pos (by unfold zwa;omega),atoi_dig (by omega)];rfl
def namV(c:Nat):PV:= .slice .plain 1 (((yI c).map nthM).map .str)
theorem nname_spec(c i:Nat)(hc:c<=200000000000)(hi:i<c):zi E 55 [namV c,.str (newN i)] []=some (.ret (.str (nthM i)),[]):=by
 refine zd rfl rfl rfl (by simp[namV]) ?_;have ha:=atoi_d i (by omega);have hl:=digF_len 20 i;have hl1:(zwa i).length<100:=by unfold zwa;omega
 have hn:newN i=118::zwa i:=rfl;have hg:(((yI c).map nthM).map PV.str)[i]? =some (.str (nthM i)):=by
  rw[yo,yo,List.getElem?_range hi];rfl
 have hg':((yI c).map nthM)[i]? =some (nthM i):=by
  rw[yo,List.getElem?_range hi];rfl
 rw[hn];unfold namV;generalize zwa i=dg at*;generalize(yI c).map nthM=xs at*;have hln:(1:Int)<=((dg.length:Nat):Int)+1:=by omega
 clear hl hn hi hg;simp[*,F55]
theorem lets_le:∀(w:Nat) (l:List Stmt),wtSs l<=w->(zSa l).length<=wtSs l:=by
 intro w
 induction w using yFa with
 |_ w IH=>
 intro l h
 induction l with
 |nil=>simp[zSa]
 |cons x r ih=>
  have hw:wtSs (x::r)=1+wtS x+wtSs r:=rfl;have he:=zta x;have h1:=IH (wtSs x.thn) (by omega) x.thn (yd _);have h2:=IH (wtSs x.els) (by omega) x.els (yd _);have h3:=ih (by omega);rw[zSa,let1_eq];simp only[yi];split<;>simp<;>omega
theorem lets_spec:∀(w:Nat) (l:List Stmt),wtSs l<=w->w<1099511000000->zi E 28 [zg l] []=some (.ret (.int .i64 (zSa l).length),[]):=by
 intro w
 induction w using yFa with
 |_ w IH=>
 intro l h hw;refine zd rfl rfl rfl (by simp[zg]) ?_;have hlen:=zra l;simp[F28,zg];refine zhe l K28_0 B28_0 (fun d=>[(2,.int .i64 (zSa d).length),(7,.int .i64 d.length)]) (fun _=>[]) (fun _=>[]) (fun d=>True) (by omega) (by simp[zSa]) ?_ ?_
 ·intros d x r s1 hl' hlt hget hget' hw1 hp h1 h2 h3 h3b h4;simp at h1 h2 h3 h3b h4;have hwx:=zSc hl'.mem;have hwe:=zta x;have e1:=IH (wtSs x.thn) (by omega) x.thn (yd _) (by omega);have e2:=IH (wtSs x.els) (by omega) x.els (yd _) (by omega);have b1:=lets_le _ x.thn (yd _);have b2:=lets_le _ x.els (yd _);have b0:=lets_le _ d (yd _);have hsum:wtSs l=wtSs d+(1+wtS x)+wtSs r:=by rw[hl'.eq,zJd];simp[wtSs];omega
  have hap:((zSa (d++[x])).length:Int)=(zSa d).length+(if x.kind=1 then 1 else 0)+(((zSa x.thn).length:Int)+(zSa x.els).length):=by
   rw[letsM_append,zSa,zSa,let1_eq];split<;>simp<;>omega
  rw[hap];have hdec:decide (d.length<l.length)=true:=decide_eq_true hlt;obtain⟨k,ty,nm,ar,th,el⟩:=x;simp only at hwe e1 e2 b1 b2 hap ⊢;obtain⟨n0,hn0⟩:∃n0:Int,n0=((zSa d).length:Int):=⟨_,rfl⟩
  obtain⟨n1,hn1⟩:∃n1:Int,n1=((zSa th).length:Int):=⟨_,rfl⟩
  obtain⟨n2,hn2⟩:∃n2:Int,n2=((zSa el).length:Int):=⟨_,rfl⟩
  rw[<-hn0]at h3 ⊢;rw[<-hn1]at e1 ⊢;rw[<-hn2]at e2 ⊢;have c0:zC .i64 (n0+1)=n0+1:=by rw[zj]<;>omega
  have c1:zC .i64 (n1+n2)=n1+n2:=by rw[zj]<;>omega
  have c2:zC .i64 (n0+(n1+n2))=n0+(n1+n2):=by rw[zj]<;>omega
  have c3:zC .i64 (n0+1+(n1+n2))=n0+1+(n1+n2):=by rw[zj]<;>omega
  simp[zg]at e1 e2;by_cases hk:k=1
  ·subst hk;clear IH h hw hlen hl' hwx hwe b0 b1 b2 hsum hap hn0 hn1 hn2 h2 hp;simp[*,zb,zg]
  ·replace hk:=eqn hk;clear IH h hw hlen hl' hwx hwe b0 b1 b2 hsum hap hn0 hn1 hn2 h2 hp;simp[*,zb,zg]
 ·intros s1 hp h1 h2 h3 h3b h4;simp at h1 h2 h3 h3b h4;simp[*]
set_option maxHeartbeats 4000000 in
theorem nexprs_spec(c:Nat)(hc:c<=200000000000):∀(w:Nat) (l:List Expr),wtEs l<=w->w<1099511000000->nvEs c l→
  zi E 56 [namV c,ze l] []=some (.ret (ze (zGa l)),[]):=by
 intro w
 induction w using yFa with
 |_ w IH=>
 intro l h hw hnv;refine zd rfl rfl rfl (by simp[ze,namV]) ?_;have hlen:=zXb l;have hnm:=fun i=>nname_spec c i hc
 generalize hX:namV c=X at*;have hXs:strip X=X:=by rw[<-hX];rfl
 have hXa:stripA X=X:=by rw[<-hX];rfl
 have hXi:zE X=true:=by rw[<-hX];rfl
 have hXc:canon1 X=X:=by rw[<-hX];rfl
 have hXd:∀ds,zRc ds X=true:=fun ds=>by rw[<-hX];simp[namV]
 have hXb:∀n,zx n X=true:=fun n=>by
  rw[<-hX];refine zSe.2 fun x hx=>?_
  obtain⟨y,_,rfl⟩:=yHa.1 hx;rfl
 have hwf0:zc.wf 0 []=true:=rfl;clear hX;by_cases hl:l=[]
 ·subst hl;have hcl:=eclone_nil [];clear IH h hw hlen hnm;simp[*,F56,ze];refine zha K56_0 B56_0 (fun _:Unit=>0) (fun _=>[(11,.int .i64 0)]) (fun _=>[]) (fun _=>[]) (fun _=>True) () ⟨by simp,by simp,by simp,trivial⟩ ?_
  rintro⟨⟩ s1-q1 q2 q3 q4 q5
  simp at q1 q3 q5;simp[*,zGa,fin]
 ·have hne:l.map zn≠ []:=by simpa using hl
  have hroom:(l.map zn).length*64<=zo:=by simp only[zo,yu];omega
  have hcl:=eclone [] hne hroom;simp only[yu,yn,yla]at hcl;simp[*,F56,ze];refine zG l K56_0 B56_0 (fun d=>[(11,.int .i64 d.length)]) (fun d=>[.arr 5 ((zGa d).map zn++(l.drop d.length).map zn)]) (fun d=>True) (by omega) (by simp[zGa]) ?_ ?_
  ·intros d q rr s1 hl' hlt hget hget' hw1 hp h1 h2 h3 h4;simp at h1 h2 h3;have hwx:=zAb hl'.mem;have hwe:=zvd q;have hnq:=nvEs_mem hnv q hl'.mem;rw[nvE_iff]at hnq;have hap:zGa (d++[q])=zGa d++[shortE q]:=by rw[shortEs_append];simp[zGa]
   have hd1:l.drop d.length=q::rr:=by rw[hl'.eq];simp
   have hd2:l.drop (d.length+1)=rr:=by rw[<-List.drop_drop,hd1];rfl
   have hdec:decide (d.length<l.length)=true:=decide_eq_true hlt;have ih:=IH (wtEs q.args) (by omega) q.args (yd _) (by omega) hnq.2;have hA:((zGa d).map zn).length=d.length:=by rw[yu,shortEs_len]
   have h4':s1.st=[.arr 5 ((zGa d).map zn++zn q::rr.map zn)]:=by rw[h4];simp only[hd1,yp]
   clear h4;rw[hap,yda];simp only[yi,yC,hd2,yp,yxa,yR,List.singleton_append];generalize(zGa d).map zn=A at*;generalize rr.map zn=R at*;have hg:∀e,(A++e::R)[d.length]? =some e:=fun e=>by rw[<-hA];exact mid_get A R e
   have hs:∀e e',(A++e::R).set d.length e'=A++e'::R:=fun e e'=>by rw[<-hA];exact mid_set A R e e'
   obtain⟨k,op,n,nm,ar⟩:=q;simp only at ih hnq;by_cases hk:k=3
   ·subst hk;obtain⟨i,hi,hin⟩:=hnq.1 rfl;have hnm1:=hnm i hi;rw[<-hin]at hnm1;have hmm:numM nm=nthM i:=by rw[hin];exact numM_new (by omega)
    rw[<-hmm]at hnm1;clear hnm hnq hin hmm hi;clear IH hl' hwx hwe h2 hp hd1 hd2 hap hget hget' h hw hnv hcl hroom hlen hne hl;simp[ze]at ih;simp[*,za,shortE,ze]
   ·replace hk:=eqn hk;clear hnm hnq;clear IH hl' hwx hwe h2 hp hd1 hd2 hap hget hget' h hw hnv hcl hroom hlen hne hl;simp[ze]at ih;simp[*,za,shortE,ze]
  ·intros s1 hp h1 h2 h3 h4;simp at h1 h2 h3;clear IH h hnm;have htk:((zGa l).map zn).take l.length=(zGa l).map zn:=yy (by rw[yu,shortEs_len];omega);simp[*,ze,fin,frA_mslice,fr1_mslice,shortEs_len,strip_exprF]
end PE.U

namespace PE.U
open Go PE
open PE.R (nthK fromK)
set_option maxHeartbeats 8000000 in
theorem nstmts_spec(c:Nat)(hc:c<=200000000000):∀(w:Nat) (l:List Stmt),wtSs l<=w->w<1099511000000->nvSs c l→
  zi E 29 [namV c,zg l] []=some (.ret (zg (zua l)),[]):=by
 intro w
 induction w using yFa with
 |_ w IH=>
 intro l h hw hnv;refine zd rfl rfl rfl (by simp[zg,namV]) ?_;have hlen:=zra l;have hnm:=fun i=>nname_spec c i hc
 have hex:=fun ar h1 h2=>nexprs_spec c hc (wtEs ar) ar (yd _) h1 h2
 generalize hX:namV c=X at*;have hXs:strip X=X:=by rw[<-hX];rfl
 have hXa:stripA X=X:=by rw[<-hX];rfl
 have hXi:zE X=true:=by rw[<-hX];rfl
 have hXc:canon1 X=X:=by rw[<-hX];rfl
 have hXd:∀ds,zRc ds X=true:=fun ds=>by rw[<-hX];simp[namV]
 have hXb:∀n,zx n X=true:=fun n=>by
  rw[<-hX];refine zSe.2 fun x hx=>?_
  obtain⟨y,_,rfl⟩:=yHa.1 hx;rfl
 have hwf0:zc.wf 0 []=true:=rfl;clear hX;by_cases hl:l=[]
 ·subst hl;have hcl:=tclone_nil [];clear IH h hw hlen hnm hex;simp[*,F29,zg];refine zha K29_0 B29_0 (fun _:Unit=>0) (fun _=>[(11,.int .i64 0)]) (fun _=>[]) (fun _=>[]) (fun _=>True) () ⟨by simp,by simp,by simp,trivial⟩ ?_
  rintro⟨⟩ s1-q1 q2 q3 q4 q5
  simp at q1 q3 q5;simp[*,zua,fin]
 ·have hne:l.map zw≠ []:=by simpa using hl
  have hroom:(l.map zw).length*104<=zo:=by simp only[zo,yu];omega
  have hcl:=tclone [] hne hroom;simp only[yu,yn,yla]at hcl;simp[*,F29,zg];refine zG l K29_0 B29_0 (fun d=>[(11,.int .i64 d.length)]) (fun d=>[.arr 6 ((zua d).map zw++(l.drop d.length).map zw)]) (fun d=>True) (by omega) (by simp[zua]) ?_ ?_
  ·intros d q rr s1 hl' hlt hget hget' hw1 hp h1 h2 h3 h4;simp at h1 h2 h3;have hwx:=zSc hl'.mem;have hwe:=zta q;have hnq:=nvSs_mem hnv q hl'.mem;rw[nvS_iff]at hnq;have hap:zua (d++[q])=zua d++[shortS q]:=by rw[shortSs_append];simp[zua]
   have hd1:l.drop d.length=q::rr:=by rw[hl'.eq];simp
   have hd2:l.drop (d.length+1)=rr:=by rw[<-List.drop_drop,hd1];rfl
   have hdec:decide (d.length<l.length)=true:=decide_eq_true hlt;have e0:=hex q.args (by omega) hnq.2.1;have e1:=IH (wtSs q.thn) (by omega) q.thn (yd _) (by omega) hnq.2.2.1;have e2:=IH (wtSs q.els) (by omega) q.els (yd _) (by omega) hnq.2.2.2;have hA:((zua d).map zw).length=d.length:=by rw[yu,shortSs_len]
   have h4':s1.st=[.arr 6 ((zua d).map zw++zw q::rr.map zw)]:=by rw[h4];simp only[hd1,yp]
   clear h4;rw[hap,yda];simp only[yi,yC,hd2,yp,yxa,yR,List.singleton_append];generalize(zua d).map zw=A at*;generalize rr.map zw=R at*;have hg:∀e,(A++e::R)[d.length]? =some e:=fun e=>by rw[<-hA];exact mid_get A R e
   have hs:∀e e',(A++e::R).set d.length e'=A++e'::R:=fun e e'=>by rw[<-hA];exact mid_set A R e e'
   obtain⟨k,ty,nm,ar,th,el⟩:=q;simp only at e0 e1 e2 hnq;by_cases hk:k=1\/k=2
   ·obtain⟨i,hi,hin⟩:=hnq.1 hk;have hnm1:=hnm i hi;rw[<-hin]at hnm1;have hmm:numM nm=nthM i:=by rw[hin];exact numM_new (by omega)
    rw[<-hmm]at hnm1;clear hnm hnq hin hmm hi hex;rcases hk with hk|hk
    ·subst hk;clear IH hl' hwx hwe h2 hp hd1 hd2 hap hget hget' h hw hnv hcl hroom hlen hne hl;simp[ze,zg]at e0 e1 e2;simp[*,zb,shortS,ze,zg]
    ·subst hk;clear IH hl' hwx hwe h2 hp hd1 hd2 hap hget hget' h hw hnv hcl hroom hlen hne hl;simp[ze,zg]at e0 e1 e2;simp[*,zb,shortS,ze,zg]
   ·have hk1:(k=1)=False:=eqn (fun e=>hk (.inl e));have hk2:(k=2)=False:=eqn (fun e=>hk (.inr e));clear hnm hnq hex hk;clear IH hl' hwx hwe h2 hp hd1 hd2 hap hget hget' h hw hnv hcl hroom hlen hne hl;simp[ze,zg]at e0 e1 e2;simp[*,zb,shortS,ze,zg]
  ·intros s1 hp h1 h2 h3 h4;simp at h1 h2 h3;clear IH h hnm hex;have htk:((zua l).map zw).take l.length=(zua l).map zw:=yy (by rw[yu,shortSs_len];omega);simp[*,zg,fin,frA_mslice,fr1_mslice,shortSs_len,strip_stmtF]
end PE.U

namespace PE.U
open Go PE
def left(T:List Tok)(p:PS):Nat:=T.length-p.at'
def Fw(p q:PS):Prop:=p.at'<=q.at'/\(zfb p=true->zfb q=true)
theorem Fw.refl(p:PS):Fw p p:=⟨yd _,id⟩
theorem Fw.trans{p q r:PS}(a:Fw p q)(b:Fw q r):Fw p r:=⟨yfa a.1 b.1,fun h=>b.2 (a.2 h)⟩
theorem zU(p:PS):Fw p (adv p):=⟨Nat.le_succ _,id⟩
theorem zq(T:List Tok)(s:List UInt8)(p:PS):Fw p (zMa T s p):=by
 unfold zMa;split
 ·exact⟨Nat.le_succ _,id⟩
 ·split
  ·exact Fw.refl _
  ·exact⟨yd _,fun _=>rfl⟩
theorem zcd(T:List Tok)(k:Int)(p:PS):Fw p (zka T k p).2:=by
 unfold zka;split
 ·exact Fw.refl _
 ·split
  ·exact⟨Nat.le_succ _,id⟩
  ·exact⟨yd _,fun _=>rfl⟩
theorem fw_typed(T:List Tok)(p:PS):Fw p (zma T p).2:=by
 unfold zma;split
 ·exact zU p
 ·exact zq T _ p
theorem fw_deepF(d:Int)(p:PS):Fw p (deepF d p):=by
 unfold deepF;split
 ·split
  ·exact Fw.refl _
  ·exact⟨yd _,fun _=>by simp[zfb]⟩
 ·exact Fw.refl _
theorem fw_deepS(d:Int)(p:PS):Fw p (deepS d p):=by
 unfold deepS;split
 ·exact⟨yd _,fun _=>by simp[zfb]⟩
 ·exact Fw.refl _
theorem zOb{T:List Tok}{p:PS}{s:List UInt8}(I:Inv1 T p)(h:isF T s p=true):left T (adv p)+1=left T p:=by
 have:=I.lt;unfold left adv;simp only;omega
theorem zUa{T:List Tok}{p q:PS}(h:Fw p q):left T q<=left T p:=by
 unfold left;have:=h.1;omega
structure Enough(T:List Tok)(n:Nat):Prop where
 primary:∀d p,Inv1 T p->64*left T p+1<=n->∃v p',zkd T n d p=some (v,p')/\Inv1 T p'/\Fw p p'
 unary:∀d p,Inv1 T p->64*left T p+2<=n->∃v p',unaryF T n d p=some (v,p')/\Inv1 T p'/\Fw p p'
 expr:∀(k:Nat) L d p,Inv1 T p->L=11-(k:Int)->k<=10->64*left T p+3+2*k<=n->∃v p',zLc T n L d p=some (v,p')/\Inv1 T p'/\Fw p p'
 loop:∀(k:Nat) L d a p,Inv1 T p->L=11-(k:Int)->1<=k->k<=10->64*left T p+2+2*k<=n->∃v p',zqb T n L d a p=some (v,p')/\Inv1 T p'/\Fw p p'
 args:∀d p,Inv1 T p->64*left T p+26<=n->∃v p',argsF T n d p=some (v,p')/\Inv1 T p'/\Fw p p'
 al:∀d l (f:Bool) p,Inv1 T p->64*left T p+24+f.toNat<=n->∃v p',zza T n d l f p=some (v,p')/\Inv1 T p'/\Fw p p'
theorem enough_of{T:List Tok}{n:Nat}(E:Enough T n):Enough T (n+1):=by
 refine⟨?_,?_,?_,?_,?_,?_⟩
 ·intro d p I h;simp only[zkd];split
  ·exact⟨_,_,rfl,I,Fw.refl _⟩
  split
  ·rename_i hc;have hl:=zOb I hc;obtain⟨v,p',e,I',F⟩:=E.expr 10 1 (d+1) (adv p) (I.adv _ hc) (by omega) (by omega) (by omega);rw[e];exact⟨_,_,rfl,I'.must _,((zU p).trans F).trans (zq _ _ _)⟩
  split
  ·rename_i hc;exact⟨_,_,rfl,I.adv _ hc,zU p⟩
  split
  ·rename_i hc;exact⟨_,_,rfl,I.adv _ hc,zU p⟩
  split
  ·rename_i hc;exact⟨_,_,rfl,((I.adv _ hc).must _).must _,((zU p).trans (zq _ _ _)).trans (zq _ _ _)⟩
  split
  ·rename_i hc;exact⟨_,_,rfl,I.next (by rw[hc];decide) _ _,zU p⟩
  have I1:=I.text 1 (by decide);have F1:=zcd T 1 p;have hl1:=zUa (T:=T) F1;split
  ·rename_i hc;have hl:=zOb I1 hc;obtain⟨v,p',e,I',F⟩:=E.args (d+1) _ (I1.adv _ hc) (by omega);rw[e];exact⟨_,_,rfl,I',(F1.trans (zU _)).trans F⟩
  split
  ·rename_i hc;have hl:=zOb I1 hc;obtain⟨v,p',e,I',F⟩:=E.expr 10 1 (d+1) _ (I1.adv _ hc) (by omega) (by omega) (by omega);rw[e];exact⟨_,_,rfl,I'.must _,((F1.trans (zU _)).trans F).trans (zq _ _ _)⟩
  exact⟨_,_,rfl,I1,F1⟩
 ·intro d p I h;simp only[unaryF];have I1:=I.deepF d;have F1:=fw_deepF d p;have hl1:=zUa (T:=T) F1;cases hu:unF T (deepF d p)with
  |none=>
   simp only;obtain⟨v,p',e,I',F⟩:=E.primary d _ I1 (by omega);exact⟨v,p',e,I',F1.trans F⟩
  |some i=>
   simp only;have hi:isF T (signR ((i+20:Nat):Int)) (deepF d p)=true:=(unF_get hu).2.1;have hl:=zOb I1 hi;split
   ·have F2:=zq T [40] (adv (deepF d p));have hl2:=zUa (T:=T) F2;obtain⟨v,p',e,I',F⟩:=E.expr 10 1 (d+1) _ ((I1.adv _ hi).must [40]) (by omega) (by omega) (by omega);rw[e];exact⟨_,_,rfl,I'.must _,(((F1.trans (zU _)).trans F2).trans F).trans (zq _ _ _)⟩
   ·obtain⟨v,p',e,I',F⟩:=E.unary (d+1) _ (I1.adv _ hi) (by omega);rw[e];exact⟨_,_,rfl,I',(F1.trans (zU _)).trans F⟩
 ·intro k L d p I hL hk h;simp only[zLc];split
  ·exact E.unary d p I (by omega)
  ·rename_i h10;obtain⟨v,p',e,I',F⟩:=E.expr (k-1) (L+1) d p I (by omega) (by omega) (by omega);rw[e];have hl:=zUa (T:=T) F;obtain⟨v2,p2,e2,I2,F2⟩:=E.loop k L d v p' I' hL (by omega) hk (by omega);exact⟨v2,p2,e2,I2,F.trans F2⟩
 ·intro k L d a p I hL hk1 hk h;simp only[zqb];split
  ·exact⟨_,_,rfl,I,Fw.refl _⟩
  ·rename_i hne;obtain⟨s,hs⟩:=opF_pos hne;have hl:=zOb I hs;obtain⟨v,p',e,I',F⟩:=E.expr (k-1) (L+1) d (adv p) (I.adv _ hs) (by omega) (by omega) (by omega);rw[e];have hl2:=zUa (T:=T) F;obtain⟨v2,p2,e2,I2,F2⟩:=E.loop k L d _ p' I' hL hk1 hk (by omega);exact⟨v2,p2,e2,I2,((zU p).trans F).trans F2⟩
 ·intro d p I h;simp only[argsF];split
  ·rename_i hc;exact⟨_,_,rfl,I.adv _ hc,zU p⟩
  ·obtain⟨v,p',e,I',F⟩:=E.al d [] true p I (by simp;omega);rw[e];exact⟨_,_,rfl,I'.must _,F.trans (zq _ _ _)⟩
 ·intro d l f p I h;simp only[zza];have fin:∀q:PS,Inv1 T q->Fw p q->64*left T q+24<=n->∃v p',(if zfb q then some (l,q)else match zLc T n 1 d q with|none=>none|some x=>zza T n d (l++[x.1]) false x.2)=some (v,p')/\Inv1 T p'/\Fw p p':=by
   intro q Iq Fq hq;split
   ·exact⟨_,_,rfl,Iq,Fq⟩
   ·obtain⟨v,p',e,I',F⟩:=E.expr 10 1 d q Iq (by omega) (by omega) (by omega);rw[e];have hl:=zUa (T:=T) F;obtain⟨v2,p2,e2,I2,F2⟩:=E.al d (l++[v]) false p' I' (by simp;omega);exact⟨v2,p2,e2,I2,(Fq.trans F).trans F2⟩
  cases f
  ·cases c2:isF T [44] p
   ·exact⟨l,p,rfl,I,Fw.refl _⟩
   ·have hl:=zOb I c2;replace h:64*left T p+24<=n+1:=by simpa using h
    have hh:=fin (adv p) (I.adv _ c2) (zU p) (by omega);exact hh
  ·simp at h;have hh:=fin p I (Fw.refl _) (by omega);exact hh
theorem enough(T:List Tok):∀n,Enough T n
 |0=>⟨fun _ _ _ h=>by omega,fun _ _ _ h=>by omega,fun _ _ _ _ _ _ _ h=>by omega,fun _ _ _ _ _ _ _ _ _ h=>by omega,fun _ _ _ h=>by omega,fun _ _ _ _ _ h=>by omega⟩
 |n+1=>enough_of (enough T n)
theorem zzc{T:List Tok}{n:Nat}{p:PS}(I:Inv1 T p)(h:64*left T p+23<=n):∃v p',zLc T n 1 1 p=some (v,p')/\Inv1 T p'/\Fw p p':=
 (enough T n).expr 10 1 1 p I (by omega) (by omega) (by omega)
theorem zgf{T:List Tok}{n:Nat}{p:PS}(I:Inv1 T p)(h:64*left T p+23<=n):∃v p',zhf T n p=some (v,p')/\Inv1 T p'/\Fw p p':=by
 unfold zhf;have hl:=zUa (T:=T) (zq T [40] p);obtain⟨v,p',e,I',F⟩:=zzc (n:=n) (I.must [40]) (by omega);rw[e];exact⟨_,_,rfl,I'.must _,((zq _ _ _).trans F).trans (zq _ _ _)⟩
def Go1(p q:PS):Prop:=p.at'<q.at'\/zfb q=true
theorem text_go{T:List Tok}{k:Int}{p:PS}:Go1 p (zka T k p).2:=by
 unfold zka;split
 ·rename_i h;exact yZa h
 ·split
  ·exact yTa (yha _)
  ·exact yZa (by simp[zfb])
theorem must_go{T:List Tok}{s:List UInt8}{p:PS}:Go1 p (zMa T s p):=by
 unfold zMa;split
 ·exact yTa (yha _)
 ·split
  ·rename_i h;exact yZa (by simp[zfb,h])
  ·exact yZa (by simp[zfb])
theorem typed_go{T:List Tok}{p:PS}:Go1 p (zma T p).2:=by
 unfold zma;split
 ·exact yTa (yha _)
 ·exact must_go
theorem adv_go(p:PS):Go1 p (adv p):=yTa (yha _)
theorem Go1.fw{p q r:PS}(h:Go1 p q)(f:Fw q r):Go1 p r:=by
 rcases h with h|h
 ·exact yTa (Nat.lt_of_lt_of_le h f.1)
 ·exact yZa (f.2 h)
theorem Fw.go{p q r:PS}(f:Fw p q)(h:Go1 q r):Go1 p r:=by
 rcases h with h|h
 ·exact yTa (Nat.lt_of_le_of_lt f.1 h)
 ·exact yZa h
theorem named_enough{T:List Tok}{n:Nat}{p:PS}(I:Inv1 T p)(h:64*left T p+26<=n):∃v p',namedF T n p=some (v,p')/\Inv1 T p'/\Fw p p'/\Go1 p p':=by
 unfold namedF;have I1:=I.text 1 (by decide);have F1:=zcd T 1 p;have G1:=text_go (T:=T) (k:=1) (p:=p);have hl1:=zUa (T:=T) F1;split
 ·rename_i hc;have hl:=zOb I1 hc;obtain⟨v,p',e,I',F⟩:=(enough T n).args 2 _ (I1.adv _ hc) (by omega);rw[e];exact⟨_,_,rfl,I',(F1.trans (zU _)).trans F,G1.fw ((zU _).trans F)⟩
 split
 ·rename_i hc;have hl:=zOb I1 hc;obtain⟨v,p',e,I',F⟩:=zzc (n:=n) (I1.adv _ hc) (by omega);rw[e];simp only;have F2:=(zq T [93] p').trans (zq T [61] _);have hl2:=zUa (T:=T) F;have hl3:=zUa (T:=T) F2;obtain⟨v2,p2,e2,I2,F3⟩:=zzc (n:=n) ((I'.must [93]).must [61]) (by omega);rw[e2];exact⟨_,_,rfl,I2,(((F1.trans (zU _)).trans F).trans F2).trans F3,G1.fw ((((zU _).trans F).trans F2).trans F3)⟩
 ·have F2:=zq T [61] (zka T 1 p).2;have hl3:=zUa (T:=T) F2;obtain⟨v2,p2,e2,I2,F3⟩:=zzc (n:=n) (I1.must [61]) (by omega);rw[e2];exact⟨_,_,rfl,I2,(F1.trans F2).trans F3,G1.fw (F2.trans F3)⟩
structure EnoughS(T:List Tok)(n:Nat):Prop where
 stmt:∀d p,Inv1 T p->64*left T p+28<=n->∃v p',stmtF T n d p=some (v,p')/\Inv1 T p'/\Fw p p'/\Go1 p p'
 block:∀d l p,Inv1 T p->64*left T p+30<=n->∃v p',zdc T n d l p=some (v,p')/\Inv1 T p'/\Fw p p'
 over:∀d l p,Inv1 T p->1<=n->zfb p=true->∃v p',zdc T n d l p=some (v,p')/\Inv1 T p'/\Fw p p'
theorem enoughS_of{T:List Tok}{n:Nat}(E:EnoughS T n):EnoughS T (n+1):=by
 refine⟨?_,?_,?_⟩
 ·intro d p I0 h;simp only[stmtF];have I:=I0.deepS d;have F0:=fw_deepS d p;have hl0:=zUa (T:=T) F0;generalize deepS d p=q at*;have fin:∀r,Fw q r->Go1 q r->Fw p r/\Go1 p r:=fun r a b=>⟨F0.trans a,F0.go b⟩
  split
  ·have G1:=typed_go (T:=T) (p:=q);have F1:=((fw_typed T q).trans (zcd T 1 _)).trans (zq T [61] _);have hl:=zUa (T:=T) F1;obtain⟨v,p',e,I',F⟩:=zzc (n:=n) ((I.typed.text 1 (by decide)).must [61]) (by omega);rw[e];have:=fin _ ((F1.trans F).trans (zq T [59] _)) (G1.fw ((((zcd T 1 _).trans (zq T [61] _)).trans F).trans (zq T [59] _)));exact⟨_,_,rfl,I'.must _,this.1,this.2⟩
  split
  ·rename_i hc;have hl:=zOb I hc;obtain⟨v,p',e,I',F⟩:=zgf (n:=n) (I.adv _ hc) (by omega);rw[e];simp only;have F2:=F.trans (zq T [123] p');have hl2:=zUa (T:=T) F2;obtain⟨v2,p2,e2,I2,F3⟩:=E.block (d+1) [] _ (I'.must [123]) (by omega);rw[e2];simp only;have hl3:=zUa (T:=T) F3;split
   ·rename_i hc2;have hl4:=zOb I2 hc2;have F4:=(zU p2).trans (zq T [123] _);have hl5:=zUa (T:=T) (zq T [123] (adv p2));obtain⟨v3,p3,e3,I3,F5⟩:=E.block (d+1) [] _ ((I2.adv _ hc2).must [123]) (by omega);rw[e3];have:=fin _ (((((zU q).trans F2).trans F3).trans F4).trans F5) ((adv_go q).fw (((F2.trans F3).trans F4).trans F5));exact⟨_,_,rfl,I3,this.1,this.2⟩
   ·have:=fin _ (((zU q).trans F2).trans F3) ((adv_go q).fw (F2.trans F3));exact⟨_,_,rfl,I2,this.1,this.2⟩
  split
  ·rename_i hc;have hl:=zOb I hc;obtain⟨v,p',e,I',F⟩:=zgf (n:=n) (I.adv _ hc) (by omega);rw[e];simp only;have F2:=F.trans (zq T [123] p');have hl2:=zUa (T:=T) F2;obtain⟨v2,p2,e2,I2,F3⟩:=E.block (d+1) [] _ (I'.must [123]) (by omega);rw[e2];have:=fin _ (((zU q).trans F2).trans F3) ((adv_go q).fw (F2.trans F3));exact⟨_,_,rfl,I2,this.1,this.2⟩
  split
  ·rename_i hc;have:=fin _ ((zU q).trans (zq T [59] _)) ((adv_go q).fw (zq T [59] _));exact⟨_,_,rfl,(I.adv _ hc).must _,this.1,this.2⟩
  split
  ·rename_i hc;have:=fin _ ((zU q).trans (zq T [59] _)) ((adv_go q).fw (zq T [59] _));exact⟨_,_,rfl,(I.adv _ hc).must _,this.1,this.2⟩
  split
  ·rename_i hc;have hl:=zOb I hc;obtain⟨v,p',e,I',F⟩:=zzc (n:=n) (I.adv _ hc) (by omega);rw[e];have:=fin _ (((zU q).trans F).trans (zq T [59] _)) ((adv_go q).fw (F.trans (zq T [59] _)));exact⟨_,_,rfl,I'.must _,this.1,this.2⟩
  split
  ·rename_i hc;have hl:=zOb I hc;obtain⟨v,p',e,I',F⟩:=zgf (n:=n) (I.adv _ hc) (by omega);rw[e];have:=fin _ (((zU q).trans F).trans (zq T [59] _)) ((adv_go q).fw (F.trans (zq T [59] _)));exact⟨_,_,rfl,I'.must _,this.1,this.2⟩
  ·obtain⟨v,p',e,I',F,G⟩:=named_enough (n:=n) I (by omega);rw[e];have:=fin _ (F.trans (zq T [59] _)) (G.fw (zq T [59] _));exact⟨_,_,rfl,I'.must _,this.1,this.2⟩
 ·intro d l p I h;simp only[zdc];split
  ·exact⟨_,_,rfl,I,Fw.refl _⟩
  split
  ·rename_i hc;exact⟨_,_,rfl,I.adv _ hc,zU p⟩
  ·obtain⟨v,p',e,I',F,G⟩:=E.stmt d p I (by omega);rw[e];simp only;rcases G with hg|hg
   ·have hl:left T p'+1<=left T p:=by
     have:=I'.lt;have:=I.lt;unfold left;omega
    obtain⟨v2,p2,e2,I2,F2⟩:=E.block d (l++[v]) p' I' (by omega);exact⟨v2,p2,e2,I2,F.trans F2⟩
   ·obtain⟨v2,p2,e2,I2,F2⟩:=E.over d (l++[v]) p' I' (by omega) hg;exact⟨v2,p2,e2,I2,F.trans F2⟩
 ·intro d l p I h ho;simp only[zdc];rw[if_pos ho];exact⟨_,_,rfl,I,Fw.refl _⟩
theorem enoughS(T:List Tok):∀n,EnoughS T n
 |0=>⟨fun _ _ _ h=>by omega,fun _ _ _ _ h=>by omega,fun _ _ _ _ h=>by omega⟩
 |n+1=>enoughS_of (enoughS T n)
theorem params_enough{T:List Tok}:∀n l (f:Bool) p,Inv1 T p->left T p+2+f.toNat<=n->∃v p',zCb T n l f p=some (v,p')/\Inv1 T p'/\Fw p p':=by
 intro n
 induction n with
 |zero=>intro l f p _ h;omega
 |succ n ih=>
  intro l f p I h;simp only[zCb];have ov:∀l q,Inv1 T q->zfb q=true->1<=n->∃v p',zCb T n l false q=some (v,p')/\Inv1 T p'/\Fw q p':=by
   intro l q Iq ho hn;obtain⟨n,rfl⟩:∃m,n=m+1:=⟨n-1,by omega⟩
   have hc:isF T [44] q=false:=by unfold isF;rw[ho];rfl
   refine⟨l,q,?_,Iq,Fw.refl _⟩;simp[zCb,hc]
  have fin:∀q:PS,Inv1 T q->Fw p q->left T q+2<=n->∃v p',(if zfb q then some (l,q)else zCb T n (l++[⟨(zka T 1 (zma T q).2).1,(zma T q).1⟩]) false (zka T 1 (zma T q).2).2)=some (v,p')/\Inv1 T p'/\Fw p p':=by
   intro q Iq Fq hq;split
   ·exact⟨_,_,rfl,Iq,Fq⟩
   ·have F:=(fw_typed T q).trans (zcd T 1 _);have hl:=zUa (T:=T) F;have I2:=Iq.typed.text 1 (by decide);obtain⟨v2,p2,e2,I3,F2⟩:=ih (l++[⟨(zka T 1 (zma T q).2).1,(zma T q).1⟩]) false _ I2 (by simp;omega);exact⟨v2,p2,e2,I3,(Fq.trans F).trans F2⟩
  cases f
  ·cases c2:isF T [44] p
   ·exact⟨l,p,rfl,I,Fw.refl _⟩
   ·have hl:=zOb I c2;replace h:left T p+2<=n+1:=by simpa using h
    have hh:=fin (adv p) (I.adv _ c2) (zU p) (by omega);exact hh
  ·replace h:left T p+2+1<=n+1:=by simpa using h
   have hh:=fin p I (Fw.refl _) (by omega);exact hh
theorem function_enough{T:List Tok}{n:Nat}{t:Int}{s:List UInt8}{p:PS}(I:Inv1 T p)(h:64*left T p+30<=n):∃v p',zWd T n t s p=some (v,p')/\Inv1 T p'/\Fw p p':=by
 unfold zWd;have I1:=I.must [40];have F1:=zq T [40] p;have hl1:=zUa (T:=T) F1;split
 ·rename_i hc;have F2:=(zU (zMa T [40] p)).trans (zq T [123] _);have hl2:=zUa (T:=T) F2;obtain⟨v,p',e,I',F⟩:=(enoughS T n).block 1 [] _ ((I1.adv _ hc).must [123]) (by omega);rw[e];exact⟨_,_,rfl,I',(F1.trans F2).trans F⟩
 ·obtain⟨v,p',e,I',F⟩:=params_enough n [] true _ I1 (by simp;omega);rw[e];simp only;have F2:=(zq T [41] p').trans (zq T [123] _);have hl2:=zUa (T:=T) F;have hl3:=zUa (T:=T) F2;obtain⟨v2,p2,e2,I2,F3⟩:=(enoughS T n).block 1 [] _ ((I'.must [41]).must [123]) (by omega);rw[e2];exact⟨_,_,rfl,I2,((F1.trans F).trans F2).trans F3⟩
theorem prog_enough{T:List Tok}:∀n ars fs p,Inv1 T p->64*left T p+31<=n\/(zfb p=true/\1<=n)->∃v p',progF T n ars fs p=some (v,p')/\Inv1 T p':=by
 intro n
 induction n with
 |zero=>intro ars fs p _ h;omega
 |succ n ih=>
  intro ars fs p I h;simp only[progF];split
  ·exact⟨_,_,rfl,I⟩
  rename_i hno;replace h:64*left T p+31<=n+1:=by
   rcases h with h|h
   ·exact h
   ·exact absurd h.1 hno
  split
  ·exact⟨_,_,rfl,I⟩
  have G1:=typed_go (T:=T) (p:=p);have I2:=I.typed.text 1 (by decide);have F1:=(fw_typed T p).trans (zcd T 1 _);have G2:Go1 p (zka T 1 (zma T p).2).2:=G1.fw (zcd T 1 _);have hl:=zUa (T:=T) F1;have nx:∀q,Inv1 T q->Go1 p q->64*left T q+31<=n\/(zfb q=true/\1<=n):=by
   intro q Iq G;rcases G with g|g
   ·left;have:=Iq.lt;have:=I.lt;unfold left at*;omega
   ·exact yZa ⟨g,by omega⟩
  split
  ·rename_i hc;have I3:=(((I2.adv _ hc.2.2).text 0 (by decide)).must [93]).must [59];exact ih _ _ _ I3 (nx _ I3 (G2.fw ((((zU _).trans (zcd T 0 _)).trans (zq T [93] _)).trans (zq T [59] _))))
  ·obtain⟨v,p',e,I',F⟩:=function_enough (n:=n) (t:=(zma T p).1) (s:=(zka T 1 (zma T p).2).1) I2 (by omega);rw[e];exact ih _ _ _ I' (nx _ I' (G2.fw F))
def TokOK(t:Tok):Prop:=t.kind=0->digs t.text=true/\t.text.length<1000000
theorem tokGo_ok:∀n (q:List UInt8) line acc,q.length<n->q.length<=100000->(∀t∈acc,TokOK t)->(zEb n q line acc).2.1=0→
  (∀t∈(zEb n q line acc).1,TokOK t)/\(zEb n q line acc).1.length<=acc.length+q.length+1/\0<(zEb n q line acc).1.length/\∃t,(zEb n q line acc).1[(zEb n q line acc).1.length-1]? =some t/\t.kind=3:=by
 intro n
 induction n with
 |zero=>intro q line acc h;omega
 |succ n ih=>
  intro q line acc hq hs ha h0;cases q with
  |nil=>
   simp only[zEb];refine⟨?_,by simp,by simp,⟨3,[],line⟩,by simp,rfl⟩;intro t ht;rcases yx.1 ht with h|h
   ·exact ha t h
   ·rw[yL.1 h];intro h;exact absurd h (by simp)
  |cons b r=>
   simp only[yj]at hq hs;have mono:∀(q':List UInt8) line' acc',q'.length<=r.length->acc'.length+q'.length<=acc.length+r.length+1->(∀t∈acc',TokOK t)->(zEb n q' line' acc').2.1=0→
     (∀t∈(zEb n q' line' acc').1,TokOK t)/\(zEb n q' line' acc').1.length<=acc.length+(b::r).length+1/\0<(zEb n q' line' acc').1.length/\∃t,(zEb n q' line' acc').1[(zEb n q' line' acc').1.length-1]? =some t/\t.kind=3:=by
    intro q' line' acc' h1 h2 h3 h4;obtain⟨x1,x2,x3,x4⟩:=ih q' line' acc' (by omega) (by omega) h3 h4;exact⟨x1,by simp only[yj];omega,x3,x4⟩
   simp only[zEb]at h0 ⊢;split at h0
   ·rename_i c;rw[if_pos c];exact mono r _ _ (yd _) (by omega) ha h0
   rename_i c;rw[if_neg c];split at h0
   ·rename_i c;rw[if_pos c];exact mono r _ _ (yd _) (by omega) ha h0
   rename_i c;rw[if_neg c];split at h0
   ·rename_i c;rw[if_pos c];have hl:((b::r).dropWhile (· !=10)).length<=r.length:=by
     rw[List.dropWhile_cons,c.1];simp only[show((47:UInt8) !=10)=true from rfl,if_true];rw[zed,yra];omega
    exact mono _ _ _ hl (by omega) ha h0
   rename_i c;rw[if_neg c];split at h0
   ·rename_i c;rw[if_pos c];split at h0
    ·exact absurd h0 (by simp)
    rename_i c2;rw[if_neg c2];have hw:0<((b::r).takeWhile zF).length:=by rw[yDa,c];simp
    have hw2:=(yQa (l:=b::r) (p:=zF)).length_le;simp only[yj]at hw2;refine mono _ _ _ (by rw[yra];simp only[yj];omega) (by rw[yra];simp only[yj,yi,yn];omega) ?_ h0;intro t ht;rcases yx.1 ht with h|h
    ·exact ha t h
    ·rw[yL.1 h];intro hk;simp only at hk;refine⟨?_,by simp only;omega⟩;simp only[tokBad,hk,yS,yb,decide_eq_true_eq,yH,not_or,not_and,Bool.not_eq_false]at c2;have:=c2.2 trivial;simp only[zCe,yb]at this;exact this.1
   rename_i c;rw[if_neg c];split at h0
   ·exact absurd h0 (by simp)
   rename_i c2;rw[if_neg c2];have hp:0<(zHe (b::r)).length:=yva.2 c2;have hp2:=sign_len (b::r);simp only[yj]at hp2;refine mono _ _ _ (by rw[yra];simp only[yj];omega) (by rw[yra];simp only[yj,yi,yn];omega) ?_ h0;intro t ht;rcases yx.1 ht with h|h
   ·exact ha t h
   ·rw[yL.1 h];intro h;exact absurd h (by simp)
theorem tokens_inv(s:List UInt8)(h:(zO s).2.1=0):Inv1 (zO s).1 ⟨0,false,false⟩:=by
 unfold zO at h ⊢;split at h
 ·exact absurd h (by decide)
 rename_i hs;rw[if_neg hs];obtain⟨x1,x2,x3,x4⟩:=tokGo_ok (s.length+1) s 1 [] (by omega) (by omega) (by simp) h;exact⟨x3,x4,by simp at x2;omega,x1⟩
def fuel(l:List Tok):Nat:=64*l.length+100
def zmc(s:List UInt8):Prog×Int×Int:=
 if(zO s).2.1=0 then
  match progF (zO s).1 (fuel (zO s).1) [] [] ⟨0,false,false⟩with
  |none=>(⟨[],[]⟩,0,0)
  |some q=>
   if q.2.deep then(⟨[],[]⟩,2,(tk (zO s).1 q.2.at').line)
   else if q.2.bad then(⟨[],[]⟩,20,(tk (zO s).1 q.2.at').line)
   else if zQb q.1 then(q.1,0,0)else(⟨[],[]⟩,2,0)
 else(⟨[],[]⟩,(zO s).2.1,(zO s).2.2)
def Short(T:List Tok)(M:Nat):Prop:=8<=M/\∀t∈T,t.text.length+8<=M
theorem short_text{T:List Tok}{M:Nat}{k:Int}{p:PS}(I:Inv1 T p)(h:Short T M):(zka T k p).1.length+8<=M:=by
 unfold zka;split
 ·simpa using h.1
 ·split
  ·refine h.2 _ ?_;rw[<-tk_get' I.lt];exact List.getElem_mem I.lt
  ·simpa using h.1
def wa(M:Nat)(p:PS):Nat:=M*p.at'
theorem zEc(M:Nat)(p:PS):wa M (adv p)=wa M p+M:=Nat.mul_succ _ _
theorem zCc{M:Nat}{p q:PS}(h:Fw p q):wa M p<=wa M q:=yIa _ h.1
structure Light(T:List Tok)(M n:Nat):Prop where
 primary:∀d p v p',Inv1 T p->zkd T n d p=some (v,p')->Inv1 T p'/\Fw p p'/\wtE v+2*wa M p<=2*wa M p'+M
 unary:∀d p v p',Inv1 T p->unaryF T n d p=some (v,p')->Inv1 T p'/\Fw p p'/\wtE v+2*wa M p<=2*wa M p'+M
 expr:∀L d p v p',Inv1 T p->zLc T n L d p=some (v,p')->Inv1 T p'/\Fw p p'/\wtE v+2*wa M p<=2*wa M p'+M
 loop:∀L d a p v p',Inv1 T p->zqb T n L d a p=some (v,p')->∀k:Nat,wtE a+k<=2*wa M p+M->Inv1 T p'/\Fw p p'/\wtE v+k<=2*wa M p'+M
 args:∀d p v p',Inv1 T p->argsF T n d p=some (v,p')->Inv1 T p'/\Fw p p'/\wtEs v+2*wa M p<=2*wa M p'+2*M
 al:∀d l (f:Bool) p v p',Inv1 T p->zza T n d l f p=some (v,p')->∀k:Nat,wtEs l+k<=2*wa M p+(if f then 0 else 2*M)->Inv1 T p'/\Fw p p'/\wtEs v+k<=2*wa M p'+2*M
theorem light_of{T:List Tok}{M n:Nat}(hS:Short T M)(E:Light T M n):Light T M (n+1):=by
 have h8:=hS.1;refine⟨?_,?_,?_,?_,?_,?_⟩
 ·intro d p v p' I h;simp only[zkd]at h;split at h
  ·cases h;exact⟨I,Fw.refl _,by simp[wtE,wtEs];omega⟩
  split at h
  ·rename_i hc;split at h
   ·cases h
   ·rename_i q hq;cases h;obtain⟨I',F,W⟩:=E.expr _ _ _ _ _ (I.adv _ hc) hq;have:=zEc M p;have:=zCc (M:=M) (zq T [41] q.2);exact⟨I'.must _,((zU p).trans F).trans (zq _ _ _),by omega⟩
  split at h
  ·rename_i hc;cases h;have:=zEc M p;exact⟨I.adv _ hc,zU p,by simp[wtE,wtEs];omega⟩
  split at h
  ·rename_i hc;cases h;have:=zEc M p;exact⟨I.adv _ hc,zU p,by simp[wtE,wtEs];omega⟩
  split at h
  ·rename_i hc;cases h;have F:=((zU p).trans (zq T [40] _)).trans (zq T [41] _);have:=zCc (M:=M) F;exact⟨((I.adv _ hc).must _).must _,F,by simp[wtE,wtEs];omega⟩
  split at h
  ·rename_i hc;cases h;have:=zEc M p;exact⟨I.next (by rw[hc];decide) _ _,zU p,by simp[wtE,wtEs];omega⟩
  have I1:=I.text 1 (by decide);have F1:=zcd T 1 p;have w1:=zCc (M:=M) F1;have hs:=short_text (k:=1) I hS;split at h
  ·rename_i hc;split at h
   ·cases h
   ·rename_i q hq;cases h;obtain⟨I',F,W⟩:=E.args _ _ _ _ (I1.adv _ hc) hq;have:=zEc M (zka T 1 p).2;exact⟨I',(F1.trans (zU _)).trans F,by simp only[wtE];omega⟩
  split at h
  ·rename_i hc;split at h
   ·cases h
   ·rename_i q hq;cases h;obtain⟨I',F,W⟩:=E.expr _ _ _ _ _ (I1.adv _ hc) hq;have:=zEc M (zka T 1 p).2;have:=zCc (M:=M) (zq T [93] q.2);exact⟨I'.must _,((F1.trans (zU _)).trans F).trans (zq _ _ _),by simp only[wtE,wtEs];omega⟩
  ·cases h;exact⟨I1,F1,by simp only[wtE,wtEs];omega⟩
 ·intro d p v p' I h;simp only[unaryF]at h;have I1:=I.deepF d;have F1:=fw_deepF d p;have w1:=zCc (M:=M) F1;cases hu:unF T (deepF d p)with
  |none=>
   rw[hu]at h;obtain⟨I',F,W⟩:=E.primary _ _ _ _ I1 h;exact⟨I',F1.trans F,by omega⟩
  |some i=>
   rw[hu]at h;simp only at h;have hi:isF T (signR ((i+20:Nat):Int)) (deepF d p)=true:=(unF_get hu).2.1;have:=zEc M (deepF d p);split at h
   ·split at h
    ·cases h
    ·rename_i q hq;cases h;have F2:=zq T [40] (adv (deepF d p));have:=zCc (M:=M) F2;obtain⟨I',F,W⟩:=E.expr _ _ _ _ _ ((I1.adv _ hi).must _) hq;have:=zCc (M:=M) (zq T [41] q.2);exact⟨I'.must _,(((F1.trans (zU _)).trans F2).trans F).trans (zq _ _ _),by simp only[wtE,wtEs,yn];omega⟩
   ·split at h
    ·cases h
    ·rename_i q hq;cases h;obtain⟨I',F,W⟩:=E.unary _ _ _ _ (I1.adv _ hi) hq;exact⟨I',(F1.trans (zU _)).trans F,by simp only[wtE,wtEs,yn];omega⟩
 ·intro L d p v p' I h;simp only[zLc]at h;split at h
  ·exact E.unary _ _ _ _ I h
  ·split at h
   ·cases h
   ·rename_i q hq;obtain⟨I',F,W⟩:=E.expr _ _ _ _ _ I hq;obtain⟨I2,F2,W2⟩:=E.loop _ _ _ _ _ _ I' h (2*wa M p) W;exact⟨I2,F.trans F2,W2⟩
 ·intro L d a p v p' I h k hk;simp only[zqb]at h;split at h
  ·cases h;exact⟨I,Fw.refl _,hk⟩
  ·rename_i hne;obtain⟨s,hs⟩:=opF_pos hne;have:=zEc M p;split at h
   ·cases h
   ·rename_i q hq;obtain⟨I',F,W⟩:=E.expr _ _ _ _ _ (I.adv _ hs) hq;obtain⟨I2,F2,W2⟩:=E.loop _ _ _ _ _ _ I' h k (by simp only[wtE,wtEs,yn];omega);exact⟨I2,((zU p).trans F).trans F2,W2⟩
 ·intro d p v p' I h;simp only[argsF]at h;split at h
  ·rename_i hc;cases h;have:=zEc M p;exact⟨I.adv _ hc,zU p,by simp only[wtEs];omega⟩
  ·split at h
   ·cases h
   ·rename_i q hq;cases h;obtain⟨I',F,W⟩:=E.al _ _ _ _ _ _ I hq (2*wa M p) (by simp[wtEs]);have:=zCc (M:=M) (zq T [41] q.2);exact⟨I'.must _,F.trans (zq _ _ _),by omega⟩
 ·intro d l f p v p' I h k hk;simp only[zza]at h;have fin:∀q:PS,Inv1 T q->Fw p q->wtEs l+k+(if f then 0 else M+1)<=2*wa M q+(if f then 0 else M+1)->(f=false->wtEs l+k<=2*wa M q)->(if zfb q then some (l,q)else match zLc T n 1 d q with|none=>none|some x=>zza T n d (l++[x.1]) false x.2)=some (v,p')->Inv1 T p'/\Fw p p'/\wtEs v+k<=2*wa M p'+2*M:=by
   intro q Iq Fq hq hq2 h;have hq3:wtEs l+k<=2*wa M q:=by cases f<;>simp at hq<;>omega
   split at h
   ·cases h;exact⟨Iq,Fq,by omega⟩
   ·split at h
    ·cases h
    ·rename_i x hx;obtain⟨I',F,W⟩:=E.expr _ _ _ _ _ Iq hx;obtain⟨I2,F2,W2⟩:=E.al _ _ _ _ _ _ I' h k (by rw[wtEs_append];simp[wtEs];omega);exact⟨I2,(Fq.trans F).trans F2,W2⟩
  cases f
  ·cases c2:isF T [44] p
   ·rw[c2]at h;simp at h hk;obtain⟨rfl,rfl⟩:=h;exact⟨I,Fw.refl _,by omega⟩
   ·have:=zEc M p;rw[c2]at h;simp at hk;exact fin (adv p) (I.adv _ c2) (zU p) (by simp;omega) (fun _=>by omega) h
  ·simp at hk;exact fin p I (Fw.refl _) (by simp;omega) (fun h=>by cases h) h
theorem light{T:List Tok}{M:Nat}(hS:Short T M):∀n,Light T M n
 |0=>⟨fun _ _ _ _ _ h=>by simp[zkd]at h,fun _ _ _ _ _ h=>by simp[unaryF]at h,fun _ _ _ _ _ _ h=>by simp[zLc]at h,fun _ _ _ _ _ _ _ h=>by simp[zqb]at h,fun _ _ _ _ _ h=>by simp[argsF]at h,fun _ _ _ _ _ _ _ h=>by simp[zza]at h⟩
 |n+1=>light_of hS (light hS n)
section
variable {T:List Tok} {M:Nat}
theorem light1(hS:Short T M){n:Nat}{p p':PS}{v:Expr}(I:Inv1 T p)(h:zLc T n 1 1 p=some (v,p')):Inv1 T p'/\Fw p p'/\wtE v+2*wa M p<=2*wa M p'+M:=(light hS n).expr _ _ _ _ _ I h
theorem lightI(hS:Short T M){n:Nat}{p p':PS}{v:Expr}(I:Inv1 T p)(h:zhf T n p=some (v,p')):Inv1 T p'/\Fw p p'/\wtE v+2*wa M p<=2*wa M p'+M:=by
 unfold zhf at h;split at h
 ·cases h
 ·rename_i q hq;cases h;obtain⟨I',F,W⟩:=light1 hS (I.must _) hq;have:=zCc (M:=M) (zq T [40] p);have:=zCc (M:=M) (zq T [41] q.2);exact⟨I'.must _,((zq _ _ _).trans F).trans (zq _ _ _),by omega⟩
theorem lightN(hS:Short T M){n:Nat}{p p':PS}{v:Stmt}(I:Inv1 T p)(h:namedF T n p=some (v,p')):Inv1 T p'/\Fw p p'/\wtS v+2*wa M p<=2*wa M p'+3*M:=by
 unfold namedF at h;have h8:=hS.1;have I1:=I.text 1 (by decide);have F1:=zcd T 1 p;have w1:=zCc (M:=M) F1;have hs:=short_text (k:=1) I hS;split at h
 ·rename_i hc;split at h
  ·cases h
  ·rename_i q hq;cases h;obtain⟨I',F,W⟩:=(light hS n).args _ _ _ _ (I1.adv _ hc) hq;have:=zEc M (zka T 1 p).2;exact⟨I',(F1.trans (zU _)).trans F,by simp only[wtS,wtE,wtEs,wtSs,yn];omega⟩
 split at h
 ·rename_i hc;split at h
  ·cases h
  ·rename_i q hq;obtain⟨I',F,W⟩:=light1 hS (I1.adv _ hc) hq;have:=zEc M (zka T 1 p).2;have F2:=(zq T [93] q.2).trans (zq T [61] _);have:=zCc (M:=M) F2;split at h
   ·cases h
   ·rename_i r hr;cases h;obtain⟨I2,F3,W2⟩:=light1 hS ((I'.must [93]).must [61]) hr;exact⟨I2,(((F1.trans (zU _)).trans F).trans F2).trans F3,by simp only[wtS,wtE,wtEs,wtSs,yn];omega⟩
 ·split at h
  ·cases h
  ·rename_i q hq;cases h;obtain⟨I',F,W⟩:=light1 hS (I1.must _) hq;have:=zCc (M:=M) (zq T [61] (zka T 1 p).2);exact⟨I',(F1.trans (zq _ _ _)).trans F,by simp only[wtS,wtE,wtEs,wtSs,yn];omega⟩
end
def ovM(M:Nat)(p:PS):Nat:=if zfb p then 8*M else 0
theorem ovM_le(M:Nat)(p:PS):ovM M p<=8*M:=by unfold ovM;split<;>omega
theorem ovM_fw{M:Nat}{p q:PS}(h:Fw p q):ovM M p<=ovM M q:=by
 unfold ovM;cases ho:zfb p
 ·simp
 ·rw[h.2 ho];exact yd _
theorem go_wa{M:Nat}{p q:PS}(h:Go1 p q):wa M p+M<=wa M q\/ovM M q=8*M:=by
 rcases h with h|h
 ·left;unfold wa;have:=yIa M h;rw[Nat.mul_succ]at this;exact this
 ·right;unfold ovM;rw[if_pos h]
theorem named_go{T:List Tok}{M n:Nat}{p p':PS}{v:Stmt}(hS:Short T M)(I:Inv1 T p)(h:namedF T n p=some (v,p')):Go1 p p':=by
 unfold namedF at h;have I1:=I.text 1 (by decide);have F1:=zcd T 1 p;have G1:=text_go (T:=T) (k:=1) (p:=p);split at h
 ·rename_i hc;split at h
  ·cases h
  ·rename_i q hq;cases h;obtain⟨I',F,W⟩:=(light hS n).args _ _ _ _ (I1.adv _ hc) hq;exact G1.fw ((zU _).trans F)
 split at h
 ·rename_i hc;split at h
  ·cases h
  ·rename_i q hq;obtain⟨I',F,W⟩:=light1 hS (I1.adv _ hc) hq;have F2:=(zq T [93] q.2).trans (zq T [61] _);split at h
   ·cases h
   ·rename_i r hr;cases h;obtain⟨I2,F3,W2⟩:=light1 hS ((I'.must [93]).must [61]) hr;exact G1.fw ((((zU _).trans F).trans F2).trans F3)
 ·split at h
  ·cases h
  ·rename_i q hq;cases h;obtain⟨I',F,W⟩:=light1 hS (I1.must _) hq;exact G1.fw ((zq _ _ _).trans F)
structure LightS(T:List Tok)(M n:Nat):Prop where
 stmt:∀d p v p',Inv1 T p->stmtF T n d p=some (v,p')->Inv1 T p'/\Fw p p'/\wtS v+1+8*wa M p<=8*wa M p'+ovM M p'
 block:∀d l p v p',Inv1 T p->zdc T n d l p=some (v,p')->∀k:Nat,wtSs l+k<=8*wa M p+ovM M p->Inv1 T p'/\Fw p p'/\wtSs v+k<=8*wa M p'+ovM M p'
theorem lightS_of{T:List Tok}{M n:Nat}(hS:Short T M)(E:LightS T M n):LightS T M (n+1):=by
 have h8:=hS.1;refine⟨?_,?_⟩
 ·intro d p v p' I0 h;simp only[stmtF]at h;have I:=I0.deepS d;have F0:=fw_deepS d p;have w0:wa M (deepS d p)=wa M p:=by unfold wa deepS;split<;>rfl
  generalize deepS d p=q at*;have fin:∀r:PS,Fw q r->Go1 q r->∀W:Nat,W+2*wa M q<=2*wa M r+4*M->Fw p r/\W+1+8*wa M p<=8*wa M r+ovM M r:=by
   intro r F G W hW;refine⟨F0.trans F,?_⟩;have:=zCc (M:=M) F;rcases go_wa (M:=M) G with g|g<;>omega
  split at h
  ·have G1:=typed_go (T:=T) (p:=q);have Ft:=(fw_typed T q).trans (zcd T 1 _);have F1:=Ft.trans (zq T [61] _);have hs:=short_text (k:=1) I.typed hS;split at h
   ·cases h
   ·rename_i x hx;cases h;obtain⟨I',F,W⟩:=light1 hS ((I.typed.text 1 (by decide)).must [61]) hx;have F2:=zq T [59] x.2;have:=zCc (M:=M) F1;have:=zCc (M:=M) F2;have:=fin _ ((F1.trans F).trans F2) (G1.fw ((((zcd T 1 _).trans (zq T [61] _)).trans F).trans F2)) (wtS ⟨1,(zma T q).1,(zka T 1 (zma T q).2).1,[x.1],[],[]⟩) (by simp only[wtS,wtEs,wtSs];omega);exact⟨I'.must _,this.1,this.2⟩
  split at h
  ·rename_i hc;have wadv:=zEc M q;split at h
   ·cases h
   ·rename_i x hx;obtain⟨I',F,W⟩:=lightI hS (I.adv _ hc) hx;have F2:=zq T [123] x.2;have w2:=zCc (M:=M) F2;have w1:=zCc (M:=M) F;split at h
    ·cases h
    ·rename_i y hy;obtain⟨I2,F3,W3⟩:=E.block _ _ _ _ _ (I'.must [123]) hy (8*wa M (zMa T [123] x.2)+ovM M (zMa T [123] x.2)) (by simp[wtSs]);split at h
     ·rename_i hc2;split at h
      ·cases h
      ·rename_i z hz;cases h;have F4:=(zU y.2).trans (zq T [123] _);have w4:=zCc (M:=M) F4;have o4:=ovM_fw (M:=M) F4;obtain⟨I3,F5,W5⟩:=E.block _ _ _ _ _ ((I2.adv _ hc2).must [123]) hz (8*wa M (zMa T [123] (adv y.2))+ovM M (zMa T [123] (adv y.2))) (by simp[wtSs]);have w5:=zCc (M:=M) F5;have w3:=zCc (M:=M) F3;exact⟨I3,F0.trans ((((((zU q).trans F).trans F2).trans F3).trans F4).trans F5),by simp only[wtS,wtEs,yn];omega⟩
     ·cases h;have w3:=zCc (M:=M) F3;exact⟨I2,F0.trans ((((zU q).trans F).trans F2).trans F3),by simp only[wtS,wtEs,wtSs,yn];omega⟩
  split at h
  ·rename_i hc;have wadv:=zEc M q;split at h
   ·cases h
   ·rename_i x hx;obtain⟨I',F,W⟩:=lightI hS (I.adv _ hc) hx;have F2:=zq T [123] x.2;have w2:=zCc (M:=M) F2;have w1:=zCc (M:=M) F;split at h
    ·cases h
    ·rename_i y hy;obtain⟨I2,F3,W3⟩:=E.block _ _ _ _ _ (I'.must [123]) hy (8*wa M (zMa T [123] x.2)+ovM M (zMa T [123] x.2)) (by simp[wtSs]);cases h;have w3:=zCc (M:=M) F3;exact⟨I2,F0.trans ((((zU q).trans F).trans F2).trans F3),by simp only[wtS,wtEs,wtSs,yn];omega⟩
  split at h
  ·rename_i hc;cases h;have wadv:=zEc M q;have F2:=zq T [59] (adv q);have:=zCc (M:=M) F2;have:=fin _ ((zU q).trans F2) ((adv_go q).fw F2) (wtS ⟨6,0,[],[],[],[]⟩) (by simp only[wtS,wtEs,wtSs,yn];omega);exact⟨(I.adv _ hc).must _,this.1,this.2⟩
  split at h
  ·rename_i hc;cases h;have wadv:=zEc M q;have F2:=zq T [59] (adv q);have:=zCc (M:=M) F2;have:=fin _ ((zU q).trans F2) ((adv_go q).fw F2) (wtS ⟨7,0,[],[],[],[]⟩) (by simp only[wtS,wtEs,wtSs,yn];omega);exact⟨(I.adv _ hc).must _,this.1,this.2⟩
  split at h
  ·rename_i hc;have wadv:=zEc M q;split at h
   ·cases h
   ·rename_i x hx;cases h;obtain⟨I',F,W⟩:=light1 hS (I.adv _ hc) hx;have F2:=zq T [59] x.2;have:=zCc (M:=M) F2;have:=fin _ (((zU q).trans F).trans F2) ((adv_go q).fw (F.trans F2)) (wtS ⟨8,0,[],[x.1],[],[]⟩) (by simp only[wtS,wtEs,wtSs,yn];omega);exact⟨I'.must _,this.1,this.2⟩
  split at h
  ·rename_i hc;have wadv:=zEc M q;split at h
   ·cases h
   ·rename_i x hx;cases h;obtain⟨I',F,W⟩:=lightI hS (I.adv _ hc) hx;have F2:=zq T [59] x.2;have:=zCc (M:=M) F2;have:=fin _ (((zU q).trans F).trans F2) ((adv_go q).fw (F.trans F2)) (wtS ⟨9,0,[],[x.1],[],[]⟩) (by simp only[wtS,wtEs,wtSs,yn];omega);exact⟨I'.must _,this.1,this.2⟩
  ·split at h
   ·cases h
   ·rename_i x hx;cases h;obtain⟨I',F,W⟩:=lightN hS I hx;have G:=named_go hS I hx;have F2:=zq T [59] x.2;have:=zCc (M:=M) F2;have:=fin _ (F.trans F2) (G.fw F2) (wtS x.1) (by omega);exact⟨I'.must _,this.1,this.2⟩
 ·intro d l p v p' I h k hk;simp only[zdc]at h;split at h
  ·cases h;exact⟨I,Fw.refl _,hk⟩
  rename_i hno;have ho0:ovM M p=0:=by unfold ovM;rw[if_neg hno]
  split at h
  ·rename_i hc;cases h;have:=zEc M p;exact⟨I.adv _ hc,zU p,by omega⟩
  ·split at h
   ·cases h
   ·rename_i x hx;obtain⟨I',F,W⟩:=E.stmt _ _ _ _ I hx;obtain⟨I2,F2,W2⟩:=E.block _ _ _ _ _ I' h k (by rw[zJd];simp only[wtSs];omega);exact⟨I2,F.trans F2,W2⟩
theorem lightS{T:List Tok}{M:Nat}(hS:Short T M):∀n,LightS T M n
 |0=>⟨fun _ _ _ _ _ h=>by simp[stmtF]at h,fun _ _ _ _ _ _ h=>by simp[zdc]at h⟩
 |n+1=>lightS_of hS (lightS hS n)
theorem tokGo_short(N:Nat):∀n (q:List UInt8) line acc,q.length<=N->(∀t∈acc,t.text.length<=N)->∀t∈(zEb n q line acc).1,t.text.length<=N:=by
 intro n
 induction n with
 |zero=>intro q line acc hs ha;exact ha
 |succ n ih=>
  intro q line acc hs ha;cases q with
  |nil=>
   simp only[zEb];intro t ht;rcases yx.1 ht with h|h
   ·exact ha t h
   ·rw[yL.1 h];simp
  |cons b r=>
   simp only[yj]at hs;simp only[zEb];split
   ·exact ih _ _ _ (by omega) ha
   split
   ·exact ih _ _ _ (by omega) ha
   split
   ·refine ih _ _ _ ?_ ha;rw[zed,yra];simp only[yj];omega
   split
   ·split
    ·intro t ht;cases ht
    ·have hw2:=(yQa (l:=b::r) (p:=zF)).length_le;simp only[yj]at hw2;refine ih _ _ _ (by rw[yra];simp only[yj];omega) ?_;intro t ht;rcases yx.1 ht with h|h
     ·exact ha t h
     ·rw[yL.1 h];simp only;omega
   split
   ·intro t ht;cases ht
   ·have hp2:=sign_len (b::r);simp only[yj]at hp2;refine ih _ _ _ (by rw[yra];simp only[yj];omega) ?_;intro t ht;rcases yx.1 ht with h|h
    ·exact ha t h
    ·rw[yL.1 h];simp only;omega
theorem tokens_short(s:List UInt8):Short (zO s).1 100008:=by
 refine⟨by decide,?_⟩;unfold zO;split
 ·intro t ht;cases ht
 ·rename_i h;intro t ht;have:=tokGo_short 100000 _ _ _ _ (by omega) (by simp) t ht;omega
theorem tokens_count(s:List UInt8)(h:(zO s).2.1=0):(zO s).1.length<=100001:=by
 unfold zO at h ⊢;split at h
 ·exact absurd h (by decide)
 rename_i hs;rw[if_neg hs];obtain⟨x1,x2,x3,x4⟩:=tokGo_ok (s.length+1) s 1 [] (by omega) (by omega) (by simp) h;simp at x2;omega
section
variable {T:List Tok} {M:Nat} (hS:Short T M)
theorem block_wt{n:Nat}{d:Int}{p p':PS}{v:List Stmt}(hS:Short T M)(I:Inv1 T p)(h:zdc T n d [] p=some (v,p')):wtSs v<=8*(M*T.length)+8*M:=by
 obtain⟨I',F,W⟩:=(lightS hS n).block _ _ _ _ _ I h (8*wa M p+ovM M p) (by simp[wtSs]);have:=ovM_le M p';have h2:wa M p'<=M*T.length:=yIa _ (Nat.le_of_lt I'.lt);omega
theorem params_len:∀n l (f:Bool) p v p',zCb T n l f p=some (v,p')->v.length<=l.length+n:=by
 intro n
 induction n with
 |zero=>intro l f p v p' h;simp[zCb]at h
 |succ n ih=>
  intro l f p v p' h;simp only[zCb]at h;by_cases hc:(f||isF T [44] p)=true
  ·rw[if_pos hc]at h;generalize(if f=true then p else adv p)=q at h;split at h
   ·cases h;omega
   ·have:=ih _ _ _ _ _ h;simp only[yi,yj,yn]at this;omega
  ·rw[if_neg hc]at h;cases h;omega
theorem function_wt{n:Nat}{t:Int}{s:List UInt8}{p p':PS}{v:Func}(hS:Short T M)(I:Inv1 T p)(h:zWd T n t s p=some (v,p')):wtSs v.body<=8*(M*T.length)+8*M/\v.params.length<=n:=by
 unfold zWd at h;have I1:=I.must [40];split at h
 ·rename_i hc;split at h
  ·cases h
  ·rename_i q hq;cases h;exact⟨block_wt hS ((I1.adv _ hc).must _) hq,by simp⟩
 ·split at h
  ·cases h
  ·rename_i r hr;have Ir:=paramsF_inv _ _ _ _ _ _ hr I1;have hl:=params_len _ _ _ _ _ _ hr;split at h
   ·cases h
   ·rename_i q hq;cases h;exact⟨block_wt hS ((Ir.must _).must _) hq,by simpa using hl⟩
theorem prog_wt(hS:Short T M):∀n ars fs p v p',n<=999999980->Inv1 T p->progF T n ars fs p=some (v,p')->∀B:Nat,n<=B→
  (∀f∈fs,wtSs f.body<=8*(M*T.length)+8*M/\f.params.length<=B)→
  v.arrays.length<=ars.length+n/\v.funcs.length<=fs.length+n/\∀f∈v.funcs,wtSs f.body<=8*(M*T.length)+8*M/\f.params.length<=B:=by
 intro n
 induction n with
 |zero=>intro ars fs p v p' _ I h;simp[progF]at h
 |succ n ih=>
  intro ars fs p v p' hn I h B hB hf;simp only[progF]at h;have I2:=I.typed.text 1 (by decide);split at h
  ·cases h;exact⟨Nat.le_add_right _ _,Nat.le_add_right _ _,hf⟩
  split at h
  ·cases h;exact⟨Nat.le_add_right _ _,Nat.le_add_right _ _,hf⟩
  split at h
  ·rename_i hc;have I3:=(((I2.adv _ hc.2.2).text 0 (by decide)).must [93]).must [59];obtain⟨a1,a2,a3⟩:=ih _ _ _ _ _ (by omega) I3 h B (by omega) hf;simp only[yi,yj,yn]at a1;exact⟨by omega,by omega,a3⟩
  ·split at h
   ·cases h
   ·rename_i q hq;have I3:=(zif hq I2 (by omega)).2;have hw:=function_wt hS I2 hq;obtain⟨a1,a2,a3⟩:=ih _ _ _ _ _ (by omega) I3 h B (by omega) (by
     intro f hff;rcases yx.1 hff with h'|h'
     ·exact hf f h'
     ·rw[yL.1 h'];exact⟨hw.1,by omega⟩)
    simp only[yi,yj,yn]at a2;exact⟨by omega,by omega,a3⟩
end
theorem parse_sz(s:List UInt8)(h0:(zO s).2.1=0){v:Prog}{p':PS}(h:progF (zO s).1 (fuel (zO s).1) [] [] ⟨0,false,false⟩=some (v,p')):PSz v:=by
 have I:=tokens_inv s h0;have hc:=tokens_count s h0;have hS:=tokens_short s;have hf:fuel (zO s).1<=6400164:=by unfold fuel;omega
 obtain⟨a1,a2,a3⟩:=prog_wt hS _ _ _ _ _ _ (by omega) I h (fuel (zO s).1) (yd _) (by simp);simp only[yn]at a1 a2;have hm:100008*(zO s).1.length<=100008*100001:=yIa _ hc;refine⟨by omega,by omega,fun f hff=>?_⟩;obtain⟨b1,b2⟩:=a3 f hff;exact⟨by omega,by omega⟩
theorem parse_run(s:List UInt8)(h0:(zO s).2.1=0):∃v p',progF (zO s).1 (fuel (zO s).1) [] [] ⟨0,false,false⟩=some (v,p')/\Inv1 (zO s).1 p'/\PSz v:=by
 have I:=tokens_inv s h0;obtain⟨v,p',e,I'⟩:=prog_enough (fuel (zO s).1) [] [] _ I (yTa (by unfold fuel left;omega));exact⟨v,p',e,I',parse_sz s h0 e⟩
def zmf(r:Prog×Int×Int):PV:= .tup [zf r.1,.int .i64 r.2.1,.int .i64 r.2.2]
set_option maxHeartbeats 4000000 in
theorem parse_spec(s:List UInt8):zi E 14 [.str s] []=some (.ret (zmf (zmc s)),[]):=by
 refine zd rfl rfl rfl (by simp) ?_;have ht:=tokens_spec s;by_cases h0:(zO s).2.1=0
 ·obtain⟨v,p',e,I',hz⟩:=parse_run s h0;have I:=tokens_inv s h0;have hf:fuel (zO s).1<=6400164:=by have:=tokens_count s h0;unfold fuel;omega
  have hp:=(prog_spec e I (by omega)).1;have hr:=right_spec v hz;have hm:zmc s=if p'.deep then(⟨[],[]⟩,2,(tk (zO s).1 p'.at').line)else if p'.bad then(⟨[],[]⟩,20,(tk (zO s).1 p'.at').line)else if zQb v then(v,0,0)else(⟨[],[]⟩,2,0):=by
   unfold zmc;rw[if_pos h0,e]
  have hg:=tk_get I'.lt;rw[hm];clear hm e hz I hf;generalize zO s=tt at*;obtain⟨T,e0,ln⟩:=tt;simp only at h0 hp hg ht I';subst h0;have hlt:=I'.lt;clear I';obtain⟨pa,pb,pd⟩:=p';obtain⟨ars,fs⟩:=v;simp[encTokR,toks,pob,zf,zia,funcs]at ht hp hr hg hlt;cases pd
  ·cases pb
   ·cases hR:zQb ⟨ars,fs⟩
    ·rw[hR]at hr;simp[*,F14,zmf,zf,zia,funcs]
    ·rw[hR]at hr;simp[*,F14,zmf,zf,zia,funcs]
   ·clear hr;simp[*,F14,zmf,zf,zia,funcs,zA];exact congrArg Tok.line (tk_get' hlt)
  ·clear hr;simp[*,F14,zmf,zf,zia,funcs,zA];exact congrArg Tok.line (tk_get' hlt)
 ·have hm:zmc s=(⟨[],[]⟩,(zO s).2.1,(zO s).2.2):=by unfold zmc;rw[if_neg h0]
  rw[hm];clear hm;generalize zO s=tt at*;obtain⟨T,e0,ln⟩:=tt;simp only at h0 ht;simp[encTokR,toks]at ht;replace h0:=eqn h0;simp[*,F14,zmf,zf,zia,funcs]
theorem parse_psz(s:List UInt8):PSz (zmc s).1:=by
 have h0:PSz ⟨[],[]⟩:=⟨by simp,by simp,by simp⟩
 unfold zmc;split
 ·rename_i h;obtain⟨v,p',e,I',hz⟩:=parse_run s h;rw[e];simp only;split
  ·exact h0
  split
  ·exact h0
  split
  ·exact hz
  ·exact h0
 ·exact h0
theorem zaa(b:Bool)(σ:zc):zi E 178 [.bool b] σ=some (.ret (.int .i64 (if b then 1 else 0)),σ):=by
 refine zd rfl rfl rfl rfl ?_;cases b<;>simp[F178]
noncomputable def one(op a:Int):Int:=
 if op=20 then W (0-a)else if op=21 then xor64 (-1) a else if op=22 then(if a=0 then 1 else 0)
 else if op=23 then W (zC .i8 a)else if op=24 then W (zC .i16 a)else if op=25 then W (zC .i32 a)
 else if op=26 then W (zC .u8 a)else if op=27 then W (zC .u16 a)else if op=28 then W (zC .u32 a)else 0
def cmp(op a b:Int):Bool×Bool:=
 if op=12 then(decide (a<b),true)else if op=13 then(decide (a<=b),true)else if op=14 then(decide (b<a),true)
 else if op=15 then(decide (b<=a),true)else if op=16 then(decide (a=b),true)else if op=17 then(!decide (a=b),true)else(false,false)
noncomputable def two(op a b:Int):Int×Bool:=
 if(cmp op a b).2=true then(if(cmp op a b).1=true then 1 else 0,true)
 else if op=1 then(W (a+b),true)else if op=2 then(W (a-b),true)else if op=3 then(W (a*b),true)
 else if op=6 then(zvf a b,true)else if op=7 then(or64 a b,true)else if op=8 then(xor64 a b,true)
 else if op=9 then(W (a*2^(min (zvf b 63).toNat 64)),true)else if op=10 then(shrK a (min (zvf b 63).toNat 64),true)
 else if op=11 then(W (shrK (zC .u64 a) (min (zvf b 63).toNat 64)),true)
 else if b=0 then(0,false)else if op=4 then(W (a.tdiv b),true)else if op=5 then(remK a b,true)else(0,false)
theorem wrap64(n:Int):W n=(yz 64 n).toInt:=by
 rw[BitVec.toInt_ofInt,W,zCa,IntKind.wrap_i64];unfold Int.bmod;simp only;split<;>omega
theorem zTe(z:BitVec 64):W (z.toNat:Int)=z.toInt:=by
 rw[wrap64];simp
theorem and64_eq(a b:Int):zvf a b=(yz 64 a&&&yz 64 b).toInt:=(andK_eq .i64 a b).trans ((zCa _ _).symm.trans (zTe (yz 64 a&&&yz 64 b)))
theorem or64_eq(a b:Int):or64 a b=(yz 64 a|||yz 64 b).toInt:=(orK_eq .i64 a b).trans ((zCa _ _).symm.trans (zTe (yz 64 a|||yz 64 b)))
theorem xor64_eq(a b:Int):xor64 a b=(yz 64 a^^^yz 64 b).toInt:=(xorK_eq .i64 a b).trans ((zCa _ _).symm.trans (zTe (yz 64 a^^^yz 64 b)))
theorem and_mask(a:Int)(m:Nat)(hm:m<63):zvf a (2^m-1)=a%2^m:=by
 rw[and64_eq];have e:(yz 64 (2^m-1)).toNat=2^m-1:=by
  have h1:(2:Nat)^m<2^63:=Nat.pow_lt_pow_right (by decide) hm;have h2:0<(2:Nat)^m:=Nat.pow_pos (by decide);have h3:((2:Int)^m-1)=(((2:Nat)^m-1:Nat):Int):=by
   rw[Int.natCast_sub h2];simp
  rw[h3,BitVec.ofInt_natCast,BitVec.toNat_ofNat];apply Nat.mod_eq_of_lt;omega
 have hN:(yz 64 a&&&yz 64 (2^m-1)).toNat=(yz 64 a).toNat%2^m:=by
  rw[BitVec.toNat_and,e,Nat.and_two_pow_sub_one_eq_mod]
 have hlt:(yz 64 a).toNat%2^m<2^63:=by
  have h1:(2:Nat)^m<2^63:=Nat.pow_lt_pow_right (by decide) hm;have:=Nat.mod_lt (yz 64 a).toNat (Nat.pow_pos (n:=m) (show 0<2 by decide));omega
 rw[BitVec.toInt_eq_toNat_cond,if_pos (by rw[hN];omega),hN,BitVec.toNat_ofInt,Int.natCast_emod,Int.toNat_of_nonneg (Int.emod_nonneg _ (by decide))];have:((2^m:Nat):Int)=(2:Int)^m:=by simp
 rw[this];apply Int.emod_emod_of_dvd;have hd:(2:Nat)^m∣2^64:=Nat.pow_dvd_pow 2 (by omega);have:=Int.natCast_dvd_natCast.2 hd;simpa using this
theorem and63(b:Int):0<=zvf b 63/\zvf b 63<64:=by
 have:=and_mask b 6 (by decide);simp at this;rw[this];omega
theorem zde(b:Int):¬zvf b 63<0:=by have:=(and63 b).1;omega
theorem rtwo_spec(op a b:Int)(σ:zc):zi E 158 [.int .i64 op,.int .i64 a,.int .i64 b] σ=some (.ret (.tup [.int .i64 (two op a b).1,.bool (two op a b).2]),σ):=by
 refine zd rfl rfl rfl rfl ?_;by_cases h1:op=1
 ·subst h1;simp[F158,two,cmp,zaa,zde,yja]
 by_cases h2:op=2
 ·subst h2;simp[F158,two,cmp,zaa,zde,yja]
 by_cases h3:op=3
 ·subst h3;simp[F158,two,cmp,zaa,zde,yja]
 by_cases h4:op=4
 ·subst h4;by_cases hb:b=0
  ·subst hb;simp[F158,two,cmp]
  ·simp[F158,two,cmp,hb]
 by_cases h5:op=5
 ·subst h5;by_cases hb:b=0
  ·subst hb;simp[F158,two,cmp]
  ·simp[F158,two,cmp,hb]
 by_cases h6:op=6
 ·subst h6;simp[F158,two,cmp,zaa,zde,yja]
 by_cases h7:op=7
 ·subst h7;simp[F158,two,cmp,zaa,zde,yja]
 by_cases h8:op=8
 ·subst h8;simp[F158,two,cmp,zaa,zde,yja]
 by_cases h9:op=9
 ·subst h9;simp[F158,two,cmp,zaa,zde,yja]
 by_cases h10:op=10
 ·subst h10;simp[F158,two,cmp,zaa,zde,yja]
 by_cases h11:op=11
 ·subst h11;simp[F158,two,cmp,zaa,zde,yja]
 by_cases h12:op=12
 ·subst h12;simp[F158,two,cmp,zaa,zde,yja]
 by_cases h13:op=13
 ·subst h13;simp[F158,two,cmp,zaa,zde,yja]
 by_cases h14:op=14
 ·subst h14;simp[F158,two,cmp,zaa,zde,yja]
 by_cases h15:op=15
 ·subst h15;simp[F158,two,cmp,zaa,zde,yja]
 by_cases h16:op=16
 ·subst h16;simp[F158,two,cmp,zaa,zde,yja]
 by_cases h17:op=17
 ·subst h17;simp[F158,two,cmp,zaa,zde,yja]
 simp[F158,two,cmp,h1,h2,h3,h4,h5,h6,h7,h8,h9,h10,h11,h12,h13,h14,h15,h16,h17]
noncomputable def rone(op a:Int):Int:=
 if op=20 then W (0-a)else if op=21 then W (-1-a)else if op=22 then(if a=0 then 1 else 0)
 else if op=26 then zvf a 255 else if op=27 then zvf a 65535 else if op=28 then zvf a 4294967295
 else if op=23 then W (xor64 (zvf a 255) 128-128)else if op=24 then W (xor64 (zvf a 65535) 32768-32768)else if op=25 then W (xor64 (zvf a 4294967295) 2147483648-2147483648)else 0
theorem rone_spec(op a:Int)(σ:zc):zi E 157 [.int .i64 op,.int .i64 a] σ=some (.ret (.int .i64 (rone op a)),σ):=by
 refine zd rfl rfl rfl rfl ?_;by_cases h20:op=20
 ·subst h20;simp[F157,rone,zaa]
 by_cases h21:op=21
 ·subst h21;simp[F157,rone,zaa]
 by_cases h22:op=22
 ·subst h22;simp[F157,rone,zaa]
 by_cases h23:op=23
 ·subst h23;simp[F157,rone,zaa]
 by_cases h24:op=24
 ·subst h24;simp[F157,rone,zaa]
 by_cases h25:op=25
 ·subst h25;simp[F157,rone,zaa]
 by_cases h26:op=26
 ·subst h26;simp[F157,rone,zaa]
 by_cases h27:op=27
 ·subst h27;simp[F157,rone,zaa]
 by_cases h28:op=28
 ·subst h28;simp[F157,rone,zaa]
 simp[F157,rone,h20,h21,h22,h23,h24,h25,h26,h27,h28]
theorem xor_pow(k x:Nat)(h:x<2^(k+1)):x^^^2^k=if x<2^k then x+2^k else x-2^k:=by
 have key:∀y,y<2^k->y^^^2^k=y+2^k:=by
  intro y hy;have e:2^k+y=2^k|||y:=by
   have:=Nat.two_pow_add_eq_or_of_lt hy 1;simpa using this
  rw[Nat.add_comm,e];apply Nat.eq_of_testBit_eq;intro i;rw[Nat.testBit_xor,Nat.testBit_or,Nat.testBit_two_pow];by_cases hi:k=i
  ·subst hi;simp[Nat.testBit_lt_two_pow hy]
  ·simp[hi]
 split
 ·rename_i hx;exact key x hx
 ·rename_i hx;have hp:(2:Nat)^(k+1)=2*2^k:=by rw[Nat.pow_succ];omega
  have hy:x-2^k<2^k:=by omega
  have:=key _ hy;have e:x=(x-2^k)^^^2^k:=by rw[this];omega
  calc x^^^2^k=((x-2^k)^^^2^k)^^^2^k:=by rw[<-e]
   _=x-2^k:=by rw[Nat.xor_assoc,Nat.xor_self,Nat.xor_zero]
theorem xor64_pow(k:Nat)(hk:k<62)(x:Int)(h0:0<=x)(h1:x<2^(k+1)):xor64 x (2^k)=if x<2^k then x+2^k else x-2^k:=by
 obtain⟨n,rfl⟩:∃n:Nat,x=n:=⟨x.toNat,by omega⟩
 have hp:((2:Int)^k)=((2^k:Nat):Int):=by simp
 have hp':((2:Int)^(k+1))=((2^(k+1):Nat):Int):=by simp
 rw[hp']at h1;have hn:n<2^(k+1):=by omega
 have hb:(2:Nat)^(k+1)<=2^62:=Nat.pow_le_pow_right (by decide) (by omega);have hb2:(2:Nat)^k<2^(k+1):=Nat.pow_lt_pow_right (by decide) (by omega);rw[xor64_eq,hp,BitVec.ofInt_natCast,BitVec.ofInt_natCast];have hx:=xor_pow k n hn;have hlt:n^^^2^k<2^62:=by rw[hx];split<;>omega
 have hN:(BitVec.ofNat 64 n^^^BitVec.ofNat 64 (2^k)).toNat=n^^^2^k:=by
  rw[BitVec.toNat_xor,BitVec.toNat_ofNat,BitVec.toNat_ofNat,Nat.mod_eq_of_lt (by omega),Nat.mod_eq_of_lt (by omega)]
 rw[BitVec.toInt_eq_toNat_cond,if_pos (by rw[hN];omega),hN,hx];by_cases hc:n<2^k
 ·rw[if_pos hc,if_pos (by omega)];omega
 ·rw[if_neg hc,if_neg (by omega)];omega
theorem W_id(n:Int)(h: -9223372036854775808<=n)(h':n<=9223372036854775807):W n=n:=by
 rw[W,zCa,IntKind.wrap_i64];omega
theorem wrapK_i8(n:Int):zC .i8 n=(n+128)%256-128:=by
 rw[zCa];simp[yEa,yja,IntKind.signed];split<;>omega
theorem wrapK_i16(n:Int):zC .i16 n=(n+32768)%65536-32768:=by
 rw[zCa];simp[yEa,yja,IntKind.signed];split<;>omega
theorem wrapK_i32(n:Int):zC .i32 n=(n+2147483648)%4294967296-2147483648:=by
 rw[zCa,IntKind.wrap_i32]
theorem wrapK_u8(n:Int):zC .u8 n=n%256:=by rw[zCa,IntKind.wrap_u8]
theorem wrapK_u16(n:Int):zC .u16 n=n%65536:=by
 rw[zCa];simp[yEa,yja,IntKind.signed]
theorem wrapK_u32(n:Int):zC .u32 n=n%4294967296:=by rw[zCa,IntKind.wrap_u32]
theorem and_255(a:Int):zvf a 255=a%256:=by have:=and_mask a 8 (by decide);simpa using this
theorem and_65535(a:Int):zvf a 65535=a%65536:=by have:=and_mask a 16 (by decide);simpa using this
theorem and_4294967295(a:Int):zvf a 4294967295=a%4294967296:=by have:=and_mask a 32 (by decide);simpa using this
theorem not64(a:Int):xor64 (-1) a=W (-1-a):=by
 rw[xor64_eq,wrap64];congr 1;have h1:yz 64 (-1)=BitVec.allOnes 64:=by decide
 rw[h1,BitVec.allOnes_xor];have h2:(-1-a)= -a-1:=by omega
 apply BitVec.eq_of_toInt_eq;rw[BitVec.toInt_not,BitVec.toInt_ofInt,BitVec.toNat_ofInt];have:0<=a%((2^64:Nat):Int):=Int.emod_nonneg _ (by decide);simp only[Int.bmod];omega
theorem rone_eq(op a:Int):rone op a=one op a:=by
 unfold rone one;by_cases h1:op=20
 ·subst h1;simp
 by_cases h2:op=21
 ·subst h2;simp[not64]
 by_cases h3:op=22
 ·subst h3;simp
 by_cases h4:op=26
 ·subst h4;simp only[and_255,wrapK_u8];simp;rw[W_id]<;>omega
 by_cases h5:op=27
 ·subst h5;simp only[and_65535,wrapK_u16];simp;rw[W_id]<;>omega
 by_cases h6:op=28
 ·subst h6;simp only[and_4294967295,wrapK_u32];simp;rw[W_id]<;>omega
 by_cases h7:op=23
 ·subst h7;simp only[and_255,wrapK_i8];have:=xor64_pow 7 (by decide) (a%256) (by omega) (by omega);simp at this;simp[this];rw[W_id,W_id]<;>(try split)<;>omega
 by_cases h8:op=24
 ·subst h8;simp only[and_65535,wrapK_i16];have:=xor64_pow 15 (by decide) (a%65536) (by omega) (by omega);simp at this;simp[this];rw[W_id,W_id]<;>(try split)<;>omega
 by_cases h9:op=25
 ·subst h9;simp only[and_4294967295,wrapK_i32];have:=xor64_pow 31 (by decide) (a%4294967296) (by omega) (by omega);simp at this;simp[this];rw[W_id,W_id]<;>(try split)<;>omega
 simp[h1,h2,h3,h4,h5,h6,h7,h8,h9]
structure RS where
 inp:List Int
 arrs:List (List Int)
 out:List Int
 cost:Int
 fuel:Nat
inductive How where
 |on|brk|cont
 |ret (n:Int)
inductive Rt(α:Type) where
 |ok (a:α)
 |stop (k:Int)
abbrev Vs:=List (List UInt8×Int)
structure Ev where
 expr:Expr->Vs->RS->Rt Int×RS
 stmt:Stmt->Vs->RS->Rt (How×Vs)×RS
def getV(nm:List UInt8):Vs->Int
 | []=>0
 |x::r=>if x.1=nm then x.2 else getV nm r
def setV(nm:List UInt8)(n:Int):Vs->Vs
 | []=>[]
 |x::r=>if x.1=nm then(nm,n)::r else x::setV nm n r
def oneC(op a:Int):Int:=
 if op=20 then yEa .i64 (0-a)else if op=21 then yEa .i64 (-1-a)else if op=22 then(if a=0 then 1 else 0)
 else if op=23 then(a+128)%256-128 else if op=24 then(a+32768)%65536-32768 else if op=25 then(a+2147483648)%4294967296-2147483648
 else if op=26 then a%256 else if op=27 then a%65536 else if op=28 then a%4294967296 else 0
def and64C(a b:Int):Int:=(yz 64 a&&&yz 64 b).toInt
def or64C(a b:Int):Int:=(yz 64 a|||yz 64 b).toInt
def xor64C(a b:Int):Int:=(yz 64 a^^^yz 64 b).toInt
def twoC(op a b:Int):Int×Bool:=
 if(cmp op a b).2=true then(if(cmp op a b).1=true then 1 else 0,true)
 else if op=1 then(yEa .i64 (a+b),true)else if op=2 then(yEa .i64 (a-b),true)else if op=3 then(yEa .i64 (a*b),true)
 else if op=6 then(and64C a b,true)else if op=7 then(or64C a b,true)else if op=8 then(xor64C a b,true)
 else if op=9 then(yEa .i64 (a*2^(b%64).toNat),true)else if op=10 then(a.fdiv (2^(b%64).toNat),true)
 else if op=11 then(yEa .i64 ((a%18446744073709551616).fdiv (2^(b%64).toNat)),true)
 else if b=0 then(0,false)else if op=4 then(yEa .i64 (a.tdiv b),true)else if op=5 then(a.tmod b,true)else(0,false)
theorem one_eqC(op a:Int):one op a=oneC op a:=by
 unfold one oneC;by_cases h1:op=20
 ·subst h1;simp[W,zCa]
 by_cases h2:op=21
 ·subst h2;simp[not64,W,zCa]
 by_cases h3:op=22
 ·subst h3;simp
 by_cases h4:op=26
 ·subst h4;simp only[wrapK_u8];simp;rw[W_id]<;>omega
 by_cases h5:op=27
 ·subst h5;simp only[wrapK_u16];simp;rw[W_id]<;>omega
 by_cases h6:op=28
 ·subst h6;simp only[wrapK_u32];simp;rw[W_id]<;>omega
 by_cases h7:op=23
 ·subst h7;simp only[wrapK_i8];simp;rw[W_id]<;>omega
 by_cases h8:op=24
 ·subst h8;simp only[wrapK_i16];simp;rw[W_id]<;>omega
 by_cases h9:op=25
 ·subst h9;simp only[wrapK_i32];simp;rw[W_id]<;>omega
 simp[h1,h2,h3,h4,h5,h6,h7,h8,h9]
theorem two_eqC(op a b:Int):two op a b=twoC op a b:=by
 have h63:zvf b 63=b%64:=by have:=and_mask b 6 (by decide);simpa using this
 have hm:min (b%64).toNat 64=(b%64).toNat:=by omega
 unfold two twoC;rw[h63,hm];simp only[W,zCa,and64_eq,or64_eq,xor64_eq,remK_eq,shrK_eq,and64C,or64C,xor64C,IntKind.wrap_u64]
def zea(S:RS):RS:={S with cost:=yEa .i64 (S.cost+1)}
def cellAt(p:Prog)(S:RS)(nm:List UInt8)(n:Int):Option Int:=
 if n<0 then none else(S.arrs[(zYa p nm).toNat]?).bind fun l=>l[n.toNat]?
def putAt(p:Prog)(S:RS)(nm:List UInt8)(n m:Int):Option RS:=
 if n<0 then none else(S.arrs[(zYa p nm).toNat]?).bind fun l=>if n.toNat<l.length then some {S with arrs:=S.arrs.set (zYa p nm).toNat (l.set n.toNat m)}else none
section
variable (p:Prog) (ev:Ev)
def zCd(V:Vs):List Expr->List Int->RS->Rt (List Int)×RS
 | [],acc,S=>(.ok acc,S)
 |x::r,acc,S=>match ev.expr x V S with
  |(.ok n,S1)=>zCd V r (acc++[n]) S1
  |(.stop k,S1)=>(.stop k,S1)
def zXa:List Stmt->Vs->RS->Rt (How×Vs)×RS
 | [],V,S=>(.ok (.on,V),S)
 |s::r,V,S=>match ev.stmt s V S with
  |(.ok (.on,V1),S1)=>zXa r V1 S1
  |(.ok (h,V1),S1)=>(.ok (h,V1),S1)
  |(.stop k,S1)=>(.stop k,S1)
def zsa(l:List Stmt)(V:Vs)(S:RS):Rt (How×Vs)×RS:=match zXa ev l V S with
 |(.ok (h,V1),S1)=>(.ok (h,V1.drop (V1.length-V.length)),S1)
 |(.stop k,S1)=>(.stop k,S1)
def zMc(ps:List Par)(l:List Int):Vs:=((ps.map (·.name)).zip l).reverse
def callW(f:Func)(l:List Int)(S:RS):Rt Int×RS:=match zsa ev f.body (zMc f.params l) S with
 |(.ok (.ret n,_),S1)=>(.ok n,S1)
 |(.ok (_,_),S1)=>(.ok 0,S1)
 |(.stop k,S1)=>(.stop k,S1)
def madeW(e:Expr)(l:List Int)(S:RS):Rt Int×RS:=
 if e.kind=4 then(.ok (oneC e.op (at0 l)),S)
 else if e.kind=6 then(match cellAt p S e.name (at0 l)with
  |some n=>(.ok n,S)
  |none=>(.stop 3,S))
 else if e.kind=8 then(match S.inp with
  | []=>(.stop 4,S)
  |n::r=>(.ok n,{S with inp:=r}))
 else if e.kind=7 then(match zKa p e.name with
  |some f=>callW ev f l S
  |none=>(.ok 0,S))
 else if(twoC e.op (at0 l) (at1 l)).2 then(.ok (twoC e.op (at0 l) (at1 l)).1,S)else(.stop 2,S)
def shortW(e:Expr)(V:Vs)(S:RS):Rt Int×RS:=match ev.expr (arg0 e.args) V S with
 |(.stop j,S1)=>(.stop j,S1)
 |(.ok a,S1)=>if decide (a=0)=decide (e.op=18)then(.ok a,S1)else ev.expr (arg1 e.args) V S1
def exprW(e:Expr)(V:Vs)(S:RS):Rt Int×RS:=
 if e.kind=1\/e.kind=2 then(.ok e.n,S)
 else if e.kind=3 then(.ok (getV e.name V),S)
 else if e.kind=5/\(e.op=18\/e.op=19)then shortW ev e V S
 else match zCd ev V e.args [] S with
  |(.stop j,S1)=>(.stop j,S1)
  |(.ok l,S1)=>madeW p ev e l (zea S1)
def znd(c:Expr)(b:List Stmt):Nat->Vs->RS->Rt (How×Vs)×RS
 |0,V,S=>(.stop 0,S)
 |k+1,V,S=>match ev.expr c V S with
  |(.stop j,S1)=>(.stop j,S1)
  |(.ok n,S1)=>if n=0 then(.ok (.on,V),S1)else
   match zsa ev b V S1 with
   |(.ok (.brk,V1),S2)=>(.ok (.on,V1),S2)
   |(.ok (.ret m,V1),S2)=>(.ok (.ret m,V1),S2)
   |(.ok (_,V1),S2)=>znd c b k V1 S2
   |(.stop j,S2)=>(.stop j,S2)
def zmd(s:Stmt)(V:Vs)(n:Int)(S1:RS):Rt (How×Vs)×RS:=
 if s.kind=1 then(.ok (.on,(s.name,n)::V),S1)
 else if s.kind=2 then(.ok (.on,setV s.name n V),S1)
 else if s.kind=3 then(match ev.expr (arg1 s.args) V S1 with
  |(.stop j,S2)=>(.stop j,S2)
  |(.ok m,S2)=>match putAt p (zea S2) s.name n m with
   |some S3=>(.ok (.on,V),S3)
   |none=>(.stop 3,zea S2))
 else if s.kind=4 then zsa ev (if n=0 then s.els else s.thn) V S1
 else if s.kind=8 then(.ok (.ret n,V),S1)
 else if s.kind=9 then(.ok (.on,V),{zea S1 with out:=S1.out++[n]})
 else(.ok (.on,V),S1)
def stmtW(w:Nat)(s:Stmt)(V:Vs)(S:RS):Rt (How×Vs)×RS:=
 if s.kind=5 then znd ev (arg0 s.args) s.thn (w+1) V S
 else if s.kind=6 then(.ok (.brk,V),S)
 else if s.kind=7 then(.ok (.cont,V),S)
 else match ev.expr (arg0 s.args) V S with
  |(.stop j,S1)=>(.stop j,S1)
  |(.ok n,S1)=>zmd p ev s V n S1
end
def evF(p:Prog):Nat->Ev
 |0=>⟨fun _ _ S=>(.stop 0,S),fun _ _ S=>(.stop 0,S)⟩
 |w+1=>⟨fun e V S=>match S.fuel with
   |0=>(.stop 0,S)
   |k+1=>exprW p (evF p w) e V {S with fuel:=k},
  fun s V S=>match S.fuel with
   |0=>(.stop 0,S)
   |k+1=>stmtW p (evF p w) w s V {S with fuel:=k}⟩
structure Rn where
 status:Int
 code:Int
 out:List Int
 cost:Int
 fuel:Int
def run0(p:Prog)(inp:List Int)(fuel:Int):RS:=⟨inp,p.arrays.map (fun a=>yX a.size.toNat 0),[],0,fuel.toNat⟩
def runEnd:Rt Int×RS->Rn
 |(.ok n,S)=>⟨1,n,S.out,S.cost,S.fuel⟩
 |(.stop k,S)=>⟨k,0,S.out,S.cost,S.fuel⟩
def mainW(p:Prog)(S:RS):Rt Int×RS:=match zKa p zPc with
 |some f=>callW (evF p S.fuel) f [] S
 |none=>(.ok 0,S)
def evalM(p:Prog)(inp:List Int)(fuel:Int):Rn:=
 if(zQa p).1=0 then runEnd (mainW p (run0 p inp fuel))else⟨0,0,[],0,0⟩
structure Mono(S S1:RS):Prop where
 fuel:S1.fuel<=S.fuel
 out:S1.out.length+S1.fuel<=S.out.length+S.fuel
 arrs:S1.arrs.map yV=S.arrs.map yV
theorem Mono.refl(S:RS):Mono S S:=⟨yd _,yd _,rfl⟩
theorem Mono.trans{a b c:RS}(h:Mono a b)(k:Mono b c):Mono a c:=⟨yfa k.1 h.1,yfa k.2 h.2,k.3.trans h.3⟩
theorem Mono.cost{a b:RS}(h:Mono a b):Mono a (zea b):=⟨h.1,h.2,h.3⟩
def zu(V:Vs):List (List UInt8):=V.map (·.1)
theorem names_set(nm:List UInt8)(n:Int)(V:Vs):zu (setV nm n V)=zu V:=by
 induction V with
 |nil=>rfl
 |cons x r ih=>
  unfold setV;split
  ·rename_i h;simp[zu,h]
  ·simp only[zu,yp]at ih ⊢;rw[ih]
def zBc(s:Stmt):List (List UInt8):=if s.kind=1 then[s.name]else[]
structure EvOk(ev:Ev):Prop where
 expr:∀e V S,Mono S (ev.expr e V S).2/\∀n,(ev.expr e V S).1= .ok n->(ev.expr e V S).2.fuel<S.fuel
 stmt:∀s V S,Mono S (ev.stmt s V S).2/\∀h V1,(ev.stmt s V S).1= .ok (h,V1)->(ev.stmt s V S).2.fuel<S.fuel/\zu V1=zBc s++zu V
def RtV(S:RS)(N:List (List UInt8)->Prop)(x:Rt (How×Vs)×RS):Prop:=Mono S x.2/\∀h V1,x.1= .ok (h,V1)->N (zu V1)
theorem RtV.mono{S:RS}{N M:List (List UInt8)->Prop}{x:Rt (How×Vs)×RS}(h:RtV S N x)(k:∀l,N l->M l):RtV S M x:=⟨h.1,fun a b c=>k _ (h.2 a b c)⟩
theorem RtV.trans{S S1:RS}{N:List (List UInt8)->Prop}{x:Rt (How×Vs)×RS}(h:RtV S1 N x)(k:Mono S S1):RtV S N x:=⟨k.trans h.1,h.2⟩
section
variable {p:Prog} {ev:Ev} (E:EvOk ev)
include E
theorem argsW_mono(V:Vs):∀(l:List Expr) (acc:List Int) (S:RS),Mono S (zCd ev V l acc S).2/\∀m,(zCd ev V l acc S).1= .ok m->m.length=acc.length+l.length
 | [],acc,S=>⟨Mono.refl _,fun m h=>by cases h;rfl⟩
 |x::r,acc,S=>by
  have h:=(E.expr x V S).1;unfold zCd;generalize ev.expr x V S=q at*;obtain⟨a,S1⟩:=q;cases a with
  |ok n=>
   have:=argsW_mono V r (acc++[n]) S1;refine⟨h.trans this.1,fun m hm=>?_⟩;rw[this.2 m hm];simp;omega
  |stop k=>exact⟨h,fun m hm=>by cases hm⟩
theorem stmtsW_mono:∀(l:List Stmt) (V:Vs) (S:RS),RtV S (fun N=>∃a,N=a++zu V) (zXa ev l V S)
 | [],V,S=>⟨Mono.refl _,fun h V1 e=>by cases e;exact⟨[],rfl⟩⟩
 |x::r,V,S=>by
  obtain⟨h,h2⟩:=E.stmt x V S;unfold zXa;generalize ev.stmt x V S=q at*;obtain⟨a,S1⟩:=q;cases a with
  |ok y=>
   obtain⟨y,V1⟩:=y;obtain⟨_,n1⟩:=h2 y V1 rfl;have i:=stmtsW_mono r V1 S1;cases y with
   |on=>
    refine(i.trans h).mono ?_
    rintro N ⟨a,rfl⟩
    exact⟨a++zBc x,by rw[n1];simp⟩
   |brk=>exact⟨h,fun a b e=>by cases e;exact⟨_,n1⟩⟩
   |cont=>exact⟨h,fun a b e=>by cases e;exact⟨_,n1⟩⟩
   |ret n=>exact⟨h,fun a b e=>by cases e;exact⟨_,n1⟩⟩
  |stop k=>exact⟨h,fun a b e=>by cases e⟩
theorem drop_names{V V1:Vs}(h:∃a,zu V1=a++zu V):zu (V1.drop (V1.length-V.length))=zu V:=by
 obtain⟨a,h⟩:=h;have hl:V1.length=a.length+V.length:=by
  have:=congrArg yV h;simpa[zu]using this
 have:zu (V1.drop (V1.length-V.length))=(zu V1).drop (V1.length-V.length):=by simp[zu,List.map_drop]
 rw[this,h,hl];have:a.length+V.length-V.length=a.length:=by omega
 rw[this,List.drop_left]
theorem zgd(l:List Stmt)(V:Vs)(S:RS):RtV S (fun N=>N=zu V) (zsa ev l V S):=by
 have h:=stmtsW_mono E l V S;unfold zsa;generalize zXa ev l V S=q at*;obtain⟨a,S1⟩:=q;cases a with
 |ok y=>
  obtain⟨y,V1⟩:=y;exact⟨h.1,fun a b e=>by cases e;exact drop_names E (h.2 _ _ rfl)⟩
 |stop k=>exact⟨h.1,fun a b e=>by cases e⟩
theorem callW_mono(f:Func)(l:List Int)(S:RS):Mono S (callW ev f l S).2:=by
 have h:=(zgd E f.body (zMc f.params l) S).1;unfold callW;generalize zsa ev f.body (zMc f.params l) S=q at*;obtain⟨a,S1⟩:=q;cases a with
 |ok y=>obtain⟨y,V1⟩:=y;cases y<;>exact h
 |stop k=>exact h
theorem madeW_mono(e:Expr)(l:List Int)(S:RS):Mono S (madeW p ev e l S).2:=by
 unfold madeW;split
 ·exact Mono.refl _
 split
 ·split<;>exact Mono.refl _
 split
 ·split
  ·exact Mono.refl _
  ·exact⟨yd _,yd _,rfl⟩
 split
 ·split
  ·exact callW_mono E _ _ _
  ·exact Mono.refl _
 split<;>exact Mono.refl _
theorem shortW_mono(e:Expr)(V:Vs)(S:RS):Mono S (shortW ev e V S).2:=by
 have h:=(E.expr (arg0 e.args) V S).1;unfold shortW;generalize ev.expr (arg0 e.args) V S=q at*;obtain⟨a,S1⟩:=q;cases a with
 |ok n=>
  simp only;split
  ·exact h
  ·exact h.trans (E.expr _ V S1).1
 |stop k=>exact h
theorem exprW_mono(e:Expr)(V:Vs)(S:RS):Mono S (exprW p ev e V S).2:=by
 unfold exprW;split
 ·exact Mono.refl _
 split
 ·exact Mono.refl _
 split
 ·exact shortW_mono E e V S
 have h:=(argsW_mono E V e.args [] S).1;generalize zCd ev V e.args [] S=q at*;obtain⟨a,S1⟩:=q;cases a with
 |ok n=>exact h.cost.trans (madeW_mono E e n _)
 |stop k=>exact h
theorem loopW_mono(c:Expr)(b:List Stmt):∀(k:Nat) (V:Vs) (S:RS),RtV S (fun N=>N=zu V) (znd ev c b k V S)
 |0,V,S=>⟨Mono.refl _,fun _ _ e=>by cases e⟩
 |k+1,V,S=>by
  have h:=(E.expr c V S).1;unfold znd;generalize ev.expr c V S=q at*;obtain⟨a,S1⟩:=q;cases a with
  |stop j=>exact⟨h,fun _ _ e=>by cases e⟩
  |ok n=>
   simp only;split
   ·exact⟨h,fun _ _ e=>by cases e;rfl⟩
   have hb:=zgd E b V S1;generalize zsa ev b V S1=q at*;obtain⟨a,S2⟩:=q;cases a with
   |stop j=>exact⟨h.trans hb.1,fun _ _ e=>by cases e⟩
   |ok y=>
    obtain⟨y,V1⟩:=y;have hn:=hb.2 _ _ rfl;have i:=loopW_mono c b k V1 S2;cases y with
    |on=>exact(i.mono fun l hl=>hl.trans hn).trans (h.trans hb.1)
    |brk=>exact⟨h.trans hb.1,fun _ _ e=>by cases e;exact hn⟩
    |cont=>exact(i.mono fun l hl=>hl.trans hn).trans (h.trans hb.1)
    |ret m=>exact⟨h.trans hb.1,fun _ _ e=>by cases e;exact hn⟩
theorem putAt_mono{S S1:RS}{nm:List UInt8}{n m:Int}(h:putAt p S nm n m=some S1):Mono S S1:=by
 unfold putAt at h;split at h
 ·cases h
 rw[yia]at h;obtain⟨l,hl,h⟩:=h;split at h
 ·cases h;refine⟨yd _,yd _,?_⟩;simp only[List.map_set,ywa];apply yba;intro i;rw[ypa];split
  ·rename_i hi;subst hi;rw[yo,hl];have:=(ya.1 hl).1;simp[this]
  ·rfl
 ·cases h
theorem plainW_mono{B:Nat}(s:Stmt)(V:Vs)(n:Int)(S:RS)(hf:S.out.length+S.fuel<B):(zmd p ev s V n S).2.out.length+(zmd p ev s V n S).2.fuel<=B/\(zmd p ev s V n S).2.fuel<=S.fuel/\(zmd p ev s V n S).2.arrs.map yV=S.arrs.map yV/\∀h V1,(zmd p ev s V n S).1= .ok (h,V1)->zu V1=zBc s++zu V:=by
 have lift:∀{x:Rt (How×Vs)×RS},Mono S x.2->(∀h V1,x.1= .ok (h,V1)->zu V1=zBc s++zu V)->x.2.out.length+x.2.fuel<=B/\x.2.fuel<=S.fuel/\x.2.arrs.map yV=S.arrs.map yV/\∀h V1,x.1= .ok (h,V1)->zu V1=zBc s++zu V:=
  fun m k=>⟨by have:=m.out;omega,m.fuel,m.arrs,k⟩
 have h0:s.kind≠1->zBc s=[]:=fun h=>if_neg h
 unfold zmd;split
 ·rename_i h1;exact lift (Mono.refl _) fun _ _ e=>by cases e;simp[zBc,h1,zu]
 rename_i h1;rw[h0 h1];rw[h0 h1]at lift;split
 ·exact lift (Mono.refl _) fun _ _ e=>by cases e;exact names_set _ _ _
 split
 ·have h:=(E.expr (arg1 s.args) V S).1;generalize ev.expr (arg1 s.args) V S=q at*;obtain⟨a,S2⟩:=q;cases a with
  |stop j=>exact lift h fun _ _ e=>by cases e
  |ok m=>
   simp only;split
   ·rename_i S3 h3;exact lift (h.cost.trans (putAt_mono E h3)) fun _ _ e=>by cases e;rfl
   ·exact lift h.cost fun _ _ e=>by cases e
 split
 ·have h:=zgd E (if n=0 then s.els else s.thn) V S;exact lift h.1 h.2
 split
 ·exact lift (Mono.refl _) fun _ _ e=>by cases e;rfl
 split
 ·refine⟨?_,yd _,rfl,fun _ _ e=>by cases e;rfl⟩;simp[zea];omega
 ·exact lift (Mono.refl _) fun _ _ e=>by cases e;rfl
theorem stmtW_mono{B:Nat}(w:Nat)(s:Stmt)(V:Vs)(S:RS)(hf:S.out.length+S.fuel<B):(stmtW p ev w s V S).2.out.length+(stmtW p ev w s V S).2.fuel<=B/\(stmtW p ev w s V S).2.fuel<=S.fuel/\(stmtW p ev w s V S).2.arrs.map yV=S.arrs.map yV/\∀h V1,(stmtW p ev w s V S).1= .ok (h,V1)->zu V1=zBc s++zu V:=by
 have lift:∀{x:Rt (How×Vs)×RS},Mono S x.2->(∀h V1,x.1= .ok (h,V1)->zu V1=zBc s++zu V)->x.2.out.length+x.2.fuel<=B/\x.2.fuel<=S.fuel/\x.2.arrs.map yV=S.arrs.map yV/\∀h V1,x.1= .ok (h,V1)->zu V1=zBc s++zu V:=
  fun m k=>⟨by have:=m.out;omega,m.fuel,m.arrs,k⟩
 have h0:s.kind≠1->zBc s=[]:=fun h=>if_neg h
 unfold stmtW;split
 ·rename_i h5;have h:=loopW_mono E (arg0 s.args) s.thn (w+1) V S;rw[h0 (by omega)]at lift ⊢;exact lift h.1 h.2
 split
 ·rw[h0 (by omega)]at lift ⊢;exact lift (Mono.refl _) fun _ _ e=>by cases e;rfl
 split
 ·rw[h0 (by omega)]at lift ⊢;exact lift (Mono.refl _) fun _ _ e=>by cases e;rfl
 have h:=(E.expr (arg0 s.args) V S).1;generalize ev.expr (arg0 s.args) V S=q at*;obtain⟨a,S2⟩:=q;cases a with
 |stop j=>exact lift h fun _ _ e=>by cases e
 |ok n=>
  have k:=plainW_mono (p:=p) (B:=B) E s V n S2 (by have:=h.out;simp only at this;omega);exact⟨k.1,yfa k.2.1 h.fuel,k.2.2.1.trans h.arrs,k.2.2.2⟩
end
theorem zRe(p:Prog):∀w,EvOk (evF p w)
 |0=>⟨fun e V S=>⟨Mono.refl _,fun _ e=>by cases e⟩,fun s V S=>⟨Mono.refl _,fun _ _ e=>by cases e⟩⟩
 |w+1=>by
  have E:=zRe p w;refine⟨fun e V S=>?_,fun s V S=>?_⟩
  ·simp only[evF];cases h:S.fuel with
   |zero=>exact⟨by simp only;exact Mono.refl _,fun _ e=>by cases e⟩
   |succ k=>
    have m:=exprW_mono (p:=p) E e V {S with fuel:=k};refine⟨⟨by have:=m.fuel;simp only at this ⊢;omega,by have:=m.out;simp only at this ⊢;omega,m.arrs⟩,fun n e=>?_⟩;have:=m.fuel;simp only at this ⊢;omega
  ·simp only[evF];cases h:S.fuel with
   |zero=>exact⟨by simp only;exact Mono.refl _,fun _ _ e=>by cases e⟩
   |succ k=>
    have m:=stmtW_mono (p:=p) (B:=S.out.length+S.fuel) E w s V {S with fuel:=k} (by simp only;omega);refine⟨⟨by have:=m.2.1;simp only at this ⊢;omega,m.1,m.2.2.1⟩,fun h V1 e=>⟨by have:=m.2.1;simp only at this ⊢;omega,m.2.2.2 h V1 e⟩⟩
mutual
def okE(p:Prog)(ns:List (List UInt8)):Expr->Prop
 |⟨k,o,n,nm,a⟩=>zud k o n nm a.length=true/\(k=3->nm∈ns)/\(k=6->znb p nm=true)/\(k=7->∃f,zKa p nm=some f/\f.params.length=a.length)/\okEs p ns a
def okEs(p:Prog)(ns:List (List UInt8)):List Expr->Prop
 | []=>True
 |x::r=>okE p ns x/\okEs p ns r
end
mutual
def okS(p:Prog)(ns:List (List UInt8))(loop:Bool):Stmt->Prop
 |⟨k,_,nm,a,th,el⟩=>(1<=k/\k<=10)/\(a.length:Int)=(zN k).2.2.1/\okEs p ns a/\(k=2->nm∈ns)/\(k=3->znb p nm=true)/\(k=6\/k=7->loop=true)∧
  okB p ((if k=1 then[nm]else[])++ns) (loop||decide (k=5)) th/\okB p ((if k=1 then[nm]else[])++ns) loop el
def okB(p:Prog)(ns:List (List UInt8))(loop:Bool):List Stmt->Prop
 | []=>True
 |x::r=>okS p ns loop x/\okB p (zBc x++ns) loop r
end
theorem okE_eq(p:Prog)(ns:List (List UInt8))(e:Expr):okE p ns e=(zud e.kind e.op e.n e.name e.args.length=true/\(e.kind=3->e.name∈ns)/\(e.kind=6->znb p e.name=true)/\(e.kind=7->∃f,zKa p e.name=some f/\f.params.length=e.args.length)/\okEs p ns e.args):=by
 cases e;rw[okE]
theorem okS_eq(p:Prog)(ns:List (List UInt8))(loop:Bool)(s:Stmt):okS p ns loop s=((1<=s.kind/\s.kind<=10)/\(s.args.length:Int)=(zN s.kind).2.2.1/\okEs p ns s.args/\(s.kind=2->s.name∈ns)/\(s.kind=3->znb p s.name=true)/\(s.kind=6\/s.kind=7->loop=true)∧
  okB p (zBc s++ns) (loop||decide (s.kind=5)) s.thn/\okB p (zBc s++ns) loop s.els):=by
 cases s;rw[okS];rfl
theorem okEs_mem{p:Prog}{ns:List (List UInt8)}{l:List Expr}(h:okEs p ns l){x:Expr}(hx:x∈l):okE p ns x:=by
 induction l with
 |nil=>cases hx
 |cons y r ih=>
  rw[okEs]at h;rcases yw.1 hx with rfl|hx
  ·exact h.1
  ·exact ih h.2 hx
mutual
theorem okE_of(p:Prog)(s:List Vr):∀(e:Expr) (m:Int),(zLb p s e).2=0->zjb e m=true->okE p (zgb s) e
 |⟨k,o,n,nm,a⟩,m,h,hR=>by
  rw[zLb]at h;rw[zjb,yb]at hR;split at h
  ·rename_i h1;exact absurd h h1
  rename_i h1;split at h
  ·rename_i h2;exact absurd h h2
  rename_i h2;have h1:zwb p s k nm a.length=0:=by simpa using h1
  rw[okE];refine⟨hR.2,?_,?_,?_,okEs_of p s a m (by simpa using h2) hR.1⟩
  ·intro hk;subst hk;simp only[zwb,if_true]at h1;split at h1
   ·cases h1
   ·rename_i hf;exact vfindV_mem hf
  ·intro hk;subst hk;simp only[zwb]at h1;rw[if_neg (by decide),if_pos trivial]at h1;split at h1
   ·assumption
   ·cases h1
  ·intro hk;subst hk;simp only[zwb]at h1;rw[if_neg (by decide),if_neg (by decide),if_pos trivial]at h1;split at h1
   ·cases h1
   ·rename_i f hf;split at h1
    ·exact⟨f,hf,by assumption⟩
    ·cases h1
theorem okEs_of(p:Prog)(s:List Vr):∀(l:List Expr) (m:Int),(zWa p s l).2=0->zyb l m=true->okEs p (zgb s) l
 | [],m,_,_=>by rw[okEs];trivial
 |x::r,m,h,hR=>by
  rw[zWa]at h;rw[zyb,yb,yb]at hR;split at h
  ·rename_i h1;exact absurd h h1
  rename_i h1;split at h
  ·rename_i h2;exact absurd h h2
  rename_i h2;rw[okEs];exact⟨okE_of p s x (m-1) (by simpa using h1) hR.1.2,okEs_of p s r m (by simpa using h2) hR.2⟩
end
theorem want_ok{p:Prog}{s:List Vr}{e:Expr}{t m:Int}(h:ztc p s e t=0)(hR:zjb e m=true):okE p (zgb s) e:=by
 unfold ztc at h;split at h
 ·rename_i h1;exact absurd h h1
 ·rename_i h1;exact okE_of p s e m (by simpa using h1) hR
theorem arg_one{l:List Expr}{p:Prog}{ns:List (List UInt8)}(hl:(l.length:Int)=1)(h:okE p ns (arg0 l)):okEs p ns l:=by
 match l,hl with
 | [x],_=>rw[okEs,okEs];exact⟨h,trivial⟩
theorem arg_two{l:List Expr}{p:Prog}{ns:List (List UInt8)}(hl:(l.length:Int)=2)(h:okE p ns (arg0 l))(h':okE p ns (arg1 l)):okEs p ns l:=by
 match l,hl with
 | [x,y],_=>rw[okEs,okEs,okEs];exact⟨h,h',trivial⟩
theorem arg0_mem{l:List Expr}(hl:1<=(l.length:Int)):arg0 l∈l:=by
 match l,hl with
 |x::r,_=>simp[arg0]
theorem arg1_mem{l:List Expr}(hl:2<=(l.length:Int)):arg1 l∈l:=by
 match l,hl with
 |x::y::r,_=>simp[arg1]
theorem nms_behind(d:Int)(x:Stmt)(vs:List Vr):zgb (zpa d x vs)=zBc x++zgb vs:=by
 unfold zpa zBc;split<;>rfl
theorem stmt_ok{p:Prog}{s:List Vr}{x:Stmt}{res d m:Int}{loop:Bool}(h:stmtT p res s x.kind x.type x.name x.args d loop=0)(hR:zPb x m=true):
  (1<=x.kind/\x.kind<=10)/\(x.args.length:Int)=(zN x.kind).2.2.1/\okEs p (zgb s) x.args/\(x.kind=2->x.name∈zgb s)/\(x.kind=3->znb p x.name=true)/\(x.kind=6\/x.kind=7->loop=true):=by
 obtain⟨r1,r2,_,_⟩:=zkc hR;have hb:1<=x.kind/\x.kind<=10:=by
  by_cases h:1<=x.kind/\x.kind<=10
  ·exact h
  ·exfalso;have:(zN x.kind).2.2.1= -1:=by
    unfold zN
    repeat' (first|rw[if_neg (by omega)]|rfl)
   omega
 refine⟨hb,r1,?_⟩;have m0:1<=(x.args.length:Int)->zjb (arg0 x.args) 100=true:=fun h=>r2 _ (arg0_mem h)
 have m1:2<=(x.args.length:Int)->zjb (arg1 x.args) 100=true:=fun h=>r2 _ (arg1_mem h)
 unfold stmtT at h;by_cases k4:x.kind=4\/x.kind=5
 ·rw[if_pos k4]at h;have hl:(x.args.length:Int)=1:=by rcases k4 with k|k<;>rw[r1,k]<;>rfl
  exact⟨arg_one hl (want_ok h (m0 (by omega))),fun k=>by omega,fun k=>by omega,fun k=>by omega⟩
 rw[if_neg k4]at h;by_cases k8:x.kind=8
 ·rw[if_pos k8]at h;have hl:(x.args.length:Int)=1:=by rw[r1,k8];rfl
  exact⟨arg_one hl (want_ok h (m0 (by omega))),fun k=>by omega,fun k=>by omega,fun k=>by omega⟩
 rw[if_neg k8]at h;by_cases k9:x.kind=9
 ·rw[if_pos k9]at h;have hl:(x.args.length:Int)=1:=by rw[r1,k9];rfl
  exact⟨arg_one hl (want_ok h (m0 (by omega))),fun k=>by omega,fun k=>by omega,fun k=>by omega⟩
 rw[if_neg k9]at h;by_cases k10:x.kind=10
 ·rw[if_pos k10]at h;have hl:(x.args.length:Int)=1:=by rw[r1,k10];rfl
  exact⟨arg_one hl (okE_of p s _ 100 h (m0 (by omega))),fun k=>by omega,fun k=>by omega,fun k=>by omega⟩
 rw[if_neg k10]at h;by_cases k6:x.kind=6\/x.kind=7
 ·rw[if_pos k6]at h;have hl:(x.args.length:Int)=0:=by rcases k6 with k|k<;>rw[r1,k]<;>rfl
  have hn:x.args=[]:=yA (by omega);refine⟨by rw[hn,okEs];trivial,fun k=>by omega,fun k=>by omega,fun k=>?_⟩;cases loop
  ·simp at h
  ·rfl
 rw[if_neg k6]at h;unfold boundT at h;by_cases k1:x.kind=1
 ·rw[if_pos k1]at h;have hl:(x.args.length:Int)=1:=by rw[r1,k1];rfl
  refine⟨arg_one hl (want_ok (t:=x.type) ?_ (m0 (by omega))),fun k=>by omega,fun k=>by omega,fun k=>by omega⟩;by_cases hw:ztc p s (arg0 x.args) x.type=0
  ·exact hw
  ·rw[if_pos hw]at h;exact h
 rw[if_neg k1]at h;by_cases k2:x.kind=2
 ·rw[if_pos k2]at h;have hl:(x.args.length:Int)=1:=by rw[r1,k2];rfl
  split at h
  ·cases h
  ·rename_i v r hv;exact⟨arg_one hl (want_ok h (m0 (by omega))),fun k=>vfindV_mem (by rw[hv];simp),fun k=>by omega,fun k=>by omega⟩
 rw[if_neg k2]at h;have k3:x.kind=3:=by omega
 have hl:(x.args.length:Int)=2:=by rw[r1,k3];rfl
 by_cases ha:x.kind=3/\znb p x.name=false
 ·rw[if_pos ha]at h;cases h
 rw[if_neg ha]at h;have ha:znb p x.name=true:=by
  cases hq:znb p x.name
  ·exact absurd ⟨k3,hq⟩ ha
  ·rfl
 by_cases hw:ztc p s (arg0 x.args) 1=0
 ·rw[if_neg (by simp[hw])]at h;exact⟨arg_two hl (want_ok hw (m0 (by omega))) (want_ok h (m1 (by omega))),fun k=>by omega,fun _=>ha,fun k=>by omega⟩
 ·rw[if_pos hw]at h;exact absurd h hw
theorem okB_of(p:Prog)(res:Int):∀(w:Nat) (l:List Stmt) (vs:List Vr) (d n m:Int) (loop:Bool),wtSs l<=w->(zca p res l vs d loop n).1=0->zQ l m=true->okB p (zgb vs) loop l:=by
 intro w
 induction w with
 |zero=>
  intro l vs d n m loop hw h hR;have hl:l=[]:=by
   have:=zra l;exact yA (by omega)
  subst hl;rw[okB];trivial
 |succ w ih=>
  intro l vs d n m loop hw h hR;cases l with
  |nil=>rw[okB];trivial
  |cons x r=>
   rw[zTb]at h;rw[zQ,yb]at hR;simp only[wtSs]at hw;have hwx:=zta x;split at h
   ·rename_i h1;exact absurd h h1
   rename_i h1;have h1:(zec p res x vs d loop n).1=0:=by simpa using h1
   rw[okB];have i:=ih r _ _ _ _ _ (by omega) h hR.2;rw[nms_behind]at i;refine⟨?_,i⟩;rw[zce]at h1;split at h1
   ·rename_i h2;exact absurd h1 h2
   rename_i h2;split at h1
   ·rename_i h3;exact absurd h1 h3
   rename_i h3;obtain⟨r1,r2,r3,r4⟩:=zkc hR.1;obtain⟨s1,s2,s3,s4,s5,s6⟩:=stmt_ok (by simpa using h2) hR.1;rw[okS_eq];have i1:=ih x.thn _ _ _ _ _ (by omega) (by simpa using h3) r3;have i2:=ih x.els _ _ _ _ _ (by omega) h1 r4;rw[nms_behind]at i1 i2;exact⟨s1,s2,s3,s4,s5,s6,i1,i2⟩
theorem nms_scoped(l:List Par):zgb (zX l)=(l.map (·.name)).reverse:=by
 suffices h:∀d:List Par,zgb (zX d.reverse)=d.map (·.name) by
  have:=h l.reverse;rw[List.reverse_reverse]at this;rw[this,List.map_reverse]
 intro d
 induction d with
 |nil=>rfl
 |cons x r ih=>rw[yUa,zne];simp only[zgb,yp]at ih ⊢;rw[ih]
structure OkP(p:Prog):Prop where
 sz:PSz p
 fn:∀f∈p.funcs,okB p ((f.params.map (·.name)).reverse) false f.body/\zMb f.body=true/\(f.params.map (·.name)).Nodup
 main:∃f,zKa p zPc=some f/\f.params=[]
 names:(p.arrays.map (·.name)).Nodup
 size:∀a∈p.arrays,1<=a.size/\a.size<=1000
theorem checkT_ok{p:Prog}(hz:PSz p)(h:(zQa p).1=0):OkP p:=by
 unfold zQa at h;split at h
 case isFalse=>cases h
 rename_i hR;split at h
 case isFalse=>cases h
 rename_i hN;unfold zQb at hR;rw[yb,yq,yq]at hR;unfold zxc at hN;rw[yb,decide_eq_true_eq]at hN;obtain⟨hN1,hN2⟩:=hN;refine⟨hz,?_,?_,(yVa.1 hN1).1,?_⟩
 ·intro f hf;have h1:=checkGo_ok p _ _ h f hf;have hfR:=hR.2 f hf;unfold zAd at hfR;simp only[yb]at hfR;unfold zob at h1;split at h1
  ·cases h1
  rename_i ht;simp only at h1;have ht:(f.params.map (·.name)).Nodup:=by
   unfold twiceM at ht;simpa using ht
  split at h1
  ·cases h1
  rename_i he;have hb:=okB_of p f.type _ f.body _ _ _ _ _ (yd _) h1 hfR.2.2.2.1;rw[nms_scoped]at hb;refine⟨hb,?_,ht⟩;cases hq:zMb f.body
  ·exact absurd ⟨h1,hq⟩ he
  ·rfl
 ·split at hN2
  ·rename_i f hf;rw[yb,decide_eq_true_eq,decide_eq_true_eq]at hN2;exact⟨f,hf,hN2.2⟩
  ·cases hN2
 ·intro a ha;have:=hR.1 a ha;unfold arrR at this;simp only[yb,decide_eq_true_eq]at this;exact this.2
open PE.R (nthK fromK)
theorem frK_par(k n:Nat)(σ:zc)(p:Par):zR (k+1) n σ (stripA (encPar p))=encPar p:=by
 cases k<;>simp[encPar,stripA,strip,zR]
theorem frK_pars(k:Nat){σ:zc}{q:Nat}{ps:List Par}(h:σ[q]? =some (.arr 2 (ps.map encPar))):zR (k+2) 0 σ (.mslice q 0 ps.length 2)= .slice .plain 2 (ps.map encPar):=by
 have hf:(fun e=>zR (k+1) 0 σ (stripA e)) ∘ encPar=encPar:=by funext p;exact frK_par k 0 σ p
 unfold zR;simp[h,hf];exact yy (by simp)
theorem frK_func(k:Nat){σ:zc}{f:Func}{q:Nat}(h:f.params≠ []->σ[q]? =some (.arr 2 (f.params.map encPar))):zR (k+3) 0 σ (stripA (zDc f q))=zl f:=by
 obtain⟨nm,ty,ps,body⟩:=f;by_cases hp:ps=[]
 ·subst hp;simp[zDc,zl,parsV,zg,stripA,strip,zR]
 ·have hq:=frK_pars (k:=k) (h hp);simp[zDc,hp,zl,parsV,zg,stripA,strip]at hq ⊢;rw[show zR (k+3) 0 σ (.agg [.str nm,.int .i64 ty,.mslice q 0 ps.length 2,.slice .plain 6 (body.map zw)])= .agg ([.str nm,.int .i64 ty,.mslice q 0 ps.length 2,.slice .plain 6 (body.map zw)].map (zR (k+2) 0 σ))from rfl];simp[hq];simp[zR]
theorem frK_prog(k:Nat){σ:zc}{F:Nat}{fs:List Func}{qs:List Nat}(hO:OpenP σ F fs qs):zR (k+4) 0 σ (.mslice F 0 fs.length 4)= .slice .plain 4 (fs.map zl):=by
 have hl:=openFs_len hO.len;have hm:(zna fs qs).map (fun e=>zR (k+3) 0 σ (stripA e))=fs.map zl:=by
  refine yba fun i=>?_
  rw[yo,yo];by_cases hi:i<fs.length
  ·have h1:fs[i]? =some fs[i]:=yg hi;have hi2:i<qs.length:=by rw[hO.len];exact hi
   have h2:qs[i]? =some qs[i]:=yg hi2;rw[openFs_get h1 h2,h1];simp only[yN];rw[frK_func k (fun hp=>(hO.par i _ _ h1 h2 hp).1)]
  ·rw[yP (by rw[hl];omega),yP (by omega)];rfl
 rw[zR,if_pos (Nat.zero_le _),hO.row];simp only;have hc:0+fs.length<=(zna fs qs).length:=by rw[hl];omega
 rw[if_pos (by first|exact⟨rfl,hc⟩|exact⟨trivial,hc⟩|exact hc),List.drop_zero,yy (by rw[hl];exact yd _),hm]
theorem frK_arrs(k:Nat){σ:zc}{l:List PArr}(h:l≠ []->σ[0]? =some (.arr 2 (l.map zK))):zR (k+2) 0 σ (arrV l)=zia l:=by
 unfold arrV zia;by_cases hl:l=[]
 ·subst hl;rfl
 ·rw[if_neg hl];have hf:(fun e=>zR (k+1) 0 σ (stripA e)) ∘ zK=zK:=by
   funext p;cases k<;>simp[zK,stripA,strip,zR]
  unfold zR;simp[h hl,hf];exact yy (by simp)
theorem set_same{σ:zc}{q:Nat}{o:Obj}(h:σ[q]? =some o):σ.set q o=σ:=by
 obtain⟨h1,h2⟩:=ya.1 h;rw[<-h2];exact yRa h1
theorem openFs_set{fs:List Func}{qs:List Nat}(hl:qs.length=fs.length){i q:Nat}(f:Func)(h':qs[i]? =some q):(zna fs qs).set i (zDc f q)=zna (fs.set i f) qs:=by
 refine yba fun j=>?_
 unfold zna;rw[List.getElem?_zipWith,ypa,ypa,List.getElem?_zipWith,List.length_zipWith,hl,Nat.min_self];by_cases e:i=j
 ·subst e;have hi:i<fs.length:=by rw[<-hl];exact(ya.1 h').1
  simp[hi,h']
 ·simp[e]
theorem OpenP.change{σ:zc}{F:Nat}{fs:List Func}{qs:List Nat}(hO:OpenP σ F fs qs){i q:Nat}{g f:Func}(hg:fs[i]? =some g)(hq:qs[i]? =some q)(hlen:f.params.length=g.params.length)
  {σ':zc} (hrow:σ'[F]? =some (.arr 4 (zna (fs.set i f) qs))) (hpar:f.params≠ []->σ'[q]? =some (.arr 2 (f.params.map encPar))) (hoth:∀j,j≠F->(g.params≠ []->j≠q)->σ'[j]? =σ[j]?):OpenP σ' F (fs.set i f) qs:=by
 have hi:=(ya.1 hg).1;have hne:f.params≠ []->g.params≠ []:=fun h e=>h (yLa.1 (by rw[hlen,e];rfl))
 have hcase:∀(j:Nat) x,(fs.set i f)[j]? =some x->(j=i/\x=f)\/(j≠i/\fs[j]? =some x):=by
  intro j x hx;rw[ypa]at hx;by_cases e:i=j
  ·subst e;simp[hi]at hx;exact .inl ⟨rfl,hx.symm⟩
  ·simp[e]at hx;exact .inr ⟨fun h=>e h.symm,hx⟩
 refine⟨by rw[ywa];exact hO.len,hrow,?_,?_⟩
 ·intro j x q' hx hq' hxp;rcases hcase j x hx with⟨rfl,rfl⟩|⟨hj,hx'⟩
  ·rw[hq]at hq';cases hq';exact⟨hpar hxp,(hO.par j g q hg hq (hne hxp)).2⟩
  ·have h1:=hO.par j x q' hx' hq' hxp;refine⟨?_,h1.2⟩;rw[hoth q' h1.2 (fun hgp e=>hj (by subst e;exact hO.nd j i x g q' hx' hg hq' hq hxp hgp))];exact h1.1
 ·intro j j' x x' q' hx hx' hq' hq'' hxp hxp';rcases hcase j x hx with⟨rfl,rfl⟩|⟨hj,hy⟩<;>rcases hcase j' x' hx' with⟨rfl,rfl⟩|⟨hj',hy'⟩
  ·rfl
  ·exact hO.nd j j' g x' q' hg hy' hq' hq'' (hne hxp) hxp'
  ·exact hO.nd j j' x g q' hy hg hq' hq'' hxp (hne hxp')
  ·exact hO.nd j j' x x' q' hy hy' hq' hq'' hxp hxp'
end PE.U

namespace PE.U
open Go PE
open PE.R (nthK fromK)
def parK(ps:List Par)(k:Nat):List Par:=(ps.map shortP).take k++ps.drop k
theorem parK_zero(ps:List Par):parK ps 0=ps:=by simp[parK]
theorem parK_all(ps:List Par):parK ps ps.length=ps.map shortP:=by
 simp[parK];exact yy (by simp)
theorem parK_get(ps:List Par){k:Nat}(h:k<ps.length):(parK ps k)[k]? =ps[k]? :=by
 unfold parK;rw[yh (by simp;omega)];simp[Nat.min_eq_left (Nat.le_of_lt h)]
theorem parK_set(ps:List Par){k:Nat}{p:Par}(h:ps[k]? =some p):(parK ps k).set k (shortP p)=parK ps (k+1):=by
 have hk:=(ya.1 h).1;refine yba fun j=>?_
 unfold parK;rw[ypa];by_cases e:k=j
 ·subst e;rw[if_pos rfl,if_pos (by simp;omega),yf (by simp;omega),yua (by omega),yo,h];rfl
 ·rw[if_neg e];by_cases hj:j<k
  ·rw[yf (by simp;omega),yf (by simp;omega),yua hj,yua (by omega)]
  ·rw[yh (by simp;omega),yh (by simp;omega),yK,yK];congr 1;simp;omega
def funK(gs:List Func)(i:Nat):List Func:=(gs.map zMd).take i++gs.drop i
theorem funK_zero(gs:List Func):funK gs 0=gs:=by simp[funK]
theorem funK_all(gs:List Func):funK gs gs.length=gs.map zMd:=by
 simp[funK];exact yy (by simp)
theorem funK_len(gs:List Func){i:Nat}(h:i<=gs.length):(funK gs i).length=gs.length:=by simp[funK];omega
theorem funK_get(gs:List Func){k:Nat}(h:k<gs.length):(funK gs k)[k]? =gs[k]? :=by
 unfold funK;rw[yh (by simp;omega)];simp[Nat.min_eq_left (Nat.le_of_lt h)]
theorem funK_set(gs:List Func){k:Nat}{p:Func}(h:gs[k]? =some p):(funK gs k).set k (zMd p)=funK gs (k+1):=by
 have hk:=(ya.1 h).1;refine yba fun j=>?_
 unfold funK;rw[ypa];by_cases e:k=j
 ·subst e;rw[if_pos rfl,if_pos (by simp;omega),yf (by simp;omega),yua (by omega),yo,h];rfl
 ·rw[if_neg e];by_cases hj:j<k
  ·rw[yf (by simp;omega),yf (by simp;omega),yua hj,yua (by omega)]
  ·rw[yh (by simp;omega),yh (by simp;omega),yK,yK];congr 1;simp;omega
structure ShOk(g:Func):Prop where
 sz:wtSs g.body<1099508500000
 nv:∃c,c=g.params.length+(zSa g.body).length/\c<=200000000000/\nvSs c g.body
 par:∀i p,g.params[i]? =some p->p.name=newN i
set_option maxHeartbeats 8000000 in
theorem pnames_ok(p:Prog)(hz:PSz p)(hfn:p.funcs≠ [])(h0:(zQa p).1=0)(hok:∀g∈p.funcs.map renF,ShOk g):
  zi E 12 [zf p] []=some (.ret (.tup [zf ⟨p.arrays,(p.funcs.map renF).map zMd⟩,.int .i64 0]),[]):=by
 refine pcall_wpD rfl rfl rfl (by simp[zf]) ?_;have hr:=prenU_spec p hz hfn h0;rw[zee]at hr;obtain⟨r,st,he,F,qs,rfl,hO,hA⟩:=hr;obtain⟨z1,z2,z3⟩:=hz;have hO:OpenP st F (p.funcs.map renF) qs:=by
  rcases hO with⟨a,_⟩|⟨_,h⟩
  ·simp at a;exact absurd a hfn
  ·exact h
 have hac:accF F p.funcs.length= .mslice F 0 p.funcs.length 4:=by
  unfold accF;rw[if_neg (by simpa using hfn)]
 rw[hac]at he;obtain⟨ars,fs⟩:=p;simp only at he hO hA hfn z2 hok ⊢;generalize hG:fs.map renF=gs at*;have hgl:gs.length=fs.length:=by rw[<-hG];simp
 rw[<-hgl]at he z2;clear hG hac hfn z3 h0;have hav1:strip (arrV ars)=arrV ars:=by unfold arrV;split<;>rfl
 have hav2:canon1 (arrV ars)=arrV ars:=by unfold arrV;split<;>rfl
 have hav3:zE (arrV ars)=true:=by unfold arrV;split<;>rfl
 have hav4:stripA (arrV ars)=arrV ars:=by unfold arrV;split<;>rfl
 have hfz:=fun σ (h:ArrOk σ F qs ars)=>frK_arrs 9 (σ:=σ) (l:=ars) (fun hne=>(h hne).1)
 generalize arrV ars=av at*;simp[zf,zia,funcs]at he;clear hgl;simp[*,F12,zf,zia,funcs];clear he;refine zha K12_1 B12_1 (fun q:Nat×zc=>gs.length-q.1) (fun q=>[(21,.int .i64 q.1)]) (fun _=>[]) (fun q=>q.2) (fun q=>q.1<=gs.length/\OpenP q.2 F (funK gs q.1) qs/\ArrOk q.2 F qs ars) (0,st) ⟨by simp,by simp,by simp,by simp,by rw[funK_zero];exact hO,hA⟩ ?_;clear hO hA
 rintro⟨i,σ⟩ s1 ⟨hi,hO,hA⟩ h1 h2 h3 h2b h4
 simp only at hi hO hA;simp at h1 h2 h3 h2b h4;by_cases hend:i=gs.length
 ·subst hend;rw[funK_all]at hO;have hdec:decide ((gs.length:Int)<(gs.length:Int))=false:=by simp
  have hf1:=hfz σ hA;have hf2:=frK_prog 7 hO;rw[yu]at hf2;have hff:zR 12 0 σ (.agg [av,.mslice F 0 gs.length 4])= .agg [.slice .plain 2 (ars.map zK),.slice .plain 4 ((gs.map zMd).map zl)]:=by
   rw[zR];simp only[yp,yxa];rw[hf1,hf2];rfl
  have hfi:zR 12 0 σ (.int .i64 0)= .int .i64 0:=rfl;have hwf0:zc.wf 0 []=true:=rfl;rw[List.map_map]at hff;have hpl:zJ 0 (gs.map (zl ∘ zMd))=true:=by
   rw[<-List.map_map];exact zab _ _ _ (fun x=>by simp[zl,parsV,zg])
  clear hok hO hA hfz hf1 hf2;simp[*,finD]
 ·have hlt:i<gs.length:=by omega
  obtain⟨g,hg⟩:∃g,gs[i]? =some g:=⟨_,yg hlt⟩
  have hgok:=hok g (yga hg);have hqi:i<qs.length:=by rw[hO.len,funK_len gs hi];exact hlt
  obtain⟨q,hq⟩:∃q,qs[i]? =some q:=⟨_,yg hqi⟩
  have hgk:(funK gs i)[i]? =some g:=by rw[funK_get gs hlt];exact hg
  have hRi:=openFs_get hgk hq;have hR:=hO.row;have hset:=openFs_set hO.len (zMd g) hq;rw[funK_set gs hg]at hset;have hpar:=hO.par i g q hgk hq;have hchg:=fun σ'=>hO.change (σ':=σ') (f:=zMd g) hgk hq (by simp[zMd])
  rw[funK_set gs hg]at hchg;have hdec:decide (i<gs.length)=true:=decide_eq_true hlt;have hw1:zC .i64 ((i:Int)+1)=(i:Int)+1:=by rw[zj]<;>omega
  obtain⟨hsz,⟨c,hc,hcb,hnv⟩,hpn⟩:=hgok;have hl:=lets_spec (wtSs g.body) g.body (yd _) (by omega);have hst:=nstmts_spec c hcb (wtSs g.body) g.body (yd _) (by omega) hnv;have hfr:=first_x c hcb [];obtain⟨gn,gt,ps,gb⟩:=g;simp only at hc hcb hnv hl hst hpn hpar;have hln:((ps.length:Int)+((zSa gb).length:Int))=(c:Int):=by omega
  have hwc:zC .i64 (c:Int)=(c:Int):=by rw[zj]<;>omega
  generalize zna (funK gs i) qs=R at*;by_cases hps:ps=[]
  ·subst hps;simp[zDc,zg]at hRi;simp[zg]at hl hst;have hX:namV c= .slice .plain 1 (((yI c).map nthM).map .str):=rfl;rw[hX]at hst;simp at hst hfr hln;have HK:Nonempty (PLift (F<σ.length/\σ[F]? =some (.arr 4 R)/\R.set i (zDc (zMd ⟨gn,gt,[],gb⟩) q)=zna (funK gs (i+1)) qs/\ArrOk σ F qs ars)):=⟨⟨(ya.1 hR).1,hR,hset,hA⟩⟩
   have HC:=Nonempty.intro (PLift.up hchg);clear hok hO hchg hpar hset hA hfz hg hgk hq hqi hsz hc hcb hnv hpn hX;simp[*];refine zha K12_0 B12_0 (fun _:Unit=>0) (fun _=>[(45,.int .i64 0)]) (fun _=>[]) (fun _=>σ) (fun _=>True) () ⟨by simp,by simp,by simp,trivial⟩ ?_
   rintro⟨⟩ s2-q1 q2 q3 q4 q5
   simp at q1 q2 q3 q4 q5;simp[*];obtain⟨⟨HK1,HK2,HK3,HK4⟩⟩:=HK;obtain⟨⟨hchg⟩⟩:=HC;refine⟨i+1,by omega,by simp,by omega,?_,?_⟩
   ·refine hchg _ ?_ (fun h=>absurd rfl h) (fun j hj _=>by rw[yk (Ne.symm hj)]);rw[yl (by simpa using HK1),<-HK3];rfl
   ·intro hne;obtain⟨A1,A2,A3⟩:=HK4 hne;exact⟨by rw[yk A2];exact A1,A2,A3⟩
  ·obtain⟨hq1,hqne⟩:=hpar hps;have hX:namV c= .slice .plain 1 (((yI c).map nthM).map .str):=rfl;rw[hX]at hst;simp[zDc,hps,zg]at hRi;simp[zg]at hl hst;simp at hst hfr hln;have hpc:ps.length<=c:=by omega
   have HK:Nonempty (PLift (F<σ.length/\σ[F]? =some (.arr 4 R)/\R.set i (zDc (zMd ⟨gn,gt,ps,gb⟩) q)=zna (funK gs (i+1)) qs/\ArrOk σ F qs ars/\q∈qs)):=⟨⟨(ya.1 hR).1,hR,hset,hA,yga hq⟩⟩
   have HC:=Nonempty.intro (PLift.up hchg);have hz2:ps.length<200000000001:=by omega
   clear hok hO hchg hpar hset hA hfz hg hgk hq hqi hsz hc hcb hnv hX;have HQ:Nonempty (PLift (σ[q]? =some (.arr 2 (ps.map encPar))/\ps.length<=c/\ps.length<200000000001/\(∀i p,ps[i]? =some p->p.name=newN i)/\ps≠ [])):=⟨⟨hq1,hpc,hz2,hpn,hps⟩⟩
   clear hq1 hpc hz2 hpn hps;simp[*];obtain⟨⟨hq1,hpc,hz2,hpn,hps⟩⟩:=HQ;have hql:=(ya.1 hq1).1;refine zha K12_0 B12_0 (fun k:Nat=>ps.length-k) (fun k=>[(45,.int .i64 k)]) (fun _=>[]) (fun k=>σ.set q (.arr 2 ((parK ps k).map encPar))) (fun k=>k<=ps.length) 0 ⟨by simp,by simp,by simp[parK_zero,set_same hq1],by omega⟩ ?_;intro k s2 hk q1 q2 q3 q4 q5;simp at q1 q2 q3 q4 q5;have hSF:(σ.set q (.arr 2 ((parK ps k).map encPar)))[F]? =some (.arr 4 R):=by rw[yk hqne];exact hR
   have hSq:(σ.set q (.arr 2 ((parK ps k).map encPar)))[q]? =some (.arr 2 ((parK ps k).map encPar)):=yl (by simpa using hql);by_cases hke:k=ps.length
   ·subst hke;rw[parK_all]at q5 hSF hSq;have kdec:decide (ps.length<ps.length)=false:=by simp
    have HQ:Nonempty (PLift (ps≠ []/\σ[q]? =some (.arr 2 (ps.map encPar))/\F≠q/\q<σ.length/\(σ.set q (.arr 2 ((ps.map shortP).map encPar)))[q]? =some (.arr 2 ((ps.map shortP).map encPar)))):=⟨⟨hps,hq1,fun e=>hqne e.symm,hql,hSq⟩⟩
    generalize hS:σ.set q (.arr 2 ((ps.map shortP).map encPar))=S at*;have HS:Nonempty (PLift (σ.set q (.arr 2 ((ps.map shortP).map encPar))=S)):=⟨⟨hS⟩⟩
    clear hS hSq hq1 hpc hz2 hpn hps hql hqne hR;simp[*];obtain⟨⟨HK1,HK2,HK3,HK4,HK5⟩⟩:=HK;obtain⟨⟨hchg⟩⟩:=HC;obtain⟨⟨hps,hq1,hFq,hql,hSq⟩⟩:=HQ;obtain⟨⟨hS⟩⟩:=HS;refine⟨i+1,by omega,by simp,by omega,?_,?_⟩
    ·refine hchg _ ?_ (fun _=>?_) (fun j hj hjq=>?_)
     ·rw[yl (by rw[<-hS];simpa using HK1),<-HK3];simp[zDc,zMd,hps,zg]
     ·rw[yk hFq];exact hSq
     ·rw[yk (Ne.symm hj),<-hS,yk (fun e=>hjq hps e.symm)]
    ·intro hne;obtain⟨A1,A2,A3⟩:=HK4 hne;exact⟨by rw[yk A2,<-hS,yk (A3 q HK5)];exact A1,A2,A3⟩
   ·have hkl:k<ps.length:=by omega
    obtain⟨⟨pn,pt⟩,hp⟩:∃p,ps[k]? =some p:=⟨_,yg hkl⟩
    have hpk:=hpn k _ hp;simp only at hpk;have hAk:((parK ps k).map encPar)[k]? =some (.agg [.str pn,.int .i64 pt]):=by
     rw[yo,parK_get ps hkl,hp];rfl
    have hAs:∀A,A=(parK ps k).map encPar->(σ.set q (.arr 2 A)).set q (.arr 2 (A.set k (.agg [.str (nthM k),.int .i64 pt])))=σ.set q (.arr 2 ((parK ps (k+1)).map encPar)):=by
     rintro A rfl
     rw[List.set_set,<-parK_set ps hp,List.map_set];have:numM pn=nthM k:=by rw[hpk];exact numM_new (by omega)
     simp[encPar,shortP,this]
    have hkc:k<c:=by omega
    have kdec:decide (k<ps.length)=true:=decide_eq_true hkl;have kw1:zC .i64 ((k:Int)+1)=(k:Int)+1:=by rw[zj]<;>omega
    have hAs:=hAs _ rfl;generalize hA0:(parK ps k).map encPar=A at*;generalize hS:σ.set q (.arr 2 A)=S at*;have HQ:Nonempty (PLift (k<=ps.length)):=⟨⟨hk⟩⟩
    clear hA0 hS hq1 hpc hz2 hpn hps hql hqne hR hp hpk hk hke;simp[*];obtain⟨⟨hk⟩⟩:=HQ;exact⟨k+1,by omega,by simp,rfl,by omega⟩
end PE.U

namespace PE.U
open Go PE
open PE.R (nthK fromK)
end PE.U

namespace PE.U
open Go PE
theorem name_ne{nm:List UInt8}(h:zGb nm=true):nm≠ []:=by
 rintro rfl
 exact absurd h (by decide)
theorem argsR_ren{N:Nm}(hv:NV N):∀(l:List Expr),zFe l=true->zFe (zV N l)=true
 | [],_=>by rw[zV];rfl
 |x::r,h=>by
  unfold zFe at h ⊢;rw[yea,yb]at h;rw[zV,yea,yb];exact⟨exprR_ren hv x 100 h.1,argsR_ren hv r h.2⟩
theorem doR_ren(N:Nm)(k:Int)(l:List Expr):doR k (zV N l)=doR k l:=by
 cases l with
 |nil=>rw[zV]
 |cons x r=>
  rw[zV];unfold doR;simp only;rw[(ren_kind N x).1]
theorem headR_ren{k ty m:Int}{nm nm':List UInt8}{ar ar':List Expr}{th el th' el':List Stmt}(hl:ar'.length=ar.length)(hn:nm'=nm\/(zGb nm=true/\zGb nm'=true))(h:headR ⟨k,ty,nm,ar,th,el⟩ m=true):headR ⟨k,ty,nm',ar',th',el'⟩ m=true:=by
 unfold headR at h ⊢;simp only[hl]at h ⊢;rcases hn with rfl|⟨h1,h2⟩
 ·exact h
 ·have e1:=name_ne h1;have e2:=name_ne h2;rw[h1]at h;rw[h2];simpa[e1,e2]using h
theorem headR_name{k ty m:Int}{nm:List UInt8}{ar:List Expr}{th el:List Stmt}(h:headR ⟨k,ty,nm,ar,th,el⟩ m=true)(hk:k=1\/k=2):zGb nm=true:=by
 unfold headR at h;rcases hk with rfl|rfl<;>simp[zN]at h<;>simp_all
inductive RV:Nm->List Vr->List Vr->Prop
 |nil:RV [] [] []
 |cons {N:Nm} {s s':List Vr} (o w:List UInt8) (t d:Int) (h:RV N s s'):RV ((o,w)::N) (⟨o,t,d⟩::s) (⟨w,t,d⟩::s')
theorem RV.olds{N:Nm}{s s':List Vr}(h:RV N s s'):N.map (·.1)=zgb s:=by
 induction h with
 |nil=>rfl
 |cons o w t d h ih=>simp only[zgb,yp]at ih ⊢;rw[ih]
theorem RV.news{N:Nm}{s s':List Vr}(h:RV N s s'):N.map (·.2)=zgb s':=by
 induction h with
 |nil=>rfl
 |cons o w t d h ih=>simp only[zgb,yp]at ih ⊢;rw[ih]
theorem RV.find{N:Nm}{s s':List Vr}(h:RV N s s')(hN:(N.map (·.2)).Nodup){nm:List UInt8}(hf:zIa s nm≠ []):
  ∃v r v' r',zIa s nm=v::r/\zIa s' (zba nm N)=v'::r'/\v'.type=v.type/\v'.depth=v.depth:=by
 induction h with
 |nil=>exact absurd rfl hf
 |cons o w t d h ih=>
  rw[yp,List.nodup_cons]at hN;rw[zpb]at hf ⊢;unfold zba;by_cases ho:o=nm
  ·subst ho;simp only[if_true];rw[zpb];simp
  ·simp only[ho,if_false]at hf ⊢;have hm:=findN_mem (N:=_) (by rw[h.olds];exact vfindV_mem hf);have hw:¬w=zba nm _:=fun e=>hN.1 (e ▸ hm)
   rw[zpb];simp only[hw,if_false];exact ih hN.2 hf
theorem findV_none{s:List Vr}{nm:List UInt8}(h:nm ∉ zgb s):zIa s nm=[]:=by
 cases hf:zIa s nm with
 |nil=>rfl
 |cons v r=>exact absurd (vfindV_mem (by rw[hf];simp)) h
section
variable {p:Prog} {N:Nm} {s s':List Vr} (h:RV N s s') (hN:(N.map (·.2)).Nodup)
include h hN
end
theorem checkGo_zero(q:Prog):∀(l:List Func) (i:Int),(∀f∈l,(zob q f).1=0)->(zwc q l i).1=0
 | [],_,_=>rfl
 |f::r,i,h=>by
  rw[zwc,if_neg (by rw[h f (by simp)];simp)];exact checkGo_zero q r (i+1) fun g hg=>h g (by simp[hg])
def NL(N:Nm):Prop:=∀x∈N.map (·.2),x.length<=12
theorem newN_len{c:Nat}(h:c<100000000000):(newN c).length<=12:=by
 have hl:=digF_len2 20 11 c (by omega) (by simpa using h);unfold newN zwa;simp only[yj];omega
theorem NI.short{N:Nm}{c:Nat}(h:NI N c)(hc:c<100000000000):NL N:=by
 intro x hx;obtain⟨i,hi,rfl⟩:=h.2 x hx;exact newN_len (by omega)
theorem findN_len{N:Nm}(hv:NL N)(nm:List UInt8):1+(zba nm N).length<=13*(1+nm.length):=by
 induction N with
 |nil=>simp only[zba];omega
 |cons x r ih=>
  unfold zba;split
  ·have:=hv x.2 (by simp);omega
  ·exact ih fun y hy=>hv y (by rw[yp,yw];exact .inr hy)
mutual
theorem wtE_ren{N:Nm}(hv:NL N):∀(e:Expr),wtE (renE N e)<=13*wtE e
 |⟨k,o,n,nm,ar⟩=>by
  have h1:=wtEs_ren hv ar;have h2:=findN_len hv nm;rw[renE,wtE,wtE];split<;>omega
theorem wtEs_ren{N:Nm}(hv:NL N):∀(l:List Expr),wtEs (zV N l)<=13*wtEs l
 | []=>by rw[zV,wtEs];omega
 |x::r=>by
  have h1:=wtE_ren hv x;have h2:=wtEs_ren hv r;rw[zV,wtEs,wtEs];omega
end
mutual
theorem wtS_ren:∀(s:Stmt) (N:Nm) (c:Nat),NI N c->c+wtS s<100000000000->wtS (renS s N c).1<=13*wtS s
 |⟨k,ty,nm,ar,th,el⟩,N,c,hN,hc=>by
  have hw:=zta ⟨k,ty,nm,ar,th,el⟩;simp only at hw;have hN1:NI (if k=1 then(nm,newN c)::N else N) (if k=1 then c+1 else c):=by
   split
   ·exact hN.next (by omega) nm
   ·exact hN
  have hc1:(if k=1 then c+1 else c)<=c+1:=by split<;>omega
  have hb:=zgc th (if k=1 then(nm,newN c)::N else N) (if k=1 then c+1 else c);have h1:=wtEs_ren (hN.short (by omega)) ar;have h2:=findN_len (hN1.short (by omega)) nm;have h3:=wtSs_ren th _ _ hN1 (by omega);have h4:=wtSs_ren el _ _ (hN1.le hb.2.1) (by omega);simp only[renS];rw[wtS,hw];split<;>omega
theorem wtSs_ren:∀(l:List Stmt) (N:Nm) (c:Nat),NI N c->c+wtSs l<100000000000->wtSs (renB l N c).1<=13*wtSs l
 | [],N,c,_,_=>by simp[renB,wtSs]
 |x::r,N,c,hN,hc=>by
  have hw:wtSs (x::r)=1+wtS x+wtSs r:=rfl;have hb:=renS_bd x N c;have h1:=wtS_ren x N c hN (by omega);have h2:=wtSs_ren r _ _ (ni_ren x N c hN (by omega)) (by omega);simp only[renB];rw[wtSs,hw];omega
end
def PSm(p:Prog):Prop:=p.arrays.length<1099509000000/\p.funcs.length<1099509000000/\∀f∈p.funcs,wtSs f.body<=80008000128/\f.params.length<=6400164
theorem psz_ren(p:Prog)(h:PSm p):PSz (renP p):=by
 obtain⟨h1,h2,h3⟩:=h;refine⟨h1,by show(p.funcs.map renF).length<_;simpa using h2,?_⟩;intro g hg;obtain⟨f,hf,rfl⟩:=yHa.1 hg;have hl:=zOd f.params [] 0;have hb:=h3 f hf;have hw:=wtSs_ren f.body _ _ (ni_pars f.params [] 0 ⟨by simp,fun x h=>by simp at h⟩ (by omega)) (by omega);refine⟨?_,?_⟩
 ·show wtSs (renB f.body (zY f.params [] 0).2.1 (zY f.params [] 0).2.2).1<_
  omega
 ·show(zY f.params [] 0).1.length<_
  omega
open PE.R (nthK fromK)
theorem pren_bad(p:Prog)(hz:PSz p)(h0:¬(zQa p).1=0):zi E 27 [zf p] []=some (.ret (.tup [.agg [.slice .plain 2 [],.slice .plain 4 []],.int .i64 1]),[]):=by
 refine zd rfl rfl rfl (by simp[zf]) ?_;have hc:=check_spec p hz;generalize zQa p=q at*;obtain⟨e,n⟩:=q;simp only at h0;replace h0:=eqn h0;obtain⟨ars,fs⟩:=p;simp[zLa,zf,zia,funcs]at hc;simp[*,F27,zf,zia,funcs]
theorem pnames_bad(p:Prog)(hz:PSz p)(h0:¬(zQa p).1=0):zi E 12 [zf p] []=some (.ret (.tup [zf ⟨[],[]⟩,.int .i64 1]),[]):=by
 refine pcall_wpD rfl rfl rfl (by simp[zf]) ?_;have hr:=pren_bad p hz h0;have hwf0:zc.wf 0 []=true:=rfl;have hfi:zR 12 0 [] (.int .i64 1)= .int .i64 1:=rfl;have hff:zR 12 0 [] (.agg [.slice .plain 2 [],.slice .plain 4 []])= .agg [.slice .plain 2 [],.slice .plain 4 []]:=rfl;obtain⟨ars,fs⟩:=p;simp[zf,zia,funcs]at hr;clear h0 hz;simp[*,F12,zf,zia,funcs,finD]
theorem check_funcs{p:Prog}(hz:PSz p)(h0:(zQa p).1=0):p.funcs≠ []:=by
 obtain⟨f,hf,_⟩:=(checkT_ok hz h0).main;intro e;unfold zKa at hf;rw[e]at hf;cases hf
theorem psz_of_psm{p:Prog}(h:PSm p):PSz p:=by
 obtain⟨h1,h2,h3⟩:=h;exact⟨h1,h2,fun f hf=>by have:=h3 f hf;omega⟩
theorem ren_ok{p:Prog}(hm:PSm p)(h0:(zQa p).1=0):(∀g∈p.funcs.map renF,ShOk g)/\(p.funcs.map renF).map zMd=p.funcs.map shF:=by
 have hz:=psz_of_psm hm;have hsc:=check_sc p h0;have hzr:=psz_ren p hm;refine⟨fun g hg=>?_,?_⟩
 ·have hzg:=hzr.2.2 g hg;obtain⟨f,hf,rfl⟩:=yHa.1 hg;have hzf:=hz.2.2 f hf;obtain⟨_,s2,s3,s4,s5⟩:=shortF_ren f hzf.1 hzf.2 (hsc f hf);have hmf:=hm.2.2 f hf;refine⟨by omega,⟨renC f,s4,?_,s2⟩,s3⟩;have hb:=zgc f.body (zY f.params [] 0).2.1 (zY f.params [] 0).2.2;have hl:=zOd f.params [] 0;unfold renC;omega
 ·rw[List.map_map];refine List.map_congr_left fun f hf=>?_
  have hzf:=hz.2.2 f hf;exact(shortF_ren f hzf.1 hzf.2 (hsc f hf)).1
theorem pnames_spec(p:Prog)(hm:PSm p):zi E 12 [zf p] []=some (.ret (encRen (shM p)),[]):=by
 have hz:=psz_of_psm hm;unfold shM;by_cases h0:(zQa p).1=0
 ·rw[if_pos h0];obtain⟨a,b⟩:=ren_ok hm h0;have:=pnames_ok p hz (check_funcs hz h0) h0 a;rw[b]at this;exact this
 ·rw[if_neg h0];exact pnames_bad p hz h0
def shortN(n:Int):List UInt8:=if n<0\/n>20000 then[]else nthM n.toNat
theorem pname1_spec(n:Int)(h0: -9223372036854775808<=n)(h1:n<=9223372036854775807):zi E 9 [.int .i64 n] []=some (.ret (.str (shortN n)),[]):=by
 refine zd rfl rfl rfl (by simp) ?_;unfold shortN;by_cases hn:n<0
 ·have c1:(n<0)=True:=eqp hn;simp[*,F9]
 ·have c1:(n<0)=False:=eqn hn;by_cases hm:n>20000
  ·have c2:(20000<n)=True:=eqp hm;simp[*,F9]
  ·have c2:(20000<n)=False:=eqn hm;obtain⟨k,rfl⟩:∃k:Nat,n=k:=⟨n.toNat,by omega⟩
   have hk:k<=20000:=by omega
   have hf:=first_x (k+1) (by omega) [];have hw:zC .i64 ((k:Int)+1)=(k:Int)+1:=by rw[zj]<;>omega
   have e1:(((k+1:Nat)):Int)=(k:Int)+1:=by omega
   rw[e1]at hf;have hlt:k<k+1:=by omega
   simp at hf;rw[if_neg (by omega),Int.toNat_natCast];clear hn hm h0 h1 e1;simp[*,F9]
end PE.U

namespace PE.U
open Go PE
theorem NJ.valid{N:Nm}{c:Nat}(h:NJ N c)(hc:c<9000000000000):NV N:=by
 intro x hx;obtain⟨i,hi,rfl⟩:=h.2 x hx;exact nthM_name (by omega)
mutual
theorem leaves1_renJ:∀(s:Stmt) (N:Nm) (c:Nat),ztd (shS s N c).1=ztd s
 |⟨k,ty,nm,ar,th,el⟩,N,c=>by
  simp only[shS,ztd];rw[zte th,zte el]
theorem zte:∀(l:List Stmt) (N:Nm) (c:Nat),zoa (shB l N c).1=zoa l
 | [],N,c=>by simp[shB]
 |x::r,N,c=>by
  simp only[shB,zoa];rw[leaves1_renJ x,zte r]
end
mutual
theorem ends1_renJ:∀(s:Stmt) (N:Nm) (c:Nat),ends1 (shS s N c).1=ends1 s
 |⟨k,ty,nm,ar,th,el⟩,N,c=>by
  simp only[shS,ends1];rw[endsT_renJ th,endsT_renJ el,zte th,ren_arg0,(ren_kind N (arg0 ar)).1,(ren_kind N (arg0 ar)).2]
theorem endsT_renJ:∀(l:List Stmt) (N:Nm) (c:Nat),zMb (shB l N c).1=zMb l
 | [],N,c=>by simp[shB]
 |x::r,N,c=>by
  simp only[shB,zMb];rw[ends1_renJ x,endsT_renJ r]
end
theorem empty_renJ(l:List Stmt)(N:Nm)(c:Nat):(shB l N c).1.isEmpty=l.isEmpty:=by
 cases l<;>simp[shB]
mutual
theorem stmtR_renJ:∀(s:Stmt) (N:Nm) (c:Nat) (m:Int),NJ N c->c+wtS s<=4000000000000->zPb s m=true->zPb (shS s N c).1 m=true
 |⟨k,ty,nm,ar,th,el⟩,N,c,m,hN,hc,h=>by
  have hw:=zta ⟨k,ty,nm,ar,th,el⟩;simp only at hw;rw[zPb]at h;simp only[yb]at h;obtain⟨h1,h2,h3,⟨h4,h5⟩,h6,h7⟩:=h;have hv:=hN.valid (by omega);simp only[shS];rw[zPb];simp only[yb];rw[doR_ren,empty_renJ,empty_renJ];have hN1:NJ (if k=1 then(nm,nthM c)::N else N) (if k=1 then c+1 else c):=by
   split
   ·exact hN.next (by omega) nm
   ·exact hN
  have hc1:(if k=1 then c+1 else c)<=c+1:=by split<;>omega
  have hb:=zxd th (if k=1 then(nm,nthM c)::N else N) (if k=1 then c+1 else c);refine⟨headR_ren (zKe N ar) ?_ h1,argsR_ren hv ar h2,h3,⟨h4,h5⟩,zVe th _ _ (m-1) hN1 (by omega) h6,zVe el _ _ (m-1) (hN1.le hb.2.1) (by omega) h7⟩;by_cases hk:k=1\/k=2
  ·rw[if_pos hk];have hnm:=headR_name h1 hk;exact .inr ⟨hnm,findN_valid (hN1.valid (by omega)) hnm⟩
  ·rw[if_neg hk];exact .inl rfl
theorem zVe:∀(l:List Stmt) (N:Nm) (c:Nat) (m:Int),NJ N c->c+wtSs l<=4000000000000->zQ l m=true->zQ (shB l N c).1 m=true
 | [],N,c,m,_,_,_=>by simp[shB,zQ]
 |x::r,N,c,m,hN,hc,h=>by
  have hw:wtSs (x::r)=1+wtS x+wtSs r:=rfl;have hb:=renS_bdJ x N c;rw[zQ,yb]at h;simp only[shB,zQ,yb];exact⟨stmtR_renJ x N c m hN (by omega) h.1,zVe r _ _ m (ni_renJ x N c hN (by omega)) (by omega) h.2⟩
end
theorem pars_renJ:∀(ps:List Par) (N:Nm) (c:Nat),c+ps.length<9000000000000->ps.all parR=true->(shPs ps N c).1.all parR=true
 | [],N,c,_,_=>by simp[shPs]
 |x::r,N,c,hc,h=>by
  simp only[yj]at hc;rw[yea,yb]at h;simp only[shPs,yea,yb];refine⟨?_,pars_renJ r _ _ (by omega) h.2⟩;have h1:=h.1;unfold parR at h1 ⊢;simp only[yb]at h1 ⊢;exact⟨nthM_name (by omega),h1.2⟩
theorem right_renJ(p:Prog)(hz:PSz p)(h:zQb p=true):zQb (shP p)=true:=by
 obtain⟨z1,z2,z3⟩:=hz;unfold zQb at h ⊢;rw[yb]at h ⊢;refine⟨h.1,?_⟩;have h2:=h.2;show(p.funcs.map shF).all zAd=true
 rw[List.all_map,yq];intro f hf;have hr:=yq.1 h2 f hf;have hzf:=z3 f hf;have hl:=zWc f.params [] 0;show zAd (shF f)=true
 unfold zAd at hr ⊢;simp only[yb]at hr ⊢;obtain⟨r1,r2,r3,r4,r5⟩:=hr;refine⟨r1,r2,?_,?_,?_⟩
 ·show decide ((shPs f.params [] 0).1.length<=8)=true
  rw[hl.1];exact r3
 ·exact zVe f.body _ _ 100 (ni_parsJ f.params [] 0 ⟨by simp,fun x h=>by simp at h⟩ (by omega)) (by omega) r4
 ·exact pars_renJ f.params [] 0 (by omega) r5
theorem named_renJ(p:Prog):zxc (shP p)=zxc p:=by
 unfold zxc;rw[ren_funcJ];have e:(shP p).funcs.map (·.name)=p.funcs.map (·.name):=by
  show(p.funcs.map shF).map (·.name)=_
  rw[List.map_map];rfl
 have e2:(shP p).arrays=p.arrays:=rfl;rw[e,e2];cases zKa p zPc with
 |none=>rfl
 |some f=>
  have h:decide ((shPs f.params [] 0).1=[])=decide (f.params=[]):=by cases f.params<;>simp[shPs]
  show(_&&(decide (f.type=1)&&decide ((shPs f.params [] 0).1=[])))=_
  rw[h]
theorem pars_typesJ:∀(ps:List Par) (N:Nm) (c:Nat),(shPs ps N c).1.map (·.type)=ps.map (·.type)
 | [],N,c=>by simp[shPs]
 |x::r,N,c=>by simp[shPs,pars_typesJ r]
section
variable {p:Prog} {N:Nm} {s s':List Vr} (h:RV N s s') (hN:(N.map (·.2)).Nodup)
include h hN
theorem named_typJ{k:Int}{nm:List UInt8}{a:Nat}(hz:zwb p s k nm a=0):zwb (shP p) s' k (if k=3 then zba nm N else nm) a=0:=by
 unfold zwb at hz ⊢;by_cases k3:k=3
 ·simp only[k3,if_true]at hz ⊢;split at hz
  ·cases hz
  ·rename_i hf;obtain⟨v,r,v',r',_,e,_⟩:=h.find hN hf;rw[e];simp
 simp only[k3,if_false]at hz ⊢;by_cases k6:k=6
 ·simp only[k6,if_true]at hz ⊢;exact hz
 simp only[k6,if_false]at hz ⊢;by_cases k7:k=7
 ·simp only[k7,if_true]at hz ⊢;rw[ren_funcJ];cases hf:zKa p nm with
  |none=>rw[hf]at hz;cases hz
  |some f=>
   rw[hf]at hz;simp only[yN]at hz ⊢;have hl:=(zWc f.params [] 0).1;show(if(shPs f.params [] 0).1.length=a then(0:Int)else 51)=0
   rw[hl];exact hz
 ·simp only[k7,if_false]
theorem made_typJ{k o:Int}{nm:List UInt8}{a:Nat}(hz:zwb p s k nm a=0)(l:List Int):zTd (shP p) s' k o (if k=3 then zba nm N else nm) l=zTd p s k o nm l:=by
 unfold zTd;by_cases k2:k=2
 ·simp only[k2,if_true]
 simp only[k2,if_false];by_cases k3:k=3
 ·simp only[k3,if_true];unfold zwb at hz;simp only[k3,if_true]at hz;split at hz
  ·cases hz
  ·rename_i hf;obtain⟨v,r,v',r',e1,e,e2,_⟩:=h.find hN hf;rw[e,e1];simp[e2]
 simp only[k3,if_false];rw[ren_funcJ];by_cases k7:k=7
 ·subst k7;cases zKa p nm with
  |none=>rfl
  |some f=>
   have ht:=pars_typesJ f.params [] 0;simp only[yN];have e:(shF f).params.map (·.type)=f.params.map (·.type):=ht;rw[e];rfl
 ·simp only[k7,if_false]
mutual
theorem expr_typJ:∀(e:Expr),(zLb p s e).2=0->zLb (shP p) s' (renE N e)=zLb p s e
 |⟨k,o,n,nm,ar⟩,hz=>by
  rw[zLb]at hz ⊢;split at hz
  ·rename_i h1;exact absurd hz h1
  rename_i h1;split at hz
  ·rename_i h2;exact absurd hz h2
  rename_i h2;have h1':zwb p s k nm ar.length=0:=by simpa using h1
  have h2':(zWa p s ar).2=0:=by simpa using h2
  have ha:=args_typJ ar h2';rw[renE,zLb,zKe,named_typJ h hN h1',ha,made_typJ h hN h1',if_neg (by simp),if_neg h2,if_neg h1]
theorem args_typJ:∀(l:List Expr),(zWa p s l).2=0->zWa (shP p) s' (zV N l)=zWa p s l
 | [],_=>by rw[zV,zWa,zWa]
 |x::r,hz=>by
  rw[zWa]at hz ⊢;split at hz
  ·rename_i h1;exact absurd hz h1
  rename_i h1;split at hz
  ·rename_i h2;exact absurd hz h2
  rename_i h2;have e1:=expr_typJ x (by simpa using h1);have e2:=args_typJ r (by simpa using h2);rw[zV,zWa,e1,e2,if_neg h1,if_neg h2]
end
theorem zKd{e:Expr}{t:Int}(hz:ztc p s e t=0):ztc (shP p) s' (renE N e) t=0:=by
 unfold ztc at hz ⊢;split at hz
 ·rename_i h1;exact absurd hz h1
 rename_i h1;rw[expr_typJ h hN e (by simpa using h1),if_neg h1];exact hz
end
theorem RV.freshJ{N:Nm}{s s':List Vr}(h:RV N s s'){c:Nat}(hN:NJ N c)(hc:c<9000000000000):zIa s' (nthM c)=[]:=by
 refine findV_none ?_;rw[<-h.news];intro hm;obtain⟨i,hi,he⟩:=hN.2 _ hm;have:=nthM_inj (by omega) (by omega) he;omega
theorem stmt_typJ{p:Prog}{N:Nm}{s s':List Vr}{c:Nat}(h:RV N s s')(hN:NJ N c)(hc:c<9000000000000){res k t d:Int}{nm:List UInt8}{ar:List Expr}{loop:Bool}(hz:stmtT p res s k t nm ar d loop=0):
  stmtT (shP p) res s' k t (if k=1\/k=2 then zba nm (if k=1 then(nm,nthM c)::N else N)else nm) (zV N ar) d loop=0:=by
 unfold stmtT at hz ⊢;rw[ren_arg0];by_cases k1:k=4\/k=5
 ·rw[if_pos k1]at hz ⊢;exact zKd h hN.1 hz
 rw[if_neg k1]at hz ⊢;by_cases k2:k=8
 ·rw[if_pos k2]at hz ⊢;exact zKd h hN.1 hz
 rw[if_neg k2]at hz ⊢;by_cases k3:k=9
 ·rw[if_pos k3]at hz ⊢;exact zKd h hN.1 hz
 rw[if_neg k3]at hz ⊢;by_cases k4:k=10
 ·rw[if_pos k4]at hz ⊢;rw[expr_typJ h hN.1 _ hz];exact hz
 rw[if_neg k4]at hz ⊢;by_cases k5:k=6\/k=7
 ·rw[if_pos k5]at hz ⊢;exact hz
 rw[if_neg k5]at hz ⊢;unfold boundT at hz ⊢;rw[ren_arg0,ren_arg1];by_cases q1:k=1
 ·subst q1;simp only[if_true,true_or]at hz ⊢;split at hz
  ·rename_i h1;exact absurd hz h1
  rename_i h1;have hf:zba nm ((nm,nthM c)::N)=nthM c:=by simp[zba]
  rw[if_neg (by rw[zKd h hN.1 (by simpa using h1)];simp),hf,h.freshJ hN hc]
 simp only[q1,if_false,false_or]at hz ⊢;by_cases q2:k=2
 ·subst q2;simp only[if_true]at hz ⊢;have hf:zIa s nm≠ []:=by intro e;rw[e]at hz;cases hz
  obtain⟨v,r,v',r',e1,e2,e3,_⟩:=h.find hN.1 hf;rw[e1]at hz;rw[e2];simp only at hz ⊢;rw[e3];exact zKd h hN.1 hz
 simp only[q2,if_false]at hz ⊢;have ha:znb (shP p) nm=znb p nm:=rfl;rw[ha];split at hz
 ·cases hz
 rename_i h3;rw[if_neg h3];split at hz
 ·rename_i h4;exact absurd hz h4
 rename_i h4;rw[if_neg (by rw[zKd h hN.1 (by simpa using h4)];simp)];exact zKd h hN.1 hz
mutual
theorem block1_typJ{p:Prog}{res:Int}:∀(x:Stmt) (N:Nm) (c:Nat) (s s':List Vr) (d:Int) (loop:Bool) (n n':Int),RV N s s'->NJ N c->c+wtS x<=4000000000000->(zec p res x s d loop n).1=0->(zec (shP p) res (shS x N c).1 s' d loop n').1=0
 |⟨k,t,nm,ar,th,el⟩,N,c,s,s',d,loop,n,n',h,hN,hc,hz=>by
  have hw:=zta ⟨k,t,nm,ar,th,el⟩;simp only at hw;rw[zec]at hz;simp only[shS];rw[zec];split at hz
  ·rename_i h1;exact absurd hz h1
  rename_i h1;rw[if_neg (by rw[stmt_typJ h hN (by omega) (by simpa using h1)];simp)];simp only at hz ⊢;have hb:=zxd th (if k=1 then(nm,nthM c)::N else N) (if k=1 then c+1 else c);have hc1:(if k=1 then c+1 else c)<=c+1:=by split<;>omega
  have hN1:NJ (if k=1 then(nm,nthM c)::N else N) (if k=1 then c+1 else c):=by
   split
   ·exact hN.next (by omega) nm
   ·exact hN
  have h1:RV (if k=1 then(nm,nthM c)::N else N) (if k=1 then⟨nm,t,d⟩::s else s) (if k=1 then⟨if k=1\/k=2 then zba nm (if k=1 then(nm,nthM c)::N else N)else nm,t,d⟩::s' else s'):=by
   by_cases k1:k=1
   ·subst k1;simp only[if_true,true_or];have hf:zba nm ((nm,nthM c)::N)=nthM c:=by simp[zba]
    rw[hf];exact .cons _ _ _ _ h
   ·simp only[k1,if_false];exact h
  generalize(if k=1 then Vr.mk nm t d::s else s)=s1 at*;generalize(if k=1 then Vr.mk (if k=1\/k=2 then zba nm (if k=1 then(nm,nthM c)::N else N)else nm) t d::s' else s')=s1' at*;split at hz
  ·rename_i h2;exact absurd hz h2
  rename_i h2;have e1:=zrf (p:=p) (res:=res) th _ _ _ _ (d+1) (loop||decide (k=5)) (n+1) (n'+1) h1 hN1 (by omega) (by simpa using h2);rw[if_neg (by rw[e1];simp)];exact zrf el _ _ _ _ (d+1) loop _ _ h1 (hN1.le hb.2.1) (by omega) hz
theorem zrf{p:Prog}{res:Int}:∀(l:List Stmt) (N:Nm) (c:Nat) (s s':List Vr) (d:Int) (loop:Bool) (n n':Int),RV N s s'->NJ N c->c+wtSs l<=4000000000000->(zca p res l s d loop n).1=0->(zca (shP p) res (shB l N c).1 s' d loop n').1=0
 | [],N,c,s,s',d,loop,n,n',_,_,_,_=>by simp[shB,zca]
 |x::r,N,c,s,s',d,loop,n,n',h,hN,hc,hz=>by
  have hw:wtSs (x::r)=1+wtS x+wtSs r:=rfl;have hb:=renS_bdJ x N c;rw[zTb]at hz;split at hz
  ·rename_i h1;exact absurd hz h1
  rename_i h1;have e1:=block1_typJ (p:=p) (res:=res) x N c s s' d loop n n' h hN (by omega) (by simpa using h1);simp only[shB];rw[zTb,if_neg (by rw[e1];simp)];have h2:RV (shS x N c).2.1 (zpa d x s) (zpa d (shS x N c).1 s'):=by
   obtain⟨k,t,nm,ar,th,el⟩:=x;simp only[shS,zpa];by_cases k1:k=1
   ·subst k1;simp only[if_true,true_or];have hf:zba nm ((nm,nthM c)::N)=nthM c:=by simp[zba]
    rw[hf];exact .cons _ _ _ _ h
   ·simp only[k1,if_false];exact h
  exact zrf r _ _ _ _ d loop _ _ h2 (ni_renJ x N c hN (by omega)) (by omega) hz
end
theorem pars_newsJ:∀(ps:List Par) (N:Nm) (c:Nat),(shPs ps N c).2.1.map (·.2)=((shPs ps N c).1.map (·.name)).reverse++N.map (·.2)
 | [],N,c=>by simp[shPs]
 |x::r,N,c=>by
  have:=pars_newsJ r ((x.name,nthM c)::N) (c+1);simp only[shPs,this];simp
theorem pars_rvJ:∀(ps:List Par) (N:Nm) (c:Nat) (s s':List Vr),RV N s s'->RV (shPs ps N c).2.1 (ps.foldl (fun s p=>⟨p.name,p.type,0⟩::s) s) ((shPs ps N c).1.foldl (fun s p=>⟨p.name,p.type,0⟩::s) s')
 | [],N,c,s,s',h=>by simpa[shPs]using h
 |x::r,N,c,s,s',h=>by
  have:=pars_rvJ r ((x.name,nthM c)::N) (c+1) _ _ (.cons x.name (nthM c) x.type 0 h);simpa[shPs]using this
theorem func_renJ(p:Prog)(hz:PSz p)(f:Func)(hf:f∈p.funcs)(h:(zob p f).1=0):(zob (shP p) (shF f)).1=0:=by
 have hzf:=hz.2.2 f hf;have hl:=zWc f.params [] 0;have hn:=ni_parsJ f.params [] 0 ⟨by simp,fun x h=>by simp at h⟩ (by omega);unfold zob at h ⊢;have ht:twiceM (shF f).params=false:=by
  unfold twiceM;have:=hn.1;rw[pars_newsJ]at this;simp only[yxa,List.append_nil]at this;have this:=(List.reverse_perm _).nodup_iff.1 this;show(!decide (((shPs f.params [] 0).1.map (·.name)).Nodup))=false
  rw[decide_eq_true this];rfl
 rw[ht];split at h
 ·cases h
 simp only at h ⊢;have he:zMb (shF f).body=zMb f.body:=endsT_renJ f.body _ _;have hrv:=pars_rvJ f.params [] 0 [] [] .nil;by_cases hb:(zca p f.type f.body (zX f.params) 1 false 0).1=0
 ·have hb':(zca (shP p) f.type (shF f).body (zX (shF f).params) 1 false 0).1=0:=zrf f.body _ _ _ _ 1 false 0 0 hrv hn (by omega) hb;rw[hb]at h;show(if(zca (shP p) f.type (shF f).body (zX (shF f).params) 1 false 0).1=0/\zMb (shF f).body=false then 52 else(zca (shP p) f.type (shF f).body (zX (shF f).params) 1 false 0).1)=0
  rw[hb',he];exact h
 ·simp[hb]at h
theorem check_renJ(p:Prog)(hz:PSz p)(h:(zQa p).1=0):(zQa (shP p)).1=0:=by
 unfold zQa at h ⊢;split at h
 case isFalse=>cases h
 rename_i h1;split at h
 case isFalse=>cases h
 rename_i h2;rw[if_pos (right_renJ p hz h1),named_renJ,if_pos h2];refine checkGo_zero _ _ _ fun g hg=>?_
 obtain⟨f,hf,rfl⟩:=yHa.1 hg;exact func_renJ p hz f hf (checkGo_ok p p.funcs 0 h f hf)
theorem NJ.short{N:Nm}{c:Nat}(h:NJ N c)(hc:c<100000000000):NL N:=by
 intro x hx;obtain⟨i,hi,rfl⟩:=h.2 x hx;exact nthM_len (by omega)
mutual
theorem wtS_renJ:∀(s:Stmt) (N:Nm) (c:Nat),NJ N c->c+wtS s<100000000000->wtS (shS s N c).1<=13*wtS s
 |⟨k,ty,nm,ar,th,el⟩,N,c,hN,hc=>by
  have hw:=zta ⟨k,ty,nm,ar,th,el⟩;simp only at hw;have hN1:NJ (if k=1 then(nm,nthM c)::N else N) (if k=1 then c+1 else c):=by
   split
   ·exact hN.next (by omega) nm
   ·exact hN
  have hc1:(if k=1 then c+1 else c)<=c+1:=by split<;>omega
  have hb:=zxd th (if k=1 then(nm,nthM c)::N else N) (if k=1 then c+1 else c);have h1:=wtEs_ren (hN.short (by omega)) ar;have h2:=findN_len (hN1.short (by omega)) nm;have h3:=wtSs_renJ th _ _ hN1 (by omega);have h4:=wtSs_renJ el _ _ (hN1.le hb.2.1) (by omega);simp only[shS];rw[wtS,hw];split<;>omega
theorem wtSs_renJ:∀(l:List Stmt) (N:Nm) (c:Nat),NJ N c->c+wtSs l<100000000000->wtSs (shB l N c).1<=13*wtSs l
 | [],N,c,_,_=>by simp[shB,wtSs]
 |x::r,N,c,hN,hc=>by
  have hw:wtSs (x::r)=1+wtS x+wtSs r:=rfl;have hb:=renS_bdJ x N c;have h1:=wtS_renJ x N c hN (by omega);have h2:=wtSs_renJ r _ _ (ni_renJ x N c hN (by omega)) (by omega);simp only[shB];rw[wtSs,hw];omega
end
theorem psz_renJ(p:Prog)(h:PSm p):PSz (shP p):=by
 obtain⟨h1,h2,h3⟩:=h;refine⟨h1,by show(p.funcs.map shF).length<_;simpa using h2,?_⟩;intro g hg;obtain⟨f,hf,rfl⟩:=yHa.1 hg;have hl:=zWc f.params [] 0;have hb:=h3 f hf;have hw:=wtSs_renJ f.body _ _ (ni_parsJ f.params [] 0 ⟨by simp,fun x h=>by simp at h⟩ (by omega)) (by omega);refine⟨?_,?_⟩
 ·show wtSs (shB f.body (shPs f.params [] 0).2.1 (shPs f.params [] 0).2.2).1<_
  omega
 ·show(shPs f.params [] 0).1.length<_
  omega
set_option maxHeartbeats 2000000 in
theorem sameEs_self:∀(w:Nat) (l:List Expr),wtEs l<=w->w<1099511000000->zi E 71 [ze l,ze l] []=some (.ret (.bool true),[]):=by
 intro w
 induction w using yFa with
 |_ w IH=>
 intro l h hw;refine zd rfl rfl rfl (by simp[ze]) ?_;have hlen:=zXb l;simp[F71,ze];refine zG l K71_0 B71_0 (fun d=>[(5,.int .i64 d.length)]) (fun _=>[]) (fun d=>True) (by omega) (by simp) ?_ ?_
 ·intros d x r s1 hl' hlt hget hget' hw1 hp h1 h2 h3 h4;simp at h1 h2 h3;have hwx:=zAb hl'.mem;have hwe:=zvd x;have ih:=IH (wtEs x.args) (by omega) x.args (yd _) (by omega);have hdec:decide (d.length<l.length)=true:=decide_eq_true hlt;clear IH hl' hwx hwe h h2;simp[ze]at ih;simp[*,za,ze]
 ·intros s1 hp h1 h2 h3 h4;simp at h1 h2 h3;simp[*]
set_option maxHeartbeats 2000000 in
theorem sameSs_self:∀(w:Nat) (l:List Stmt),wtSs l<=w->w<1099511000000->zi E 37 [zg l,zg l] []=some (.ret (.bool true),[]):=by
 intro w
 induction w using yFa with
 |_ w IH=>
 intro l h hw;refine zd rfl rfl rfl (by simp[zg]) ?_;have hlen:=zra l;simp[F37,zg];refine zG l K37_0 B37_0 (fun d=>[(5,.int .i64 d.length)]) (fun _=>[]) (fun d=>True) (by omega) (by simp) ?_ ?_
 ·intros d x r s1 hl' hlt hget hget' hw1 hp h1 h2 h3 h4;simp at h1 h2 h3;have hwx:=zSc hl'.mem;have hwe:=zta x;have ih1:=IH (wtSs x.thn) (by omega) x.thn (yd _) (by omega);have ih2:=IH (wtSs x.els) (by omega) x.els (yd _) (by omega);have ie:=sameEs_self (wtEs x.args) x.args (yd _) (by omega);have hdec:decide (d.length<l.length)=true:=decide_eq_true hlt;clear IH hl' hwx hwe h h2;simp[ze,zg]at ih1 ih2 ie;simp[*,zb,ze,zg]
 ·intros s1 hp h1 h2 h3 h4;simp at h1 h2 h3;simp[*]
set_option maxHeartbeats 4000000 in
theorem same03_self(p:Prog)(hz:PSz p):zi E 16 [zf p,zf p] []=some (.ret (.bool true),[]):=by
 refine zd rfl rfl rfl (by simp[zf]) ?_;obtain⟨ars,fs⟩:=p;obtain⟨z1,z2,z3⟩:=hz;simp only at z1 z2 z3;simp[F16,zf,zia,funcs];refine zG ars K16_0 B16_0 (fun d=>[(5,.int .i64 d.length)]) (fun _=>[]) (fun d=>True) (by omega) (by simp) ?_ ?_
 ·intros d x r s1 hl' hlt hget hget' hw1 hp h1 h2 h3 h4;simp at h1 h2 h3;have hdec:decide (d.length<ars.length)=true:=decide_eq_true hlt;clear hl' z3;obtain⟨nm,sz⟩:=x;simp[*,zK]
 ·intros s1 hp h1 h2 h3 h4;simp at h1 h2 h3;simp[*];refine zG fs K16_2 B16_2 (fun d=>[(6,.int .i64 d.length)]) (fun _=>[]) (fun d=>True) (by omega) (by simp) ?_ ?_
  ·intros d x r s2 hl' hlt hget hget' hw1 kp k1 k2 k3 k4;simp at k1 k2 k3;have hzx:=z3 x hl'.mem;have hdec:decide (d.length<fs.length)=true:=decide_eq_true hlt;obtain⟨fnm,fty,ps,body⟩:=x;simp only at hzx;have ib:=sameSs_self (wtSs body) body (yd _) (by omega);simp[zg]at ib;clear hl' z3;simp[*,zl,parsV,zg];refine zG ps K16_1 B16_1 (fun e=>[(9,.int .i64 e.length)]) (fun _=>[]) (fun e=>True) (by omega) (by simp) ?_ ?_
   ·intros e y r' s3 jl jlt jget jget' jw1 jp j1 j2 j3 j4;simp at j1 j2 j3;have jdec:decide (e.length<ps.length)=true:=decide_eq_true jlt;obtain⟨ynm,yty⟩:=y;clear jl hzx;simp[*,encPar]
   ·intros s3 jp j1 j2 j3 j4;simp at j1 j2 j3;simp[*]
  ·intros s2 kp k1 k2 k3 k4;simp at k1 k2 k3;simp[*]
theorem parse_psm(s:List UInt8):PSm (zmc s).1:=by
 have h0:PSm ⟨[],[]⟩:=⟨by simp,by simp,by simp⟩
 unfold zmc;split
 ·rename_i h;obtain⟨v,p',e,I',hz⟩:=parse_run s h;rw[e];have hz2:PSm v:=by
   have I:=tokens_inv s h;have hc:=tokens_count s h;have hS:=tokens_short s;have hf:fuel (zO s).1<=6400164:=by unfold fuel;omega
   obtain⟨a1,a2,a3⟩:=prog_wt hS _ _ _ _ _ _ (by omega) I e (fuel (zO s).1) (yd _) (by simp);have hm:100008*(zO s).1.length<=100008*100001:=yIa _ hc;refine⟨hz.1,hz.2.1,fun f hff=>?_⟩;obtain⟨b1,b2⟩:=a3 f hff;exact⟨by omega,by omega⟩
  simp only;split
  ·exact h0
  split
  ·exact h0
  split
  ·exact hz2
  ·exact h0
 ·exact h0
def u8s(l:List UInt8):PV:= .slice .plain 1 (l.map fun b=> .int .u8 b.toNat)
section
variable (l:List UInt8)
@[simp high] theorem isVar_u8s:zE (u8s l)=true:=ye rfl rfl
@[simp high] theorem strip_u8s:strip (u8s l)=u8s l:=ye rfl rfl
@[simp high] theorem stripA_u8s:stripA (u8s l)=u8s l:=ye rfl rfl
@[simp high] theorem bl_u8(n:Nat):zJ n (l.map fun b=>PV.int .u8 b.toNat)=true:=zab _ _ _ (fun _=>rfl)
@[simp high] theorem below_u8s(n:Nat):zx n (u8s l)=true:=by simp[u8s]
end
theorem remNat(a b:Nat):remK (a:Int) (b:Int)=((a%b:Nat):Int):=by rw[remK_eq];rfl
def mob(l:List UInt8)(i:Nat):zc:=[.arr 2 [.agg [u8s l,.int .i64 i]]]
def pickM(l:List UInt8)(i n:Nat):Nat:=if l.length<i+1\/120<i+1 then 0 else(l[i]?.getD 0).toNat%n
theorem pick_spec(l:List UInt8)(i n:Nat)(hn:0<n/\n<=1000)(hi:i<=1000000000000)(hl:l.length<=9223372036854775807):
  zi E 49 [.ptr 0 0 0,.int .i64 n] (mob l i)=some (.ret (.int .i64 (pickM l i n)),mob l (i+1)):=by
 refine zd rfl rfl rfl (by simp) ?_;have hw:zC .i64 ((i:Int)+1)=(i:Int)+1:=zj (by omega) (by omega);by_cases h1:l.length<i+1
 ·have k1:((l.length:Int)<(i:Int)+1)=True:=eqp (by omega);have h2:pickM l i n=0:=by simp[pickM,h1]
  clear h1;simp[*,F49,mob,u8s]
 ·have k1:((l.length:Int)<(i:Int)+1)=False:=eqn (by omega);by_cases h3:120<i+1
  ·have k3:((120:Int)<(i:Int)+1)=True:=eqp (by omega);have h2:pickM l i n=0:=by simp only[pickM,h3,or_true,if_true]
   clear h1 h3;simp[*,F49,mob,u8s]
  ·have k3:((120:Int)<(i:Int)+1)=False:=eqn (by omega);obtain⟨b,hb⟩:∃b,l[i]? =some b:=⟨_,yg (by omega)⟩
   have h2:pickM l i n=b.toNat%n:=by simp only[pickM,h1,h3,or_self,if_false,hb,yoa]
   have hr:remK (b.toNat:Int) (n:Int)=((b.toNat%n:Nat):Int):=remNat _ _;have hw2:zC .i64 (i:Int)=(i:Int):=zj (by omega) (by omega);have hn0:(n=0)=False:=eqn (by omega);clear h1 h3 hl;simp[*,F49,mob,u8s]
theorem zRb(l:List UInt8)(i n:Nat)(hn:0<n/\n<=1000)(hi:i<=1000000000000)(hl:l.length<=9223372036854775807):
  ∃k:Nat,k<n/\zi E 49 [.ptr 0 0 0,.int .i64 n] (mob l i)=some (.ret (.int .i64 k),mob l (i+1)):=by
 refine⟨_,?_,pick_spec l i n hn hi hl⟩;unfold pickM;split
 ·omega
 ·exact Nat.mod_lt _ hn.1
end PE.U
