/-
  Texts joined by program: AKR1, AKR2, AKR3, AKR4, AKT10, AKT11, AKR5, AKR6, AKM4a, AKN6a, AKN4u, AKT5a, AKN5, AKN6u, AKK0, AKY2, AKT11a, AKM5a, AKM9, AKK1, AKK2, AKS3a, AKK3, AKY0, AKT14, AKL1, AKL2, AKY3, AKY4, AKP21, AKP22, AKP23, AKP24, AKP25, AKP26, AKP27, AKP28, AKP29, AKT13a, AKW1, AKV1, AKV2, AKV3, AKY5, AKY6, AKM4u, AKY7, AKM10, AKM11, AKM12, AKM13, AKY8, AKK9, AKK10, AKK11, AKK12, AKK13, AKS1, AKM13b, AKT12, AKJ4.
-/
import Derived.Test.YthfognkjnkadeaaGreatDoorB04
import Derived.Lib.AtoiAll
import Derived.Lib.Bytealg
import Derived.Lib.IndexMore
import Derived.Laws.BitsLemmas
set_option linter.unusedVariables false
set_option linter.unusedSectionVars false
set_option linter.unusedSimpArgs false
open BitVec renaming ofInt→yfa
open Bool renaming and_eq_true→yb,false_or→yL,not_eq_true'→yJ,or_eq_true→yP
open Eq renaming trans→yd
open Go.IntKind renaming wrap→yFa
open List renaming all_append→yX,all_cons→yta,all_eq_true→yu,append_assoc→yO,cons_append→yU,contains_eq_any_beq→ydb,eq_nil_of_length_eq_zero→yz,ext_getElem?→yka,find?_eq_none→yba,getElem?_append_left→yh,getElem?_append_right→yg,getElem?_drop→yG,getElem?_eq_getElem→yf,getElem?_eq_none→yZ,getElem?_eq_some_iff→ya,getElem?_map→yo,getElem?_set_ne→yl,getElem?_set_self→ym,getElem?_take_of_lt→yoa,length_append→yi,length_cons→yj,length_drop→yva,length_eq_one_iff→yN,length_eq_zero_iff→yaa,length_map→yr,length_nil→yn,length_pos_iff→yha,length_singleton→yH,map_append→yca,map_cons→yv,map_nil→yxa,mem_append→yx,mem_cons→yB,mem_of_getElem?→yR,mem_singleton→yI,nil_append→ysa,nodup_append→yQa,range→yD,replicate→yya,reverse_cons→yGa,set_append_right→yda,set_getElem_self→yMa,set_set→yWa,takeWhile_cons→ywa,takeWhile_prefix→yLa,take_add_one→yPa,take_of_length_le→yy
open Nat renaming le_refl→ye,lt_or_ge→yA,lt_succ_self→yY,mod_lt→yna,mul_le_mul_left→yCa,strongRecOn→yia,zero_add→yT
open Option renaming getD_some→yea,map_some→yW
open Or renaming inl→yOa,inr→yUa
open UInt8 renaming ofNat→yw
namespace PE.U
open Go PE
def skOf:List PV->SK
 | []=> .fit
 |_=> .plain
theorem zPb(sz:Nat)(l:List PV):strip (acc sz l)= .slice (skOf l) sz l:=by cases l<;>rfl
def sq1:ICode->ICode
 | .seq a _=>a
 |c=>c
def sq2:ICode->ICode
 | .seq _ b=>b
 |c=>c
theorem zEe(p:Prog)(nm:List UInt8)(hl:p.funcs.length<1099511627776):zj E 41 [ze p,.str nm] []=some (.ret (.int .i64 (zya p nm)),[]):=by
 refine zc rfl rfl rfl (by simp[ze]) ?_;simp[F41,ze,funcs];refine zD p.funcs K41_0 B41_0 (fun d=>[(5,.int .i64 d.length)]) (fun _=>[]) (fun d=>∀y∈d,decide (y.name=nm)=false) (by omega) (by simp) ?_ ?_
 ·intros d x r s1 hl' hlt hget hget' hw hp h1 h2 h3 h4;simp at h1 h2 h3;by_cases hx:x.name=nm
  ·have hh:zya p nm=d.length:=idx_hit hl' hp (decide_eq_true hx);rw[hh];replace hx:=eqp hx;clear hp hh hl';simp[*,zl]
  ·have hnx:∀y∈d++[x],¬y.name=nm:=by
    intro y hy;rcases yx.1 hy with h|h
    ·exact of_decide_eq_false (hp y h)
    ·rw[yI.1 h];exact hx
   replace hx:=eqn hx;clear hp hl';simp[*,zl]
   all_goals(try grind)
 ·intros s1 hp h1 h2 h3 h4;have hh:zya p nm= -1:=zWd hp;rw[hh];simp at h1 h2 h3;clear hp hh;simp[*]
theorem rarray_spec(p:Prog)(nm:List UInt8)(hl:p.arrays.length<1099511627776):zj E 98 [ze p,.str nm] []=some (.ret (.int .i64 (zdb p nm)),[]):=by
 refine zc rfl rfl rfl (by simp[ze]) ?_;simp[F98,ze,zZ];refine zD p.arrays K98_0 B98_0 (fun d=>[(5,.int .i64 d.length)]) (fun _=>[]) (fun d=>∀y∈d,decide (y.name=nm)=false) (by omega) (by simp) ?_ ?_
 ·intros d x r s1 hl' hlt hget hget' hw hp h1 h2 h3 h4;simp at h1 h2 h3;by_cases hx:x.name=nm
  ·have hh:zdb p nm=d.length:=idx_hit hl' hp (decide_eq_true hx);rw[hh];replace hx:=eqp hx;clear hp hh hl';simp[*,zH]
  ·have hnx:∀y∈d++[x],¬y.name=nm:=by
    intro y hy;rcases yx.1 hy with h|h
    ·exact of_decide_eq_false (hp y h)
    ·rw[yI.1 h];exact hx
   replace hx:=eqn hx;clear hp hl';simp[*,zH]
   all_goals(try grind)
 ·intros s1 hp h1 h2 h3 h4;have hh:zdb p nm= -1:=zWd hp;rw[hh];simp at h1 h2 h3;clear hp hh;simp[*]
def operR(op:Int):Int×Int:=
 if op=18\/op=19\/op=22 then(2,2)
 else if op=16\/op=17 then(0,2)
 else if 12<=op/\op<=15 then(1,2)
 else(1,1)
theorem oper_spec(op:Int):zj E 155 [.int .i64 op] []=some (.ret (.tup [.int .i64 (operR op).1,.int .i64 (operR op).2]),[]):=by
 refine zc rfl rfl rfl (by simp) ?_;unfold operR
 (simp[*,F155])<;>(repeat' (first|((first|refine sP _ ?_ ?_|refine gP _ ?_ ?_|refine sN _ ?_ ?_|refine gN _ ?_ ?_)<;>intro hc<;>(first|replace hc:=eqn hc|replace hc:=eqp hc)<;>simp[*,F155])|((first|refine sM _ ?_ ?_|refine gM _ ?_ ?_|refine sB _ ?_ ?_|refine gB _ ?_ ?_)<;>intro hc<;>simp[*,F155])))
 all_goals(try grind)
def parOf(v:Vr):Par:=⟨v.name,v.type⟩
def zna(s:List Vr):List Par:=(s.map parOf).reverse
theorem zsb(s:List Vr):(zna s).length=s.length:=by simp[zna]
theorem zrd(v:Vr)(s:List Vr):zna (v::s)=zna s++[parOf v]:=by simp[zna]
theorem varsOf_append(a b:List Vr):zna (a++b)=zna b++zna a:=by simp[zna]
theorem varsOf_get(d:List Vr)(v:Vr)(r:List Vr):(zna (d++v::r))[r.length]? =some (parOf v):=by
 rw[varsOf_append,zrd,yO,yg (by rw[zsb];omega),zsb];simp
def typeV(s:List Vr)(nm:List UInt8):Int:=((zKa s nm).head?.map (·.type)).getD 0
structure FV where
 d:List Vr
 c:List Vr
theorem rfind_spec(s:List Vr)(nm:List UInt8)(hl:s.length<1099511627776):zj E 73 [parsV (zna s),.str nm] []=some (.ret (.tup [.int .i64 (typeV s nm),.bool (!decide (zKa s nm=[]))]),[]):=by
 refine zc rfl rfl rfl (by simp[parsV]) ?_;have hvl:=zsb s;have hw0:zA .i64 ((s.length:Int)-1)=(s.length:Int)-1:=zi (by omega) (by omega);simp[F73,parsV,hvl,hw0];refine zU K73_0 B73_0 (fun c:FV=>c.c.length) (fun c=>[(6,.int .i64 ((c.c.length:Int)-1))]) (fun c=>[]) (fun c=>[]) (fun c=>zKa c.c nm=zKa s nm/\s=c.d++c.c) ⟨[],s⟩ (by simp) ?_
 rintro⟨d,c⟩ s1 ⟨hc,hs⟩ h1 h2 h3 h4 h5
 simp at h1 h3 h5 hc hs;clear h2 h4;unfold typeV;rw[<-hc];cases c with
 |nil=>
  simp at h3;clear hc hs;simp[*,zKa]
 |cons v r=>
  have hg:=varsOf_get d v r;rw[<-hs]at hg;have hlen:r.length+d.length<1099511627776:=by
   have:=congrArg List.length hs;simp at this;omega
  have e1:(((v::r).length:Int)-1)=r.length:=by simp
  rw[e1]at h3;have hw:zA .i64 ((r.length:Int)-1)=(r.length:Int)-1:=zi (by omega) (by omega);rw[zgc]at hc ⊢;by_cases hn:v.name=nm
  ·rw[if_pos hn];replace hn:=eqp hn;clear hc hs hvl hlen e1;simp[*,encPar,parOf]
  ·rw[if_neg hn]at hc ⊢;replace hn:=eqn hn;have hk:∃d',s=d'++r:=⟨d++[v],by rw[hs];simp⟩
   obtain⟨d',hd'⟩:=hk;clear hs hvl hlen e1;simp[*,encPar,parOf,-hd'];exact⟨⟨d',r⟩,by simp,rfl,hc,hd'⟩
def okR(tk:Int)(l:List Int)(y:Int):Bool:= !((!decide (tk=0)&& !decide (y=tk))|| !decide (y=at0 l))
theorem made_oper(p:Prog)(s:List Vr)(k o:Int)(nm:List UInt8)(l:List Int)(h:(k=4/\l.length=1)\/(k=5/\l.length=2)):zre p s k o nm l=((operR o).2,l.all (okR (operR o).1 l)):=by
 have hk:k=4\/k=5:=by rcases h with h|h<;>simp[h.1]
 have key:∀x:Int,(takesT o x).1=(operR o).2/\((takesT o x).2=true<->((operR o).1=0\/x=(operR o).1)):=by
  intro x;unfold takesT operR;split
  ·simp
  split
  ·simp
  split
  ·rw[if_pos (by omega)];simp
  ·rw[if_neg (by omega)];simp
 obtain⟨k1,k2⟩:=key (at0 l);rcases h with⟨rfl,hl⟩|⟨rfl,hl⟩
 ·obtain⟨x,rfl⟩:=yN.1 hl;unfold zre;simp only[show¬(4:Int)=2 from by decide,show¬(4:Int)=3 from by decide,show¬(4:Int)=6 from by decide,if_false,if_true];refine Prod.ext k1 ?_;simp only;rw[Bool.eq_iff_iff,k2];simp[okR,at0]
 ·obtain⟨x,y,rfl⟩:∃x y,l=[x,y]:=by
   match l,hl with
   | [x,y],_=>exact⟨x,y,rfl⟩
  unfold zre;simp only[show¬(5:Int)=2 from by decide,show¬(5:Int)=3 from by decide,show¬(5:Int)=6 from by decide,show¬(5:Int)=4 from by decide,if_false,if_true];refine Prod.ext k1 ?_;simp only;rw[Bool.eq_iff_iff,yb,k2];simp[okR,at0,at1];grind
def typeTail:ICode:=sq2 (sq2 (sq2 (sq2 F124.body)))
set_option maxRecDepth 20000 in
set_option maxHeartbeats 8000000 in
theorem type_tail(p:Prog)(s:List Vr)(e:Expr)(m:Int)(hz:Fit p)(hw:wtE e<1099510000000)(hm:zWb e.args m=true)(hk:kindR e.kind e.op e.n e.name e.args.length=true)(h0:zec p s e.kind e.name e.args.length=0)
  (IH:∀x∈e.args,∀m,zmb x m=true->zj E 124 [ze p,parsV (zna s),zo x] []=some (.ret (zeb (zXb p s x)),[]))
  (s1:St) (b1:s1.bx 3= .cells [zZ p.arrays,funcs p.funcs]) (b2:s1.bx 5= .cells [.int .i64 e.kind,.int .i64 e.op,.int .i64 e.n,.str e.name,zf e.args])
  (t1:s1.fr 1=parsV (zna s)) (t3:s1.fr 3= .lptr 3 0) (t5:s1.fr 5= .lptr 5 0) (t8:s1.fr 8= .int .i64 (zya p e.name)) (t9:s1.fr 9= .int .i64 (typeV s e.name)) (st:s1.st=[]):
  zoa (exec (zj E) typeTail s1) (leaveQ F124.res false 0 (isR (.ret (zeb (zXb p s e)),[]))):=by
 have hla:=zxb e.args;rw[zed]at hw;obtain⟨fr,bx,st'⟩:=s1;simp only at b1 b2 t1 t3 t5 t8 t9 st;subst st;have hT:=(exprT_eq p s e).symm;rw[if_neg (by rw[h0];simp)]at hT;generalize zXb p s e=R at hT ⊢;simp[typeTail,sq2,F124,zf]at b2 ⊢;refine zD e.args K124_0 B124_0 (fun d=>[(11,acc 1 ((zob p s d).1.map (PV.int .i64))),(12,.int .i64 d.length)]) (fun _=>[]) (fun d=>(zob p s d).2=0) (by omega) (by simp[zob]) ?_ ?_
 ·intros d x r s1 hl' hlt hget hget' hw1 hp h1 h2 h3 h4;have hx:zmb x (m-1)=true:=by
   rw[exprsR_all,yu]at hm;have:=hm x hl'.mem;simp at this;exact this.2
  have ih:=IH x hl'.mem _ hx;have hlen:=argsT_len p s d hp;obtain⟨f1,f2⟩:=argsT_pre p s x r d hp;rw[<-hl'.eq]at f1;clear IH hm hx hl' hk h0;rw[za]at ih;simp[zeb,ze,zf]at ih;simp at h1 h2 h3;have hroom:(d.length+1)*8<=zn:=by simp only[zn];omega
  generalize zXb p s x=q at*;obtain⟨t,f⟩:=q;simp only at ih f1 f2;by_cases hf:f=0
  ·subst hf;have f2:=f2 rfl;clear f1 hT;simp[*,za,zf]
   all_goals(try grind)
  ·have f1:=f1 hf;clear f2;rw[f1]at hT;simp[hf]at hT;replace hf:=eqn hf;clear f1;subst hT;simp[*,za,zf,zeb]
 intros s1 hp h1 h2 h3 h4;have hlen:=argsT_len p s e.args hp;rw[if_neg (by rw[hp];simp)]at hT;rw[<-hlen]at hk;generalize(zob p s e.args).1=l at*;simp at h1 h2 h3;clear IH hm hp;by_cases k2:e.kind=2
 ·replace k2:=eqp k2;simp[zre,k2]at hT;clear hk h0;subst hT;simp[*,zeb]
 by_cases k3:e.kind=3
 ·have hv:zre p s e.kind e.op e.name l=(typeV s e.name,true):=by unfold zre;rw[if_neg k2,if_pos k3];rfl
  rw[hv]at hT;simp at hT;replace k2:=eqn k2;replace k3:=eqp k3;clear hk h0 hv;subst hT;simp[*,zeb]
 by_cases k7:e.kind=7
 ·have hl1:l.length<=8:=by
   unfold kindR at hk;simp[k2,k3,k7]at hk;exact hk.2.2
  rcases zAd (fun f:Func=>decide (f.name=e.name)) p.funcs with⟨a1,a2⟩|⟨n,f,a1,a2,a3,a4,a5⟩
  ·have a2:zfc p e.name=none:=a2;unfold zec at h0;rw[if_neg k3,if_neg (by omega),if_pos k7,a2]at h0;exact absurd h0 (by simp)
  ·have a1:zya p e.name=n:=a1;have a3:zfc p e.name=some f:=a3;have hpl:f.params.length=l.length:=by
    unfold zec at h0;rw[if_neg k3,if_neg (by omega),if_pos k7,a3]at h0;simp only at h0;split at h0
    ·omega
    ·exact absurd h0 (by decide)
   have hv:zre p s e.kind e.op e.name l=(f.type,decide (l=f.params.map (·.type))):=by
    unfold zre;rw[if_neg k2,if_neg k3,if_neg (by omega),if_neg (by omega),if_neg (by omega),if_pos k7,a3]
   rw[hv,types_eq hpl.symm]at hT;rw[a1]at t8;have n0:¬((n:Int)<0):=by omega
   have n1:(0<=(n:Int)):=by omega
   replace k2:=eqn k2;replace k3:=eqn k3;replace k7:=eqp k7;clear hk h0 hv a5 a4 a1 a3;simp[*,funcs];refine zD (l.zip f.params) K124_1 B124_1 (fun d=>[(15,.int .i64 d.length)]) (fun _=>[]) (fun d=>(d.all fun x=>decide (x.1=x.2.type))=true) (by simp;omega) ?_ ?_ ?_
   ·simp[*]
   ·intros d x r s2 hl' hlt hget hget' hw2 hp g1 g2 g3 g4;simp at g1 g2 g3;have hzz:(l.zip f.params)[d.length]? =some x:=hget;rw[List.getElem?_zip_eq_some]at hzz;obtain⟨z1,z2⟩:=hzz;obtain⟨x1,x2⟩:=x;simp only at z1 z2;have hz2:(l.zip f.params).length=l.length:=by simp[hpl]
    have hlt':(d.length:Int)<l.length:=by rw[hz2]at hlt;omega
    have hlt2:(d.length:Int)<e.args.length:=by omega
    by_cases hx:x1=x2.type
    ·replace hp:((d++[(x1,x2)]).all fun x=>decide (x.1=x.2.type))=true:=by rw[yX,hp];simp[hx]
     replace hx:=eqp hx;clear hl' hget hget' hlt hz2 hT;simp[*,zPb,zl,parsV,encPar,funcs]
     all_goals(try grind)
    ·have hf:((l.zip f.params).all fun x=>decide (x.1=x.2.type))=false:=by rw[hl'.eq];simp[hx]
     rw[hf]at hT;simp at hT;replace hx:=eqn hx;clear hl' hget hget' hp hlt hz2;subst hT;simp[*,zPb,zl,parsV,encPar,funcs,zeb]
   ·intros s2 hp g1 g2 g3 g4;simp at g1 g2 g3;rw[hp]at hT;simp at hT;have hz2:(l.zip f.params).length=l.length:=by simp[hpl]
    rw[hpl,Nat.min_self]at g3;have hnl:¬((l.length:Int)<l.length):=by omega
    clear hp hz2;subst hT;simp[*,zPb,zl,parsV,encPar,funcs,zeb]
 by_cases k6:e.kind=6
 ·have hl:l.length=1:=by
   unfold kindR at hk;simp[k2,k3,k6]at hk;exact hk.2.2
  obtain⟨x,rfl⟩:=yN.1 hl;have hv:zre p s e.kind e.op e.name [x]=(1,decide (x=1)):=by unfold zre;rw[if_neg k2,if_neg k3,if_pos k6];rfl
  rw[hv]at hT;replace k2:=eqn k2;replace k3:=eqn k3;replace k7:=eqn k7;replace k6:=eqp k6;clear hk h0 hv hl;by_cases hx:x=1
  ·subst hx;simp at hT;subst hT;simp[*,zeb]
  ·simp[hx]at hT;replace hx:=eqn hx;subst hT;simp[*,zeb]
 by_cases k45:e.kind=4\/e.kind=5
 ·have hll:(e.kind=4/\l.length=1)\/(e.kind=5/\l.length=2):=by
   rcases k45 with k|k
   ·left;refine⟨k,?_⟩;unfold kindR at hk;simp[k]at hk;exact hk.2.2.2
   ·right;refine⟨k,?_⟩;unfold kindR at hk;simp[k]at hk;exact hk.2.2.2
  rw[made_oper p s _ _ _ _ hll]at hT;have ho:=oper_spec e.op;have hl0:∃x r,l=x::r:=by
   rcases hll with⟨_,h⟩|⟨_,h⟩<;>cases l<;>simp at h ⊢
  have hl2:l.length<=2:=by rcases hll with⟨_,h⟩|⟨_,h⟩<;>omega
  obtain⟨x0,r0,hx0⟩:=hl0;have hat:at0 l=x0:=by rw[hx0];rfl
  have hg0:l[0]? =some x0:=by rw[hx0];rfl
  generalize operR e.op=oq at*;obtain⟨tk,mk⟩:=oq;simp only at hT ho;unfold okR at hT;rw[hat]at hT;replace k2:=eqn k2;replace k3:=eqn k3;replace k7:=eqn k7;replace k6:=eqn k6;clear hk h0 hat hx0 hll hlen hla hw hz;have k4':e.kind=5->(e.kind=4)=False:=fun h=>eqn (by omega)
  rcases k45 with k4|k4
  case' inl=>replace k4:=eqp k4;clear k4'
  case' inr=>replace k4':=k4' k4;replace k4:=eqp k4
  all_goals
   simp[*];refine zD l K124_2 B124_2 (fun d=>[(18,.int .i64 d.length)]) (fun _=>[]) (fun d=>(d.all fun y=> !((!decide (tk=0)&& !decide (y=tk))|| !decide (y=x0)))=true) (by omega) ?_ ?_ ?_
   ·simp[*]
   ·intros d x r s2 hl' hlt hget hget' hw2 hp g1 g2 g3 g4;simp at g1 g2 g3;have hbad:(!((!decide (tk=0)&& !decide (x=tk))|| !decide (x=x0)))=false->(l.all fun y=> !((!decide (tk=0)&& !decide (y=tk))|| !decide (y=x0)))=false:=by
     intro h;rw[hl'.eq,yX,yta,h];simp
    have hgood:(!((!decide (tk=0)&& !decide (x=tk))|| !decide (x=x0)))=true->((d++[x]).all fun y=> !((!decide (tk=0)&& !decide (y=tk))|| !decide (y=x0)))=true:=by
     intro h;rw[yX,hp,yta,h];simp
    clear hl' hp h1 h2 h3;by_cases c1:tk=0
    ·by_cases c2:x=x0
     ·replace hgood:=hgood (by simp[c1,c2]);replace c1:=eqp c1;replace c2:=eqp c2;clear hbad hT;simp[*,zPb]
      all_goals(try grind)
     ·rw[hbad (by simp[c2])]at hT;simp at hT;replace c1:=eqp c1;replace c2:=eqn c2;clear hbad hgood;subst hT;simp[*,zPb,zeb]
    ·by_cases c3:x=tk
     ·by_cases c2:x=x0
      ·replace hgood:=hgood (by rw[decide_eq_true c3,decide_eq_true c2];simp);replace c1:=eqn c1;replace c2:=eqp c2;replace c3:=eqp c3;clear hbad hT;simp[*,zPb]
       all_goals(try grind)
      ·rw[hbad (by simp[c2])]at hT;simp at hT;replace c1:=eqn c1;replace c2:=eqn c2;replace c3:=eqp c3;clear hbad hgood;subst hT;simp[*,zPb,zeb]
     ·rw[hbad (by simp[c1,c3])]at hT;simp at hT;replace c1:=eqn c1;replace c3:=eqn c3;clear hbad hgood;subst hT;simp[*,zPb,zeb]
   ·intros s2 hp g1 g2 g3 g4;simp at g1 g2 g3;rw[hp]at hT;simp at hT;clear hp h1 h2 h3;subst hT;simp[*,zPb,zeb]
 ·have k4:¬e.kind=4:=fun h=>k45 (yOa h)
  have k5:¬e.kind=5:=fun h=>k45 (yUa h)
  have hv:zre p s e.kind e.op e.name l=(1,true):=by unfold zre;rw[if_neg k2,if_neg k3,if_neg k6,if_neg k4,if_neg k5,if_neg k7]
  rw[hv]at hT;simp at hT;replace k2:=eqn k2;replace k3:=eqn k3;replace k7:=eqn k7;replace k6:=eqn k6;replace k4:=eqn k4;replace k5:=eqn k5;clear hk h0 hv k45;subst hT;simp[*,zPb,zeb]
set_option maxRecDepth 20000 in
set_option maxHeartbeats 8000000 in
theorem rTypeOf_spec':∀w (p:Prog) (s:List Vr) (e:Expr) (m:Int),Fit p->wtE e<=w->w<1099510000000->s.length<1099509000000->zmb e m=true->zj E 124 [ze p,parsV (zna s),zo e] []=some (.ret (zeb (zXb p s e)),[]):=by
 intro w
 induction w with
 |zero=>intro p s e m _ h _ _ _;rw[zed]at h;omega
 |succ w ih=>
  intro p s e m hz h hw hsl hR;rw[exprR_eq,yb]at hR;obtain⟨hm,hk⟩:=hR;have hla:=zxb e.args;have hwe:=zed e;have hp:=zEe p e.name (by have:=hz.f;omega);have ha:=rarray_spec p e.name (by have:=hz.a;omega);have hf:=rfind_spec s e.name (by omega);have hT:=(exprT_eq p s e).symm;have tail:=type_tail p s e m hz (by omega) hm hk;have h3:(zdb p e.name<0)=(zUb p e.name=false):=by
   have:decide (0<=zdb p e.name)=zUb p e.name:=idx_ge (fun f:PArr=>decide (f.name=e.name)) p.arrays;rw[<-this,decide_eq_false_iff_not];apply propext;omega
  replace tail:=fun h0=>tail h0 (fun x hx m' hm'=>ih p s x m' hz (by have:=zzb hx;omega) (by omega) hsl hm')
  have hal:e.args.length<1099510000000:=by omega
  clear h hw hm hk hla hwe ih;generalize zXb p s e=R at*;refine zc rfl rfl rfl (by simp[ze,za,parsV]) ?_;rw[show F124.body= .seq (sq1 F124.body) (.seq (sq1 (sq2 F124.body)) (.seq (sq1 (sq2 (sq2 F124.body))) (.seq (sq1 (sq2 (sq2 (sq2 F124.body)))) typeTail)))from rfl];simp[ze,parsV,zeb]at hp ha hf;unfold zec at hT tail;by_cases k3:e.kind=3
  ·rw[if_pos k3]at hT tail;have k7:(e.kind=7)=False:=eqn (by omega);have k6:(e.kind=6)=False:=eqn (by omega);replace k3:=eqp k3;by_cases hv:zKa s e.name=[]
   ·rw[if_pos hv]at hT;simp at hT;replace hv:=eqp hv;clear tail;subst hT;simp[*,F124,sq1,sq2,ze,za,parsV,zeb,zf]
   ·rw[if_neg hv]at tail;replace tail:=tail rfl;replace hv:=eqn hv;clear hT;simp[*,F124,sq1,sq2,ze,za,parsV,zeb,zf];refine tail _ ?_ ?_ ?_ ?_ ?_ ?_ ?_ ?_<;>simp[*,parsV,zf]
  rw[if_neg k3]at hT tail;by_cases k6:e.kind=6
  ·rw[if_pos k6]at hT tail;have k7:(e.kind=7)=False:=eqn (by omega);replace k3:=eqn k3;replace k6:=eqp k6;cases hb:zUb p e.name
   ·rw[hb]at hT h3;simp at hT h3;replace h3:=eqp h3;clear tail;subst hT;simp[*,F124,sq1,sq2,ze,za,parsV,zeb,zf]
   ·rw[hb]at tail h3;replace tail:=tail rfl;replace h3:(zdb p e.name<0)=False:=by rw[h3];simp
    clear hT;simp[*,F124,sq1,sq2,ze,za,parsV,zeb,zf];refine tail _ ?_ ?_ ?_ ?_ ?_ ?_ ?_ ?_<;>simp[*,parsV,zf]
  rw[if_neg k6]at hT tail;by_cases k7:e.kind=7
  ·rw[if_pos k7]at hT tail;replace k3:=eqn k3;replace k6:=eqn k6;replace k7:=eqp k7;rcases zAd (fun f:Func=>decide (f.name=e.name)) p.funcs with⟨a1,a2⟩|⟨n,f,a1,a2,a3,a4,a5⟩
   ·have a1:zya p e.name= -1:=a1;have a2:zfc p e.name=none:=a2;rw[a2]at hT;simp at hT;rw[a1]at hp;clear tail a2;subst hT;simp[*,F124,sq1,sq2,ze,za,parsV,zeb,zf]
   ·have a1:zya p e.name=n:=a1;have a3:zfc p e.name=some f:=a3;have hpf:=hz.p f (yR a2);rw[a3]at hT tail;simp only at hT tail;have n0:¬((n:Int)<0):=by omega
    rw[a1]at hp tail;simp only[funcs]at hp;by_cases hq:f.params.length=e.args.length
    ·rw[if_pos hq]at tail;replace tail:=tail rfl;have hq':((e.args.length:Int)=f.params.length)=True:=eqp (by omega);clear hT a5 a4 a3 a1 hq;simp[*,F124,sq1,sq2,ze,za,parsV,zeb,zf,funcs,zl];refine tail _ ?_ ?_ ?_ ?_ ?_ ?_ ?_ ?_<;>simp[*,parsV,zf,funcs]
    ·rw[if_neg hq]at hT;simp at hT;have hq':((e.args.length:Int)=f.params.length)=False:=eqn (by omega);clear tail a5 a4 a3 a1 hq;subst hT;simp[*,F124,sq1,sq2,ze,za,parsV,zeb,zf,funcs,zl]
  ·rw[if_neg k7]at tail;replace tail:=tail rfl;replace k3:=eqn k3;replace k6:=eqn k6;replace k7:=eqn k7;clear hT;simp[*,F124,sq1,sq2,ze,za,parsV,zeb,zf];refine tail _ ?_ ?_ ?_ ?_ ?_ ?_ ?_ ?_<;>simp[*,parsV,zf]
theorem rTypeOf_spec(p:Prog)(s:List Vr)(e:Expr)(m:Int)(hz:Fit p)(hw:wtE e<1099510000000)(hs:s.length<1099509000000)(hR:zmb e m=true):zj E 124 [ze p,parsV (zna s),zo e] []=some (.ret (zeb (zXb p s e)),[]):=
 rTypeOf_spec' (wtE e) p s e m hz (ye _) hw hs hR
set_option maxHeartbeats 1000000 in
theorem breaks_spec':∀w (l:List Stmt),wtSs l<=w->w<1099508500000->zj E 100 [zg l] []=some (.ret (.bool (zDa l)),[])
 |w,l,h,hw=>by
  have hlen:=zia l;refine zc rfl rfl rfl (by simp[zg]) ?_;simp[F100,zg];refine zD l K100_0 B100_0 (fun d=>[(3,.int .i64 d.length)]) (fun _=>[]) (fun d=>zDa d=false) (by omega) (by simp[zDa]) ?_ ?_
  ·intros d x r s1 hl' hlt hget hget' hw1 hp h1 h2 h3 h4;simp at h1 h2 h3;have hwx:=zmc hl'.mem;rw[zCa]at hwx;obtain⟨w,rfl⟩:∃k,w=k+1:=⟨w-1,by omega⟩
   have i1:=breaks_spec' w x.thn (by omega) (by omega);have i2:=breaks_spec' w x.els (by omega) (by omega);have hyes:zJe x=true->zDa l=true:=by intro h;rw[leavesT_any,hl'.eq];simp[h]
   have hno:zJe x=false->zDa (d++[x])=false:=by intro h;rw[leavesT_any]at hp ⊢;rw[List.any_append,hp];simp[h]
   rw[leaves1_eq]at hyes hno;clear hl' hp h hwx;simp[zg]at i1 i2;generalize zDa x.thn=b1 at*;generalize zDa x.els=b2 at*;by_cases k6:x.kind=6
   ·replace hyes:=hyes (by simp[k6]);replace k6:=eqp k6;clear hno;simp[*,zb,zg]
   by_cases k4:x.kind=4
   ·cases b1
    ·cases b2
     ·replace hno:=hno (by simp[k4]);replace k6:=eqn k6;replace k4:=eqp k4;clear hyes;simp[*,zb,zg]
      all_goals(try grind)
     ·replace hyes:=hyes (by simp[k4]);replace k6:=eqn k6;replace k4:=eqp k4;clear hno;simp[*,zb,zg]
    ·replace hyes:=hyes (by simp[k4]);replace k6:=eqn k6;replace k4:=eqp k4;clear hno;simp[*,zb,zg]
   ·replace hno:=hno (by simp[k4,k6]);replace k6:=eqn k6;replace k4:=eqn k4;clear hyes;simp[*,zb,zg]
    all_goals(try grind)
  ·intros s1 hp h1 h2 h3 h4;simp at h1 h2 h3;simp[*]
theorem breaks_spec(l:List Stmt)(h:wtSs l<1099508000000):zj E 100 [zg l] []=some (.ret (.bool (zDa l)),[]):=breaks_spec' (wtSs l) l (ye _) (by omega)
set_option maxHeartbeats 1000000 in
theorem rends_spec':∀w (l:List Stmt) (m:Int),wtSs l<=w->w<1099508000000->zS l m=true->zj E 75 [zg l] []=some (.ret (.bool (zMc l)),[])
 |w,l,m,h,hw,hR=>by
  have hlen:=zia l;refine zc rfl rfl rfl (by simp[zg]) ?_;simp[F75,zg];refine zD l K75_0 B75_0 (fun d=>[(3,.int .i64 d.length)]) (fun _=>[]) (fun d=>zMc d=false) (by omega) (by simp[zMc]) ?_ ?_
  ·intros d x r s1 hl' hlt hget hget' hw1 hp h1 h2 h3 h4;simp at h1 h2 h3;have hwx:=zmc hl'.mem;rw[zCa]at hwx;obtain⟨w,rfl⟩:∃k,w=k+1:=⟨w-1,by omega⟩
   have hxR:zRb x m=true:=by rw[stmtsR_all,yu]at hR;exact hR x hl'.mem
   obtain⟨r1,r2,r3,r4⟩:=zQb hxR;have i1:=rends_spec' w x.thn _ (by omega) (by omega) r3;have i2:=rends_spec' w x.els _ (by omega) (by omega) r4;have i3:=breaks_spec x.thn (by omega);have hyes:ends1 x=true->zMc l=true:=by intro h;rw[endsT_any,hl'.eq];simp[h]
   have hno:ends1 x=false->zMc (d++[x])=false:=by intro h;rw[endsT_any]at hp ⊢;rw[List.any_append,hp];simp[h]
   rw[ends1_eq]at hyes hno;clear hl' hp h hwx hxR hR r2 r3 r4;simp[zg]at i1 i2 i3;generalize zMc x.thn=b1 at*;generalize zMc x.els=b2 at*;generalize zDa x.thn=b3 at*;by_cases k8:x.kind=8
   ·replace hyes:=hyes (by simp[k8]);replace k8:=eqp k8;clear hno r1;simp[*,zb,zg,zf]
   by_cases k4:x.kind=4
   ·rw[if_neg k8,if_pos k4]at hyes hno;have k5:(x.kind=5)=False:=eqn (by omega);replace k8:=eqn k8;replace k4:=eqp k4;clear r1;cases b1
    ·replace hno:=hno rfl;clear hyes;simp[*,zb,zg,zf]
     all_goals(try grind)
    ·cases b2
     ·replace hno:=hno rfl;clear hyes;simp[*,zb,zg,zf]
      all_goals(try grind)
     ·replace hyes:=hyes rfl;clear hno;simp[*,zb,zg,zf]
   by_cases k5:x.kind=5
   ·rw[if_neg k8,if_neg k4,if_pos k5]at hyes hno;have hl1:x.args.length=1:=by rw[k5]at r1;simp[zP]at r1;omega
    obtain⟨y,hy⟩:=yN.1 hl1;have hg0:x.args[0]? =some y:=by rw[hy];rfl
    have ha0:arg0 x.args=y:=by unfold arg0;rw[hg0];rfl
    rw[ha0]at hyes hno;clear hy hl1 r1 ha0;replace k8:=eqn k8;replace k4:=eqn k4;replace k5:=eqp k5;by_cases y2:y.kind=2
    ·by_cases y1:y.n=1
     ·cases b3
      ·replace hyes:=hyes (by simp[y1,y2]);replace y2:=eqp y2;replace y1:=eqp y1;clear hno;simp[*,zb,zg,zf,za]
      ·replace hno:=hno (by simp);replace y2:=eqp y2;replace y1:=eqp y1;clear hyes;simp[*,zb,zg,zf,za]
       all_goals(try grind)
     ·replace hno:=hno (by simp[y1]);replace y2:=eqp y2;replace y1:=eqn y1;clear hyes;simp[*,zb,zg,zf,za]
      all_goals(try grind)
    ·replace hno:=hno (by simp[y2]);replace y2:=eqn y2;clear hyes;simp[*,zb,zg,zf,za]
     all_goals(try grind)
   ·rw[if_neg k8,if_neg k4,if_neg k5]at hyes hno;replace hno:=hno rfl;replace k8:=eqn k8;replace k4:=eqn k4;replace k5:=eqn k5;clear hyes r1;simp[*,zb,zg,zf]
    all_goals(try grind)
  ·intros s1 hp h1 h2 h3 h4;simp at h1 h2 h3;clear hR;simp[*]
theorem rends_spec(l:List Stmt)(m:Int)(h:wtSs l<1099508000000)(hR:zS l m=true):zj E 75 [zg l] []=some (.ret (.bool (zMc l)),[]):=rends_spec' (wtSs l) l m (ye _) h hR
def cob(p:Prog)(f:Func)(n:Int):Obj:= .arr 7 [.agg [zZ p.arrays,funcs p.funcs,.str f.name,.int .i64 f.type,parsV f.params,zg f.body,.int .i64 n]]
theorem rwant_spec{p:Prog}{g:Func}{s:List Vr}{e:Expr}{t m:Int}{σ:zd}{k:Nat}{n:Int}(hk:σ[k]? =some (cob p g n))(hz:Fit p)(hs:s.length<1099509000000)(hw:wtE e<1099510000000)(hR:zmb e m=true):
  zj E 123 [.ptr k 0 0,parsV (zna s),zo e,.int .i64 t] σ=some (.ret (.int .i64 (zwc p s e t)),σ):=by
 refine zc rfl rfl rfl (by simp[za,parsV]) ?_;have h1:=rTypeOf_spec p s e m hz hw hs hR;unfold zwc;generalize zXb p s e=q at*;obtain⟨ty,f⟩:=q;simp only;clear hR hw hz hs;rw[za]at h1;simp[ze,zf,zeb,parsV]at h1;unfold cob at hk;by_cases hf:f=0
 ·subst hf;by_cases ht:ty=t
  ·replace ht:=eqp ht;simp[*,F123,za,zf,parsV]
  ·replace ht:=eqn ht;simp[*,F123,za,zf,parsV]
 ·replace hf:=eqn hf;simp[*,F123,za,zf,parsV]
theorem findV_append(a b:List Vr)(nm:List UInt8):zKa (a++b) nm=if zKa a nm=[]then zKa b nm else zKa a nm++b:=by
 induction a with
 |nil=>simp[zKa]
 |cons v r ih=>
  rw[yU,zgc,zgc,ih];by_cases h:v.name=nm<;>simp[h]
theorem findV_mem{s:List Vr}{nm:List UInt8}{v:Vr}{r:List Vr}(h:zKa s nm=v::r):v∈s:=by
 induction s with
 |nil=>simp[zKa]at h
 |cons x q ih=>
  rw[zgc]at h;split at h
  ·cases h;simp
  ·simp[ih h]
structure Lay(s:List Vr)(d:Int)(q:Nat) where
 inner:List Vr
 outer:List Vr
 eq:s=inner++outer
 len:outer.length=q
 ins:∀v∈inner,v.depth=d
 outs:∀v∈outer,v.depth<d
theorem lay_let{s:List Vr}{d:Int}{q:Nat}(L:Lay s d q)(nm:List UInt8):(match zKa s nm with| []=>(0:Int)|v::_=>if v.depth<d then 0 else 50)=if zKa L.inner nm=[]then 0 else 50:=by
 obtain⟨inner,outer,rfl,len,ins,outs⟩:=L;simp only;rw[findV_append];by_cases h:zKa inner nm=[]
 ·rw[if_pos h,if_pos h];cases hb:zKa outer nm with
  |nil=>rfl
  |cons v r=>
   simp only;rw[if_pos (outs v (findV_mem hb))]
 ·rw[if_neg h,if_neg h];cases hb:zKa inner nm with
  |nil=>exact absurd hb h
  |cons v r=>
   simp only[yU];rw[if_neg (by rw[ins v (findV_mem hb)];omega)]
theorem lay_drop{s:List Vr}{d:Int}{q:Nat}(L:Lay s d q):(zna s).drop q=zna L.inner:=by
 obtain⟨inner,outer,rfl,len,ins,outs⟩:=L;simp only;rw[varsOf_append,List.drop_append_of_le_length (by rw[zsb,len];exact ye _),List.drop_of_length_le (by rw[zsb,len];exact ye _),ysa]
set_option maxRecDepth 20000 in
set_option maxHeartbeats 8000000 in
theorem rown_spec{p:Prog}{g:Func}{s:List Vr}{x:Stmt}{d m:Int}{loop:Bool}{σ:zd}{k q:Nat}{n:Int}(hk:σ[k]? =some (cob p g n))(L:Lay s d q)(hz:Fit p)(hs:s.length<1099509000000)(hw:wtS x<1099509000000)(hR:zRb x m=true):
  zj E 99 [.ptr k 0 0,zu x,parsV (zna s),.int .i64 q,.bool loop] σ=some (.ret (.int .i64 (stmtT p g.type s x.kind x.type x.name x.args d loop)),σ):=by
 refine zc rfl rfl rfl (by simp[zb,parsV]) ?_;obtain⟨r1,r2,_,_⟩:=zQb hR;rw[zCa]at hw;have hwant:∀y∈x.args,∀t,zj E 123 [.ptr k 0 0,parsV (zna s),zo y,.int .i64 t] σ=some (.ret (.int .i64 (zwc p s y t)),σ):=by
  intro y hy t;have:=zzb hy;exact rwant_spec hk hz hs (by omega) (r2 y hy)
 have hexp:∀y∈x.args,zj E 124 [ze p,parsV (zna s),zo y] []=some (.ret (zeb (zXb p s y)),[]):=by
  intro y hy;have:=zzb hy;exact rTypeOf_spec p s y 100 hz (by omega) hs (r2 y hy)
 have hone:(x.kind=1\/x.kind=2\/x.kind=4\/x.kind=5\/x.kind=8\/x.kind=9\/x.kind=10)->∃y,x.args=[y]:=by
  intro h;have:x.args.length=1:=by rcases h with h|h|h|h|h|h|h<;>(rw[h]at r1;simp[zP]at r1;omega)
  exact yN.1 this
 have hkind:1<=x.kind/\x.kind<=10:=by
  by_cases h:1<=x.kind/\x.kind<=10
  ·exact h
  ·exfalso;have:(zP x.kind).2.2.1= -1:=by
    unfold zP
    repeat' (first|rw[if_neg (by omega)]|rfl)
   omega
 have hf:=rfind_spec s x.name (by omega);have hil:L.inner.length<1099511627776:=by
  have:=congrArg List.length L.eq;rw[yi]at this;omega
 have hql:q<=s.length:=by
  have:=congrArg List.length L.eq;rw[yi,L.len]at this;omega
 have hfi:=rfind_spec L.inner x.name hil;have hdrop:=lay_drop L;have hlet:=lay_let L x.name;have hvl:=zsb s;have hh:=rarray_spec p x.name (by have:=hz.a;omega);have h3:decide (0<=zdb p x.name)=zUb p x.name:=idx_ge (fun f:PArr=>decide (f.name=x.name)) p.arrays;have h3':(zdb p x.name<0)=(zUb p x.name=false):=by
  rw[<-h3,decide_eq_false_iff_not];apply propext;omega
 have hlvl:((zna s).map encPar).length=s.length:=by simp[zna]
 clear r2 hR hw hz h3 hil;unfold stmtT;unfold cob at hk;simp[ze]at hh;have one:∀y,x.args=[y]->x.args[0]? =some y/\arg0 x.args=y:=by
  intro y hy;have hget:x.args[0]? =some y:=by rw[hy];rfl
  exact⟨hget,by unfold arg0;rw[hget];rfl⟩
 by_cases k1:x.kind=1
 ·obtain⟨y,hy⟩:=hone (by simp[k1]);obtain⟨hget,ha0⟩:=one y hy;have hw1:=hwant y (by rw[hy];simp) x.type;rw[if_neg (by omega),if_neg (by omega),if_neg (by omega),if_neg (by omega),if_neg (by omega)];have hb:boundT p s x.kind x.type x.name x.args d=if zwc p s (arg0 x.args) x.type≠0 then zwc p s (arg0 x.args) x.type else if zKa L.inner x.name=[]then 0 else 50:=by
   unfold boundT;rw[if_pos k1];split
   ·rfl
   ·exact hlet
  rw[hb,ha0];rw[za]at hw1;simp[zf,parsV]at hw1 hfi;have hd2:List.drop q ((zna s).map encPar)=(zna L.inner).map encPar:=by rw[<-List.map_drop,hdrop]
  have htk:List.take s.length ((zna s).map encPar)=(zna s).map encPar:=yy (by rw[hlvl];exact ye _);unfold parsV;generalize(zna s).map encPar=vs at*;replace k1:=eqp k1;clear hy r1 ha0 hwant hexp hone hkind h3' hh one hf hlet hdrop hvl hb;generalize zwc p s y x.type=f at*;have q0:(0<=(q:Int)):=by omega
  by_cases hff:f=0
  ·subst hff;by_cases hin:zKa L.inner x.name=[]
   ·replace hin:=eqp hin;simp[*,F99,zb,zf,za,parsV]
   ·replace hin:=eqn hin;simp[*,F99,zb,zf,za,parsV]
  ·replace hff:=eqn hff;simp[*,F99,zb,zf,za,parsV]
 clear hfi hdrop hlet hql hvl hlvl;by_cases k2:x.kind=2
 ·obtain⟨y,hy⟩:=hone (by simp[k2]);obtain⟨hget,ha0⟩:=one y hy;have hw1:=hwant y (by rw[hy];simp);rw[if_neg (by omega),if_neg (by omega),if_neg (by omega),if_neg (by omega),if_neg (by omega)];unfold boundT;rw[if_neg k1,if_pos k2,ha0];clear hy r1 ha0 hwant hexp hone hkind h3' hh one;replace k1:=eqn k1;replace k2:=eqp k2;unfold typeV at hf;generalize zKa s x.name=vs at*;cases vs with
  |nil=>
   clear hw1;simp[parsV]at hf;simp[*,F99,zb,zf,za,parsV]
  |cons v r=>
   have hw1:=hw1 v.type;rw[za]at hw1;simp[zf,parsV]at hw1 hf;simp[*,F99,zb,zf,za,parsV]
 clear hf;by_cases k3:x.kind=3
 ·have hl2:x.args.length=2:=by rw[k3]at r1;simp[zP]at r1;omega
  obtain⟨y,z,hy⟩:∃y z,x.args=[y,z]:=by
   match h:x.args,hl2 with
   | [y,z],_=>exact⟨y,z,rfl⟩
  have hget:x.args[0]? =some y:=by rw[hy];rfl
  have hget1:x.args[1]? =some z:=by rw[hy];rfl
  have ha0:arg0 x.args=y:=by unfold arg0;rw[hget];rfl
  have ha1:arg1 x.args=z:=by unfold arg1;rw[hget1];rfl
  rw[if_neg (by omega),if_neg (by omega),if_neg (by omega),if_neg (by omega),if_neg (by omega)];unfold boundT;rw[if_neg k1,if_neg k2,ha0,ha1];have hw1:=hwant y (by rw[hy];simp) 1;have hw2:=hwant z (by rw[hy];simp) 1;clear hy hl2 r1 ha0 ha1 hwant hexp hone hkind one;replace k1:=eqn k1;replace k2:=eqn k2;replace k3:=eqp k3;rw[za]at hw1 hw2;simp[zf,parsV]at hw1 hw2;generalize zUb p x.name=b at*;cases b
  ·clear hw1 hw2;simp at h3';replace h3':=eqp h3';simp[*,F99,zb,zf,za,parsV]
  ·simp at h3';replace h3':(zdb p x.name<0)=False:=eqn (by omega);generalize zwc p s y 1=f at*;by_cases hff:f=0
   ·subst hff;simp[*,F99,zb,zf,za,parsV]
   ·replace hff:=eqn hff;simp[*,F99,zb,zf,za,parsV]
 clear hh h3';by_cases k45:x.kind=4\/x.kind=5
 ·obtain⟨y,hy⟩:=hone (by rcases k45 with h|h<;>simp[h]);obtain⟨hget,ha0⟩:=one y hy;have hw1:=hwant y (by rw[hy];simp) 2;rw[if_pos k45,ha0];rw[za]at hw1;simp[zf,parsV]at hw1;clear hy r1 ha0 hwant hexp hone one;have k5':x.kind=5->(x.kind=4)=False:=fun h=>eqn (by omega)
  replace k1:=eqn k1;replace k2:=eqn k2;replace k3:=eqn k3;clear hkind;rcases k45 with k4|k4
  ·replace k4:=eqp k4;clear k5';simp[*,F99,zb,zf,za,parsV]
  ·replace k5':=k5' k4;replace k4:=eqp k4;simp[*,F99,zb,zf,za,parsV]
 rw[if_neg k45];have k4:(x.kind=4)=False:=eqn fun h=>k45 (yOa h)
 have k5:(x.kind=5)=False:=eqn fun h=>k45 (yUa h)
 replace k1:=eqn k1;replace k2:=eqn k2;replace k3:=eqn k3;clear k45;by_cases k8:x.kind=8
 ·obtain⟨y,hy⟩:=hone (by simp[k8]);obtain⟨hget,ha0⟩:=one y hy;have hw1:=hwant y (by rw[hy];simp) g.type;rw[if_pos k8,ha0];rw[za]at hw1;simp[zf,parsV]at hw1;clear hy r1 ha0 hwant hexp hone one hkind;replace k8:=eqp k8;simp[*,F99,zb,zf,za,parsV]
 by_cases k9:x.kind=9
 ·obtain⟨y,hy⟩:=hone (by simp[k9]);obtain⟨hget,ha0⟩:=one y hy;have hw1:=hwant y (by rw[hy];simp) 1;rw[if_neg k8,if_pos k9,ha0];rw[za]at hw1;simp[zf,parsV]at hw1;clear hy r1 ha0 hwant hexp hone one hkind;replace k8:=eqn k8;replace k9:=eqp k9;simp[*,F99,zb,zf,za,parsV]
 by_cases k10:x.kind=10
 ·obtain⟨y,hy⟩:=hone (by simp[k10]);obtain⟨hget,ha0⟩:=one y hy;have hw1:=hexp y (by rw[hy];simp);rw[if_neg k8,if_neg k9,if_pos k10,ha0];rw[za]at hw1;simp[zf,parsV,ze,zeb]at hw1;clear hy r1 ha0 hwant hexp hone one hkind;replace k8:=eqn k8;replace k9:=eqn k9;replace k10:=eqp k10;simp[*,F99,zb,zf,za,parsV]
 rw[if_neg k8,if_neg k9,if_neg k10,if_pos (by
  have:=of_eq_false k1;have:=of_eq_false k2;have:=of_eq_false k3;have:=of_eq_false k4;have:=of_eq_false k5;omega)]
 replace k8:=eqn k8;replace k9:=eqn k9;replace k10:=eqn k10;clear r1 hwant hexp hone one hkind;cases loop<;>simp[*,F99,zb,zf,za,parsV]
theorem blockGo_len(p:Prog)(res d:Int)(loop:Bool):∀(l:List Stmt) (vs:List Vr) (n:Int),(zxa p res d loop l vs n).1.length<=vs.length+l.length
 | [],vs,n=>by simp[zxa]
 |x::r,vs,n=>by
  have h2:=blockGo_len p res d loop r (zma d x vs) (zzc p res x vs d loop n).2;have h1:(zma d x vs).length<=vs.length+1:=by unfold zma;split<;>simp
  simp only[zxa,yj];omega
theorem lay_behind{s:List Vr}{d:Int}{q:Nat}(L:Lay s d q)(x:Stmt):Nonempty (Lay (zma d x s) d q):=by
 obtain⟨inner,outer,rfl,len,ins,outs⟩:=L;unfold zma;split
 ·refine⟨⟨⟨x.name,x.type,d⟩::inner,outer,rfl,len,?_,outs⟩⟩;intro v hv;rcases yB.1 hv with rfl|hv
  ·rfl
  ·exact ins v hv
 ·exact⟨⟨inner,outer,rfl,len,ins,outs⟩⟩
theorem lay_under{s:List Vr}{d:Int}{q:Nat}(L:Lay s d q):∀v∈s,v.depth<d+1:=by
 obtain⟨inner,outer,rfl,len,ins,outs⟩:=L;intro v hv;rcases yx.1 hv with h|h
 ·have:=ins v h;omega
 ·have:=outs v h;omega
set_option maxRecDepth 20000 in
set_option maxHeartbeats 16000000 in
theorem rblock_spec':∀w (p:Prog) (g:Func) (l:List Stmt) (vs:List Vr) (d m n:Int) (loop:Bool) (σ:zd) (k:Nat),wtSs l<=w->w<1099508000000->Fit p->zS l m=true->0<=n->n+wtSs l<4000000000000->vs.length+wtSs l<1099508500000->(∀v∈vs,v.depth<d)->σ[k]? =some (cob p g n)→
  zj E 74 [.ptr k 0 0,zg l,parsV (zna vs),.bool loop] σ=some (.ret (.int .i64 (zka p g.type l vs d loop n).1),σ.set k (cob p g (zka p g.type l vs d loop n).2)):=by
 intro w
 induction w with
 |zero=>
  intro p g l vs d m n loop σ k h hw hz hR hn0 hnw hvl hvd hk;have hl:l=[]:=by
   have:=zia l;exact yz (by omega)
  subst hl;have hset:σ.set k (cob p g n)=σ:=by
   have hlt:=(ya.1 hk)
   obtain⟨h1,h2⟩:=hlt;rw[<-h2,yMa]
  have hvl2:=zsb vs;have hroom:vs.length*24<=zn:=by simp only[zn];omega
  refine zc rfl rfl rfl (by simp[zg,parsV]) ?_;simp only[zka,hset];simp[F74,zg,parsV,hvl2,hroom];refine zD ([]:List Stmt) K74_0 B74_0 (fun d'=>[(9,acc 2 ((zna vs).map encPar)),(10,.int .i64 d'.length)]) (fun _=>σ) (fun _=>True) (by simp) (by simp) ?_ ?_
  ·intros d' x r s1 hl' hlt;simp at hlt
  ·intros s1 hp h1 h2 h3 h4;simp at h1 h2 h3;simp[*]
 |succ w ih=>
  intro p g l vs d m n loop σ k h hw hz hR hn0 hnw hvl hvd hk;have hlen:=zia l;have hset:σ.set k (cob p g n)=σ:=by
   have hlt:=(ya.1 hk)
   obtain⟨h1,h2⟩:=hlt;rw[<-h2,yMa]
  have hklt:k<σ.length:=(ya.1 hk).1;have hvl2:=zsb vs;have hroom:vs.length*24<=zn:=by simp only[zn];omega
  refine zc rfl rfl rfl (by simp[zg,parsV]) ?_;simp[F74,zg,parsV,hvl2,hroom];refine zD l K74_0 B74_0 (fun q=>[(9,acc 2 ((zna (zxa p g.type d loop q vs n).1).map encPar)),(10,.int .i64 q.length)]) (fun q=>σ.set k (cob p g (zxa p g.type d loop q vs n).2)) (fun q=>zYb p g.type d loop q vs n/\Nonempty (Lay (zxa p g.type d loop q vs n).1 d vs.length)) (by omega) ?_ ?_ ?_
  ·simp[zxa,zYb,hset];exact⟨⟨[],vs,rfl,rfl,by simp,hvd⟩⟩
  ·intros q x r s1 hl' hlt hget hget' hw1 hp h1 h2 h3 h4;obtain⟨hp,⟨L⟩⟩:=hp;have hT:=blockT_go p g.type d loop (x::r) q vs n hp;rw[<-hl'.eq,zQc,zHd]at hT;have hG:=blockGo_snoc p g.type d loop x q vs n;have hF:=zje p g.type d loop x q vs n hp;rw[zHd]at hG hF;have hxR:zRb x m=true:=by rw[stmtsR_all,yu]at hR;exact hR x hl'.mem
   have hwx:=zmc hl'.mem;rw[zCa]at hwx;obtain⟨r1,r2,r3,r4⟩:=zQb hxR;have hgc:=zUe p g.type d loop q vs n;have hgl:=blockGo_len p g.type d loop q vs n;have hws:wtSs l=wtSs q+(1+wtS x+wtSs r):=by rw[hl'.eq,zCc];rfl
   rw[zCa]at hws;have hlq:=zia q;generalize zxa p g.type d loop q vs n=gg at*;obtain⟨v1,n1⟩:=gg;simp only at hT hG hF h3 h4 hgc hgl L;have hwn:zA .i64 (n1+1)=n1+1:=zi (by omega) (by omega);have hk1:(σ.set k (cob p g n1))[k]? =some (cob p g n1):=by rw[ym hklt]
   have hst:=rown_spec (x:=x) (loop:=loop) hk1 L hz (by omega) (by rw[zCa];omega) hxR;obtain⟨L2⟩:=lay_behind L x;have hun:=lay_under L2;have hbl:(zma d x v1).length<=v1.length+1:=by unfold zma;split<;>simp
   have hvv:=zsb v1;have hi1:=ih p g x.thn (zma d x v1) (d+1) (m-1) (n1+1) (loop||decide (x.kind=5)) (σ.set k (cob p g (n1+1))) k (by omega) (by omega) hz r3 (by omega) (by omega) (by omega) hun (by rw[ym hklt]);rw[yWa]at hi1;have hc1:=zbd p g.type x.thn (zma d x v1) (d+1) (loop||decide (x.kind=5)) (n1+1);generalize hT1:zka p g.type x.thn (zma d x v1) (d+1) (loop||decide (x.kind=5)) (n1+1)=t1 at*;obtain⟨f1,n2⟩:=t1;simp only at hc1;have hi2:=ih p g x.els (zma d x v1) (d+1) (m-1) n2 loop (σ.set k (cob p g n2)) k (by omega) (by omega) hz r4 (by omega) (by omega) (by omega) hun (by rw[ym hklt]);rw[yWa]at hi2;simp only at hT hG hF hi1;generalize hT2:zka p g.type x.els (zma d x v1) (d+1) loop n2=t2 at*;obtain⟨f2,n3⟩:=t2;simp only at hT hG hF hi2;generalize stmtT p g.type v1 x.kind x.type x.name x.args d loop=f0 at*;have hb:zma d x v1=if x.kind=1 then⟨x.name,x.type,d⟩::v1 else v1:=rfl
   have hroom1:(v1.length+1)*24<=zn:=by simp only[zn];omega
   have hL3:Nonempty (Lay (zma d x v1) d vs.length):=⟨L2⟩
   clear ih hT1 hT2 r1 r2 r3 r4 hws hgc hc1 hnw hn0 hwx hxR hl' hR h hlen hset L L2 hun hlq hbl hgl hroom hvd hvl;rw[zb]at hst;simp[zf,zg,parsV]at hst hi1 hi2;simp[zf,zg]at h1 h2 h3 h4;unfold cob at*;simp only[zg,parsV]at hst hi1 hi2 h4 hk ⊢;by_cases hf0:f0=0
   case neg=>
    simp[hf0]at hT;rw[hT];clear hT hG hF hi1 hi2 hb hp hL3;replace hf0:=eqn hf0;simp[*,zb,zf,zg,parsV]
   subst hf0;by_cases hk1:x.kind=1
   ·have hk5:¬x.kind=5:=by omega
    rw[if_pos hk1]at hb;replace hk1:=eqp hk1;replace hk5:=eqn hk5;rw[hb]at hi1 hi2 hG hL3;clear hb;rw[zrd]at hi1 hi2;simp only[parOf,hk5,decide_false,Bool.or_false,yca,yv,yxa,encPar]at hi1 hi2;by_cases hf1:f1=0
    case neg=>
     simp[hf1]at hT;rw[hT];clear hT hG hF hi2 hp hL3;replace hf1:=eqn hf1;cases loop<;>simp[*,zb,zf,zg,parsV]
    subst hf1;by_cases hf2:f2=0
    case neg=>
     simp[hf2]at hT;rw[hT];clear hT hG hF hp hL3;replace hf2:=eqn hf2;cases loop<;>simp[*,zb,zf,zg,parsV]
    subst hf2;simp at hG hF;clear hT hp;have hv2:(zna (⟨x.name,x.type,d⟩::v1)).map encPar=(zna v1).map encPar++[.agg [.str x.name,.int .i64 x.type]]:=by rw[zrd];simp[parOf,encPar]
    cases loop<;>simp[*,zb,zf,zg,parsV]
   ·rw[if_neg hk1]at hb;replace hk1:=eqn hk1;rw[hb]at hi1 hi2 hG hL3;clear hb;by_cases hf1:f1=0
    case neg=>
     simp[hf1]at hT;rw[hT];clear hT hG hF hi2 hp hL3;replace hf1:=eqn hf1;cases loop<;>simp at hi1<;>simp[*,zb,zf,zg,parsV]
    subst hf1;by_cases hf2:f2=0
    case neg=>
     simp[hf2]at hT;rw[hT];clear hT hG hF hp hL3;replace hf2:=eqn hf2;cases loop<;>simp at hi1<;>simp[*,zb,zf,zg,parsV]
    subst hf2;simp at hG hF;clear hT hp;cases loop<;>simp at hi1<;>simp[*,zb,zf,zg,parsV]
  ·intros s1 hp h1 h2 h3 h4;obtain⟨hp,_⟩:=hp;have hT:=blockT_go p g.type d loop [] l vs n hp;rw[List.append_nil,zka]at hT;rw[hT];simp at h1 h2 h3 h4;clear hT hp hR ih;simp[*]
abbrev Cnt:=List (List UInt8×Int)
def zDd(l:Cnt):List (PV×PV):=l.map fun x=>(.str x.1,.int .i64 x.2)
def getC(nm:List UInt8):Cnt->Int
 | []=>0
 |x::r=>if nm=x.1 then x.2 else getC nm r
def hasC(nm:List UInt8)(l:Cnt):Bool:=l.any fun x=>decide (nm=x.1)
def setC(nm:List UInt8)(v:Int):Cnt->Cnt
 | []=>[(nm,v)]
 |x::r=>if nm=x.1 then(nm,v)::r else x::setC nm v r
theorem find_cnt(nm:List UInt8)(l:Cnt):zW true (.str nm) (zDd l)=some (if hasC nm l then some (.int .i64 (getC nm l))else none):=by
 induction l with
 |nil=>simp[zDd,hasC]
 |cons x r ih=>
  have ih':zW true (.str nm) (r.map fun x=>(PV.str x.1,PV.int .i64 x.2))=_:=ih;simp only[zDd,yv,zW,zlc,if_true];by_cases h:nm=x.1
  ·simp[h,hasC,getC]
  ·have hd:decide (nm=x.1)=false:=decide_eq_false h;simp only[decide_eq_false h,ih',getC,if_neg h,hasC,List.any_cons,yL];rfl
theorem set_cnt(nm:List UInt8)(v:Int)(l:Cnt):zCb true (.str nm) (.int .i64 v) (zDd l)=some (zDd (setC nm v l)):=by
 induction l with
 |nil=>simp[zDd,setC]
 |cons x r ih=>
  have ih':zCb true (.str nm) (.int .i64 v) (r.map fun x=>(PV.str x.1,PV.int .i64 x.2))=_:=ih;simp only[zDd,yv,zCb,zlc,if_true];by_cases h:nm=x.1
  ·simp[h,setC]
  ·simp[h,ih',setC,zDd]
noncomputable def bump(l:Cnt)(nm:List UInt8):Cnt:=setC nm (zA .i64 (getC nm l+1)) l
noncomputable def zda(l:Cnt)(d:List (List UInt8)):Cnt:=d.foldl bump l
theorem zSe(l:Cnt)(d:List (List UInt8))(x:List UInt8):zda l (d++[x])=bump (zda l d) x:=by simp[zda]
theorem getC_none{nm:List UInt8}{l:Cnt}(h:hasC nm l=false):getC nm l=0:=by
 induction l with
 |nil=>rfl
 |cons x r ih=>
  simp[hasC]at h ih;rw[getC,if_neg h.1];exact ih (by simpa[hasC]using h.2)
theorem setC_keys(nm:List UInt8)(v:Int)(l:Cnt):(setC nm v l).length=(if hasC nm l then l.length else l.length+1)/\∀y,hasC y (setC nm v l)=(decide (y=nm)||hasC y l):=by
 induction l with
 |nil=>simp[setC,hasC]
 |cons x r ih=>
  obtain⟨i1,i2⟩:=ih;unfold setC;by_cases h:nm=x.1
  ·rw[if_pos h];subst h;refine⟨by simp[hasC],fun y=>?_⟩;simp[hasC]
  ·rw[if_neg h];refine⟨?_,fun y=>?_⟩
   ·have:hasC nm (x::r)=hasC nm r:=by simp[hasC,h]
    rw[yj,i1,this];split<;>simp
   ·have e1:hasC y (x::setC nm v r)=(decide (y=x.1)||hasC y (setC nm v r)):=by simp[hasC]
    have e2:hasC y (x::r)=(decide (y=x.1)||hasC y r):=by simp[hasC]
    rw[e1,e2,i2];cases decide (y=x.1)<;>simp
theorem counts_len(d:List (List UInt8)):(zda [] d).length<=d.length/\((zda [] d).length=d.length<->d.Nodup)/\∀y,hasC y (zda [] d)=decide (y∈d):=by
 suffices h:∀d:List (List UInt8),(zda [] d.reverse).length<=d.length/\((zda [] d.reverse).length=d.length<->d.Nodup)/\∀y,hasC y (zda [] d.reverse)=decide (y∈d) by
  have:=h d.reverse;rw[(List.reverse_perm d).nodup_iff]at this;simpa using this
 intro d
 induction d with
 |nil=>simp[zda,hasC]
 |cons x r ih=>
  obtain⟨i1,i2,i3⟩:=ih;rw[yGa,zSe];unfold bump;obtain⟨k1,k2⟩:=setC_keys x (zA .i64 (getC x (zda [] r.reverse)+1)) (zda [] r.reverse);rw[i3]at k1;refine⟨?_,?_,?_⟩
  ·rw[k1];split<;>simp<;>omega
  ·rw[k1,List.nodup_cons];by_cases hx:x∈r
   ·simp[hx];omega
   ·simp[hx];exact i2
  ·intro y;rw[k2,i3];simp
theorem mapLen(l:Cnt):(zDd l).length=l.length:=by simp[zDd]
def twiceM(l:List Par):Bool:= !decide ((l.map (·.name)).Nodup)
set_option maxHeartbeats 1000000 in
theorem twice_spec(l:List Par)(hl:l.length<1099511000000):zj E 83 [parsV l] []=some (.ret (.bool (twiceM l)),[]):=by
 refine zc rfl rfl rfl (by simp[parsV]) ?_;simp[F83,parsV];refine zD l K83_0 B83_0 (fun d=>[(9,.int .i64 d.length)]) (fun d=>[.mp (zDd (zda [] (d.map (·.name))))]) (fun _=>True) (by omega) (by simp[zda,zDd]) ?_ ?_
 ·intros d x r s1 hl' hlt hget hget' hw1 hp h1 h2 h3 h4;simp at h1 h2 h3 h4;have f1:=find_cnt x.name (zda [] (d.map (·.name)));have s1':=set_cnt x.name (zA .i64 (getC x.name (zda [] (d.map (·.name)))+1)) (zda [] (d.map (·.name)));have e1:zda [] ((d++[x]).map (·.name))=setC x.name (zA .i64 (getC x.name (zda [] (d.map (·.name)))+1)) (zda [] (d.map (·.name))):=by rw[yca,yv,yxa,zSe];rfl
  have e2:=getC_none (nm:=x.name) (l:=zda [] (d.map (·.name)));generalize zda [] (d.map (·.name))=c at*;clear hl';cases hh:hasC x.name c
  ·rw[hh]at f1;have e2:=e2 hh;rw[e2]at s1' e1;simp at f1 s1' e1;simp[*,encPar]
  ·rw[hh]at f1;clear e2;simp at f1 s1' e1;simp[*,encPar]
 ·intros s1 hp h1 h2 h3 h4;simp at h1 h2 h3 h4;obtain⟨c1,c2,c3⟩:=counts_len (l.map (·.name));have hlen:=mapLen (zda [] (l.map (·.name)));simp only[yr]at c1 c2;generalize zda [] (l.map (·.name))=c at*;have hR:twiceM l=decide ((c.length:Int)<l.length):=by
   unfold twiceM;rw[<-decide_not,decide_eq_decide,<-c2];omega
  clear c1 c2 c3 hp;simp[*]
def zqe:List UInt8:=[109,97,105,110]
def zYc(p:Prog):Bool:=decide ((p.arrays.map (·.name)++p.funcs.map (·.name)).Nodup)&&(match zfc p zqe with
 |some f=>decide (f.type=1)&&decide (f.params=[])
 |none=>false)
set_option maxHeartbeats 4000000 in
theorem tnamed_spec(p:Prog)(hz:Fit p):zj E 82 [ze p] []=some (.ret (.bool (zYc p)),[]):=by
 have ha:=hz.a;have hf:=hz.f;have hpl:=place_spec p zqe [] (by omega);have hsum:zA .i64 ((p.arrays.length:Int)+p.funcs.length)=(p.arrays.length:Int)+p.funcs.length:=zi (by omega) (by omega);refine zc rfl rfl rfl (by simp[ze]) ?_;simp[F82,ze,zZ,funcs];refine zD p.arrays K82_0 B82_0 (fun d=>[(13,.int .i64 d.length)]) (fun d=>[.mp (zDd (zda [] (d.map (·.name))))]) (fun _=>True) (by omega) (by simp[zda,zDd]) ?_ ?_
 ·intros d x r s1 hl' hlt hget hget' hw1 hp h1 h2 h3 h4;simp at h1 h2 h3 h4;have f1:=find_cnt x.name (zda [] (d.map (·.name)));have s1':=set_cnt x.name (zA .i64 (getC x.name (zda [] (d.map (·.name)))+1)) (zda [] (d.map (·.name)));have e1:zda [] ((d++[x]).map (·.name))=setC x.name (zA .i64 (getC x.name (zda [] (d.map (·.name)))+1)) (zda [] (d.map (·.name))):=by rw[yca,yv,yxa,zSe];rfl
  have e2:=getC_none (nm:=x.name) (l:=zda [] (d.map (·.name)));generalize zda [] (d.map (·.name))=c at*;clear hl' hpl hsum ha hf;cases hh:hasC x.name c
  ·rw[hh]at f1;have e2:=e2 hh;rw[e2]at s1' e1;simp at f1 s1' e1;simp[*,zH]
  ·rw[hh]at f1;clear e2;simp at f1 s1' e1;simp[*,zH]
 intros s1 hp h1 h2 h3 h4;simp at h1 h2 h3 h4;clear hp;simp[*];refine zD p.funcs K82_1 B82_1 (fun d=>[(26,.int .i64 d.length)]) (fun d=>[.mp (zDd (zda [] (p.arrays.map (·.name)++d.map (·.name))))]) (fun _=>True) (by omega) ?_ ?_ ?_
 ·simp[*]
 ·intros d x r s2 hl' hlt hget hget' hw1 hp g1 g2 g3 g4;simp at g1 g2 g3 g4;have f1:=find_cnt x.name (zda [] (p.arrays.map (·.name)++d.map (·.name)));have s1':=set_cnt x.name (zA .i64 (getC x.name (zda [] (p.arrays.map (·.name)++d.map (·.name)))+1)) (zda [] (p.arrays.map (·.name)++d.map (·.name)));have e1:zda [] (p.arrays.map (·.name)++(d++[x]).map (·.name))=setC x.name (zA .i64 (getC x.name (zda [] (p.arrays.map (·.name)++d.map (·.name)))+1)) (zda [] (p.arrays.map (·.name)++d.map (·.name))):=by rw[yca,yv,yxa,<-yO,zSe];rfl
  have e2:=getC_none (nm:=x.name) (l:=zda [] (p.arrays.map (·.name)++d.map (·.name)));generalize zda [] (p.arrays.map (·.name)++d.map (·.name))=c at*;clear hl' hpl hsum ha hf h1 h2 h4;cases hh:hasC x.name c
  ·rw[hh]at f1;have e2:=e2 hh;rw[e2]at s1' e1;simp at f1 s1' e1;simp[*,zl]
  ·rw[hh]at f1;clear e2;simp at f1 s1' e1;simp[*,zl]
 ·intros s2 hp g1 g2 g3 g4;simp at g1 g2 g3 g4;obtain⟨c1,c2,c3⟩:=counts_len (p.arrays.map (·.name)++p.funcs.map (·.name));have hlen:=mapLen (zda [] (p.arrays.map (·.name)++p.funcs.map (·.name)));simp only[yr,yi]at c1 c2;unfold zYc;have hR:decide ((p.arrays.map (·.name)++p.funcs.map (·.name)).Nodup)=decide (((zda [] (p.arrays.map (·.name)++p.funcs.map (·.name))).length:Int)=(p.arrays.length:Int)+p.funcs.length):=by
   rw[decide_eq_decide,<-c2];omega
  rw[hR];generalize zda [] (p.arrays.map (·.name)++p.funcs.map (·.name))=c at*;clear c1 c2 c3 hp h1 h2 h4 hR;simp[ze,zqe,zZ,funcs]at hpl;rcases zAd (fun f:Func=>decide (f.name=zqe)) p.funcs with⟨a1,a2⟩|⟨n,f,a1,a2,a3,a4,a5⟩
  ·have a1:zya p zqe= -1:=a1;have a2:zfc p zqe=none:=a2;simp[zqe]at a1;rw[a1]at hpl;rw[a2];clear ha hf a2 a1;by_cases hq:(c.length:Int)=(p.arrays.length:Int)+p.funcs.length
   ·replace hq:=eqp hq;simp[*]
   ·replace hq:=eqn hq;simp[*]
  ·have a1:zya p zqe=n:=a1;have a3:zfc p zqe=some f:=a3;simp[zqe]at a1;rw[a1]at hpl;rw[a3];clear ha hf a3 a4 a5 a1;by_cases hq:(c.length:Int)=(p.arrays.length:Int)+p.funcs.length
   ·replace hq:=eqp hq;by_cases ht:f.type=1
    ·replace ht:=eqp ht;simp[*,zl,parsV]
    ·replace ht:=eqn ht;simp[*,zl,parsV]
   ·replace hq:=eqn hq;simp[*]
def zvb(p:Prog)(f:Func):Int×Int:=
 if twiceM f.params then(50,0)
 else
  let q:=zka p f.type f.body (zca f.params) 1 false 0
  (if q.1=0/\zMc f.body=false then 52 else q.1,q.2)
def zOc(p:Prog):List Func->Int->Int×Int×Int
 | [],_=>(0,0,0)
 |f::r,i=>if(zvb p f).1≠0 then((zvb p f).1,i,(zvb p f).2)else zOc p r (i+1)
def zbb(p:Prog):Int×Int×Int:=if zdc p then if zYc p then zOc p p.funcs 0 else(50,0,0)else(1,0,0)
def zza(r:Int×Int×Int):PV:= .tup [.int .i64 r.1,.agg [.int .i64 r.2.1,.int .i64 r.2.2]]
theorem zFd(p:Prog)(r:List Func):∀(d:List Func) (i:Int),(∀f∈d,(zvb p f).1=0)->zOc p (d++r) i=zOc p r (i+d.length)
 | [],i,_=>by simp
 |f::d,i,h=>by
  have h1:=h f (by simp);rw[yU,zOc,if_neg (by rw[h1];simp),zFd p r d (i+1) (fun g hg=>h g (by simp[hg]))];rw[yj];congr 1;omega
theorem PSz.fit{p:Prog}(h:PSz p):Fit p:=⟨h.1,h.2.1,fun f hf=>(h.2.2 f hf).2⟩
set_option maxRecDepth 20000 in
set_option maxHeartbeats 8000000 in
theorem check_spec(p:Prog)(hz:PSz p):zj E 51 [ze p] []=some (.ret (zza (zbb p)),[]):=by
 have hfit:=hz.fit;obtain⟨z1,z2,z3⟩:=hz;have hr:=tright_spec p ⟨z1,z2,z3⟩;have hn:=tnamed_spec p hfit;refine zc rfl rfl rfl (by simp[ze]) ?_;unfold zbb;cases hR:zdc p
 ·rw[hR]at hr;clear hn hfit z3;simp[ze]at hr;simp[*,F51,ze,zza]
 cases hN:zYc p
 ·rw[hR]at hr;rw[hN]at hn;clear hfit z3;simp[ze]at hr hn;simp[*,F51,ze,zza]
 rw[hR]at hr;rw[hN]at hn;simp[ze,funcs]at hr hn;simp[hr,hn,F51,ze,funcs];refine zTc p.funcs K51_0 B51_0 (fun d=>[(21,.int .i64 d.length)]) (fun d=>[(3,.cells [.int .i64 0,.int .i64 0])]) (fun d=>d.map fun f=>fob p f.type (zvb p f).2) (fun d=>∀f∈d,(zvb p f).1=0) (by omega) (by simp) ?_ ?_
 ·intros d x r s1 hl' hlt hget hget' hw1 hp h1 h2 h3 h5 h4;have hC:=zFd p (x::r) d 0 hp;rw[<-hl'.eq,zOc,Int.zero_add]at hC;obtain⟨y1,y2⟩:=z3 x hl'.mem;have hbR:zS x.body 100=true:=by
   unfold zdc at hR;rw[yb,yu,yu]at hR;have:=hR.2 x hl'.mem;unfold zhe at this;simp only[yb]at this;exact this.2.2.2.1
  have e1:=twice_spec x.params (by omega);have e2:=scoped_spec x.params [] (by omega);have e3:=ends_spec x.body 100 y1 hbR;have hlen:(d.map fun f=>fob p f.type (zvb p f).2).length=d.length:=by simp
  have e4:=block_spec' (wtSs x.body) p x.type x.body (zca x.params) 1 100 0 false ((d.map fun f=>fob p f.type (zvb p f).2)++[fob p x.type 0]) d.length (ye _) y1 hfit hbR (by omega) (by omega) (by omega) (by omega) (by omega) (by rw[yg (by omega),hlen];simp);have hnx:(zvb p x).1=0->∀f∈d++[x],(zvb p f).1=0:=by
   intro h f hf;rcases yx.1 hf with hf|hf
   ·exact hp f hf
   ·rw[yI.1 hf];exact h
  have hset:∀v,((d.map fun f=>fob p f.type (zvb p f).2)++[fob p x.type 0]).set d.length v=(d.map fun f=>fob p f.type (zvb p f).2)++[v]:=by
   intro v;rw[yda _ _ (by omega),hlen];simp
  have hmap:(d++[x]).map (fun f=>fob p f.type (zvb p f).2)=(d.map fun f=>fob p f.type (zvb p f).2)++[fob p x.type (zvb p x).2]:=by simp
  rw[hset]at e4;have h1x:zvb p x=if twiceM x.params then(50,0)else(if(zka p x.type x.body (zca x.params) 1 false 0).1=0/\zMc x.body=false then 52 else(zka p x.type x.body (zca x.params) 1 false 0).1,(zka p x.type x.body (zca x.params) 1 false 0).2):=rfl
  generalize hfx:zvb p x=fx at*;generalize zka p x.type x.body (zca x.params) 1 false 0=q at*;generalize twiceM x.params=tw at*;generalize zMc x.body=en at*;obtain⟨f,n⟩:=q;obtain⟨fe,fn⟩:=fx;simp only at e4 hC hnx hmap h1x;generalize hσ:(d.map fun f=>fob p f.type (zvb p f).2)=σ at*;have hget0:(σ++[fob p x.type n])[d.length]? =some (fob p x.type n):=by rw[yg (by omega),hlen];simp
  simp at h1 h2 h3 h4 h5;simp[parsV]at e1 e2;simp[zg]at e3 e4;clear hl' hR hN hset hbR y1 y2 z1 z2 z3 hfit hp;unfold fob at*;simp only[funcs]at e4 hget0 hmap;cases tw
  case true=>
   simp at h1x;obtain⟨rfl,rfl⟩:=h1x;simp at hC;clear e2 e3 e4 hnx hmap hget0 hlen hfx;simp[*,zl,parsV,zg,zza]
  simp at h1x;obtain⟨ha,rfl⟩:=h1x;by_cases hf:f=0
  ·subst hf;cases en
   ·simp at ha;subst ha;simp at hC;clear hnx hmap hfx;simp[*,zl,parsV,zg,zza]
   ·simp at ha;subst ha;replace hnx:=hnx rfl;have keep:fn=(zvb p x).2/\∀g,g∈d\/g=x->(zvb p g).1=0:=⟨by rw[hfx],fun g hg=>hnx g (by simpa using hg)⟩
    clear hC hnx hfx hmap;simp[*,-keep,zl,parsV,zg,zza];exact⟨⟨rfl,keep.1⟩,keep.2⟩
  ·simp[hf]at ha;subst ha;simp[hf]at hC;replace hf:=eqn hf;clear hnx hmap hfx;simp[*,zl,parsV,zg,zza]
 ·intros s1 hp h1 h2 h3 h5 h4;have hC:=zFd p [] p.funcs 0 hp;rw[List.append_nil,zOc]at hC;rw[hC];simp at h1 h2 h3 h4 h5;clear hp hC z3;simp[*,zza]
theorem nodup_idx{α:Type}(f:α->List UInt8)(l:List α):(l.map f).Nodup<->∀d x r,l=d++x::r->idx (fun y=>decide (f y=f x)) l=d.length:=by
 constructor
 ·intro h d x r e;subst e;refine idx_hit (x:=x) (r:=r) rfl ?_ (by simp);intro y hy;rw[yca,yQa]at h;exact decide_eq_false (h.2.2 _ (List.mem_map_of_mem hy) _ (by simp))
 ·intro h;have:∀d r,l=d++r->(d.map f).Nodup:=by
   intro d;suffices hs:∀d:List α,∀r,l=d.reverse++r->(d.reverse.map f).Nodup by
    intro r e;have:=hs d.reverse r (by simpa using e);simpa using this
   intro d
   induction d with
   |nil=>intro r _;simp
   |cons x d ih=>
    intro r e;rw[yGa,yO]at e;have h1:=ih _ e;have h2:=h d.reverse x r (by simpa using e);rw[yGa,yca,yQa];refine⟨h1,by simp,?_⟩;intro a ha b hb hab;simp only[yv,yxa,yI]at hb;subst hb;rw[List.mem_map]at ha;obtain⟨y,hy,rfl⟩:=ha;obtain⟨s,t,hst⟩:=List.append_of_mem hy;have h3:idx (fun y=>decide (f y=f x)) l<=s.length:=by
     rw[e,hst];clear h2 h1 ih e h;have:∀s:List α,idx (fun y=>decide (f y=f x)) ((s++y::t)++([x]++r))<=s.length:=by
      intro s;unfold idx;have hf:(((s++y::t)++([x]++r)).findIdx? fun y=>decide (f y=f x)).isSome=true:=by
       rw[List.findIdx?_isSome,List.any_eq_true];exact⟨y,by simp,by simp[hab]⟩
      cases hfi:((s++y::t)++([x]++r)).findIdx? fun y=>decide (f y=f x)with
      |none=>simp
      |some i=>
       simp only;have hle:i<=s.length:=by
        rcases yA s.length i with hlt|hge
        ·rw[List.findIdx?_eq_some_iff_getElem]at hfi;obtain⟨_,_,h3⟩:=hfi;have:=h3 s.length hlt;simp[hab]at this
        ·exact hge
       omega
     exact this s
    rw[h2,hst]at h3;simp at h3;omega
  have:=this l [] (by simp);exact this
theorem idx_neg{α:Type}(p:α->Bool)(l:List α):idx p l<0<->∀y∈l,p y=false:=by
 rcases zAd p l with⟨a1,a2⟩|⟨n,f,a1,a2,a3,a4,a5⟩
 ·rw[a1];simp only[yba]at a2;constructor
  ·intro _ y hy;simpa using a2 y hy
  ·intro _;omega
 ·rw[a1];constructor
  ·intro h;omega
  ·intro h;have:=h f (yR a2);rw[a5]at this;exact absurd this (by decide)
set_option maxHeartbeats 4000000 in
theorem globals_spec(p:Prog)(hz:Fit p):zj E 72 [ze p] []=some (.ret (.bool (zYc p)),[]):=by
 have ha:=hz.a;have hf:=hz.f;have hpl:=zEe p zqe (by omega);have hcond:decide ((p.arrays.map (·.name)++p.funcs.map (·.name)).Nodup)=true<->(∀d x r,p.arrays=d++x::r->zdb p x.name=d.length/\zya p x.name<0)/\(∀d x r,p.funcs=d++x::r->zya p x.name=d.length):=by
  rw[decide_eq_true_eq,yQa,nodup_idx (fun a:PArr=>a.name),nodup_idx (fun a:Func=>a.name)];constructor
  ·rintro⟨h1,h2,h3⟩
   refine⟨fun d x r e=>⟨h1 d x r e,?_⟩,h2⟩;rw[zya,idx_neg];intro y hy;have:=h3 x.name (List.mem_map_of_mem (by rw[e];simp)) y.name (List.mem_map_of_mem hy);exact decide_eq_false fun h=>this h.symm
  ·rintro⟨h1,h2⟩
   refine⟨fun d x r e=>(h1 d x r e).1,h2,?_⟩;intro a ha b hb hab;rw[List.mem_map]at ha hb;obtain⟨x,hx,rfl⟩:=ha;obtain⟨y,hy,rfl⟩:=hb;obtain⟨s,t,hst⟩:=List.append_of_mem hx;have:=(h1 s x t hst).2;rw[zya,idx_neg]at this;have:=this y hy;simp only[decide_eq_false_iff_not]at this;exact this hab.symm
 refine zc rfl rfl rfl (by simp[ze]) ?_;have hno:¬((∀d x r,p.arrays=d++x::r->zdb p x.name=d.length/\zya p x.name<0)/\(∀d x r,p.funcs=d++x::r->zya p x.name=d.length))->zYc p=false:=by
  intro h;rw[<-hcond]at h;rw[Bool.not_eq_true]at h;unfold zYc;rw[h];rfl
 simp[F72,ze,zZ,funcs];refine zD p.arrays K72_0 B72_0 (fun d=>[(3,.int .i64 d.length)]) (fun _=>[]) (fun d=>∀e x r,d=e++x::r->zdb p x.name=e.length/\zya p x.name<0) (by omega) (by simp) ?_ ?_
 ·intros d x r s1 hl' hlt hget hget' hw1 hp h1 h2 h3 h4;simp at h1 h2 h3 h4;have e1:=rarray_spec p x.name (by omega);have e2:=zEe p x.name (by omega);simp[ze,zZ,funcs]at e1 e2;have hbad:¬(zdb p x.name=d.length/\zya p x.name<0)->zYc p=false:=fun h=>hno fun hh=>h (hh.1 d x r hl'.eq)
  have hgood:zdb p x.name=d.length->zya p x.name<0->∀e y q,d++[x]=e++y::q->zdb p y.name=e.length/\zya p y.name<0:=by
   intro g1 g2 e y q hh;rcases List.append_eq_append_iff.1 hh with⟨a,ha1,ha2⟩|⟨a,ha1,ha2⟩
   ·cases a with
    |nil=>simp at ha1 ha2;obtain⟨rfl,rfl⟩:=ha2;subst ha1;exact⟨g1,g2⟩
    |cons z a=>simp at ha2
   ·cases a with
    |nil=>simp at ha1 ha2;obtain⟨rfl,rfl⟩:=ha2;subst ha1;exact⟨g1,g2⟩
    |cons z a=>
     simp at ha2;obtain⟨rfl,_⟩:=ha2;exact hp e y a ha1
  generalize zYc p=R at*;clear hno hcond hl' hp hpl;by_cases c1:zdb p x.name=d.length
  ·by_cases c2:zya p x.name<0
   ·replace hgood:=hgood c1 c2;have c2':(0<=zya p x.name)=False:=eqn (by omega);replace c1:=eqp c1;clear hbad c2;simp[*,-hgood,zH];exact hgood
   ·have hR:=hbad (fun h=>c2 h.2);have c2':(0<=zya p x.name)=True:=eqp (by omega);subst hR;replace c1:=eqp c1;clear hbad c2 hgood;simp[*,zH]
  ·have hR:=hbad (fun h=>c1 h.1);subst hR;replace c1:=eqn c1;clear hbad hgood;simp[*,zH]
 intros s1 hp h1 h2 h3 h4;simp at h1 h2 h3 h4;simp[h1,h2,h3,h4];refine zD p.funcs K72_1 B72_1 (fun d=>[(4,.int .i64 d.length)]) (fun _=>[]) (fun d=>∀e x r,d=e++x::r->zya p x.name=e.length) (by omega) ?_ ?_ ?_
 ·simp
 ·intros d x r s2 hl' hlt hget hget' hw1 hp2 g1 g2 g3 g4;simp at g1 g2 g3 g4;have e2:=zEe p x.name (by omega);simp[ze,zZ,funcs]at e2;have hbad:¬(zya p x.name=d.length)->zYc p=false:=fun h=>hno fun hh=>h (hh.2 d x r hl'.eq)
  have hgood:zya p x.name=d.length->∀e y q,d++[x]=e++y::q->zya p y.name=e.length:=by
   intro g1 e y q hh;rcases List.append_eq_append_iff.1 hh with⟨a,ha1,ha2⟩|⟨a,ha1,ha2⟩
   ·cases a with
    |nil=>simp at ha1 ha2;obtain⟨rfl,rfl⟩:=ha2;subst ha1;exact g1
    |cons z a=>simp at ha2
   ·cases a with
    |nil=>simp at ha1 ha2;obtain⟨rfl,rfl⟩:=ha2;subst ha1;exact g1
    |cons z a=>
     simp at ha2;obtain⟨rfl,_⟩:=ha2;exact hp2 e y a ha1
  generalize zYc p=R at*;clear hno hcond hl' hp hp2 hpl h1 h3;by_cases c1:zya p x.name=d.length
  ·replace hgood:=hgood c1;replace c1:=eqp c1;clear hbad;simp[*,-hgood,zl];exact hgood
  ·have hR:=hbad c1;subst hR;replace c1:=eqn c1;clear hbad hgood;simp[*,zl]
 ·intros s2 hp2 g1 g2 g3 g4;simp at g1 g2 g3 g4;have hyes:decide ((p.arrays.map (·.name)++p.funcs.map (·.name)).Nodup)=true:=hcond.2 ⟨fun d x r e=>hp d x r e,fun d x r e=>hp2 d x r e⟩;simp[ze,zqe,zZ,funcs]at hpl;clear hcond hno hp hp2 h1 h3;rcases zAd (fun f:Func=>decide (f.name=zqe)) p.funcs with⟨a1,a2⟩|⟨n,f,a1,a2,a3,a4,a5⟩
  ·have a1:zya p zqe= -1:=a1;have a2:zfc p zqe=none:=a2;simp[zqe]at a1;rw[a1]at hpl;have hN:zYc p=false:=by unfold zYc;rw[a2];simp
   rw[hN];clear ha hf a2 a1 hyes;simp[*]
  ·have a1:zya p zqe=n:=a1;have a3:zfc p zqe=some f:=a3;simp[zqe]at a1;rw[a1]at hpl;have hN:zYc p=(decide (f.type=1)&&decide (f.params=[])):=by unfold zYc;rw[hyes,a3];rfl
   rw[hN];clear ha hf a3 a4 a5 a1 hyes hN;by_cases ht:f.type=1
   ·replace ht:=eqp ht;simp[*,zl,parsV]
   ·replace ht:=eqn ht;simp[*,zl,parsV]
theorem zPd(l:List Par):zna (zca l)=l:=by
 suffices h:∀l:List Par,zna (zca l.reverse)=l.reverse by
  have:=h l.reverse;simpa using this
 intro l
 induction l with
 |nil=>rfl
 |cons x r ih=>
  rw[yGa,zQd,zrd,ih];rfl
theorem scopedV_len(l:List Par):(zca l).length=l.length:=by
 have:=congrArg List.length (zPd l);rw[zsb]at this;exact this
theorem scopedV_depth(l:List Par):∀v∈zca l,v.depth=0:=by
 suffices h:∀l:List Par,∀v∈zca l.reverse,v.depth=0 by
  have:=h l.reverse;simpa using this
 intro l
 induction l with
 |nil=>intro v hv;simp[zca]at hv
 |cons x r ih=>
  rw[yGa,zQd];intro v hv;rcases yB.1 hv with rfl|hv
  ·rfl
  ·exact ih v hv
theorem scopedV_find(l:List Par)(nm:List UInt8):zKa (zca l) nm=[]<->nm ∉ l.map (·.name):=by
 suffices h:∀s:List Vr,zKa s nm=[]<->nm ∉ (zna s).map (·.name) by
  rw[h,zPd]
 intro s
 induction s with
 |nil=>simp[zKa,zna]
 |cons v r ih=>
  rw[zgc,zrd,yca,yx];by_cases h:v.name=nm
  ·simp[h,parOf]
  ·rw[if_neg h,ih];simp[parOf];intro _ hh;exact h hh.symm
set_option maxRecDepth 20000 in
set_option maxHeartbeats 16000000 in
theorem rcheckP_spec(p:Prog)(hz:PSz p):zj E 39 [ze p] []=some (.ret (zza (zbb p)),[]):=by
 have hfit:=hz.fit;obtain⟨z1,z2,z3⟩:=hz;have hr:=right_spec p ⟨z1,z2,z3⟩;have hn:=globals_spec p hfit;refine zc rfl rfl rfl (by simp[ze]) ?_;unfold zbb;cases hR:zdc p
 ·rw[hR]at hr;clear hn hfit z3;simp[ze]at hr;simp[*,F39,ze,zza]
 cases hN:zYc p
 ·rw[hR]at hr;rw[hN]at hn;clear hfit z3;simp[ze]at hr hn;simp[*,F39,ze,zza]
 rw[hR]at hr;rw[hN]at hn;simp[ze,funcs]at hr hn;simp[hr,hn,F39,ze,funcs];refine zTc p.funcs K39_1 B39_1 (fun d=>[(4,.int .i64 d.length)]) (fun d=>[(3,.cells [.int .i64 0,.int .i64 0])]) (fun d=>d.map fun f=>cob p f (zvb p f).2) (fun d=>∀f∈d,(zvb p f).1=0) (by omega) (by simp) ?_ ?_
 ·intros d x r s1 hl' hlt hget hget' hw1 hp h1 h2 h3 h5 h4;have hC:=zFd p (x::r) d 0 hp;rw[<-hl'.eq,zOc,Int.zero_add]at hC;obtain⟨y1,y2⟩:=z3 x hl'.mem;have hfR:zhe x=true:=by
   unfold zdc at hR;rw[yb,yu,yu]at hR;exact hR.2 x hl'.mem
  have hbR:zS x.body 100=true:=by
   unfold zhe at hfR;simp only[yb]at hfR;exact hfR.2.2.2.1
  have hp8:x.params.length<=8:=by
   unfold zhe at hfR;simp only[yb,decide_eq_true_eq]at hfR;exact hfR.2.2.1
  have e3:=rends_spec x.body 100 y1 hbR;have hlen:(d.map fun f=>cob p f (zvb p f).2).length=d.length:=by simp
  have e4:=rblock_spec' (wtSs x.body) p x x.body (zca x.params) 1 100 0 false ((d.map fun f=>cob p f (zvb p f).2)++[cob p x 0]) d.length (ye _) y1 hfit hbR (by omega) (by omega) (by rw[scopedV_len];omega) (by intro v hv;rw[scopedV_depth _ v hv];omega) (by rw[yg (by omega),hlen];simp);rw[zPd]at e4;have hnx:(zvb p x).1=0->∀f∈d++[x],(zvb p f).1=0:=by
   intro h f hf;rcases yx.1 hf with hf|hf
   ·exact hp f hf
   ·rw[yI.1 hf];exact h
  have hset:∀v,((d.map fun f=>cob p f (zvb p f).2)++[cob p x 0]).set d.length v=(d.map fun f=>cob p f (zvb p f).2)++[v]:=by
   intro v;rw[yda _ _ (by omega),hlen];simp
  rw[hset]at e4;have h1x:zvb p x=if twiceM x.params then(50,0)else(if(zka p x.type x.body (zca x.params) 1 false 0).1=0/\zMc x.body=false then 52 else(zka p x.type x.body (zca x.params) 1 false 0).1,(zka p x.type x.body (zca x.params) 1 false 0).2):=rfl
  generalize hfx:zvb p x=fx at*;generalize zka p x.type x.body (zca x.params) 1 false 0=q at*;have htw:twiceM x.params= !decide ((x.params.map (·.name)).Nodup):=rfl;generalize twiceM x.params=tw at*;generalize zMc x.body=en at*;obtain⟨f,n⟩:=q;obtain⟨fe,fn⟩:=fx;simp only at e4 hC hnx h1x;generalize hσ:(d.map fun f=>cob p f (zvb p f).2)=σ at*;have hget0:(σ++[cob p x n])[d.length]? =some (cob p x n):=by rw[yg (by omega),hlen];simp
  simp at h1 h2 h3 h4 h5;simp[zg,parsV]at e3 e4;clear hl' hR hN hset hbR hfR y1 y2 z1 z2 z3 hfit hp;have hcx:cob p x 0= .arr 7 [.agg [zZ p.arrays,.slice .plain 4 (p.funcs.map zl),.str x.name,.int .i64 x.type,.slice .plain 2 (x.params.map encPar),.slice .plain 6 (x.body.map zu),.int .i64 0]]:=rfl;have hcn:cob p x n= .arr 7 [.agg [zZ p.arrays,.slice .plain 4 (p.funcs.map zl),.str x.name,.int .i64 x.type,.slice .plain 2 (x.params.map encPar),.slice .plain 6 (x.body.map zu),.int .i64 n]]:=rfl;rw[hcx,hcn]at e4;rw[hcn]at hget0;have keep:tw=false->fe=0->(.arr 7 [.agg [zZ p.arrays,.slice .plain 4 (p.funcs.map zl),.str x.name,.int .i64 x.type,.slice .plain 2 (x.params.map encPar),.slice .plain 6 (x.body.map zu),.int .i64 n]]=cob p x (zvb p x).2)/\∀g,g∈d\/g=x->(zvb p g).1=0:=by
   intro h1 h2;rw[h1]at h1x;simp at h1x;rw[hfx];simp only;rw[h1x.2,<-hcn];exact⟨rfl,fun g hg=>hnx h2 g (by simpa using hg)⟩
  clear hcx hcn hnx hfx;simp[*,-keep,zl,parsV,zg];refine zTc x.params K39_0 B39_0 (fun d=>[(6,.int .i64 d.length)]) (fun _=>[(3,.cells [.int .i64 0,.int .i64 0])]) (fun _=>σ) (fun d=>(d.map (·.name)).Nodup) (by omega) ?_ ?_ ?_
  ·simp[*,-keep]
  ·intros d2 y r2 s2 hl2 hlt2 hget2 hget2' hw2 hp2 k1 k2 k3 k5 k4;simp at k1 k2 k3 k4 k5;have hf2:=rfind_spec (zca d2) y.name (by rw[scopedV_len];omega);rw[zPd]at hf2;have htk:x.params.take d2.length=d2:=by rw[hl2.eq];simp
   have hdup:zKa (zca d2) y.name≠ []->tw=true:=by
    intro h;rw[htw,hl2.eq];simp only[yJ,decide_eq_false_iff_not];intro hh;rw[yca,yQa]at hh;rw[ne_eq,scopedV_find,Classical.not_not]at h;exact hh.2.2 _ h _ (by simp) rfl
   have hok:zKa (zca d2) y.name=[]->((d2++[y]).map (·.name)).Nodup:=by
    intro h;rw[scopedV_find]at h;rw[yca,yQa];refine⟨hp2,by simp,?_⟩;intro a ha b hb hab;simp at hb;rw[hb]at hab;rw[hab]at ha;exact h ha
   have htk2:(x.params.map encPar).take d2.length=d2.map encPar:=by rw[<-List.map_take,htk]
   generalize hfv:zKa (zca d2) y.name=fv at*;simp[zeb,parsV]at hf2;have hlt2i:(d2.length:Int)<x.params.length:=by omega
   have hle2:d2.length<=x.params.length:=by omega
   clear htw hl2 hp2 e3 e4 htk hfv hget0 keep;cases fv with
   |nil=>
    replace hok:=hok rfl;clear hdup hC;simp at hf2;simp[*,-hok,encPar]
    all_goals(try grind)
   |cons z zr=>
    replace hdup:=hdup (by simp);subst hdup;simp at h1x;obtain⟨rfl,rfl⟩:=h1x;simp at hC;clear hok;simp at hf2;simp[*,encPar,zza]
  ·intros s2 hp2 k1 k2 k3 k5 k4;simp at k1 k2 k3 k4 k5;have htwf:tw=false:=by rw[htw];simp;exact hp2
   replace keep:=keep htwf;subst htwf;simp at h1x;obtain⟨ha,rfl⟩:=h1x;clear hp2 htw;simp[*,-keep,zl,parsV,zg];by_cases hf:f=0
   ·subst hf;cases en
    ·simp at ha;subst ha;simp at hC;clear keep;simp[*,zl,parsV,zg,zza]
    ·simp at ha;subst ha;replace keep:=keep rfl;clear hC;simp[*,-keep,zl,parsV,zg,zza];exact keep
   ·simp[hf]at ha;subst ha;simp[hf]at hC;replace hf:=eqn hf;clear keep;simp[*,zl,parsV,zg,zza]
 ·intros s1 hp h1 h2 h3 h5 h4;have hC:=zFd p [] p.funcs 0 hp;rw[List.append_nil,zOc]at hC;rw[hC];simp at h1 h2 h3 h4 h5;clear hp hC z3;simp[*,zza]
def zy:List Par->Nm->Nat->List Par×Nm×Nat
 | [],N,c=>([],N,c)
 |x::r,N,c=>
  let z:=zy r ((x.name,newN c)::N) (c+1)
  (⟨newN c,x.type⟩::z.1,z.2)
theorem renPs_append:∀(a b:List Par) (N:Nm) (c:Nat),zy (a++b) N c=((zy a N c).1++(zy b (zy a N c).2.1 (zy a N c).2.2).1,(zy b (zy a N c).2.1 (zy a N c).2.2).2)
 | [],b,N,c=>by simp[zy]
 |x::r,b,N,c=>by simp[zy,renPs_append r b]
theorem zXc:∀(a:List Par) (N:Nm) (c:Nat),(zy a N c).1.length=a.length/\(zy a N c).2.1.length=N.length+a.length/\(zy a N c).2.2=c+a.length
 | [],N,c=>by simp[zy]
 |x::r,N,c=>by
  have:=zXc r ((x.name,newN c)::N) (c+1);simp only[zy,yj]at this ⊢;omega
def renF(f:Func):Func:=⟨f.name,f.type,(zy f.params [] 0).1,(renB f.body (zy f.params [] 0).2.1 (zy f.params [] 0).2.2).1⟩
def renC(f:Func):Nat:=(renB f.body (zy f.params [] 0).2.1 (zy f.params [] 0).2.2).2.2
def renP(p:Prog):Prog:=⟨p.arrays,p.funcs.map renF⟩
def encRen(q:Prog×Int):PV:= .tup [ze q.1,.int .i64 q.2]
theorem aS{cf:zI}{s0 s:St}{r:List GOp}{Q:Ex->St->Prop}{a:_}{b:_}{o:_}{sz:Nat}{l:List PV}(f:PV->Option (PV×Bx×zd))(h:after cf s0 r Q (doOp a b o s (f (acc sz l)))):
  after cf s0 r Q (doOp a b o s (match isOwn (acc sz l)with|none=>f (strip (acc sz l))|some (z,k)=>f (.slice .own z k))):=by
 cases l<;>exact h
def zlb(f:Func)(q:Nat):PV:= .agg [.str f.name,.int .i64 f.type,if f.params=[]then .slice .plain 2 []else .mslice q 0 f.params.length 2,zg f.body]
def zdd(f:Func):List Obj:=if f.params=[]then[]else[.arr 2 (f.params.map encPar)]
def zX(fs:List Func)(qs:List Nat):List PV:=List.zipWith zlb fs qs
theorem openFs_len{fs:List Func}{qs:List Nat}(h:qs.length=fs.length):(zX fs qs).length=fs.length:=by
 unfold zX;rw[List.length_zipWith,h];exact Nat.min_self _
theorem openFs_snoc{fs:List Func}{qs:List Nat}(h:qs.length=fs.length)(f:Func)(q:Nat):zX (fs++[f]) (qs++[q])=zX fs qs++[zlb f q]:=by
 unfold zX;rw[List.zipWith_append h.symm];rfl
theorem openFs_get{fs:List Func}{qs:List Nat}{i:Nat}{f:Func}{q:Nat}(h:fs[i]? =some f)(h':qs[i]? =some q):(zX fs qs)[i]? =some (zlb f q):=by
 unfold zX;rw[List.getElem?_zipWith,h,h']
theorem stripA_openF(f:Func)(q:Nat):stripA (zlb f q)=zlb f q:=by
 unfold zlb;split<;>simp[stripA,strip,zg]
theorem zhd:∀(fs:List Func) (qs:List Nat),(zX fs qs).map stripA=zX fs qs
 | [],qs=>by simp[zX]
 |f::fs,[]=>by simp[zX]
 |f::fs,q::qs=>by
  have ih:=zhd fs qs;unfold zX at ih ⊢;simp only[List.zipWith_cons_cons,yv,stripA_openF,ih]
theorem below_openF{n:Nat}(f:Func)(q:Nat)(h:f.params≠ []->q<n):zz n (zlb f q)=true:=by
 have hb:zO n (f.body.map zu)=true:=pl_stmt n f.body;unfold zlb;split
 ·simp[zz,zO,zg,hb]
 ·rename_i hp;simp[zz,zO,zg,hb,h hp]
theorem below_openFs{n:Nat}:∀(fs:List Func) (qs:List Nat),(∀(i:Nat) f q,fs[i]? =some f->qs[i]? =some q->f.params≠ []->q<n)->zO n (zX fs qs)=true
 | [],qs,h=>by simp[zX,zO]
 |f::fs,[],h=>by simp[zX,zO]
 |f::fs,q::qs,h=>by
  have ih:=below_openFs fs qs (fun i f q a b=>h (i+1) f q (by simpa using a) (by simpa using b));have hq:=below_openF f q (h 0 f q rfl rfl);unfold zX at ih ⊢;simp only[List.zipWith_cons_cons,zO,ih,hq,Bool.and_self]
structure OpenP(σ:zd)(F:Nat)(fs:List Func)(qs:List Nat):Prop where
 len:qs.length=fs.length
 row:σ[F]? =some (.arr 4 (zX fs qs))
 par:∀(i:Nat) f q,fs[i]? =some f->qs[i]? =some q->f.params≠ []->σ[q]? =some (.arr 2 (f.params.map encPar))/\q≠F
 nd:∀(i j:Nat) f g q,fs[i]? =some f->fs[j]? =some g->qs[i]? =some q->qs[j]? =some q->f.params≠ []->g.params≠ []->i=j
def accF(F n:Nat):PV:=if n=0 then .slice .fit 4 []else .mslice F 0 n 4
def OpenA(σ:zd)(F:Nat)(fs:List Func)(qs:List Nat):Prop:=(fs=[]/\qs=[])\/(fs≠ []/\OpenP σ F fs qs)
theorem snoc_get{α:Type}{l:List α}{x y:α}{i:Nat}(h:(l++[x])[i]? =some y):(i<l.length/\l[i]? =some y)\/(i=l.length/\y=x):=by
 by_cases hi:i<l.length
 ·rw[yh hi]at h;exact .inl ⟨hi,h⟩
 ·rw[yg (by omega)]at h;obtain⟨j,hj⟩:∃j,i-l.length=j:=⟨_,rfl⟩
  rw[hj]at h
  match j,h with
  |0,h=>exact .inr ⟨by omega,by simpa using h.symm⟩
def nextO(σ1:zd)(F:Nat)(fs:List Func)(qs:List Nat)(f:Func)(q:Nat):zd:=(if fs=[]then σ1 else σ1.set F (.dead 4))++[.arr 4 (zX fs qs++[zlb f q])]
theorem OpenA.snoc{σ:zd}{F:Nat}{fs:List Func}{qs:List Nat}(h:OpenA σ F fs qs){σ1:zd}(f:Func)(q:Nat)
  (hkeep:∀(i:Nat) o,σ[i]? =some o->σ1[i]? =some o) (hle:σ.length<=σ1.length) (hq:σ.length<=q) (hpar:f.params≠ []->σ1[q]? =some (.arr 2 (f.params.map encPar))):
  OpenA (nextO σ1 F fs qs f q) σ1.length (fs++[f]) (qs++[q]):=by
 unfold nextO;refine .inr ⟨by simp,?_⟩;rcases h with⟨rfl,rfl⟩|⟨hne,h⟩
 ·rw[if_pos rfl];have hcase:∀(i:Nat) g q',([]++[f])[i]? =some g->([]++[q])[i]? =some q'->i=0/\g=f/\q'=q:=by
   intro i g q' hg hq';rcases snoc_get hg with⟨a,_⟩|⟨a,b⟩
   ·simp at a
   ·rcases snoc_get hq' with⟨c,_⟩|⟨_,d⟩
    ·simp at c
    ·exact⟨a,b,d⟩
  refine⟨rfl,by rw[yg (ye _)];simp[zX],?_,?_⟩
  ·intro i g q' hg hq' hgp;obtain⟨rfl,rfl,rfl⟩:=hcase i g q' hg hq';have h1:=hpar hgp;have h2:=(ya.1 h1).1;exact⟨by rw[yh h2];exact h1,by omega⟩
  ·intro i j g g' q' hg hg' hq' hq'' _ _;rw[(hcase i g q' hg hq').1,(hcase j g' q' hg' hq'').1]
 ·rw[if_neg hne];have hl:(σ1.set F (.dead 4)).length=σ1.length:=by simp
  have hFl:F<σ.length:=(ya.1 h.row).1;have hlt:∀(i:Nat) g q',fs[i]? =some g->qs[i]? =some q'->g.params≠ []->q'<σ.length:=fun i g q' a b c=>(ya.1 (h.par i g q' a b c).1).1
  have hcase:∀(i:Nat) g q',(fs++[f])[i]? =some g->(qs++[q])[i]? =some q'->(i<fs.length/\fs[i]? =some g/\qs[i]? =some q')\/(i=fs.length/\g=f/\q'=q):=by
   intro i g q' hg hq';have hln:=h.len;rcases snoc_get hg with⟨a,b⟩|⟨a,b⟩<;>rcases snoc_get hq' with⟨c,d⟩|⟨c,d⟩
   ·exact .inl ⟨a,b,d⟩
   ·omega
   ·omega
   ·exact .inr ⟨a,b,d⟩
  refine⟨by simp[h.len],by rw[yg (by omega),hl,Nat.sub_self,openFs_snoc h.len];rfl,?_,?_⟩
  ·intro i g q' hg hq' hgp;rcases hcase i g q' hg hq' with⟨_,a,b⟩|⟨_,rfl,rfl⟩
   ·have h1:=h.par i g q' a b hgp;have h2:=hlt i g q' a b hgp;refine⟨?_,by omega⟩;rw[yh (by omega),yl (fun e=>h1.2 e.symm)];exact hkeep _ _ h1.1
   ·have h1:=hpar hgp;have h2:=(ya.1 h1).1;refine⟨?_,by omega⟩;rw[yh (by omega),yl (by omega)];exact h1
  ·intro i j g g' q' hg hg' hq' hq'' hp hp';rcases hcase i g q' hg hq' with⟨_,a,b⟩|⟨a,rfl,rfl⟩<;>rcases hcase j g' q' hg' hq'' with⟨_,c,d⟩|⟨c,e,d⟩
   ·exact h.nd i j g g' q' a c b d hp hp'
   ·have:=hlt i g q' a b hp;omega
   ·have:=hlt j g' q' c d hp';omega
   ·omega
def arrV(l:List PArr):PV:=if l=[]then .slice .plain 2 []else .mslice 0 0 l.length 2
def ArrOk(σ:zd)(F:Nat)(qs:List Nat)(l:List PArr):Prop:=l≠ []->σ[0]? =some (.arr 2 (l.map zH))/\F≠0/\∀q∈qs,q≠0
theorem ArrOk.snoc{σ:zd}{F:Nat}{fs:List Func}{qs:List Nat}{l:List PArr}(h:ArrOk σ F qs l){σ1:zd}(f:Func)(q:Nat)
  (hkeep:∀(i:Nat) o,σ[i]? =some o->σ1[i]? =some o) (hle:σ.length<=σ1.length) (hq:σ.length<=q):ArrOk (nextO σ1 F fs qs f q) σ1.length (qs++[q]) l:=by
 intro hne;obtain⟨h1,h2,h3⟩:=h hne;have hl:=(ya.1 h1).1;refine⟨?_,by omega,?_⟩
 ·unfold nextO;split
  ·rw[yh (by omega)];exact hkeep _ _ h1
  ·rw[yh (by simp;omega),yl h2];exact hkeep _ _ h1
 ·intro q' hq';rcases yx.1 hq' with hm|hm
  ·exact h3 q' hm
  ·simp at hm;omega
theorem wfS_all{σ:zd}:WfS σ<->∀n,σ.length<=n->∀o∈σ,Obj.below n o=true:=by
 unfold WfS zd.wf;simp only[yu]
theorem WfS.snocO{σ:zd}(h:WfS σ){F:Nat}{fs:List Func}{qs:List Nat}(hO:OpenA σ F fs qs){τ:zd}(hτ:∀n,zd.wf n τ=true)(f:Func)(q:Nat)(hq:f.params≠ []->q<(σ++τ).length):
  WfS (nextO (σ++τ) F fs qs f q):=by
 rw[wfS_all];intro n hn o ho;have hln:(σ++τ).length<n:=by
  unfold nextO at hn;split at hn<;>simp at hn ⊢ <;>omega
 have h1:∀o∈σ++τ,Obj.below n o=true:=fun o ho=>by
  rcases yx.1 ho with hm|hm
  ·exact wfS_all.1 h n (by simp at hln;omega) o hm
  ·exact yu.1 (hτ n) o hm
 unfold nextO at ho;rcases yx.1 ho with hm|hm
 ·split at hm
  ·exact h1 o hm
  ·rcases List.mem_or_eq_of_mem_set hm with hm|rfl
   ·exact h1 o hm
   ·rfl
 ·simp at hm;subst hm;show zO n (zX fs qs++[zlb f q])=true
  rw[belowL_append];have ha:zO n (zX fs qs)=true:=by
   rcases hO with⟨rfl,rfl⟩|⟨_,hO⟩
   ·rfl
   ·refine below_openFs fs qs fun i g q' a b c=>?_
    have:=(ya.1 (hO.par i g q' a b c).1).1;simp at hln;omega
  have hb:=below_openF (n:=n) f q (fun hp=>by have:=hq hp;omega);simp[ha,zO,hb]
theorem counter_spec(σ:zd):zj E 87 [] σ=some (.ret (.fn 115 [] [.ptr σ.length 0 0]),σ++[kobj 0]):=by
 refine zc rfl rfl rfl (by simp) ?_;simp[F87,kobj]
def f2s(σ:zd)(es:List (PV×PV))(c:Nat):zd:=σ++[.mp es,kobj c]
def f3s(σ:zd)(es:List (PV×PV))(c:Nat)(row:List PV):zd:=σ++[.mp es,kobj c,.arr 2 row]
section
variable (σ:zd) (es es':List (PV×PV)) (c c':Nat) (row row':List PV)
@[simp] theorem f2s_len:(f2s σ es c).length=σ.length+2:=by simp[f2s]
@[simp] theorem f3s_len:(f3s σ es c row).length=σ.length+3:=by simp[f3s]
@[simp high] theorem f3s_mp:(f3s σ es c row)[σ.length]? =some (.mp es):=by
 unfold f3s;rw[yg (ye _)];simp
@[simp high] theorem f2s_mp:(f2s σ es c)[σ.length]? =some (.mp es):=by
 unfold f2s;rw[yg (ye _)];simp
@[simp high] theorem f3s_row:(f3s σ es c row)[σ.length+2]? =some (.arr 2 row):=by
 unfold f3s;rw[yg (by omega),show σ.length+2-σ.length=2 by omega];rfl
@[simp high] theorem f3s_setmp:(f3s σ es c row).set σ.length (.mp es')=f3s σ es' c row:=by
 unfold f3s;rw[yda _ _ (ye _)];simp
@[simp high] theorem f3s_setrow:(f3s σ es c row).set (σ.length+2) (.arr 2 row')=f3s σ es c row':=by
 unfold f3s;rw[yda _ _ (by omega),show σ.length+2-σ.length=2 by omega];rfl
theorem kst_f3:kst (f3s σ es c row) (σ.length+1) c'=f3s σ es c' row:=by
 unfold kst f3s;rw[yda _ _ (by omega),show σ.length+1-σ.length=1 by omega];rfl
theorem kst_f2:kst (f2s σ es c) (σ.length+1) c'=f2s σ es c':=by
 unfold kst f2s;rw[yda _ _ (by omega),show σ.length+1-σ.length=1 by omega];rfl
end
theorem wf3{σ:zd}(h:WfS σ){es:List (PV×PV)}{N:Nm}(hM:MapN es N)(c:Nat)(l:List Par):WfS (f3s σ es c (l.map encPar)):=by
 refine h.add fun n=>?_
 have h1:=hM.flat n;have h2:=pl_par (k:=n) l;simp[zd.wf,Obj.below,kobj,h1,h2]
theorem wf2{σ:zd}(h:WfS σ){es:List (PV×PV)}{N:Nm}(hM:MapN es N)(c:Nat):WfS (f2s σ es c):=by
 refine h.add fun n=>?_
 have h1:=hM.flat n;simp[zd.wf,Obj.below,kobj,h1]
set_option maxHeartbeats 8000000 in
theorem pfuncU_spec(σ:zd)(hwf:WfS σ)(f:Func)(hb:wtSs f.body<1099508000000)(hp:f.params.length<1099509000000)(hsc:scSs (f.params.map (·.name)).reverse f.body):PC (zj E 53 [zl f] σ) (fun r st=>r= .ret (zlb (renF f) (σ.length+2))/\∃es c,(∀n,zAc n es=true)/\st=σ++([.mp es,kobj c]++zdd (renF f))):=by
 obtain⟨fnm,fty,ps,body⟩:=f;simp only at hb hp hsc;refine zXa rfl rfl rfl (by simp[zl]) ?_;have hcn:=counter_spec (σ++[.mp []]);simp only[yi,yH,yO,List.singleton_append]at hcn;have hnames:∀(e:List Par) (N:Nm) (c:Nat),(zy e N c).2.1.map (·.1)=(e.map (·.name)).reverse++N.map (·.1):=by
  intro e
  induction e with
  |nil=>intro N c;simp[zy]
  |cons y r ih=>intro N c;simp[zy,ih]
 by_cases hl:ps=[]
 ·subst hl;have hpc:=pclone_nil (σ++[.mp [],kobj 0]);have hbk:=pblock_spec (wtSs body) body [] 0 [] (f2s σ [] 0) σ.length (σ.length+1) (ye _) (by omega) (by simp;omega) (by omega) .nil (by simpa using hsc) (by simp) (by omega) (f2s_mp ..) (wf2 hwf .nil 0);rw[kst_f2,kst_f2]at hbk;have hren:renF ⟨fnm,fty,[],body⟩=⟨fnm,fty,[],(renB body [] 0).1⟩:=rfl;rw[hren];generalize renB body [] 0=q at*;obtain⟨o,N1,c1⟩:=q;simp only at hbk;clear hren hnames hsc hb hp;simp[zg]at hbk;simp[*,F53,zl,parsV,zg];refine zU K53_0 B53_0 (fun _:Unit=>0) (fun _=>[(16,.int .i64 0)]) (fun _=>[]) (fun _=>f2s σ [] 0) (fun _=>True) () ⟨by simp,by simp,by simp[f2s],trivial⟩ ?_
  rintro⟨⟩ s1-q1 q2 q3 q4 q5
  simp at q1 q2 q3 q5;simp[*,zlb,zdd,zg];exact⟨[],fun n=>rfl,c1,by simp[f2s]⟩
 ·have hne:ps.map encPar≠ []:=by simpa using hl
  have hroom:(ps.map encPar).length*24<=zn:=by simp only[zn,yr];omega
  have hpc:=pclone (σ++[.mp [],kobj 0]) hne hroom;simp only[yr,yi,yj,yn,yO,yU,ysa,yT]at hpc;simp[*,F53,zl,parsV,zg];refine zU K53_0 B53_0 (fun q:List Par×List (PV×PV)=>ps.length-q.1.length) (fun q=>[(16,.int .i64 q.1.length)]) (fun _=>[])
   (fun q=>f3s σ q.2 (zy q.1 [] 0).2.2 ((zy q.1 [] 0).1.map encPar++(ps.drop q.1.length).map encPar))
   (fun q=>q.1.length<=ps.length/\q.1=ps.take q.1.length/\MapN q.2 (zy q.1 [] 0).2.1) ([],[]) ⟨by simp,by simp,by simp[zy,f3s],by simp,by simp,by simpa[zy]using MapN.nil⟩ ?_
  rintro⟨d,es0⟩ s1 ⟨hdl,hdt,hM0⟩ h1 h2 h3 h2b h4
  simp only at hdl hdt hM0;simp at h1 h2 h3;clear hcn hpc h2b;by_cases hend:d.length=ps.length
  ·have hdd:d=ps:=by rw[hdt,hend,List.take_length]
   subst hdd;have hdec:decide (d.length<d.length)=false:=by simp
   simp only[List.drop_length,yxa,List.append_nil]at h4;have hps:=zXc d [] 0;have hnm:=hnames d [] 0;have hbk:=pblock_spec (wtSs body) body (zy d [] 0).2.1 (zy d [] 0).2.2 es0 (f3s σ es0 0 ((zy d [] 0).1.map encPar)) σ.length (σ.length+1) (ye _) (by omega) (by simp at hps;omega) (by omega) hM0 (by rw[hnm];simpa using hsc) (by simp) (by omega) (f3s_mp ..) (wf3 hwf hM0 0 _);rw[kst_f3,kst_f3]at hbk;have hren:renF ⟨fnm,fty,d,body⟩=⟨fnm,fty,(zy d [] 0).1,(renB body (zy d [] 0).2.1 (zy d [] 0).2.2).1⟩:=rfl;rw[hren];generalize zy d [] 0=q0 at*;obtain⟨po,N0,c0⟩:=q0;simp only at hbk hps h4 hren ⊢;obtain rfl:c0=d.length:=by have:=hps.2.2;omega
   generalize renB body N0 d.length=q at*;obtain⟨o,N1,c1⟩:=q;simp only at hbk;have htk2:(po.map encPar).take d.length=po.map encPar:=yy (by rw[yr,hps.1];exact ye _);have hle:d.length<=po.length:=by rw[hps.1];exact ye _
   have hpsl:=hps.1;have hfl:=hM0.flat;clear hren hnames hsc hb hp hdt hM0 hnm hps;simp[zg]at hbk;have hpn:po≠ []:=fun e=>hl (yaa.1 (by rw[<-hpsl,e];rfl))
   simp[*,zlb,zdd,zg];exact⟨es0,hfl,c1,by simp[f3s]⟩
  ·obtain⟨x,rr,hd1⟩:∃x rr,ps.drop d.length=x::rr:=by
    cases hq:ps.drop d.length with
    |nil=>have:=congrArg List.length hq;simp at this;omega
    |cons x rr=>exact⟨x,rr,rfl⟩
   have hlt:d.length<ps.length:=by omega
   have hdec:decide (d.length<ps.length)=true:=decide_eq_true hlt;have hd2:ps.drop (d.length+1)=rr:=by rw[<-List.drop_drop,hd1];rfl
   have heq:ps=d++x::rr:=by
    have:=List.take_append_drop d.length ps;rw[hd1,<-hdt]at this;exact this.symm
   have hdt2:d++[x]=ps.take (d++[x]).length:=by
    have hg0:ps[d.length]? =some x:=by rw[heq];simp
    rw[yi,yH,yPa,<-hdt,hg0];rfl
   have hw1:zA .i64 ((d.length:Int)+1)=(d.length:Int)+1:=by rw[zi]<;>omega
   have hap:=renPs_append d [x] [] 0;have hps:=zXc d [] 0;simp only[hd1,yv]at h4;generalize zy d [] 0=q at*;obtain⟨out,N0,c0⟩:=q;simp only[yn]at hps hap hM0 h4;obtain rfl:c0=d.length:=by have:=hps.2.2;omega
   have hA:(out.map encPar).length=d.length:=by rw[yr];exact hps.1
   generalize hAe:out.map encPar=A at*;generalize hR:rr.map encPar=R at*;have hg:∀e,(A++e::R)[d.length]? =some e:=fun e=>by rw[<-hA];exact mid_get A R e
   have hs:∀e e',(A++e::R).set d.length e'=A++e'::R:=fun e e'=>by rw[<-hA];exact mid_set A R e e'
   obtain⟨nm,ty⟩:=x;obtain⟨es1,hms,hM1⟩:=hM0.set nm (newN d.length);have hfi:zW true (.str nm) es1=some (some (.str (newN d.length))):=by
    have:=hM1.get (x:=nm) (by simp);rw[this];simp[zLa]
   have hnx:∀e row,zj E 115 [.ptr (σ.length+1) 0 0] (f3s σ e d.length row)=some (.ret (.str (newN d.length)),f3s σ e (d.length+1) row):=fun e row=>by
    have:=fresh_spec (σ:=f3s σ e 0 row) (j:=σ.length+1) (by simp) d.length (by omega);rwa[kst_f3,kst_f3]at this
   simp only[zy]at hap;generalize newN d.length=nw at*;simp only[encPar]at h4;clear hnames hsc hb hp hdt hM0 heq hl hne hroom hps;replace hap:=Nonempty.intro (PLift.up hap);replace hdt2:=Nonempty.intro (PLift.up hdt2);replace hAe:=Nonempty.intro (PLift.up hAe);replace hR:=Nonempty.intro (PLift.up hR);replace hM1:=Nonempty.intro (PLift.up hM1);simp[*];obtain⟨⟨hap⟩⟩:=hap;obtain⟨⟨hdt2⟩⟩:=hdt2;obtain⟨⟨hAe⟩⟩:=hAe;obtain⟨⟨hR⟩⟩:=hR;obtain⟨⟨hM1⟩⟩:=hM1;refine⟨d++[⟨nm,ty⟩],by simp;omega,by simp,es1,?_,by simp;omega,hdt2,by rw[hap];exact hM1⟩;rw[hap];simp[<-List.map_drop,hd2,hAe,hR,encPar]
def zrb(s:List Vr):List (List UInt8):=s.map (·.name)
theorem findV_nms{s:List Vr}{nm:List UInt8}(h:zKa s nm≠ []):nm∈zrb s:=by
 induction s with
 |nil=>exact absurd rfl h
 |cons v r ih=>
  rw[zgc]at h;unfold zrb;by_cases e:v.name=nm
  ·simp[e]
  ·rw[if_neg e]at h;have:=ih h;unfold zrb at this;simp only[yv,yB];exact .inr this
section
variable {p:Prog} {s:List Vr}
mutual
theorem expr_sc:∀(e:Expr),(zXb p s e).2=0->scE (zrb s) e
 |⟨k,o,n,nm,ar⟩,hz=>by
  rw[zXb]at hz;split at hz
  ·rename_i h1;exact absurd hz h1
  rename_i h1;split at hz
  ·rename_i h2;exact absurd hz h2
  rename_i h2;rw[scE];refine⟨fun hk=>?_,args_sc ar (by simpa using h2)⟩;have h1':zec p s k nm ar.length=0:=by simpa using h1
  unfold zec at h1';rw[if_pos hk]at h1';split at h1'
  ·cases h1'
  ·rename_i hf;exact findV_nms hf
theorem args_sc:∀(l:List Expr),(zob p s l).2=0->scEs (zrb s) l
 | [],_=>by rw[scEs];trivial
 |x::r,hz=>by
  rw[zob]at hz;split at hz
  ·rename_i h1;exact absurd hz h1
  rename_i h1;split at hz
  ·rename_i h2;exact absurd hz h2
  rename_i h2;rw[scEs];exact⟨expr_sc x (by simpa using h1),args_sc r (by simpa using h2)⟩
end
theorem want_sc{e:Expr}{t:Int}(h:zwc p s e t=0):scE (zrb s) e:=by
 unfold zwc at h;split at h
 ·rename_i h1;exact absurd h h1
 ·rename_i h1;exact expr_sc e (by simpa using h1)
theorem sc_one{l:List Expr}(hl:(l.length:Int)=1)(h:scE (zrb s) (arg0 l)):scEs (zrb s) l:=by
 match l,hl with
 | [x],_=>simp only[scEs];exact⟨h,trivial⟩
 | [],hl=>simp at hl
 |_::_::_,hl=>simp at hl;omega
theorem sc_two{l:List Expr}(hl:(l.length:Int)=2)(h:scE (zrb s) (arg0 l))(h2:scE (zrb s) (arg1 l)):scEs (zrb s) l:=by
 match l,hl with
 | [x,y],_=>simp only[scEs];exact⟨h,h2,trivial⟩
 | [],hl=>simp at hl
 | [_],hl=>simp at hl
 |_::_::_::_,hl=>simp at hl;omega
theorem stmt_sc{res k t d:Int}{nm:List UInt8}{ar:List Expr}{loop:Bool}(hl:(ar.length:Int)=(zP k).2.2.1)(hz:stmtT p res s k t nm ar d loop=0):scEs (zrb s) ar/\(k=2->nm∈zrb s):=by
 unfold stmtT at hz;by_cases k1:k=4\/k=5
 ·rw[if_pos k1]at hz;exact⟨sc_one (by rcases k1 with rfl|rfl<;>simpa[zP]using hl) (want_sc hz),fun e=>by omega⟩
 rw[if_neg k1]at hz;by_cases k2:k=8
 ·rw[if_pos k2]at hz;subst k2;exact⟨sc_one (by simpa[zP]using hl) (want_sc hz),fun e=>by omega⟩
 rw[if_neg k2]at hz;by_cases k3:k=9
 ·rw[if_pos k3]at hz;subst k3;exact⟨sc_one (by simpa[zP]using hl) (want_sc hz),fun e=>by omega⟩
 rw[if_neg k3]at hz;by_cases k4:k=10
 ·rw[if_pos k4]at hz;subst k4;exact⟨sc_one (by simpa[zP]using hl) (expr_sc _ hz),fun e=>by omega⟩
 rw[if_neg k4]at hz;by_cases k5:k=6\/k=7
 ·have:ar=[]:=yz (by rcases k5 with rfl|rfl<;>simp[zP]at hl<;>simp[hl]);subst this;exact⟨by simp[scEs],fun e=>by omega⟩
 rw[if_neg k5]at hz;unfold boundT at hz;by_cases q1:k=1
 ·subst q1;simp only[if_true]at hz;split at hz
  ·rename_i h1;exact absurd hz h1
  rename_i h1;exact⟨sc_one (by simpa[zP]using hl) (want_sc (by simpa using h1)),fun e=>by omega⟩
 simp only[q1,if_false]at hz;by_cases q2:k=2
 ·subst q2;simp only[if_true]at hz;have hf:zKa s nm≠ []:=by intro e;rw[e]at hz;cases hz
  split at hz
  ·cases hz
  exact⟨sc_one (by simpa[zP]using hl) (want_sc hz),fun _=>findV_nms hf⟩
 simp only[q2,if_false]at hz;by_cases q3:k=3
 ·subst q3;split at hz
  ·cases hz
  split at hz
  ·rename_i h4;exact absurd hz h4
  rename_i h4;exact⟨sc_two (by simpa[zP]using hl) (want_sc (by simpa using h4)) (want_sc hz),fun e=>by omega⟩
 ·have h6:¬k=6:=fun e=>k5 (.inl e)
  have h7:¬k=7:=fun e=>k5 (.inr e)
  have h8:¬k=4:=fun e=>k1 (.inl e)
  have h9:¬k=5:=fun e=>k1 (.inr e)
  simp[zP,q1,q2,q3,h6,h7,h8,h9,k2,k3,k4]at hl
end
theorem behind_nms(d:Int)(x:Stmt)(vs:List Vr):zrb (zma d x vs)=if x.kind=1 then x.name::zrb vs else zrb vs:=by
 unfold zma zrb;split<;>rfl
mutual
theorem block1_sc{p:Prog}{res:Int}:∀(x:Stmt) (m:Int) (s:List Vr) (d:Int) (loop:Bool) (n:Int),zRb x m=true->(zzc p res x s d loop n).1=0->scS (zrb s) x
 |⟨k,t,nm,ar,th,el⟩,m,s,d,loop,n,hR,hz=>by
  obtain⟨r1,r2,r3,r4⟩:=zQb hR;simp only at r1 r2 r3 r4;rw[zHd]at hz;simp only at hz;split at hz
  ·rename_i h1;exact absurd hz h1
  rename_i h1;split at hz
  ·rename_i h2;exact absurd hz h2
  rename_i h2;have e0:=stmt_sc (p:=p) (res:=res) r1 (by simpa using h1);have hb:=behind_nms d ⟨k,t,nm,ar,th,el⟩ s;simp only at hb;have e1:=blockT_sc th (m-1) _ (d+1) (loop||decide (k=5)) (n+1) r3 (by simpa using h2);have e2:=blockT_sc el (m-1) _ (d+1) loop _ r4 hz;rw[hb]at e1 e2;rw[scS];exact⟨e0.1,e0.2,e1,e2⟩
theorem blockT_sc{p:Prog}{res:Int}:∀(l:List Stmt) (m:Int) (s:List Vr) (d:Int) (loop:Bool) (n:Int),zS l m=true->(zka p res l s d loop n).1=0->scSs (zrb s) l
 | [],m,s,d,loop,n,_,_=>by rw[scSs];trivial
 |x::r,m,s,d,loop,n,hR,hz=>by
  simp only[zS,yb]at hR;rw[zQc]at hz;split at hz
  ·rename_i h1;exact absurd hz h1
  rename_i h1;have e1:=block1_sc x m s d loop n hR.1 (by simpa using h1);have e2:=blockT_sc r m _ d loop _ hR.2 hz;rw[behind_nms]at e2;rw[scSs];exact⟨e1,e2⟩
end
theorem scoped_nms(ps:List Par):zrb (zca ps)=(ps.map (·.name)).reverse:=by
 have:∀(l:List Par) (s:List Vr),zrb (l.foldl (fun s p=>⟨p.name,p.type,0⟩::s) s)=(l.map (·.name)).reverse++zrb s:=by
  intro l
  induction l with
  |nil=>intro s;simp
  |cons x r ih=>intro s;rw[List.foldl_cons,ih];simp[zrb]
 unfold zca;rw[this ps []];simp[zrb]
theorem checkGo_all(p:Prog):∀(l:List Func) (i:Int),(zOc p l i).1=0->∀f∈l,(zvb p f).1=0
 | [],_,_,f,hf=>by simp at hf
 |g::r,i,h,f,hf=>by
  rw[zOc]at h;split at h
  ·rename_i h1;exact absurd h h1
  rename_i h1;rcases yB.1 hf with rfl|hf
  ·simpa using h1
  ·exact checkGo_all p r (i+1) h f hf
theorem check_sc(p:Prog)(h:(zbb p).1=0):∀f∈p.funcs,scSs (f.params.map (·.name)).reverse f.body:=by
 unfold zbb at h;split at h
 case isFalse=>cases h
 rename_i hR;split at h
 case isFalse=>cases h
 intro f hf;have h1:=checkGo_all p p.funcs 0 h f hf;unfold zvb at h1;split at h1
 ·cases h1
 simp only at h1;unfold zdc at hR;simp only[yb,yu]at hR;have hfR:=hR.2 f hf;have hb:zS f.body 100=true:=by
  unfold zhe at hfR;simp only[yb]at hfR
  simp_all
 have hz:(zka p f.type f.body (zca f.params) 1 false 0).1=0:=by
  by_cases e:(zka p f.type f.body (zca f.params) 1 false 0).1=0
  ·exact e
  ·simp[e]at h1
 have:=blockT_sc f.body 100 _ 1 false 0 hb hz;rw[scoped_nms]at this;exact this
theorem zRc{σ τ:zd}(i:Nat)(o:Obj)(h:σ[i]? =some o):(σ++τ)[i]? =some o:=by
 rw[yh (ya.1 h).1];exact h
theorem wf_ext{es:List (PV×PV)}(h:∀n,zAc n es=true)(c:Nat)(y:Func):∀n,zd.wf n ([.mp es,kobj c]++zdd y)=true:=by
 intro n;have h2:=pl_par (k:=n) y.params;unfold zdd;split<;>simp[zd.wf,Obj.below,kobj,h n,h2]
theorem arr_wf(ars:List PArr):WfS [.arr 2 (ars.map zH)]:=fun n _=>by
 have:zO n (ars.map zH)=true:=ztb _ _ _ (fun x=>by simp[zH]);simp[zd.wf,Obj.below,this]
theorem ext_par{σ:zd}{es:List (PV×PV)}{c:Nat}{y:Func}(hy:y.params≠ []):(σ++([.mp es,kobj c]++zdd y))[σ.length+2]? =some (.arr 2 (y.params.map encPar)):=by
 rw[yg (by omega),show σ.length+2-σ.length=2 by omega];simp[zdd,hy]
def RenO(p:Prog)(r:CRes)(st:zd):Prop:=∃F qs,r= .ret (.tup [.agg [arrV p.arrays,accF F p.funcs.length],.int .i64 0])/\OpenA st F (p.funcs.map renF) qs/\ArrOk st F qs p.arrays
set_option maxHeartbeats 8000000 in
theorem prenU_spec(p:Prog)(hz:PSz p)(hfn:p.funcs≠ [])(h0:(zbb p).1=0):PC (zj E 27 [ze p] []) (RenO p):=by
 refine zXa rfl rfl rfl (by simp[ze]) ?_;have hc:=check_spec p hz;have hsc:=check_sc p h0;generalize zbb p=q at*;obtain⟨e,n⟩:=q;simp only at h0;subst h0;obtain⟨ars,fs⟩:=p;obtain⟨z1,z2,z3⟩:=hz;simp only at z1 z2 z3 hsc hfn;simp[zza,ze,zZ,funcs]at hc;by_cases hl:ars=[]
 ·subst hl;have hac:=aclone_nil [];simp only[yxa]at hc;simp[*,F27,ze,zZ,funcs];clear hc hac;refine zU K27_0 B27_0 (fun q:List Func×zd×Nat×List Nat=>fs.length-q.1.length) (fun q=>[(23,.int .i64 q.1.length)]) (fun q=>[(2,.cells [.slice .plain 2 [],accF q.2.2.1 q.1.length])]) (fun q=>q.2.1)
   (fun q=>q.1.length<=fs.length/\q.1=fs.take q.1.length/\OpenA q.2.1 q.2.2.1 (q.1.map renF) q.2.2.2/\WfS q.2.1/\ArrOk q.2.1 q.2.2.1 q.2.2.2 []) ([],[],1,[]) ⟨by simp,by simp[accF],by simp,by simp,by simp,.inl ⟨rfl,rfl⟩,fun n _=>rfl,fun h=>absurd rfl h⟩ ?_
  rintro⟨d,σ,F,qs⟩ s1 ⟨hdl,hdt,hO,hwf,hA⟩ h1 h2 h3 h2b h4
  simp only at hdl hdt hO hwf hA;simp at h1 h2 h3 h2b h4;by_cases hend:d.length=fs.length
  ·have hdd:d=fs:=by rw[hdt,hend,List.take_length]
   subst hdd;have hdec:decide (d.length<d.length)=false:=by simp
   replace hO:=Nonempty.intro (PLift.up hO);replace hA:=Nonempty.intro (PLift.up hA);have hac:accF F d.length= .mslice F 0 d.length 4:=by
    unfold accF;rw[if_neg (by simpa using hfn)]
   clear hsc z3 hdt hwf;simp[*,RenO];obtain⟨⟨hO⟩⟩:=hO;obtain⟨⟨hA⟩⟩:=hA;exact⟨F,by simp[arrV,hac],qs,hO,hA⟩
  ·have hlt:d.length<fs.length:=by omega
   obtain⟨x,hx⟩:∃x,fs[d.length]? =some x:=⟨_,yf hlt⟩
   have hmem:=yR hx;have hzx:=z3 x hmem;have hf:=pfuncU_spec σ hwf x hzx.1 hzx.2 (hsc x hmem);rw[zfd]at hf;obtain⟨r,st,hf,rfl,es,c,hfl,rfl⟩:=hf;have hdt2:d++[x]=fs.take (d++[x]).length:=by
    rw[yi,yH,yPa,<-hdt,hx];rfl
   have hnx:=hO.snoc (σ1:=σ++([.mp es,kobj c]++zdd (renF x))) (renF x) (σ.length+2) (fun i o=>zRc i o) (by simp) (by omega) (fun hy=>ext_par hy);have hnA:=hA.snoc (fs:=d.map renF) (σ1:=σ++([.mp es,kobj c]++zdd (renF x))) (renF x) (σ.length+2) (fun i o=>zRc i o) (by simp) (by omega);have hnW:=hwf.snocO hO (wf_ext hfl c (renF x)) (renF x) (σ.length+2) (fun hy=>(ya.1 (ext_par hy)).1);have hdec:decide (d.length<fs.length)=true:=decide_eq_true hlt;have h72:72<=zn:=by simp only[zn];omega
   have hw1:zA .i64 ((d.length:Int)+1)=(d.length:Int)+1:=by rw[zi]<;>omega
   have hroom:(d.length+1)*72<=zn:=by simp only[zn];omega
   have hgx:(fs.map zl)[d.length]? =some (zl x):=by rw[yo,hx];rfl
   have hln:(zX (d.map renF) qs).length=d.length:=by
    rcases hO with⟨a,b⟩|⟨_,hO⟩
    ·rw[b];simp at a;simp[zX,a]
    ·rw[openFs_len hO.len];simp
   have hL0:d=[]->zX (d.map renF) qs=[]:=fun h=>by subst h;exact yaa.1 hln
   have hτF:d≠ []->(σ++([.mp es,kobj c]++zdd (renF x)))[F]? =some (.arr 4 (zX (d.map renF) qs)):=by
    intro hd;rcases hO with⟨a,b⟩|⟨_,hO⟩
    ·simp at a;exact absurd a hd
    ·exact zRc _ _ hO.row
   have hwr:nextO (σ++([.mp es,kobj c]++zdd (renF x))) F (d.map renF) qs (renF x) (σ.length+2)=if d=[]then(σ++([.mp es,kobj c]++zdd (renF x)))++[.arr 4 [zlb (renF x) (σ.length+2)]]else(σ++([.mp es,kobj c]++zdd (renF x))).set F (.dead 4)++[.arr 4 (zX (d.map renF) qs++[zlb (renF x) (σ.length+2)])]:=by
    unfold nextO;by_cases hd:d=[]
    ·rw[if_pos hd,if_pos (by simpa using hd),hL0 hd];rfl
    ·rw[if_neg hd,if_neg (by simpa using hd)]
   have hmr:(d++[x]).map renF=d.map renF++[renF x]:=by simp
   have hRs:=zhd (d.map renF) qs;have hlr:(σ++([.mp es,kobj c]++zdd (renF x))).length=(σ++([.mp es,kobj c]++zdd (renF x))).length:=rfl;rw[<-hmr]at hnx;generalize zX (d.map renF) qs=R at*;generalize σ++([.mp es,kobj c]++zdd (renF x))=τ at*;generalize hσ2:nextO τ F (d.map renF) qs (renF x) (σ.length+2)=σ2 at*;have HN:Nonempty (PLift (OpenA σ2 τ.length ((d++[x]).map renF) (qs++[σ.length+2])/\WfS σ2/\ArrOk σ2 τ.length (qs++[σ.length+2]) [])):=⟨⟨hnx,hnW,hnA⟩⟩
   have HD:Nonempty (PLift (d++[x]=fs.take (d++[x]).length)):=⟨⟨hdt2⟩⟩
   clear hnx hnW hnA hdt2 hsc z3 hO hA hwf hfl hσ2 hmr hlr hdt hmem hzx hgx;by_cases hd0:d=[]
   ·have hR:=hL0 hd0;rw[if_pos hd0]at hwr;have hacc:accF F d.length= .slice .fit 4 []:=by rw[hd0];rfl
    rw[hacc]at h2b;have HZ:Nonempty (PLift (d=[])):=⟨⟨hd0⟩⟩
    have hlt':Nonempty (PLift (d.length<fs.length)):=⟨⟨hlt⟩⟩
    clear hd0 hL0 hτF hacc hln hlt;obtain⟨fnm,fty,ps,body⟩:=x;generalize renF ⟨fnm,fty,ps,body⟩=y at*;obtain⟨ynm,yty,yps,ybody⟩:=y;simp only[zlb]at hf hwr;have hpc:canon1 (if yps=[]then PV.slice .plain 2 []else .mslice (σ.length+2) 0 yps.length 2)=(if yps=[]then PV.slice .plain 2 []else .mslice (σ.length+2) 0 yps.length 2):=by split<;>rfl
    have hps:strip (if yps=[]then PV.slice .plain 2 []else .mslice (σ.length+2) 0 yps.length 2)=(if yps=[]then PV.slice .plain 2 []else .mslice (σ.length+2) 0 yps.length 2):=by split<;>rfl
    generalize(if yps=[]then PV.slice .plain 2 []else .mslice (σ.length+2) 0 yps.length 2)=pv at*;simp[zl,parsV,zg]at hf hwr;simp[*,zl,parsV,zg];obtain⟨⟨HN1,HN2,HN3⟩⟩:=HN;obtain⟨⟨HD⟩⟩:=HD;obtain⟨⟨hlt⟩⟩:=hlt';obtain⟨⟨hd0⟩⟩:=HZ;refine⟨d++[⟨fnm,fty,ps,body⟩],by simp;omega,by simp,_,τ.length,by simp[accF,hd0],rfl,by simp;omega,HD,qs++[σ.length+2],?_,?_,?_⟩<;>rw[<-hwr]
    ·exact HN1
    ·exact HN2
    ·exact HN3
   ·rw[if_neg hd0]at hwr;have hacc:accF F d.length= .mslice F 0 d.length 4:=by unfold accF;rw[if_neg (by simpa using hd0)]
    rw[hacc]at h2b;have hpos:0<d.length:=yha.2 hd0;have hτ:=hτF hd0;have htk:R.take d.length=R:=yy (by omega);have hRl:(0+d.length<=R.length)=True:=eqp (by omega);have hlt':Nonempty (PLift (d.length<fs.length)):=⟨⟨hlt⟩⟩
    clear hd0 hL0 hτF hacc hlt;obtain⟨fnm,fty,ps,body⟩:=x;generalize renF ⟨fnm,fty,ps,body⟩=y at*;obtain⟨ynm,yty,yps,ybody⟩:=y;simp only[zlb]at hf hwr;have hpc:canon1 (if yps=[]then PV.slice .plain 2 []else .mslice (σ.length+2) 0 yps.length 2)=(if yps=[]then PV.slice .plain 2 []else .mslice (σ.length+2) 0 yps.length 2):=by split<;>rfl
    have hps:strip (if yps=[]then PV.slice .plain 2 []else .mslice (σ.length+2) 0 yps.length 2)=(if yps=[]then PV.slice .plain 2 []else .mslice (σ.length+2) 0 yps.length 2):=by split<;>rfl
    generalize(if yps=[]then PV.slice .plain 2 []else .mslice (σ.length+2) 0 yps.length 2)=pv at*;simp[zl,parsV,zg]at hf hwr;simp[*,zl,parsV,zg];obtain⟨⟨HN1,HN2,HN3⟩⟩:=HN;obtain⟨⟨HD⟩⟩:=HD;obtain⟨⟨hlt⟩⟩:=hlt';refine⟨d++[⟨fnm,fty,ps,body⟩],by simp;omega,by simp,_,τ.length,by simp[accF],rfl,by simp;omega,HD,qs++[σ.length+2],?_,?_,?_⟩<;>rw[<-hwr]
    ·exact HN1
    ·exact HN2
    ·exact HN3
 ·have hne:ars.map zH≠ []:=by simpa using hl
  have hroom:(ars.map zH).length*24<=zn:=by simp only[zn,yr];omega
  have hac:=aclone [] hne hroom;simp only[yr,yn,ysa]at hac;simp[*,F27,ze,zZ,funcs];clear hc hac hroom;refine zU K27_0 B27_0 (fun q:List Func×zd×Nat×List Nat=>fs.length-q.1.length) (fun q=>[(23,.int .i64 q.1.length)]) (fun q=>[(2,.cells [.mslice 0 0 ars.length 2,accF q.2.2.1 q.1.length])]) (fun q=>q.2.1)
   (fun q=>q.1.length<=fs.length/\q.1=fs.take q.1.length/\OpenA q.2.1 q.2.2.1 (q.1.map renF) q.2.2.2/\WfS q.2.1/\ArrOk q.2.1 q.2.2.1 q.2.2.2 ars) ([],[.arr 2 (ars.map zH)],1,[]) ⟨by simp,by simp[accF],by simp,by simp,by simp,.inl ⟨rfl,rfl⟩,arr_wf ars,fun h=>⟨rfl,by simp,by simp⟩⟩ ?_
  rintro⟨d,σ,F,qs⟩ s1 ⟨hdl,hdt,hO,hwf,hA⟩ h1 h2 h3 h2b h4
  simp only at hdl hdt hO hwf hA;simp at h1 h2 h3 h2b h4;by_cases hend:d.length=fs.length
  ·have hdd:d=fs:=by rw[hdt,hend,List.take_length]
   subst hdd;have hdec:decide (d.length<d.length)=false:=by simp
   replace hO:=Nonempty.intro (PLift.up hO);replace hA:=Nonempty.intro (PLift.up hA);have hac:accF F d.length= .mslice F 0 d.length 4:=by
    unfold accF;rw[if_neg (by simpa using hfn)]
   clear hsc z3 hdt hwf hne;simp[*,RenO];obtain⟨⟨hO⟩⟩:=hO;obtain⟨⟨hA⟩⟩:=hA;exact⟨F,by simp[arrV,show¬ars=[]from hl,hac],qs,hO,hA⟩
  ·have hlt:d.length<fs.length:=by omega
   obtain⟨x,hx⟩:∃x,fs[d.length]? =some x:=⟨_,yf hlt⟩
   have hmem:=yR hx;have hzx:=z3 x hmem;have hf:=pfuncU_spec σ hwf x hzx.1 hzx.2 (hsc x hmem);rw[zfd]at hf;obtain⟨r,st,hf,rfl,es,c,hfl,rfl⟩:=hf;have hdt2:d++[x]=fs.take (d++[x]).length:=by
    rw[yi,yH,yPa,<-hdt,hx];rfl
   have hnx:=hO.snoc (σ1:=σ++([.mp es,kobj c]++zdd (renF x))) (renF x) (σ.length+2) (fun i o=>zRc i o) (by simp) (by omega) (fun hy=>ext_par hy);have hnA:=hA.snoc (fs:=d.map renF) (σ1:=σ++([.mp es,kobj c]++zdd (renF x))) (renF x) (σ.length+2) (fun i o=>zRc i o) (by simp) (by omega);have hnW:=hwf.snocO hO (wf_ext hfl c (renF x)) (renF x) (σ.length+2) (fun hy=>(ya.1 (ext_par hy)).1);have hdec:decide (d.length<fs.length)=true:=decide_eq_true hlt;have h72:72<=zn:=by simp only[zn];omega
   have hw1:zA .i64 ((d.length:Int)+1)=(d.length:Int)+1:=by rw[zi]<;>omega
   have hroom:(d.length+1)*72<=zn:=by simp only[zn];omega
   have hgx:(fs.map zl)[d.length]? =some (zl x):=by rw[yo,hx];rfl
   have hln:(zX (d.map renF) qs).length=d.length:=by
    rcases hO with⟨a,b⟩|⟨_,hO⟩
    ·rw[b];simp at a;simp[zX,a]
    ·rw[openFs_len hO.len];simp
   have hL0:d=[]->zX (d.map renF) qs=[]:=fun h=>by subst h;exact yaa.1 hln
   have hτF:d≠ []->(σ++([.mp es,kobj c]++zdd (renF x)))[F]? =some (.arr 4 (zX (d.map renF) qs)):=by
    intro hd;rcases hO with⟨a,b⟩|⟨_,hO⟩
    ·simp at a;exact absurd a hd
    ·exact zRc _ _ hO.row
   have hwr:nextO (σ++([.mp es,kobj c]++zdd (renF x))) F (d.map renF) qs (renF x) (σ.length+2)=if d=[]then(σ++([.mp es,kobj c]++zdd (renF x)))++[.arr 4 [zlb (renF x) (σ.length+2)]]else(σ++([.mp es,kobj c]++zdd (renF x))).set F (.dead 4)++[.arr 4 (zX (d.map renF) qs++[zlb (renF x) (σ.length+2)])]:=by
    unfold nextO;by_cases hd:d=[]
    ·rw[if_pos hd,if_pos (by simpa using hd),hL0 hd];rfl
    ·rw[if_neg hd,if_neg (by simpa using hd)]
   have hmr:(d++[x]).map renF=d.map renF++[renF x]:=by simp
   have hRs:=zhd (d.map renF) qs;have hlr:(σ++([.mp es,kobj c]++zdd (renF x))).length=(σ++([.mp es,kobj c]++zdd (renF x))).length:=rfl;rw[<-hmr]at hnx;generalize zX (d.map renF) qs=R at*;generalize σ++([.mp es,kobj c]++zdd (renF x))=τ at*;generalize hσ2:nextO τ F (d.map renF) qs (renF x) (σ.length+2)=σ2 at*;have HN:Nonempty (PLift (OpenA σ2 τ.length ((d++[x]).map renF) (qs++[σ.length+2])/\WfS σ2/\ArrOk σ2 τ.length (qs++[σ.length+2]) ars)):=⟨⟨hnx,hnW,hnA⟩⟩
   have HD:Nonempty (PLift (d++[x]=fs.take (d++[x]).length)):=⟨⟨hdt2⟩⟩
   clear hnx hnW hnA hdt2 hsc z3 hO hA hwf hfl hσ2 hmr hlr hdt hmem hzx hgx;by_cases hd0:d=[]
   ·have hR:=hL0 hd0;rw[if_pos hd0]at hwr;have hacc:accF F d.length= .slice .fit 4 []:=by rw[hd0];rfl
    rw[hacc]at h2b;have HZ:Nonempty (PLift (d=[])):=⟨⟨hd0⟩⟩
    have hlt':Nonempty (PLift (d.length<fs.length)):=⟨⟨hlt⟩⟩
    clear hd0 hL0 hτF hacc hln hlt;obtain⟨fnm,fty,ps,body⟩:=x;generalize renF ⟨fnm,fty,ps,body⟩=y at*;obtain⟨ynm,yty,yps,ybody⟩:=y;simp only[zlb]at hf hwr;have hpc:canon1 (if yps=[]then PV.slice .plain 2 []else .mslice (σ.length+2) 0 yps.length 2)=(if yps=[]then PV.slice .plain 2 []else .mslice (σ.length+2) 0 yps.length 2):=by split<;>rfl
    have hps:strip (if yps=[]then PV.slice .plain 2 []else .mslice (σ.length+2) 0 yps.length 2)=(if yps=[]then PV.slice .plain 2 []else .mslice (σ.length+2) 0 yps.length 2):=by split<;>rfl
    generalize(if yps=[]then PV.slice .plain 2 []else .mslice (σ.length+2) 0 yps.length 2)=pv at*;simp[zl,parsV,zg]at hf hwr;simp[*,zl,parsV,zg];obtain⟨⟨HN1,HN2,HN3⟩⟩:=HN;obtain⟨⟨HD⟩⟩:=HD;obtain⟨⟨hlt⟩⟩:=hlt';obtain⟨⟨hd0⟩⟩:=HZ;refine⟨d++[⟨fnm,fty,ps,body⟩],by simp;omega,by simp,_,τ.length,by simp[accF,hd0],rfl,by simp;omega,HD,qs++[σ.length+2],?_,?_,?_⟩<;>rw[<-hwr]
    ·exact HN1
    ·exact HN2
    ·exact HN3
   ·rw[if_neg hd0]at hwr;have hacc:accF F d.length= .mslice F 0 d.length 4:=by unfold accF;rw[if_neg (by simpa using hd0)]
    rw[hacc]at h2b;have hpos:0<d.length:=yha.2 hd0;have hτ:=hτF hd0;have htk:R.take d.length=R:=yy (by omega);have hRl:(0+d.length<=R.length)=True:=eqp (by omega);have hlt':Nonempty (PLift (d.length<fs.length)):=⟨⟨hlt⟩⟩
    clear hd0 hL0 hτF hacc hlt;obtain⟨fnm,fty,ps,body⟩:=x;generalize renF ⟨fnm,fty,ps,body⟩=y at*;obtain⟨ynm,yty,yps,ybody⟩:=y;simp only[zlb]at hf hwr;have hpc:canon1 (if yps=[]then PV.slice .plain 2 []else .mslice (σ.length+2) 0 yps.length 2)=(if yps=[]then PV.slice .plain 2 []else .mslice (σ.length+2) 0 yps.length 2):=by split<;>rfl
    have hps:strip (if yps=[]then PV.slice .plain 2 []else .mslice (σ.length+2) 0 yps.length 2)=(if yps=[]then PV.slice .plain 2 []else .mslice (σ.length+2) 0 yps.length 2):=by split<;>rfl
    generalize(if yps=[]then PV.slice .plain 2 []else .mslice (σ.length+2) 0 yps.length 2)=pv at*;simp[zl,parsV,zg]at hf hwr;simp[*,zl,parsV,zg];obtain⟨⟨HN1,HN2,HN3⟩⟩:=HN;obtain⟨⟨HD⟩⟩:=HD;obtain⟨⟨hlt⟩⟩:=hlt';refine⟨d++[⟨fnm,fty,ps,body⟩],by simp;omega,by simp,_,τ.length,by simp[accF],rfl,by simp;omega,HD,qs++[σ.length+2],?_,?_,?_⟩<;>rw[<-hwr]
    ·exact HN1
    ·exact HN2
    ·exact HN3
def zgd(k:Nat):List UInt8:=yw (97+k%26)::(if k<26 then[]else zR (k/26))
def isW(k:Nat):Bool:=wordM (zgd k)
def wK:List Nat:=[216,228,424,436,840,852]
theorem isW_small:∀k,k<1000->isW k=wK.contains k:=by decide+kernel
theorem isW_large{k:Nat}(h:1000<=k)(hk:k<100000000000000):isW k=false:=by
 unfold isW wordM;rw[ydb,List.any_eq_false];intro x hx he;have hall:words.all (fun w=>decide (w.tail=[]\/(∃b∈w.tail,¬(48<=b.toNat/\b.toNat<=57))\/w.tail=zR 8\/w.tail=zR 16\/w.tail=zR 32))=true:=by decide+kernel
 have:=yu.1 hall x hx;simp only[beq_iff_eq]at he;subst he;have ht:(zgd k).tail=zR (k/26):=by
  unfold zgd;rw[if_neg (by omega)];rfl
 rw[ht]at this;simp only[decide_eq_true_eq]at this;have hd:k/26<10000000000000:=by omega
 rcases this with h1|⟨b,hb,hn⟩|h1|h1|h1
 ·exact digF_ne 19 _ h1
 ·exact hn (digF_dig 20 _ b hb)
 ·have:=zRe hd (by omega) h1;omega
 ·have:=zRe hd (by omega) h1;omega
 ·have:=zRe hd (by omega) h1;omega
theorem isW_eq{k:Nat}(hk:k<100000000000000):isW k=wK.contains k:=by
 by_cases h:k<1000
 ·exact isW_small k h
 ·rw[isW_large (by omega) hk];unfold wK;symm;rw[ydb,List.any_eq_false];intro x hx he;simp at hx he;omega
open PE.R (nthK fromK)
def nthM(n:Nat):List UInt8:=zgd (nthK n)
theorem zxd(n:Nat):n<=nthK n/\nthK n<=n+6:=by
 unfold nthK;constructor<;>(repeat' split)<;>omega
theorem nthK_lt{a b:Nat}(h:a<b):nthK a<nthK b:=by
 unfold nthK
 repeat' split
 all_goals omega
theorem isW_nth{n:Nat}(h:n<10000000000000):isW (nthK n)=false:=by
 rw[isW_eq (by have:=zxd n;omega)];unfold wK nthK;rw[ydb,List.any_eq_false];intro x hx he;simp at hx he;subst he
 repeat' split at hx
 all_goals omega
theorem fromK_le(n:Nat):fromK n<=nthK n/\nthK n<=fromK n+1:=by
 unfold fromK;split
 ·rename_i h;subst h;decide
 ·unfold nthK
  repeat' split
  all_goals omega
theorem from_cases{n:Nat}(hk:fromK n≠nthK n):n=216\/n=227\/n=422\/n=433\/n=836\/n=847:=by
 unfold fromK nthK at hk;split at hk
 ·rename_i h;subst h;exact absurd rfl hk
 ·repeat' split at hk
  all_goals omega
theorem isW_from{n:Nat}(hk:fromK n≠nthK n):isW (fromK n)=true:=by
 rcases from_cases hk with rfl|rfl|rfl|rfl|rfl|rfl<;>decide+kernel
theorem fromK_succ(n:Nat):fromK (n+1)=nthK n+1:=by simp[fromK]
theorem textM_inj{a b:Nat}(ha:a<100000000000000)(hb:b<100000000000000)(h:zgd a=zgd b):a=b:=by
 unfold zgd at h;obtain⟨h1,h2⟩:=List.cons.inj h;have e1:a%26=b%26:=by
  have:=congrArg UInt8.toNat h1;simp at this;omega
 by_cases ha26:a<26<;>by_cases hb26:b<26
 ·omega
 ·rw[if_pos ha26,if_neg hb26]at h2;exact absurd h2.symm (digF_ne 19 _)
 ·rw[if_neg ha26,if_pos hb26]at h2;exact absurd h2 (digF_ne 19 _)
 ·rw[if_neg ha26,if_neg hb26]at h2;have:=zRe (by omega) (by omega) h2;omega
theorem nthM_inj{a b:Nat}(ha:a<10000000000000)(hb:b<10000000000000)(h:nthM a=nthM b):a=b:=by
 have h1:=zxd a;have h2:=zxd b;have:=textM_inj (by omega) (by omega) h;rcases Nat.lt_trichotomy a b with h|h|h
 ·have:=nthK_lt h;omega
 ·exact h
 ·have:=nthK_lt h;omega
theorem textM_len{k:Nat}(h:k<100000000000000):(zgd k).length<=14:=by
 unfold zgd;split
 ·simp
 ·have:=digF_len2 20 13 (k/26) (by omega) (by omega);unfold zR;simp only[yj];omega
theorem nthM_name{c:Nat}(h:c<10000000000000):zbc (nthM c)=true:=by
 have hk:=zxd c;have hl:=textM_len (k:=nthK c) (by omega);have hw:wordM (nthM c)=false:=isW_nth h;unfold zbc;rw[hw];have hlet:∀a,a<26->zIa (yw (97+a)).toNat=true/\zF (yw (97+a))=true:=by decide
 have hm:nthK c%26<26:=yna _ (by omega);have hb:(nthM c).all zF=true:=by
  unfold nthM zgd;rw[yta,(hlet _ hm).2];split
  ·rfl
  ·exact digF_bytes 20 _
 rw[hb];have hh:zIa ((nthM c).head?.getD 0).toNat=true:=by
  unfold nthM zgd;exact(hlet _ hm).1
 rw[hh];have hne:nthM c≠ []:=by unfold nthM zgd;simp
 have hlen:(nthM c).length<=20:=by unfold nthM;omega
 simp[hne,hlen]
theorem nthM_len{c:Nat}(h:c<100000000000):(nthM c).length<=12:=by
 have hk:=zxd c;unfold nthM zgd;split
 ·simp
 ·have:=digF_len2 20 11 (nthK c/26) (by omega) (by omega);unfold zR;simp only[yj];omega
theorem txt_eq{p:Nat}(h:p<100000000000000):R.txt p=zgd p:=by
 unfold R.txt R.dg zgd;by_cases hp:p<26
 ·rw[if_pos hp,if_pos (by omega)]
 ·rw[if_neg hp,if_neg (by omega),itoa_dig (p/26) (by omega)]
theorem wds_eq(s:List UInt8):R.wds.contains s=wordM s:=rfl
theorem steps_ok(N:Nat)(h:N<=200000000001):R.Steps nthK fromK N:=by
 refine⟨rfl,fromK_succ,fun k=>(fromK_le k).1,fun k p hk h1 h2=>?_,fun k hk=>?_,fun k hk=>?_⟩
 ·have hl:=zxd k;have hf:=fromK_le k;have hp:p=fromK k:=by omega
  subst hp;rw[txt_eq (by omega),wds_eq];exact isW_from (by omega)
 ·have hl:=zxd k;rw[txt_eq (by omega),wds_eq];exact isW_nth (by omega)
 ·have hl:=zxd k;omega
end PE.U

namespace PE.U
open Go PE
open PE.R (nthK fromK)
theorem stext_spec(n:Nat)(hn:n<=10000000000000):zj E 48 [.int .i64 n] []=some (.ret (.str (zgd n)),[]):=by
 refine zc rfl rfl rfl (by simp) ?_;obtain⟨z,hz,z0,z9⟩:∃z:Int,z=((n%26:Nat):Int)/\0<=z/\z<26:=⟨_,rfl,by omega,by omega⟩
 have hr:remK (n:Int) 26=z:=by rw[hz,remK_eq];rfl
 have hw:zA .i64 (97+z)=97+z:=by rw[zi]<;>omega
 have hw8:zA .u8 (97+z)=97+z:=by rw[zKd,IntKind.wrap_u8];omega
 have hu:yw (97+z).toNat=yw (97+n%26):=by congr 1;omega
 have hq:(n:Int).tdiv 26=((n/26:Nat):Int):=rfl;have hwq:zA .i64 ((n/26:Nat):Int)=((n/26:Nat):Int):=by rw[zi]<;>omega
 have hd:=digits_spec (n/26) (by omega);have hl:=zZd 20 (n/26);have hl2:1+(zR (n/26)).length<=9223372036854775807:=by unfold zR;omega
 by_cases h:n<26
 ·have c1:((n:Int)<26)=True:=eqp (by omega);have ht:zgd n=[yw (97+n%26)]:=by unfold zgd;rw[if_pos h]
  rw[ht];generalize yw (97+n%26)=y at*;clear hz hn h hd hl hl2 hq hwq ht;simp[*,F48]
 ·have c1:((n:Int)<26)=False:=eqn (by omega);have ht:zgd n=yw (97+n%26)::zR (n/26):=by unfold zgd;rw[if_neg h]
  rw[ht];obtain⟨q,hq2⟩:∃q:Int,q=((n/26:Nat):Int):=⟨_,rfl⟩
  rw[<-hq2]at hq hwq hd;generalize yw (97+n%26)=y at*;generalize zR (n/26)=dg at*;clear hz hn h hl hq2 ht;simp[*,F48]
theorem nth_spec(n:Nat)(hn:n<=200000000000):zj E 23 [.int .i64 n] []=some (.ret (.str (nthM n)),[]):=by
 refine zc rfl rfl rfl (by simp) ?_;have hk:=zxd n;have hend:=stext_spec (nthK n) (by omega);simp[F23];refine zU K23_1 B23_1 (fun i:Nat=>n+1-i) (fun i=>[(3,.int .i64 (fromK i)),(4,.int .i64 i)]) (fun _=>[]) (fun _=>[]) (fun i=>i<=n+1) 0 ⟨by simp[fromK],by simp,by simp,by omega⟩ ?_;intro i s1 hi h1 h2 h3 h3b h4;simp at h1 h2 h3 h4;by_cases he:i=n+1
 ·subst he;have c1:(((n+1:Nat):Int)<=(n:Int))=False:=eqn (by omega);have hf:((fromK (n+1):Nat):Int)-1=(nthK n:Int):=by rw[fromK_succ];omega
  have hw:zA .i64 (nthK n:Int)=(nthK n:Int):=by rw[zi]<;>omega
  have hv:nthM n=zgd (nthK n):=rfl;rw[hv];generalize((fromK (n+1):Nat):Int)=k at*;generalize((nthK n:Nat):Int)=m at*;generalize(((n+1:Nat)):Int)=n1 at*;clear hk hn;simp[*]
 ·have c1:((i:Int)<=(n:Int))=True:=eqp (by omega);have hki:=zxd i;have hfi:=fromK_le i;have hwi:zA .i64 ((i:Int)+1)=(i:Int)+1:=by rw[zi]<;>omega
  have hwk:zA .i64 ((nthK i:Int)+1)=(nthK i:Int)+1:=by rw[zi]<;>omega
  have hsu:((fromK (i+1):Nat):Int)=(nthK i:Int)+1:=by rw[fromK_succ];omega
  have hlt:i<n+1:=by omega
  clear hend;simp[*];refine zU K23_0 B23_0 (fun p:Nat=>nthK i-p) (fun p=>[(3,.int .i64 p)]) (fun _=>[]) (fun _=>[]) (fun p=>p=fromK i\/p=nthK i) (fromK i) ⟨by simp,by simp,by simp,.inl rfl⟩ ?_;intro p s2 hp k1 k2 k3 k3b k4;simp at k1 k2 k3 k4;have ht:=stext_spec p (by omega);have hwd:=rword_spec (zgd p) [];by_cases hpe:p=nthK i
  ·have hb:wordM (zgd p)=false:=by rw[hpe];exact isW_nth (by omega)
   rw[hb]at hwd;subst hpe;clear hki hfi hp hk hb;have HI:Nonempty (PLift (i<n+1)):=⟨⟨hlt⟩⟩
   clear hlt hi he;simp[*];obtain⟨⟨HI⟩⟩:=HI;exact⟨i+1,by omega,by simp[hsu],by omega⟩
  ·have hp':p=fromK i:=by omega
   have hb:wordM (zgd p)=true:=by rw[hp'];exact isW_from (by omega)
   rw[hb]at hwd;have hp1:p+1=nthK i:=by omega
   have hwp:zA .i64 ((p:Int)+1)=(p:Int)+1:=by rw[zi]<;>omega
   have HP:Nonempty (PLift (p+1=nthK i)):=⟨⟨hp1⟩⟩
   clear hki hfi hp hk hb hp1 hp' hsu hwk hlt hi he hpe;simp[*];obtain⟨⟨HP⟩⟩:=HP;exact⟨p+1,by omega,by simp,.inr HP⟩
theorem snumber_spec(c:Nat)(hc:c<=1000000000000):zj E 31 [.str (newN c)] []=some (.ret (.int .i64 c),[]):=by
 refine zc rfl rfl rfl (by simp) ?_;have hl:=zZd 20 c;have hv:=zxe (zR c) [] (digs_dig c) (by unfold zR;omega);rw[value_dig (by omega)]at hv;have hl1:(zR c).length<100:=by unfold zR;omega
 have hn:newN c=118::zR c:=rfl;rw[hn];generalize zR c=dg at*;have hln:(1:Int)<=((dg.length:Nat):Int)+1:=by omega
 clear hl hn;simp[*,F31]
theorem first_x(m:Nat)(hm:m<=200000000000)(σ:zd):zj E 22 [.int .i64 m] σ=some (.ret (.slice .plain 1 (((yD m).map nthM).map .str)),σ):=by
 rw[zqb (E:=E) (f:=22) (g:=firstX) rfl];unfold firstX;simp only;have hst:=steps_ok (m+1) (by omega);rw[if_pos ⟨by omega,by omega,by rw[Int.toNat_natCast];exact hst⟩,Int.toNat_natCast];have heq:(yD m).map (fun k=>R.txt (nthK k))=(yD m).map nthM:=by
  refine List.map_congr_left fun k hk=>?_
  have hk:=List.mem_range.1 hk;have:=zxd k;exact txt_eq (by omega)
 rw[heq]
end PE.U

namespace PE.U
open Go PE
theorem vfindV_mem{s:List Vr}{nm:List UInt8}(h:¬zKa s nm=[]):nm∈zrb s:=by
 induction s with
 |nil=>exact absurd rfl h
 |cons v r ih=>
  rw[zgc]at h;split at h
  ·rename_i hn;simp[zrb,hn]
  ·have:=ih h;simp only[zrb,yv,yB]at this ⊢;exact .inr this
theorem checkGo_ok(p:Prog):∀(l:List Func) (i:Int),(zOc p l i).1=0->∀f∈l,(zvb p f).1=0
 | [],_,_,_,h=>by cases h
 |g::r,i,h,f,hf=>by
  rw[zOc]at h;split at h
  ·rename_i h1;exact absurd h h1
  rename_i h1;rcases yB.1 hf with rfl|hf
  ·simpa using h1
  ·exact checkGo_ok p r _ h f hf
theorem newN_inj{a b:Nat}(ha:a<10000000000000)(hb:b<10000000000000)(h:newN a=newN b):a=b:=by
 unfold newN zR at h;have h:=List.cons.inj h;exact digF_inj 20 a b (Nat.lt_trans ha (by decide)) (Nat.lt_trans hb (by decide)) h.2
def NI(N:Nm)(c:Nat):Prop:=(N.map (·.2)).Nodup/\∀x∈N.map (·.2),∃i,i<c/\x=newN i
theorem NI.next{N:Nm}{c:Nat}(h:NI N c)(hc:c<9000000000000)(nm:List UInt8):NI ((nm,newN c)::N) (c+1):=by
 refine⟨?_,?_⟩
 ·rw[yv,List.nodup_cons];refine⟨fun hm=>?_,h.1⟩;obtain⟨i,hi,he⟩:=h.2 _ hm;have:=newN_inj (by omega) (by omega) he;omega
 ·intro x hx;rw[yv,yB]at hx;rcases hx with rfl|hx
  ·exact⟨c,by omega,rfl⟩
  ·obtain⟨i,hi,he⟩:=h.2 x hx;exact⟨i,by omega,he⟩
theorem NI.le{N:Nm}{c d:Nat}(h:NI N c)(hd:c<=d):NI N d:=⟨h.1,fun x hx=>by obtain⟨i,hi,he⟩:=h.2 x hx;exact⟨i,by omega,he⟩⟩
theorem ni_pars:∀(ps:List Par) (N:Nm) (c:Nat),NI N c->c+ps.length<9000000000000->NI (zy ps N c).2.1 (zy ps N c).2.2
 | [],N,c,h,_=>by simpa[zy]using h
 |x::r,N,c,h,hc=>by
  have:=ni_pars r ((x.name,newN c)::N) (c+1) (h.next (by simp at hc;omega) x.name) (by simp at hc;omega);simpa[zy]using this
theorem ni_ren:∀(s:Stmt) (N:Nm) (c:Nat),NI N c->c+wtS s<=4000000000000->NI (renS s N c).2.1 (renS s N c).2.2
 |⟨k,ty,nm,ar,th,el⟩,N,c,h,hc=>by
  have hb:=renS_bd ⟨k,ty,nm,ar,th,el⟩ N c;have hw:=zCa ⟨k,ty,nm,ar,th,el⟩;have h1:=zib th (if k=1 then(nm,newN c)::N else N) (if k=1 then c+1 else c);have h2:=zib el (if k=1 then(nm,newN c)::N else N) (renB th (if k=1 then(nm,newN c)::N else N) (if k=1 then c+1 else c)).2.2;simp only[renS]at hb ⊢;by_cases hk:k=1
  ·simp only[hk,if_true]at h1 h2 ⊢;exact(h.next (by omega) nm).le (by omega)
  ·simp only[hk,if_false]at h1 h2 ⊢;exact h.le (by omega)
mutual
def shS:Stmt->Nm->Nat->Stmt×Nm×Nat
 |⟨k,ty,nm,ar,th,el⟩,N,c=>
  let N1:=if k=1 then(nm,nthM c)::N else N
  let c1:=if k=1 then c+1 else c
  let t:=shB th N1 c1
  let e:=shB el N1 t.2.2
  (⟨k,ty,if k=1\/k=2 then zLa nm N1 else nm,zua N ar,t.1,e.1⟩,N1,e.2.2)
def shB:List Stmt->Nm->Nat->List Stmt×Nm×Nat
 | [],N,c=>([],N,c)
 |x::r,N,c=>
  let y:=shS x N c
  let z:=shB r y.2.1 y.2.2
  (y.1::z.1,z.2)
end
theorem renB_lenJ:∀(a:List Stmt) (N:Nm) (c:Nat),(shB a N c).1.length=a.length
 | [],N,c=>by simp[shB]
 |x::r,N,c=>by simp[shB,renB_lenJ r]
mutual
theorem renS_bdJ:∀(s:Stmt) (N:Nm) (c:Nat),(shS s N c).2.1.length<=N.length+1/\c<=(shS s N c).2.2/\(shS s N c).2.2<=c+wtS s
 |⟨k,ty,nm,ar,th,el⟩,N,c=>by
  have h1:=renB_bdJ th (if k=1 then(nm,nthM c)::N else N) (if k=1 then c+1 else c);have h2:=renB_bdJ el (if k=1 then(nm,nthM c)::N else N) (shB th (if k=1 then(nm,nthM c)::N else N) (if k=1 then c+1 else c)).2.2;have hw:=zCa ⟨k,ty,nm,ar,th,el⟩;simp only[shS];simp only at hw;refine⟨by split<;>simp,?_,?_⟩
  ·split at h1<;>split at h2<;>simp_all<;>omega
  ·split at h1<;>split at h2<;>simp_all<;>omega
theorem renB_bdJ:∀(l:List Stmt) (N:Nm) (c:Nat),(shB l N c).2.1.length<=N.length+l.length/\c<=(shB l N c).2.2/\(shB l N c).2.2<=c+wtSs l
 | [],N,c=>by simp[shB,wtSs]
 |x::r,N,c=>by
  have h1:=renS_bdJ x N c;have h2:=renB_bdJ r (shS x N c).2.1 (shS x N c).2.2;have hw:wtSs (x::r)=wtS x+1+wtSs r:=by simp[wtSs];omega
  simp only[shB,yj];omega
end
def shPs:List Par->Nm->Nat->List Par×Nm×Nat
 | [],N,c=>([],N,c)
 |x::r,N,c=>
  let z:=shPs r ((x.name,nthM c)::N) (c+1)
  (⟨nthM c,x.type⟩::z.1,z.2)
theorem renPs_lenJ:∀(a:List Par) (N:Nm) (c:Nat),(shPs a N c).1.length=a.length/\(shPs a N c).2.1.length=N.length+a.length/\(shPs a N c).2.2=c+a.length
 | [],N,c=>by simp[shPs]
 |x::r,N,c=>by
  have:=renPs_lenJ r ((x.name,nthM c)::N) (c+1);simp only[shPs,yj]at this ⊢;omega
def shF(f:Func):Func:=⟨f.name,f.type,(shPs f.params [] 0).1,(shB f.body (shPs f.params [] 0).2.1 (shPs f.params [] 0).2.2).1⟩
def shP(p:Prog):Prog:=⟨p.arrays,p.funcs.map shF⟩
def NJ(N:Nm)(c:Nat):Prop:=(N.map (·.2)).Nodup/\∀x∈N.map (·.2),∃i,i<c/\x=nthM i
theorem NJ.next{N:Nm}{c:Nat}(h:NJ N c)(hc:c<9000000000000)(nm:List UInt8):NJ ((nm,nthM c)::N) (c+1):=by
 refine⟨?_,?_⟩
 ·rw[yv,List.nodup_cons];refine⟨fun hm=>?_,h.1⟩;obtain⟨i,hi,he⟩:=h.2 _ hm;have:=nthM_inj (by omega) (by omega) he;omega
 ·intro x hx;rw[yv,yB]at hx;rcases hx with rfl|hx
  ·exact⟨c,by omega,rfl⟩
  ·obtain⟨i,hi,he⟩:=h.2 x hx;exact⟨i,by omega,he⟩
theorem NJ.le{N:Nm}{c d:Nat}(h:NJ N c)(hd:c<=d):NJ N d:=⟨h.1,fun x hx=>by obtain⟨i,hi,he⟩:=h.2 x hx;exact⟨i,by omega,he⟩⟩
theorem ni_parsJ:∀(ps:List Par) (N:Nm) (c:Nat),NJ N c->c+ps.length<9000000000000->NJ (shPs ps N c).2.1 (shPs ps N c).2.2
 | [],N,c,h,_=>by simpa[shPs]using h
 |x::r,N,c,h,hc=>by
  have:=ni_parsJ r ((x.name,nthM c)::N) (c+1) (h.next (by simp at hc;omega) x.name) (by simp at hc;omega);simpa[shPs]using this
theorem ni_renJ:∀(s:Stmt) (N:Nm) (c:Nat),NJ N c->c+wtS s<=4000000000000->NJ (shS s N c).2.1 (shS s N c).2.2
 |⟨k,ty,nm,ar,th,el⟩,N,c,h,hc=>by
  have hb:=renS_bdJ ⟨k,ty,nm,ar,th,el⟩ N c;have hw:=zCa ⟨k,ty,nm,ar,th,el⟩;have h1:=renB_bdJ th (if k=1 then(nm,nthM c)::N else N) (if k=1 then c+1 else c);have h2:=renB_bdJ el (if k=1 then(nm,nthM c)::N else N) (shB th (if k=1 then(nm,nthM c)::N else N) (if k=1 then c+1 else c)).2.2;simp only[shS]at hb ⊢;by_cases hk:k=1
  ·simp only[hk,if_true]at h1 h2 ⊢;exact(h.next (by omega) nm).le (by omega)
  ·simp only[hk,if_false]at h1 h2 ⊢;exact h.le (by omega)
mutual
def let1:Stmt->List (List UInt8)
 |⟨k,_,nm,_,th,el⟩=>(if k=1 then[nm]else[])++(zTb th++zTb el)
def zTb:List Stmt->List (List UInt8)
 | []=>[]
 |x::r=>let1 x++zTb r
end
theorem let1_eq(s:Stmt):let1 s=(if s.kind=1 then[s.name]else[])++(zTb s.thn++zTb s.els):=by cases s;rw[let1]
theorem letsM_append(a b:List Stmt):zTb (a++b)=zTb a++zTb b:=by
 induction a with
 |nil=>simp[zTb]
 |cons x r ih=>simp[zTb,ih]
def news(c k:Nat):List (List UInt8):=(List.range' c k).map newN
theorem zHe(c a b:Nat):news c a++news (c+a) b=news c (a+b):=by
 unfold news;rw[<-yca,List.range'_append_1]
mutual
theorem let1_ren:∀(s:Stmt) (N:Nm) (c:Nat),∃k,(renS s N c).2.2=c+k/\let1 (renS s N c).1=news c k
 |⟨k,ty,nm,ar,th,el⟩,N,c=>by
  by_cases hk:k=1
  ·subst hk;have hf:zLa nm ((nm,newN c)::N)=newN c:=by simp[zLa]
   obtain⟨k1,a1,a2⟩:=zte th ((nm,newN c)::N) (c+1);obtain⟨k2,b1,b2⟩:=zte el ((nm,newN c)::N) (c+1+k1);simp only[renS,if_true,true_or,hf,let1,a1,a2,b1,b2];refine⟨1+(k1+k2),by omega,?_⟩;rw[zHe,<-zHe c 1 (k1+k2)];rfl
  ·obtain⟨k1,a1,a2⟩:=zte th N c;obtain⟨k2,b1,b2⟩:=zte el N (c+k1);simp only[renS,hk,if_false,false_or,let1,a1,a2,b1,b2];refine⟨k1+k2,by omega,?_⟩;rw[ysa,zHe]
theorem zte:∀(l:List Stmt) (N:Nm) (c:Nat),∃k,(renB l N c).2.2=c+k/\zTb (renB l N c).1=news c k
 | [],N,c=>⟨0,by simp[renB],by simp[renB,zTb,news]⟩
 |x::r,N,c=>by
  obtain⟨k1,a1,a2⟩:=let1_ren x N c;obtain⟨k2,b1,b2⟩:=zte r (renS x N c).2.1 (c+k1);simp only[renB,zTb,a1,a2,b1,b2];exact⟨k1+k2,by omega,zHe c k1 k2⟩
end
def numN(s:List UInt8):Nat:=(zLd s.tail).toNat
def numM(s:List UInt8):List UInt8:=nthM (numN s)
theorem numN_new{c:Nat}(h:c<=9223372036854775807):numN (newN c)=c:=by simp[numN,newN,value_dig h]
theorem zid{c:Nat}(h:c<=9223372036854775807):numM (newN c)=nthM c:=by simp[numM,numN_new h]
mutual
def shortE:Expr->Expr
 |⟨k,op,n,nm,ar⟩=>⟨k,op,n,if k=3 then numM nm else nm,zea ar⟩
def zea:List Expr->List Expr
 | []=>[]
 |x::r=>shortE x::zea r
end
mutual
def shortS:Stmt->Stmt
 |⟨k,ty,nm,ar,th,el⟩=>⟨k,ty,if k=1\/k=2 then numM nm else nm,zea ar,zba th,zba el⟩
def zba:List Stmt->List Stmt
 | []=>[]
 |x::r=>shortS x::zba r
end
theorem shortEs_append(a b:List Expr):zea (a++b)=zea a++zea b:=by
 induction a with
 |nil=>simp[zea]
 |cons x r ih=>simp[zea,ih]
theorem zAe(a:List Expr):(zea a).length=a.length:=by
 induction a with
 |nil=>simp[zea]
 |cons x r ih=>simp[zea,ih]
theorem shortSs_append(a b:List Stmt):zba (a++b)=zba a++zba b:=by
 induction a with
 |nil=>simp[zba]
 |cons x r ih=>simp[zba,ih]
theorem zze(a:List Stmt):(zba a).length=a.length:=by
 induction a with
 |nil=>simp[zba]
 |cons x r ih=>simp[zba,ih]
def zWc(p:Par):Par:=⟨numM p.name,p.type⟩
def zAb(f:Func):Func:=⟨f.name,f.type,f.params.map zWc,zba f.body⟩
def nvN(c:Nat)(nm:List UInt8):Prop:=∃i,i<c/\nm=newN i
mutual
def nvE(c:Nat):Expr->Prop
 |⟨k,_,_,nm,ar⟩=>(k=3->nvN c nm)/\nvEs c ar
def nvEs(c:Nat):List Expr->Prop
 | []=>True
 |x::r=>nvE c x/\nvEs c r
end
mutual
def nvS(c:Nat):Stmt->Prop
 |⟨k,_,nm,ar,th,el⟩=>(k=1\/k=2->nvN c nm)/\nvEs c ar/\nvSs c th/\nvSs c el
def nvSs(c:Nat):List Stmt->Prop
 | []=>True
 |x::r=>nvS c x/\nvSs c r
end
theorem nvN.le{c d:Nat}{nm:List UInt8}(h:nvN c nm)(hd:c<=d):nvN d nm:=by
 obtain⟨i,hi,he⟩:=h;exact⟨i,by omega,he⟩
mutual
theorem nvE_le{c d:Nat}(hd:c<=d):∀(e:Expr),nvE c e->nvE d e
 |⟨k,op,n,nm,ar⟩,h=>by
  rw[nvE]at h ⊢;exact⟨fun e=>(h.1 e).le hd,nvEs_le hd ar h.2⟩
theorem nvEs_le{c d:Nat}(hd:c<=d):∀(l:List Expr),nvEs c l->nvEs d l
 | [],_=>by rw[nvEs];trivial
 |x::r,h=>by
  rw[nvEs]at h ⊢;exact⟨nvE_le hd x h.1,nvEs_le hd r h.2⟩
end
mutual
theorem nvS_le{c d:Nat}(hd:c<=d):∀(s:Stmt),nvS c s->nvS d s
 |⟨k,ty,nm,ar,th,el⟩,h=>by
  rw[nvS]at h ⊢;exact⟨fun e=>(h.1 e).le hd,nvEs_le hd ar h.2.1,nvSs_le hd th h.2.2.1,nvSs_le hd el h.2.2.2⟩
theorem nvSs_le{c d:Nat}(hd:c<=d):∀(l:List Stmt),nvSs c l->nvSs d l
 | [],_=>by rw[nvSs];trivial
 |x::r,h=>by
  rw[nvSs]at h ⊢;exact⟨nvS_le hd x h.1,nvSs_le hd r h.2⟩
end
theorem nvEs_mem{c:Nat}:∀{l:List Expr},nvEs c l->∀x∈l,nvE c x
 | [],_,x,hx=>by simp at hx
 |y::r,h,x,hx=>by
  rw[nvEs]at h;rcases yB.1 hx with rfl|hx
  ·exact h.1
  ·exact nvEs_mem h.2 x hx
theorem nvSs_mem{c:Nat}:∀{l:List Stmt},nvSs c l->∀x∈l,nvS c x
 | [],_,x,hx=>by simp at hx
 |y::r,h,x,hx=>by
  rw[nvSs]at h;rcases yB.1 hx with rfl|hx
  ·exact h.1
  ·exact nvSs_mem h.2 x hx
theorem nvE_iff{c:Nat}(e:Expr):nvE c e<->(e.kind=3->nvN c e.name)/\nvEs c e.args:=by
 obtain⟨k,op,n,nm,ar⟩:=e;simp[nvE]
theorem nvS_iff{c:Nat}(s:Stmt):nvS c s<->(s.kind=1\/s.kind=2->nvN c s.name)/\nvEs c s.args/\nvSs c s.thn/\nvSs c s.els:=by
 obtain⟨k,ty,nm,ar,th,el⟩:=s;simp[nvS]
def shN(N:Nm):Nm:=N.map fun q=>(q.1,numM q.2)
def NW(N:Nm)(c:Nat):Prop:=∀x∈N.map (·.2),nvN c x
theorem NW.le{N:Nm}{c d:Nat}(h:NW N c)(hd:c<=d):NW N d:=fun x hx=>(h x hx).le hd
theorem NW.next{N:Nm}{c:Nat}(h:NW N c)(nm:List UInt8):NW ((nm,newN c)::N) (c+1):=by
 intro x hx;rw[yv,yB]at hx;rcases hx with rfl|hx
 ·exact⟨c,by omega,rfl⟩
 ·exact(h x hx).le (by omega)
theorem findN_in:∀{N:Nm} {x:List UInt8},x∈N.map (·.1)->zLa x N∈N.map (·.2)
 | [],x,h=>by simp at h
 |(a,b)::r,x,h=>by
  unfold zLa;by_cases e:a=x
  ·simp[e]
  ·simp only[e,if_false];have:x∈r.map (·.1):=by
    rw[yv,yB]at h;rcases h with h|h
    ·exact absurd h.symm e
    ·exact h
   simp only[yv,yB];exact .inr (findN_in this)
theorem findN_sh:∀{N:Nm} {x:List UInt8},x∈N.map (·.1)->zLa x (shN N)=numM (zLa x N)
 | [],x,h=>by simp at h
 |(a,b)::r,x,h=>by
  by_cases e:a=x
  ·simp[zLa,shN,e]
  ·have:x∈r.map (·.1):=by
    rw[yv,yB]at h;rcases h with h|h
    ·exact absurd h.symm e
    ·exact h
   have ih:=findN_sh this;unfold shN at ih;simp only[zLa,shN,yv,e,if_false];exact ih
theorem shN_new{N:Nm}{c:Nat}(hc:c<=9223372036854775807)(nm:List UInt8):shN ((nm,newN c)::N)=(nm,nthM c)::shN N:=by
 simp[shN,zid hc]
mutual
theorem shortE_ren{N:Nm}{c:Nat}(hN:NW N c):∀(e:Expr),scE (N.map (·.1)) e->shortE (renE N e)=renE (shN N) e/\nvE c (renE N e)
 |⟨k,op,n,nm,ar⟩,h=>by
  rw[scE]at h;obtain⟨e1,e2⟩:=shortEs_ren hN ar h.2;rw[renE,renE,shortE,nvE,e1];by_cases hk:k=3
  ·have hm:=h.1 hk;simp only[hk,if_true];rw[findN_sh hm];exact⟨rfl,fun _=>hN _ (findN_in hm),e2⟩
  ·simp only[hk,if_false];exact⟨trivial,fun e=>e.elim,e2⟩
theorem shortEs_ren{N:Nm}{c:Nat}(hN:NW N c):∀(l:List Expr),scEs (N.map (·.1)) l->zea (zua N l)=zua (shN N) l/\nvEs c (zua N l)
 | [],_=>by rw[zua,zua,zea,nvEs];exact⟨rfl,trivial⟩
 |x::r,h=>by
  rw[scEs]at h;obtain⟨e1,e2⟩:=shortE_ren hN x h.1;obtain⟨e3,e4⟩:=shortEs_ren hN r h.2;rw[zua,zua,zea,nvEs,e1,e3];exact⟨rfl,e2,e4⟩
end
mutual
theorem shortS_ren:∀(s:Stmt) (N:Nm) (c:Nat),NW N c->c+wtS s<=4000000000000->scS (N.map (·.1)) s→
  shortS (renS s N c).1=(shS s (shN N) c).1/\shN (renS s N c).2.1=(shS s (shN N) c).2.1/\(renS s N c).2.2=(shS s (shN N) c).2.2/\NW (renS s N c).2.1 (renS s N c).2.2∧
   (renS s N c).2.1.map (·.1)=(if s.kind=1 then s.name::N.map (·.1)else N.map (·.1))/\nvS (renS s N c).2.2 (renS s N c).1
 |⟨k,ty,nm,ar,th,el⟩,N,c,hN,hc,h=>by
  have hw:=zCa ⟨k,ty,nm,ar,th,el⟩;simp only at hw;rw[scS]at h;obtain⟨h1,h2,h3,h4⟩:=h;obtain⟨a1,a2⟩:=shortEs_ren hN ar h1;by_cases hk:k=1
  ·subst hk;simp only[if_true]at h3 h4;have hN1:=hN.next nm;have b1:=zib th ((nm,newN c)::N) (c+1);have b2:=zib el ((nm,newN c)::N) (renB th ((nm,newN c)::N) (c+1)).2.2;obtain⟨t1,t2,t3,t4⟩:=zEc th ((nm,newN c)::N) (c+1) hN1 (by omega) (by simpa using h3);obtain⟨u1,u2,u3,u4⟩:=zEc el ((nm,newN c)::N) (renB th ((nm,newN c)::N) (c+1)).2.2 (hN1.le (by omega)) (by omega) (by simpa using h4);rw[shN_new (by omega)]at t1 t2 u1 u2;have f1:zLa nm ((nm,newN c)::N)=newN c:=by simp[zLa]
   have f2:zLa nm ((nm,nthM c)::shN N)=nthM c:=by simp[zLa]
   simp only[renS,shS,if_true,true_or,f1,f2];rw[<-t2,shortS,zid (by omega),a1,t1,u1,shN_new (by omega)];refine⟨by simp,rfl,u2,hN1.le (by omega),by simp,?_⟩;rw[nvS];exact⟨fun _=>⟨c,by omega,rfl⟩,nvEs_le (by omega) _ a2,nvSs_le (by omega) _ t4,u4⟩
  ·simp only[hk,if_false]at h3 h4;have b1:=zib th N c;have b2:=zib el N (renB th N c).2.2;obtain⟨t1,t2,t3,t4⟩:=zEc th N c hN (by omega) h3;obtain⟨u1,u2,u3,u4⟩:=zEc el N (renB th N c).2.2 (hN.le (by omega)) (by omega) h4;simp only[renS,shS,hk,if_false,false_or];rw[<-t2,shortS,a1,t1,u1];refine⟨?_,(by first|rfl|trivial),u2,hN.le (by omega),(by first|rfl|trivial),?_⟩
   ·by_cases hk2:k=2
    ·simp[hk2,findN_sh (h2 hk2)]
    ·simp[hk,hk2]
   ·rw[nvS];refine⟨fun e=>?_,nvEs_le (by omega) _ a2,nvSs_le (by omega) _ t4,u4⟩;rcases e with e|e
    ·exact absurd e hk
    ·simp only[e,if_true];exact(hN _ (findN_in (h2 e))).le (by omega)
theorem zEc:∀(l:List Stmt) (N:Nm) (c:Nat),NW N c->c+wtSs l<=4000000000000->scSs (N.map (·.1)) l→
  zba (renB l N c).1=(shB l (shN N) c).1/\(renB l N c).2.2=(shB l (shN N) c).2.2/\NW (renB l N c).2.1 (renB l N c).2.2/\nvSs (renB l N c).2.2 (renB l N c).1
 | [],N,c,hN,_,_=>by simp only[renB,shB,zba,nvSs];exact⟨trivial,trivial,hN,trivial⟩
 |x::r,N,c,hN,hc,h=>by
  have hw:wtSs (x::r)=wtS x+1+wtSs r:=by simp[wtSs];omega
  rw[scSs]at h;obtain⟨s1,s2,s3,s4,s5,s6⟩:=shortS_ren x N c hN (by omega) h.1;have b0:=renS_bd x N c;have b1:=zib r (renS x N c).2.1 (renS x N c).2.2;obtain⟨r1,r2,r3,r4⟩:=zEc r (renS x N c).2.1 (renS x N c).2.2 s4 (by omega) (by rw[s5];exact h.2);simp only[renB,shB];rw[<-s2,<-s3,zba,s1,r1,nvSs];exact⟨rfl,r2,r3,nvS_le (by omega) _ s6,r4⟩
end
theorem shortPs_ren:∀(ps:List Par) (N:Nm) (c:Nat),NW N c->c+ps.length<=4000000000000→
  (zy ps N c).1.map zWc=(shPs ps (shN N) c).1/\shN (zy ps N c).2.1=(shPs ps (shN N) c).2.1/\(zy ps N c).2.2=(shPs ps (shN N) c).2.2/\NW (zy ps N c).2.1 (zy ps N c).2.2∧
   (zy ps N c).2.1.map (·.1)=(ps.map (·.name)).reverse++N.map (·.1)/\∀i p,(zy ps N c).1[i]? =some p->p.name=newN (c+i)
 | [],N,c,hN,_=>by simp only[zy,shPs];exact⟨rfl,trivial,trivial,hN,by simp,by simp⟩
 |x::r,N,c,hN,hc=>by
  rw[yj]at hc;obtain⟨p1,p2,p3,p4,p5,p6⟩:=shortPs_ren r ((x.name,newN c)::N) (c+1) (hN.next x.name) (by omega);rw[shN_new (by omega)]at p1 p2 p3;simp only[zy,shPs,yv];refine⟨?_,p2,p3,p4,by rw[p5];simp,?_⟩
  ·rw[p1,zWc,zid (by omega)]
  ·intro i p hp;cases i with
   |zero=>simp at hp;rw[<-hp];rfl
   |succ i=>
    have:=p6 i p (by simpa using hp);rw[this,show c+1+i=c+(i+1) by omega]
theorem shortF_ren(f:Func)(hb:wtSs f.body<1099508000000)(hp:f.params.length<1099509000000)(hsc:scSs (f.params.map (·.name)).reverse f.body):
  zAb (renF f)=shF f/\nvSs (renC f) (renF f).body/\(∀i p,(renF f).params[i]? =some p->p.name=newN i)/\renC f=(renF f).params.length+(zTb (renF f).body).length/\(renF f).params.length=f.params.length:=by
 have hl:=zXc f.params [] 0;obtain⟨p1,p2,p3,p4,p5,p6⟩:=shortPs_ren f.params [] 0 (fun x hx=>by simp at hx) (by omega);have hb1:=zib f.body (zy f.params [] 0).2.1 (zy f.params [] 0).2.2;obtain⟨s1,s2,s3,s4⟩:=zEc f.body (zy f.params [] 0).2.1 (zy f.params [] 0).2.2 p4 (by simp only[yn]at hl;omega) (by rw[p5];simpa using hsc);have e0:shN []=[]:=rfl;rw[e0]at p1 p2 p3;rw[p2,p3]at s1 s2;obtain⟨k,l1,l2⟩:=zte f.body (zy f.params [] 0).2.1 (zy f.params [] 0).2.2;refine⟨?_,s4,fun i p h=>by rw[p6 i p h,yT],?_,hl.1⟩
 ·show Func.mk _ _ ((zy f.params [] 0).1.map zWc) (zba (renB f.body (zy f.params [] 0).2.1 (zy f.params [] 0).2.2).1)=shF f
  rw[p1,p3,s1];rfl
 ·show(renB f.body (zy f.params [] 0).2.1 (zy f.params [] 0).2.2).2.2=(zy f.params [] 0).1.length+(zTb (renB f.body (zy f.params [] 0).2.1 (zy f.params [] 0).2.2).1).length
  rw[l1,l2,hl.1,hl.2.2];simp[news]
def shM(p:Prog):Prog×Int:=if(zbb p).1=0 then(shP p,0)else(⟨[],[]⟩,1)
abbrev KT:=Int×List UInt8
def kt(t:Tok):KT:=(t.kind,t.text)
def valN(n:Nat)(s:List UInt8):Nat:=s.foldl (fun n b=>n*10+(b.toNat-48)) n
theorem valN_nil(n:Nat):valN n []=n:=rfl
theorem valN_cons(n:Nat)(b:UInt8)(r:List UInt8):valN n (b::r)=valN (n*10+(b.toNat-48)) r:=by
 unfold valN;rw[List.foldl_cons]
theorem valN_ge:∀(s:List UInt8) (n:Nat),n<=valN n s
 | [],n=>Nat.le_of_eq (valN_nil n).symm
 |b::r,n=>by
  have:=valN_ge r (n*10+(b.toNat-48));rw[valN_cons];omega
theorem digs_cons{b:UInt8}{r:List UInt8}:digs (b::r)=true<->(48<=b.toNat/\b.toNat<=57)/\digs r=true:=by
 unfold digs;rw[yta,yb];simp[zLb];omega
theorem valGo_N:∀(s:List UInt8) (n:Nat),digs s=true->n<=9223372036854775807->zId n s=if valN n s<=9223372036854775807 then some (valN n s:Int)else none
 | [],n,_,h=>by simp[zId,valN_nil,h]
 |b::r,n,hd,h=>by
  obtain⟨hb,hr⟩:=digs_cons.1 hd;rw[zId,valN_cons];have hc:((b.toNat:Int)-48)=((b.toNat-48:Nat):Int):=by omega
  rw[hc];have hge:=valN_ge r (n*10+(b.toNat-48));split
  ·rename_i hlt;rw[if_neg (by omega)]
  ·rename_i hlt;have e:(n:Int)*10+((b.toNat-48:Nat):Int)=((n*10+(b.toNat-48):Nat):Int):=by omega
   rw[e];exact valGo_N r _ hr (by omega)
theorem parse_N:∀(s:List UInt8) (n:Nat),digs s=true->n<18446744073709551616->Lib.parseUint10 n s=if valN n s<18446744073709551616 then .ok (valN n s)else .range
 | [],n,_,h=>by simp[Lib.parseUint10,valN_nil,h]
 |b::r,n,hd,h=>by
  obtain⟨hb,hr⟩:=digs_cons.1 hd;rw[Lib.parseUint10,if_pos hb,valN_cons];have hge:=valN_ge r (n*10+(b.toNat-48));split
  ·rw[if_neg (by omega)]
  split
  ·rw[if_neg (by omega)]
  ·exact parse_N r _ hr (by omega)
open PE.R (nthK fromK)
theorem atoi_dig{c:Nat}(h:c<=9223372036854775807):Lib.atoiAll (zR c)= .ok (c:Int):=by
 have hd:=digs_dig c;have hv:=value_dig h;cases hs:zR c with
 |nil=>exact absurd hs (digF_ne 19 c)
 |cons b r=>
  rw[hs]at hd hv;obtain⟨hb,hr⟩:=digs_cons.1 hd;have hat:Lib.atoiAll (b::r)=match Lib.parseUint10 0 (b::r)with
    | .«syntax» => .«syntax»
    | .range=> .range
    | .ok u=>if 9223372036854775808<=u then .range else .ok (u:Int):=by
   unfold Lib.atoiAll;have h1:¬b.toNat=43:=by omega
   have h2:¬b.toNat=45:=by omega
   simp only[h1,h2,or_self,if_false,false_and,not_false_eq_true,true_and];unfold Lib.parseMag;rfl
  have hN:=valGo_N (b::r) 0 hd (by omega);unfold zLd at hv;rw[show(0:Int)=((0:Nat):Int)from rfl,hN]at hv;rw[hat,parse_N _ 0 hd (by omega)];by_cases h63:valN 0 (b::r)<=9223372036854775807
  ·rw[if_pos h63]at hv;simp only at hv;split at hv
   ·omega
   ·rw[if_pos (by omega)];simp only;rw[if_neg (by omega),hv]
  ·rw[if_neg h63]at hv;simp at hv
theorem atoi_d(c:Nat)(h:c<=1000000000000):zj E 90 [.str (zR c)] []=some (.ret (.tup [.int .i64 c,.nilif]),[]):=by
 rw[zqb (E:=E) (f:=90) (g:=pureX (atoiG 195)) rfl];have hl:=zZd 20 c;unfold pureX atoiG;simp only;rw[if_pos (by unfold zR;omega),atoi_dig (by omega)];rfl
def namV(c:Nat):PV:= .slice .plain 1 (((yD c).map nthM).map .str)
theorem nname_spec(c i:Nat)(hc:c<=200000000000)(hi:i<c):zj E 55 [namV c,.str (newN i)] []=some (.ret (.str (nthM i)),[]):=by
 refine zc rfl rfl rfl (by simp[namV]) ?_;have ha:=atoi_d i (by omega);have hl:=zZd 20 i;have hl1:(zR i).length<100:=by unfold zR;omega
 have hn:newN i=118::zR i:=rfl;have hg:(((yD c).map nthM).map PV.str)[i]? =some (.str (nthM i)):=by
  rw[yo,yo,List.getElem?_range hi];rfl
 have hg':((yD c).map nthM)[i]? =some (nthM i):=by
  rw[yo,List.getElem?_range hi];rfl
 rw[hn];unfold namV;generalize zR i=dg at*;generalize(yD c).map nthM=xs at*;have hln:(1:Int)<=((dg.length:Nat):Int)+1:=by omega
 clear hl hn hi hg;simp[*,F55]
theorem lets_le:∀(w:Nat) (l:List Stmt),wtSs l<=w->(zTb l).length<=wtSs l:=by
 intro w
 induction w using yia with
 |_ w IH=>
 intro l h
 induction l with
 |nil=>simp[zTb]
 |cons x r ih=>
  have hw:wtSs (x::r)=1+wtS x+wtSs r:=rfl;have he:=zCa x;have h1:=IH (wtSs x.thn) (by omega) x.thn (ye _);have h2:=IH (wtSs x.els) (by omega) x.els (ye _);have h3:=ih (by omega);rw[zTb,let1_eq];simp only[yi];split<;>simp<;>omega
theorem lets_spec:∀(w:Nat) (l:List Stmt),wtSs l<=w->w<1099511000000->zj E 28 [zg l] []=some (.ret (.int .i64 (zTb l).length),[]):=by
 intro w
 induction w using yia with
 |_ w IH=>
 intro l h hw;refine zc rfl rfl rfl (by simp[zg]) ?_;have hlen:=zia l;simp[F28,zg];refine zTc l K28_0 B28_0 (fun d=>[(2,.int .i64 (zTb d).length),(7,.int .i64 d.length)]) (fun _=>[]) (fun _=>[]) (fun d=>True) (by omega) (by simp[zTb]) ?_ ?_
 ·intros d x r s1 hl' hlt hget hget' hw1 hp h1 h2 h3 h3b h4;simp at h1 h2 h3 h3b h4;have hwx:=zmc hl'.mem;have hwe:=zCa x;have e1:=IH (wtSs x.thn) (by omega) x.thn (ye _) (by omega);have e2:=IH (wtSs x.els) (by omega) x.els (ye _) (by omega);have b1:=lets_le _ x.thn (ye _);have b2:=lets_le _ x.els (ye _);have b0:=lets_le _ d (ye _);have hsum:wtSs l=wtSs d+(1+wtS x)+wtSs r:=by rw[hl'.eq,zCc];simp[wtSs];omega
  have hap:((zTb (d++[x])).length:Int)=(zTb d).length+(if x.kind=1 then 1 else 0)+(((zTb x.thn).length:Int)+(zTb x.els).length):=by
   rw[letsM_append,zTb,zTb,let1_eq];split<;>simp<;>omega
  rw[hap];have hdec:decide (d.length<l.length)=true:=decide_eq_true hlt;obtain⟨k,ty,nm,ar,th,el⟩:=x;simp only at hwe e1 e2 b1 b2 hap ⊢;obtain⟨n0,hn0⟩:∃n0:Int,n0=((zTb d).length:Int):=⟨_,rfl⟩
  obtain⟨n1,hn1⟩:∃n1:Int,n1=((zTb th).length:Int):=⟨_,rfl⟩
  obtain⟨n2,hn2⟩:∃n2:Int,n2=((zTb el).length:Int):=⟨_,rfl⟩
  rw[<-hn0]at h3 ⊢;rw[<-hn1]at e1 ⊢;rw[<-hn2]at e2 ⊢;have c0:zA .i64 (n0+1)=n0+1:=by rw[zi]<;>omega
  have c1:zA .i64 (n1+n2)=n1+n2:=by rw[zi]<;>omega
  have c2:zA .i64 (n0+(n1+n2))=n0+(n1+n2):=by rw[zi]<;>omega
  have c3:zA .i64 (n0+1+(n1+n2))=n0+1+(n1+n2):=by rw[zi]<;>omega
  simp[zg]at e1 e2;by_cases hk:k=1
  ·subst hk;clear IH h hw hlen hl' hwx hwe b0 b1 b2 hsum hap hn0 hn1 hn2 h2 hp;simp[*,zb,zg]
  ·replace hk:=eqn hk;clear IH h hw hlen hl' hwx hwe b0 b1 b2 hsum hap hn0 hn1 hn2 h2 hp;simp[*,zb,zg]
 ·intros s1 hp h1 h2 h3 h3b h4;simp at h1 h2 h3 h3b h4;simp[*]
set_option maxHeartbeats 4000000 in
theorem nexprs_spec(c:Nat)(hc:c<=200000000000):∀(w:Nat) (l:List Expr),wtEs l<=w->w<1099511000000->nvEs c l→
  zj E 56 [namV c,zf l] []=some (.ret (zf (zea l)),[]):=by
 intro w
 induction w using yia with
 |_ w IH=>
 intro l h hw hnv;refine zc rfl rfl rfl (by simp[zf,namV]) ?_;have hlen:=zxb l;have hnm:=fun i=>nname_spec c i hc
 generalize hX:namV c=X at*;have hXs:strip X=X:=by rw[<-hX];rfl
 have hXa:stripA X=X:=by rw[<-hX];rfl
 have hXi:zE X=true:=by rw[<-hX];rfl
 have hXc:canon1 X=X:=by rw[<-hX];rfl
 have hXd:∀ds,zBc ds X=true:=fun ds=>by rw[<-hX];simp[namV]
 have hXb:∀n,zz n X=true:=fun n=>by
  rw[<-hX];refine zqd.2 fun x hx=>?_
  obtain⟨y,_,rfl⟩:=List.mem_map.1 hx;rfl
 have hwf0:zd.wf 0 []=true:=rfl;clear hX;by_cases hl:l=[]
 ·subst hl;have hcl:=eclone_nil [];clear IH h hw hlen hnm;simp[*,F56,zf];refine zU K56_0 B56_0 (fun _:Unit=>0) (fun _=>[(11,.int .i64 0)]) (fun _=>[]) (fun _=>[]) (fun _=>True) () ⟨by simp,by simp,by simp,trivial⟩ ?_
  rintro⟨⟩ s1-q1 q2 q3 q4 q5
  simp at q1 q3 q5;simp[*,zea,fin]
 ·have hne:l.map zo≠ []:=by simpa using hl
  have hroom:(l.map zo).length*64<=zn:=by simp only[zn,yr];omega
  have hcl:=eclone [] hne hroom;simp only[yr,yn,ysa]at hcl;simp[*,F56,zf];refine zD l K56_0 B56_0 (fun d=>[(11,.int .i64 d.length)]) (fun d=>[.arr 5 ((zea d).map zo++(l.drop d.length).map zo)]) (fun d=>True) (by omega) (by simp[zea]) ?_ ?_
  ·intros d q rr s1 hl' hlt hget hget' hw1 hp h1 h2 h3 h4;simp at h1 h2 h3;have hwx:=zzb hl'.mem;have hwe:=zed q;have hnq:=nvEs_mem hnv q hl'.mem;rw[nvE_iff]at hnq;have hap:zea (d++[q])=zea d++[shortE q]:=by rw[shortEs_append];simp[zea]
   have hd1:l.drop d.length=q::rr:=by rw[hl'.eq];simp
   have hd2:l.drop (d.length+1)=rr:=by rw[<-List.drop_drop,hd1];rfl
   have hdec:decide (d.length<l.length)=true:=decide_eq_true hlt;have ih:=IH (wtEs q.args) (by omega) q.args (ye _) (by omega) hnq.2;have hA:((zea d).map zo).length=d.length:=by rw[yr,zAe]
   have h4':s1.st=[.arr 5 ((zea d).map zo++zo q::rr.map zo)]:=by rw[h4];simp only[hd1,yv]
   clear h4;rw[hap,yca];simp only[yi,yH,hd2,yv,yxa,yO,List.singleton_append];generalize(zea d).map zo=A at*;generalize rr.map zo=R at*;have hg:∀e,(A++e::R)[d.length]? =some e:=fun e=>by rw[<-hA];exact mid_get A R e
   have hs:∀e e',(A++e::R).set d.length e'=A++e'::R:=fun e e'=>by rw[<-hA];exact mid_set A R e e'
   obtain⟨k,op,n,nm,ar⟩:=q;simp only at ih hnq;by_cases hk:k=3
   ·subst hk;obtain⟨i,hi,hin⟩:=hnq.1 rfl;have hnm1:=hnm i hi;rw[<-hin]at hnm1;have hmm:numM nm=nthM i:=by rw[hin];exact zid (by omega)
    rw[<-hmm]at hnm1;clear hnm hnq hin hmm hi;clear IH hl' hwx hwe h2 hp hd1 hd2 hap hget hget' h hw hnv hcl hroom hlen hne hl;simp[zf]at ih;simp[*,za,shortE,zf]
   ·replace hk:=eqn hk;clear hnm hnq;clear IH hl' hwx hwe h2 hp hd1 hd2 hap hget hget' h hw hnv hcl hroom hlen hne hl;simp[zf]at ih;simp[*,za,shortE,zf]
  ·intros s1 hp h1 h2 h3 h4;simp at h1 h2 h3;clear IH h hnm;have htk:((zea l).map zo).take l.length=(zea l).map zo:=yy (by rw[yr,zAe];omega);simp[*,zf,fin,frA_mslice,fr1_mslice,zAe,strip_exprF]
end PE.U

namespace PE.U
open Go PE
open PE.R (nthK fromK)
set_option maxHeartbeats 8000000 in
theorem nstmts_spec(c:Nat)(hc:c<=200000000000):∀(w:Nat) (l:List Stmt),wtSs l<=w->w<1099511000000->nvSs c l→
  zj E 29 [namV c,zg l] []=some (.ret (zg (zba l)),[]):=by
 intro w
 induction w using yia with
 |_ w IH=>
 intro l h hw hnv;refine zc rfl rfl rfl (by simp[zg,namV]) ?_;have hlen:=zia l;have hnm:=fun i=>nname_spec c i hc
 have hex:=fun ar h1 h2=>nexprs_spec c hc (wtEs ar) ar (ye _) h1 h2
 generalize hX:namV c=X at*;have hXs:strip X=X:=by rw[<-hX];rfl
 have hXa:stripA X=X:=by rw[<-hX];rfl
 have hXi:zE X=true:=by rw[<-hX];rfl
 have hXc:canon1 X=X:=by rw[<-hX];rfl
 have hXd:∀ds,zBc ds X=true:=fun ds=>by rw[<-hX];simp[namV]
 have hXb:∀n,zz n X=true:=fun n=>by
  rw[<-hX];refine zqd.2 fun x hx=>?_
  obtain⟨y,_,rfl⟩:=List.mem_map.1 hx;rfl
 have hwf0:zd.wf 0 []=true:=rfl;clear hX;by_cases hl:l=[]
 ·subst hl;have hcl:=tclone_nil [];clear IH h hw hlen hnm hex;simp[*,F29,zg];refine zU K29_0 B29_0 (fun _:Unit=>0) (fun _=>[(11,.int .i64 0)]) (fun _=>[]) (fun _=>[]) (fun _=>True) () ⟨by simp,by simp,by simp,trivial⟩ ?_
  rintro⟨⟩ s1-q1 q2 q3 q4 q5
  simp at q1 q3 q5;simp[*,zba,fin]
 ·have hne:l.map zu≠ []:=by simpa using hl
  have hroom:(l.map zu).length*104<=zn:=by simp only[zn,yr];omega
  have hcl:=tclone [] hne hroom;simp only[yr,yn,ysa]at hcl;simp[*,F29,zg];refine zD l K29_0 B29_0 (fun d=>[(11,.int .i64 d.length)]) (fun d=>[.arr 6 ((zba d).map zu++(l.drop d.length).map zu)]) (fun d=>True) (by omega) (by simp[zba]) ?_ ?_
  ·intros d q rr s1 hl' hlt hget hget' hw1 hp h1 h2 h3 h4;simp at h1 h2 h3;have hwx:=zmc hl'.mem;have hwe:=zCa q;have hnq:=nvSs_mem hnv q hl'.mem;rw[nvS_iff]at hnq;have hap:zba (d++[q])=zba d++[shortS q]:=by rw[shortSs_append];simp[zba]
   have hd1:l.drop d.length=q::rr:=by rw[hl'.eq];simp
   have hd2:l.drop (d.length+1)=rr:=by rw[<-List.drop_drop,hd1];rfl
   have hdec:decide (d.length<l.length)=true:=decide_eq_true hlt;have e0:=hex q.args (by omega) hnq.2.1;have e1:=IH (wtSs q.thn) (by omega) q.thn (ye _) (by omega) hnq.2.2.1;have e2:=IH (wtSs q.els) (by omega) q.els (ye _) (by omega) hnq.2.2.2;have hA:((zba d).map zu).length=d.length:=by rw[yr,zze]
   have h4':s1.st=[.arr 6 ((zba d).map zu++zu q::rr.map zu)]:=by rw[h4];simp only[hd1,yv]
   clear h4;rw[hap,yca];simp only[yi,yH,hd2,yv,yxa,yO,List.singleton_append];generalize(zba d).map zu=A at*;generalize rr.map zu=R at*;have hg:∀e,(A++e::R)[d.length]? =some e:=fun e=>by rw[<-hA];exact mid_get A R e
   have hs:∀e e',(A++e::R).set d.length e'=A++e'::R:=fun e e'=>by rw[<-hA];exact mid_set A R e e'
   obtain⟨k,ty,nm,ar,th,el⟩:=q;simp only at e0 e1 e2 hnq;by_cases hk:k=1\/k=2
   ·obtain⟨i,hi,hin⟩:=hnq.1 hk;have hnm1:=hnm i hi;rw[<-hin]at hnm1;have hmm:numM nm=nthM i:=by rw[hin];exact zid (by omega)
    rw[<-hmm]at hnm1;clear hnm hnq hin hmm hi hex;rcases hk with hk|hk
    ·subst hk;clear IH hl' hwx hwe h2 hp hd1 hd2 hap hget hget' h hw hnv hcl hroom hlen hne hl;simp[zf,zg]at e0 e1 e2;simp[*,zb,shortS,zf,zg]
    ·subst hk;clear IH hl' hwx hwe h2 hp hd1 hd2 hap hget hget' h hw hnv hcl hroom hlen hne hl;simp[zf,zg]at e0 e1 e2;simp[*,zb,shortS,zf,zg]
   ·have hk1:(k=1)=False:=eqn (fun e=>hk (.inl e));have hk2:(k=2)=False:=eqn (fun e=>hk (.inr e));clear hnm hnq hex hk;clear IH hl' hwx hwe h2 hp hd1 hd2 hap hget hget' h hw hnv hcl hroom hlen hne hl;simp[zf,zg]at e0 e1 e2;simp[*,zb,shortS,zf,zg]
  ·intros s1 hp h1 h2 h3 h4;simp at h1 h2 h3;clear IH h hnm hex;have htk:((zba l).map zu).take l.length=(zba l).map zu:=yy (by rw[yr,zze];omega);simp[*,zg,fin,frA_mslice,fr1_mslice,zze,strip_stmtF]
set_option maxHeartbeats 4000000 in
theorem sexprs_spec(c:Nat)(hc:c<=200000000000):∀(w:Nat) (l:List Expr),wtEs l<=w->w<1099511000000->nvEs c l→
  zj E 60 [zf l] []=some (.ret (zf (zea l)),[]):=by
 intro w
 induction w using yia with
 |_ w IH=>
 intro l h hw hnv;refine zc rfl rfl rfl (by simp[zf]) ?_;have hlen:=zxb l;simp[F60,zf];refine zD l K60_0 B60_0 (fun d=>[(3,acc 5 ((zea d).map zo)),(4,.int .i64 d.length)]) (fun _=>[]) (fun d=>True) (by omega) (by simp[zea]) ?_ ?_
 ·intros d x r s1 hl' hlt hget hget' hw1 hp h1 h2 h3 h4;simp at h1 h2 h3;have hwx:=zzb hl'.mem;have hwe:=zed x;have hroom:((zea d).length+1)*64<=zn:=by rw[zAe];simp only[zn];omega
  have hnq:=nvEs_mem hnv x hl'.mem;rw[nvE_iff]at hnq;have ih:=IH (wtEs x.args) (by omega) x.args (ye _) (by omega) hnq.2;have hap:zea (d++[x])=zea d++[shortE x]:=by rw[shortEs_append];simp[zea]
  have hdec:decide (d.length<l.length)=true:=decide_eq_true hlt;rw[hap];obtain⟨k,op,n,nm,ar⟩:=x;simp only at ih hnq;by_cases hk:k=3
  ·subst hk;obtain⟨i,hi,hin⟩:=hnq.1 rfl;have n1:=snumber_spec i (by omega);have n2:=nth_spec i (by omega);rw[<-hin]at n1;have hmm:nthM i=numM nm:=by rw[hin];exact(zid (by omega)).symm
   rw[hmm]at n2;obtain⟨z,hz⟩:∃z:Int,z=(i:Int):=⟨_,rfl⟩
   rw[<-hz]at n1 n2;clear IH h hw hlen hl' hwx hwe hap h2 hp hnq hi hin hmm hz hnv;simp[zf]at ih;simp[*,za,shortE,zf]
  ·replace hk:=eqn hk;clear IH h hw hlen hl' hwx hwe hap h2 hp hnq hnv;simp[zf]at ih;simp[*,za,shortE,zf]
 ·intros s1 hp h1 h2 h3 h4;simp at h1 h2 h3;simp[*,zf]
set_option maxHeartbeats 8000000 in
theorem sstmts_spec(c:Nat)(hc:c<=200000000000):∀(w:Nat) (l:List Stmt),wtSs l<=w->w<1099511000000->nvSs c l→
  zj E 32 [zg l] []=some (.ret (zg (zba l)),[]):=by
 intro w
 induction w using yia with
 |_ w IH=>
 intro l h hw hnv;refine zc rfl rfl rfl (by simp[zg]) ?_;have hlen:=zia l;simp[F32,zg];refine zTc l K32_0 B32_0 (fun d=>[(3,acc 6 ((zba d).map zu)),(4,.int .i64 d.length)]) (fun _=>[]) (fun _=>[]) (fun d=>True) (by omega) (by simp[zba]) ?_ ?_
 ·intros d x r s1 hl' hlt hget hget' hw1 hp h1 h2 h3 h3b h4;simp at h1 h2 h3 h3b h4;have hwx:=zmc hl'.mem;have hwe:=zCa x;have hroom:((zba d).length+1)*104<=zn:=by rw[zze];simp only[zn];omega
  have hnq:=nvSs_mem hnv x hl'.mem;rw[nvS_iff]at hnq;have e0:=sexprs_spec c hc (wtEs x.args) x.args (ye _) (by omega) hnq.2.1;have e1:=IH (wtSs x.thn) (by omega) x.thn (ye _) (by omega) hnq.2.2.1;have e2:=IH (wtSs x.els) (by omega) x.els (ye _) (by omega) hnq.2.2.2;have hap:zba (d++[x])=zba d++[shortS x]:=by rw[shortSs_append];simp[zba]
  have hdec:decide (d.length<l.length)=true:=decide_eq_true hlt;rw[hap];obtain⟨k,ty,nm,ar,th,el⟩:=x;simp only at e0 e1 e2 hnq;by_cases hk:k=1\/k=2
  ·obtain⟨i,hi,hin⟩:=hnq.1 hk;have n1:=snumber_spec i (by omega);have n2:=nth_spec i (by omega);rw[<-hin]at n1;have hmm:nthM i=numM nm:=by rw[hin];exact(zid (by omega)).symm
   rw[hmm]at n2;obtain⟨z,hz⟩:∃z:Int,z=(i:Int):=⟨_,rfl⟩
   rw[<-hz]at n1 n2;clear hnq hi hin hmm hz;rcases hk with hk|hk
   ·subst hk;clear IH h hw hlen hl' hwx hwe hap h2 hp hnv;simp[zf,zg]at e0 e1 e2;simp[*,zb,shortS,zf,zg]
   ·subst hk;clear IH h hw hlen hl' hwx hwe hap h2 hp hnv;simp[zf,zg]at e0 e1 e2;simp[*,zb,shortS,zf,zg]
  ·have hk1:(k=1)=False:=eqn (fun e=>hk (.inl e));have hk2:(k=2)=False:=eqn (fun e=>hk (.inr e));clear hnq hk;clear IH h hw hlen hl' hwx hwe hap h2 hp hnv;simp[zf,zg]at e0 e1 e2;simp[*,zb,shortS,zf,zg]
 ·intros s1 hp h1 h2 h3 h3b h4;simp at h1 h2 h3 h3b h4;simp[*,zg]
end PE.U

namespace PE.U
open Go PE
def left(T:List Tok)(p:PS):Nat:=T.length-p.at'
def Fw(p q:PS):Prop:=p.at'<=q.at'/\(zSa p=true->zSa q=true)
theorem Fw.refl(p:PS):Fw p p:=⟨ye _,id⟩
theorem Fw.trans{p q r:PS}(a:Fw p q)(b:Fw q r):Fw p r:=⟨Nat.le_trans a.1 b.1,fun h=>b.2 (a.2 h)⟩
theorem zT(p:PS):Fw p (adv p):=⟨Nat.le_succ _,id⟩
theorem zq(T:List Tok)(s:List UInt8)(p:PS):Fw p (zAa T s p):=by
 unfold zAa;split
 ·exact⟨Nat.le_succ _,id⟩
 ·split
  ·exact Fw.refl _
  ·exact⟨ye _,fun _=>rfl⟩
theorem zKc(T:List Tok)(k:Int)(p:PS):Fw p (zga T k p).2:=by
 unfold zga;split
 ·exact Fw.refl _
 ·split
  ·exact⟨Nat.le_succ _,id⟩
  ·exact⟨ye _,fun _=>rfl⟩
theorem fw_typed(T:List Tok)(p:PS):Fw p (zja T p).2:=by
 unfold zja;split
 ·exact zT p
 ·exact zq T _ p
theorem fw_deepF(d:Int)(p:PS):Fw p (deepF d p):=by
 unfold deepF;split
 ·split
  ·exact Fw.refl _
  ·exact⟨ye _,fun _=>by simp[zSa]⟩
 ·exact Fw.refl _
theorem fw_deepS(d:Int)(p:PS):Fw p (deepS d p):=by
 unfold deepS;split
 ·exact⟨ye _,fun _=>by simp[zSa]⟩
 ·exact Fw.refl _
theorem zyb{T:List Tok}{p:PS}{s:List UInt8}(I:Inv1 T p)(h:isF T s p=true):left T (adv p)+1=left T p:=by
 have:=I.lt;unfold left adv;simp only;omega
theorem zJa{T:List Tok}{p q:PS}(h:Fw p q):left T q<=left T p:=by
 unfold left;have:=h.1;omega
structure Enough(T:List Tok)(n:Nat):Prop where
 primary:∀d p,Inv1 T p->64*left T p+1<=n->∃v p',zUc T n d p=some (v,p')/\Inv1 T p'/\Fw p p'
 unary:∀d p,Inv1 T p->64*left T p+2<=n->∃v p',unaryF T n d p=some (v,p')/\Inv1 T p'/\Fw p p'
 expr:∀(k:Nat) L d p,Inv1 T p->L=11-(k:Int)->k<=10->64*left T p+3+2*k<=n->∃v p',zuc T n L d p=some (v,p')/\Inv1 T p'/\Fw p p'
 loop:∀(k:Nat) L d a p,Inv1 T p->L=11-(k:Int)->1<=k->k<=10->64*left T p+2+2*k<=n->∃v p',zYa T n L d a p=some (v,p')/\Inv1 T p'/\Fw p p'
 args:∀d p,Inv1 T p->64*left T p+26<=n->∃v p',argsF T n d p=some (v,p')/\Inv1 T p'/\Fw p p'
 al:∀d l (f:Bool) p,Inv1 T p->64*left T p+24+f.toNat<=n->∃v p',zqa T n d l f p=some (v,p')/\Inv1 T p'/\Fw p p'
theorem enough_of{T:List Tok}{n:Nat}(E:Enough T n):Enough T (n+1):=by
 refine⟨?_,?_,?_,?_,?_,?_⟩
 ·intro d p I h;simp only[zUc];split
  ·exact⟨_,_,rfl,I,Fw.refl _⟩
  split
  ·rename_i hc;have hl:=zyb I hc;obtain⟨v,p',e,I',F⟩:=E.expr 10 1 (d+1) (adv p) (I.adv _ hc) (by omega) (by omega) (by omega);rw[e];exact⟨_,_,rfl,I'.must _,((zT p).trans F).trans (zq _ _ _)⟩
  split
  ·rename_i hc;exact⟨_,_,rfl,I.adv _ hc,zT p⟩
  split
  ·rename_i hc;exact⟨_,_,rfl,I.adv _ hc,zT p⟩
  split
  ·rename_i hc;exact⟨_,_,rfl,((I.adv _ hc).must _).must _,((zT p).trans (zq _ _ _)).trans (zq _ _ _)⟩
  split
  ·rename_i hc;exact⟨_,_,rfl,I.next (by rw[hc];decide) _ _,zT p⟩
  have I1:=I.text 1 (by decide);have F1:=zKc T 1 p;have hl1:=zJa (T:=T) F1;split
  ·rename_i hc;have hl:=zyb I1 hc;obtain⟨v,p',e,I',F⟩:=E.args (d+1) _ (I1.adv _ hc) (by omega);rw[e];exact⟨_,_,rfl,I',(F1.trans (zT _)).trans F⟩
  split
  ·rename_i hc;have hl:=zyb I1 hc;obtain⟨v,p',e,I',F⟩:=E.expr 10 1 (d+1) _ (I1.adv _ hc) (by omega) (by omega) (by omega);rw[e];exact⟨_,_,rfl,I'.must _,((F1.trans (zT _)).trans F).trans (zq _ _ _)⟩
  exact⟨_,_,rfl,I1,F1⟩
 ·intro d p I h;simp only[unaryF];have I1:=I.deepF d;have F1:=fw_deepF d p;have hl1:=zJa (T:=T) F1;cases hu:unF T (deepF d p)with
  |none=>
   simp only;obtain⟨v,p',e,I',F⟩:=E.primary d _ I1 (by omega);exact⟨v,p',e,I',F1.trans F⟩
  |some i=>
   simp only;have hi:isF T (signR ((i+20:Nat):Int)) (deepF d p)=true:=(unF_get hu).2.1;have hl:=zyb I1 hi;split
   ·have F2:=zq T [40] (adv (deepF d p));have hl2:=zJa (T:=T) F2;obtain⟨v,p',e,I',F⟩:=E.expr 10 1 (d+1) _ ((I1.adv _ hi).must [40]) (by omega) (by omega) (by omega);rw[e];exact⟨_,_,rfl,I'.must _,(((F1.trans (zT _)).trans F2).trans F).trans (zq _ _ _)⟩
   ·obtain⟨v,p',e,I',F⟩:=E.unary (d+1) _ (I1.adv _ hi) (by omega);rw[e];exact⟨_,_,rfl,I',(F1.trans (zT _)).trans F⟩
 ·intro k L d p I hL hk h;simp only[zuc];split
  ·exact E.unary d p I (by omega)
  ·rename_i h10;obtain⟨v,p',e,I',F⟩:=E.expr (k-1) (L+1) d p I (by omega) (by omega) (by omega);rw[e];have hl:=zJa (T:=T) F;obtain⟨v2,p2,e2,I2,F2⟩:=E.loop k L d v p' I' hL (by omega) hk (by omega);exact⟨v2,p2,e2,I2,F.trans F2⟩
 ·intro k L d a p I hL hk1 hk h;simp only[zYa];split
  ·exact⟨_,_,rfl,I,Fw.refl _⟩
  ·rename_i hne;obtain⟨s,hs⟩:=opF_pos hne;have hl:=zyb I hs;obtain⟨v,p',e,I',F⟩:=E.expr (k-1) (L+1) d (adv p) (I.adv _ hs) (by omega) (by omega) (by omega);rw[e];have hl2:=zJa (T:=T) F;obtain⟨v2,p2,e2,I2,F2⟩:=E.loop k L d _ p' I' hL hk1 hk (by omega);exact⟨v2,p2,e2,I2,((zT p).trans F).trans F2⟩
 ·intro d p I h;simp only[argsF];split
  ·rename_i hc;exact⟨_,_,rfl,I.adv _ hc,zT p⟩
  ·obtain⟨v,p',e,I',F⟩:=E.al d [] true p I (by simp;omega);rw[e];exact⟨_,_,rfl,I'.must _,F.trans (zq _ _ _)⟩
 ·intro d l f p I h;simp only[zqa];have fin:∀q:PS,Inv1 T q->Fw p q->64*left T q+24<=n->∃v p',(if zSa q then some (l,q)else match zuc T n 1 d q with|none=>none|some x=>zqa T n d (l++[x.1]) false x.2)=some (v,p')/\Inv1 T p'/\Fw p p':=by
   intro q Iq Fq hq;split
   ·exact⟨_,_,rfl,Iq,Fq⟩
   ·obtain⟨v,p',e,I',F⟩:=E.expr 10 1 d q Iq (by omega) (by omega) (by omega);rw[e];have hl:=zJa (T:=T) F;obtain⟨v2,p2,e2,I2,F2⟩:=E.al d (l++[v]) false p' I' (by simp;omega);exact⟨v2,p2,e2,I2,(Fq.trans F).trans F2⟩
  cases f
  ·cases c2:isF T [44] p
   ·exact⟨l,p,rfl,I,Fw.refl _⟩
   ·have hl:=zyb I c2;replace h:64*left T p+24<=n+1:=by simpa using h
    have hh:=fin (adv p) (I.adv _ c2) (zT p) (by omega);exact hh
  ·simp at h;have hh:=fin p I (Fw.refl _) (by omega);exact hh
theorem enough(T:List Tok):∀n,Enough T n
 |0=>⟨fun _ _ _ h=>by omega,fun _ _ _ h=>by omega,fun _ _ _ _ _ _ _ h=>by omega,fun _ _ _ _ _ _ _ _ _ h=>by omega,fun _ _ _ h=>by omega,fun _ _ _ _ _ h=>by omega⟩
 |n+1=>enough_of (enough T n)
theorem zic{T:List Tok}{n:Nat}{p:PS}(I:Inv1 T p)(h:64*left T p+23<=n):∃v p',zuc T n 1 1 p=some (v,p')/\Inv1 T p'/\Fw p p':=
 (enough T n).expr 10 1 1 p I (by omega) (by omega) (by omega)
theorem zKe{T:List Tok}{n:Nat}{p:PS}(I:Inv1 T p)(h:64*left T p+23<=n):∃v p',zLe T n p=some (v,p')/\Inv1 T p'/\Fw p p':=by
 unfold zLe;have hl:=zJa (T:=T) (zq T [40] p);obtain⟨v,p',e,I',F⟩:=zic (n:=n) (I.must [40]) (by omega);rw[e];exact⟨_,_,rfl,I'.must _,((zq _ _ _).trans F).trans (zq _ _ _)⟩
def Go1(p q:PS):Prop:=p.at'<q.at'\/zSa q=true
theorem text_go{T:List Tok}{k:Int}{p:PS}:Go1 p (zga T k p).2:=by
 unfold zga;split
 ·rename_i h;exact yUa h
 ·split
  ·exact yOa (yY _)
  ·exact yUa (by simp[zSa])
theorem must_go{T:List Tok}{s:List UInt8}{p:PS}:Go1 p (zAa T s p):=by
 unfold zAa;split
 ·exact yOa (yY _)
 ·split
  ·rename_i h;exact yUa (by simp[zSa,h])
  ·exact yUa (by simp[zSa])
theorem typed_go{T:List Tok}{p:PS}:Go1 p (zja T p).2:=by
 unfold zja;split
 ·exact yOa (yY _)
 ·exact must_go
theorem adv_go(p:PS):Go1 p (adv p):=yOa (yY _)
theorem Go1.fw{p q r:PS}(h:Go1 p q)(f:Fw q r):Go1 p r:=by
 rcases h with h|h
 ·exact yOa (Nat.lt_of_lt_of_le h f.1)
 ·exact yUa (f.2 h)
theorem Fw.go{p q r:PS}(f:Fw p q)(h:Go1 q r):Go1 p r:=by
 rcases h with h|h
 ·exact yOa (Nat.lt_of_le_of_lt f.1 h)
 ·exact yUa h
theorem named_enough{T:List Tok}{n:Nat}{p:PS}(I:Inv1 T p)(h:64*left T p+26<=n):∃v p',namedF T n p=some (v,p')/\Inv1 T p'/\Fw p p'/\Go1 p p':=by
 unfold namedF;have I1:=I.text 1 (by decide);have F1:=zKc T 1 p;have G1:=text_go (T:=T) (k:=1) (p:=p);have hl1:=zJa (T:=T) F1;split
 ·rename_i hc;have hl:=zyb I1 hc;obtain⟨v,p',e,I',F⟩:=(enough T n).args 2 _ (I1.adv _ hc) (by omega);rw[e];exact⟨_,_,rfl,I',(F1.trans (zT _)).trans F,G1.fw ((zT _).trans F)⟩
 split
 ·rename_i hc;have hl:=zyb I1 hc;obtain⟨v,p',e,I',F⟩:=zic (n:=n) (I1.adv _ hc) (by omega);rw[e];simp only;have F2:=(zq T [93] p').trans (zq T [61] _);have hl2:=zJa (T:=T) F;have hl3:=zJa (T:=T) F2;obtain⟨v2,p2,e2,I2,F3⟩:=zic (n:=n) ((I'.must [93]).must [61]) (by omega);rw[e2];exact⟨_,_,rfl,I2,(((F1.trans (zT _)).trans F).trans F2).trans F3,G1.fw ((((zT _).trans F).trans F2).trans F3)⟩
 ·have F2:=zq T [61] (zga T 1 p).2;have hl3:=zJa (T:=T) F2;obtain⟨v2,p2,e2,I2,F3⟩:=zic (n:=n) (I1.must [61]) (by omega);rw[e2];exact⟨_,_,rfl,I2,(F1.trans F2).trans F3,G1.fw (F2.trans F3)⟩
structure EnoughS(T:List Tok)(n:Nat):Prop where
 stmt:∀d p,Inv1 T p->64*left T p+28<=n->∃v p',stmtF T n d p=some (v,p')/\Inv1 T p'/\Fw p p'/\Go1 p p'
 block:∀d l p,Inv1 T p->64*left T p+30<=n->∃v p',zMb T n d l p=some (v,p')/\Inv1 T p'/\Fw p p'
 over:∀d l p,Inv1 T p->1<=n->zSa p=true->∃v p',zMb T n d l p=some (v,p')/\Inv1 T p'/\Fw p p'
theorem enoughS_of{T:List Tok}{n:Nat}(E:EnoughS T n):EnoughS T (n+1):=by
 refine⟨?_,?_,?_⟩
 ·intro d p I0 h;simp only[stmtF];have I:=I0.deepS d;have F0:=fw_deepS d p;have hl0:=zJa (T:=T) F0;generalize deepS d p=q at*;have fin:∀r,Fw q r->Go1 q r->Fw p r/\Go1 p r:=fun r a b=>⟨F0.trans a,F0.go b⟩
  split
  ·have G1:=typed_go (T:=T) (p:=q);have F1:=((fw_typed T q).trans (zKc T 1 _)).trans (zq T [61] _);have hl:=zJa (T:=T) F1;obtain⟨v,p',e,I',F⟩:=zic (n:=n) ((I.typed.text 1 (by decide)).must [61]) (by omega);rw[e];have:=fin _ ((F1.trans F).trans (zq T [59] _)) (G1.fw ((((zKc T 1 _).trans (zq T [61] _)).trans F).trans (zq T [59] _)));exact⟨_,_,rfl,I'.must _,this.1,this.2⟩
  split
  ·rename_i hc;have hl:=zyb I hc;obtain⟨v,p',e,I',F⟩:=zKe (n:=n) (I.adv _ hc) (by omega);rw[e];simp only;have F2:=F.trans (zq T [123] p');have hl2:=zJa (T:=T) F2;obtain⟨v2,p2,e2,I2,F3⟩:=E.block (d+1) [] _ (I'.must [123]) (by omega);rw[e2];simp only;have hl3:=zJa (T:=T) F3;split
   ·rename_i hc2;have hl4:=zyb I2 hc2;have F4:=(zT p2).trans (zq T [123] _);have hl5:=zJa (T:=T) (zq T [123] (adv p2));obtain⟨v3,p3,e3,I3,F5⟩:=E.block (d+1) [] _ ((I2.adv _ hc2).must [123]) (by omega);rw[e3];have:=fin _ (((((zT q).trans F2).trans F3).trans F4).trans F5) ((adv_go q).fw (((F2.trans F3).trans F4).trans F5));exact⟨_,_,rfl,I3,this.1,this.2⟩
   ·have:=fin _ (((zT q).trans F2).trans F3) ((adv_go q).fw (F2.trans F3));exact⟨_,_,rfl,I2,this.1,this.2⟩
  split
  ·rename_i hc;have hl:=zyb I hc;obtain⟨v,p',e,I',F⟩:=zKe (n:=n) (I.adv _ hc) (by omega);rw[e];simp only;have F2:=F.trans (zq T [123] p');have hl2:=zJa (T:=T) F2;obtain⟨v2,p2,e2,I2,F3⟩:=E.block (d+1) [] _ (I'.must [123]) (by omega);rw[e2];have:=fin _ (((zT q).trans F2).trans F3) ((adv_go q).fw (F2.trans F3));exact⟨_,_,rfl,I2,this.1,this.2⟩
  split
  ·rename_i hc;have:=fin _ ((zT q).trans (zq T [59] _)) ((adv_go q).fw (zq T [59] _));exact⟨_,_,rfl,(I.adv _ hc).must _,this.1,this.2⟩
  split
  ·rename_i hc;have:=fin _ ((zT q).trans (zq T [59] _)) ((adv_go q).fw (zq T [59] _));exact⟨_,_,rfl,(I.adv _ hc).must _,this.1,this.2⟩
  split
  ·rename_i hc;have hl:=zyb I hc;obtain⟨v,p',e,I',F⟩:=zic (n:=n) (I.adv _ hc) (by omega);rw[e];have:=fin _ (((zT q).trans F).trans (zq T [59] _)) ((adv_go q).fw (F.trans (zq T [59] _)));exact⟨_,_,rfl,I'.must _,this.1,this.2⟩
  split
  ·rename_i hc;have hl:=zyb I hc;obtain⟨v,p',e,I',F⟩:=zKe (n:=n) (I.adv _ hc) (by omega);rw[e];have:=fin _ (((zT q).trans F).trans (zq T [59] _)) ((adv_go q).fw (F.trans (zq T [59] _)));exact⟨_,_,rfl,I'.must _,this.1,this.2⟩
  ·obtain⟨v,p',e,I',F,G⟩:=named_enough (n:=n) I (by omega);rw[e];have:=fin _ (F.trans (zq T [59] _)) (G.fw (zq T [59] _));exact⟨_,_,rfl,I'.must _,this.1,this.2⟩
 ·intro d l p I h;simp only[zMb];split
  ·exact⟨_,_,rfl,I,Fw.refl _⟩
  split
  ·rename_i hc;exact⟨_,_,rfl,I.adv _ hc,zT p⟩
  ·obtain⟨v,p',e,I',F,G⟩:=E.stmt d p I (by omega);rw[e];simp only;rcases G with hg|hg
   ·have hl:left T p'+1<=left T p:=by
     have:=I'.lt;have:=I.lt;unfold left;omega
    obtain⟨v2,p2,e2,I2,F2⟩:=E.block d (l++[v]) p' I' (by omega);exact⟨v2,p2,e2,I2,F.trans F2⟩
   ·obtain⟨v2,p2,e2,I2,F2⟩:=E.over d (l++[v]) p' I' (by omega) hg;exact⟨v2,p2,e2,I2,F.trans F2⟩
 ·intro d l p I h ho;simp only[zMb];rw[if_pos ho];exact⟨_,_,rfl,I,Fw.refl _⟩
theorem enoughS(T:List Tok):∀n,EnoughS T n
 |0=>⟨fun _ _ _ h=>by omega,fun _ _ _ _ h=>by omega,fun _ _ _ _ h=>by omega⟩
 |n+1=>enoughS_of (enoughS T n)
theorem params_enough{T:List Tok}:∀n l (f:Bool) p,Inv1 T p->left T p+2+f.toNat<=n->∃v p',zkb T n l f p=some (v,p')/\Inv1 T p'/\Fw p p':=by
 intro n
 induction n with
 |zero=>intro l f p _ h;omega
 |succ n ih=>
  intro l f p I h;simp only[zkb];have ov:∀l q,Inv1 T q->zSa q=true->1<=n->∃v p',zkb T n l false q=some (v,p')/\Inv1 T p'/\Fw q p':=by
   intro l q Iq ho hn;obtain⟨n,rfl⟩:∃m,n=m+1:=⟨n-1,by omega⟩
   have hc:isF T [44] q=false:=by unfold isF;rw[ho];rfl
   refine⟨l,q,?_,Iq,Fw.refl _⟩;simp[zkb,hc]
  have fin:∀q:PS,Inv1 T q->Fw p q->left T q+2<=n->∃v p',(if zSa q then some (l,q)else zkb T n (l++[⟨(zga T 1 (zja T q).2).1,(zja T q).1⟩]) false (zga T 1 (zja T q).2).2)=some (v,p')/\Inv1 T p'/\Fw p p':=by
   intro q Iq Fq hq;split
   ·exact⟨_,_,rfl,Iq,Fq⟩
   ·have F:=(fw_typed T q).trans (zKc T 1 _);have hl:=zJa (T:=T) F;have I2:=Iq.typed.text 1 (by decide);obtain⟨v2,p2,e2,I3,F2⟩:=ih (l++[⟨(zga T 1 (zja T q).2).1,(zja T q).1⟩]) false _ I2 (by simp;omega);exact⟨v2,p2,e2,I3,(Fq.trans F).trans F2⟩
  cases f
  ·cases c2:isF T [44] p
   ·exact⟨l,p,rfl,I,Fw.refl _⟩
   ·have hl:=zyb I c2;replace h:left T p+2<=n+1:=by simpa using h
    have hh:=fin (adv p) (I.adv _ c2) (zT p) (by omega);exact hh
  ·replace h:left T p+2+1<=n+1:=by simpa using h
   have hh:=fin p I (Fw.refl _) (by omega);exact hh
theorem function_enough{T:List Tok}{n:Nat}{t:Int}{s:List UInt8}{p:PS}(I:Inv1 T p)(h:64*left T p+30<=n):∃v p',zBd T n t s p=some (v,p')/\Inv1 T p'/\Fw p p':=by
 unfold zBd;have I1:=I.must [40];have F1:=zq T [40] p;have hl1:=zJa (T:=T) F1;split
 ·rename_i hc;have F2:=(zT (zAa T [40] p)).trans (zq T [123] _);have hl2:=zJa (T:=T) F2;obtain⟨v,p',e,I',F⟩:=(enoughS T n).block 1 [] _ ((I1.adv _ hc).must [123]) (by omega);rw[e];exact⟨_,_,rfl,I',(F1.trans F2).trans F⟩
 ·obtain⟨v,p',e,I',F⟩:=params_enough n [] true _ I1 (by simp;omega);rw[e];simp only;have F2:=(zq T [41] p').trans (zq T [123] _);have hl2:=zJa (T:=T) F;have hl3:=zJa (T:=T) F2;obtain⟨v2,p2,e2,I2,F3⟩:=(enoughS T n).block 1 [] _ ((I'.must [41]).must [123]) (by omega);rw[e2];exact⟨_,_,rfl,I2,((F1.trans F).trans F2).trans F3⟩
theorem prog_enough{T:List Tok}:∀n ars fs p,Inv1 T p->64*left T p+31<=n\/(zSa p=true/\1<=n)->∃v p',progF T n ars fs p=some (v,p')/\Inv1 T p':=by
 intro n
 induction n with
 |zero=>intro ars fs p _ h;omega
 |succ n ih=>
  intro ars fs p I h;simp only[progF];split
  ·exact⟨_,_,rfl,I⟩
  rename_i hno;replace h:64*left T p+31<=n+1:=by
   rcases h with h|h
   ·exact h
   ·exact absurd h.1 hno
  split
  ·exact⟨_,_,rfl,I⟩
  have G1:=typed_go (T:=T) (p:=p);have I2:=I.typed.text 1 (by decide);have F1:=(fw_typed T p).trans (zKc T 1 _);have G2:Go1 p (zga T 1 (zja T p).2).2:=G1.fw (zKc T 1 _);have hl:=zJa (T:=T) F1;have nx:∀q,Inv1 T q->Go1 p q->64*left T q+31<=n\/(zSa q=true/\1<=n):=by
   intro q Iq G;rcases G with g|g
   ·left;have:=Iq.lt;have:=I.lt;unfold left at*;omega
   ·exact yUa ⟨g,by omega⟩
  split
  ·rename_i hc;have I3:=(((I2.adv _ hc.2.2).text 0 (by decide)).must [93]).must [59];exact ih _ _ _ I3 (nx _ I3 (G2.fw ((((zT _).trans (zKc T 0 _)).trans (zq T [93] _)).trans (zq T [59] _))))
  ·obtain⟨v,p',e,I',F⟩:=function_enough (n:=n) (t:=(zja T p).1) (s:=(zga T 1 (zja T p).2).1) I2 (by omega);rw[e];exact ih _ _ _ I' (nx _ I' (G2.fw F))
def TokOK(t:Tok):Prop:=t.kind=0->digs t.text=true/\t.text.length<1000000
theorem tokGo_ok:∀n (q:List UInt8) line acc,q.length<n->q.length<=100000->(∀t∈acc,TokOK t)->(zpb n q line acc).2.1=0→
  (∀t∈(zpb n q line acc).1,TokOK t)/\(zpb n q line acc).1.length<=acc.length+q.length+1/\0<(zpb n q line acc).1.length/\∃t,(zpb n q line acc).1[(zpb n q line acc).1.length-1]? =some t/\t.kind=3:=by
 intro n
 induction n with
 |zero=>intro q line acc h;omega
 |succ n ih=>
  intro q line acc hq hs ha h0;cases q with
  |nil=>
   simp only[zpb];refine⟨?_,by simp,by simp,⟨3,[],line⟩,by simp,rfl⟩;intro t ht;rcases yx.1 ht with h|h
   ·exact ha t h
   ·rw[yI.1 h];intro h;exact absurd h (by simp)
  |cons b r=>
   simp only[yj]at hq hs;have mono:∀(q':List UInt8) line' acc',q'.length<=r.length->acc'.length+q'.length<=acc.length+r.length+1->(∀t∈acc',TokOK t)->(zpb n q' line' acc').2.1=0→
     (∀t∈(zpb n q' line' acc').1,TokOK t)/\(zpb n q' line' acc').1.length<=acc.length+(b::r).length+1/\0<(zpb n q' line' acc').1.length/\∃t,(zpb n q' line' acc').1[(zpb n q' line' acc').1.length-1]? =some t/\t.kind=3:=by
    intro q' line' acc' h1 h2 h3 h4;obtain⟨x1,x2,x3,x4⟩:=ih q' line' acc' (by omega) (by omega) h3 h4;exact⟨x1,by simp only[yj];omega,x3,x4⟩
   simp only[zpb]at h0 ⊢;split at h0
   ·rename_i c;rw[if_pos c];exact mono r _ _ (ye _) (by omega) ha h0
   rename_i c;rw[if_neg c];split at h0
   ·rename_i c;rw[if_pos c];exact mono r _ _ (ye _) (by omega) ha h0
   rename_i c;rw[if_neg c];split at h0
   ·rename_i c;rw[if_pos c];have hl:((b::r).dropWhile (· !=10)).length<=r.length:=by
     rw[List.dropWhile_cons,c.1];simp only[show((47:UInt8) !=10)=true from rfl,if_true];rw[zNc,yva];omega
    exact mono _ _ _ hl (by omega) ha h0
   rename_i c;rw[if_neg c];split at h0
   ·rename_i c;rw[if_pos c];split at h0
    ·exact absurd h0 (by simp)
    rename_i c2;rw[if_neg c2];have hw:0<((b::r).takeWhile zF).length:=by rw[ywa,c];simp
    have hw2:=(yLa (l:=b::r) (p:=zF)).length_le;simp only[yj]at hw2;refine mono _ _ _ (by rw[yva];simp only[yj];omega) (by rw[yva];simp only[yj,yi,yn];omega) ?_ h0;intro t ht;rcases yx.1 ht with h|h
    ·exact ha t h
    ·rw[yI.1 h];intro hk;simp only at hk;refine⟨?_,by simp only;omega⟩;simp only[tokBad,hk,yP,yb,decide_eq_true_eq,yJ,not_or,not_and,Bool.not_eq_false]at c2;have:=c2.2 trivial;simp only[zge,yb]at this;exact this.1
   rename_i c;rw[if_neg c];split at h0
   ·exact absurd h0 (by simp)
   rename_i c2;rw[if_neg c2];have hp:0<(zle (b::r)).length:=yha.2 c2;have hp2:=sign_len (b::r);simp only[yj]at hp2;refine mono _ _ _ (by rw[yva];simp only[yj];omega) (by rw[yva];simp only[yj,yi,yn];omega) ?_ h0;intro t ht;rcases yx.1 ht with h|h
   ·exact ha t h
   ·rw[yI.1 h];intro h;exact absurd h (by simp)
theorem tokens_inv(s:List UInt8)(h:(zM s).2.1=0):Inv1 (zM s).1 ⟨0,false,false⟩:=by
 unfold zM at h ⊢;split at h
 ·exact absurd h (by decide)
 rename_i hs;rw[if_neg hs];obtain⟨x1,x2,x3,x4⟩:=tokGo_ok (s.length+1) s 1 [] (by omega) (by omega) (by simp) h;exact⟨x3,x4,by simp at x2;omega,x1⟩
def fuel(l:List Tok):Nat:=64*l.length+100
def zHa(s:List UInt8):Prog×Int×Int:=
 if(zM s).2.1=0 then
  match progF (zM s).1 (fuel (zM s).1) [] [] ⟨0,false,false⟩with
  |none=>(⟨[],[]⟩,0,0)
  |some q=>
   if q.2.deep then(⟨[],[]⟩,2,(tk (zM s).1 q.2.at').line)
   else if q.2.bad then(⟨[],[]⟩,20,(tk (zM s).1 q.2.at').line)
   else if zdc q.1 then(q.1,0,0)else(⟨[],[]⟩,2,0)
 else(⟨[],[]⟩,(zM s).2.1,(zM s).2.2)
def Short(T:List Tok)(M:Nat):Prop:=8<=M/\∀t∈T,t.text.length+8<=M
theorem short_text{T:List Tok}{M:Nat}{k:Int}{p:PS}(I:Inv1 T p)(h:Short T M):(zga T k p).1.length+8<=M:=by
 unfold zga;split
 ·simpa using h.1
 ·split
  ·refine h.2 _ ?_;rw[<-tk_get' I.lt];exact List.getElem_mem I.lt
  ·simpa using h.1
def wa(M:Nat)(p:PS):Nat:=M*p.at'
theorem znc(M:Nat)(p:PS):wa M (adv p)=wa M p+M:=Nat.mul_succ _ _
theorem zkc{M:Nat}{p q:PS}(h:Fw p q):wa M p<=wa M q:=yCa _ h.1
structure Light(T:List Tok)(M n:Nat):Prop where
 primary:∀d p v p',Inv1 T p->zUc T n d p=some (v,p')->Inv1 T p'/\Fw p p'/\wtE v+2*wa M p<=2*wa M p'+M
 unary:∀d p v p',Inv1 T p->unaryF T n d p=some (v,p')->Inv1 T p'/\Fw p p'/\wtE v+2*wa M p<=2*wa M p'+M
 expr:∀L d p v p',Inv1 T p->zuc T n L d p=some (v,p')->Inv1 T p'/\Fw p p'/\wtE v+2*wa M p<=2*wa M p'+M
 loop:∀L d a p v p',Inv1 T p->zYa T n L d a p=some (v,p')->∀k:Nat,wtE a+k<=2*wa M p+M->Inv1 T p'/\Fw p p'/\wtE v+k<=2*wa M p'+M
 args:∀d p v p',Inv1 T p->argsF T n d p=some (v,p')->Inv1 T p'/\Fw p p'/\wtEs v+2*wa M p<=2*wa M p'+2*M
 al:∀d l (f:Bool) p v p',Inv1 T p->zqa T n d l f p=some (v,p')->∀k:Nat,wtEs l+k<=2*wa M p+(if f then 0 else 2*M)->Inv1 T p'/\Fw p p'/\wtEs v+k<=2*wa M p'+2*M
theorem light_of{T:List Tok}{M n:Nat}(hS:Short T M)(E:Light T M n):Light T M (n+1):=by
 have h8:=hS.1;refine⟨?_,?_,?_,?_,?_,?_⟩
 ·intro d p v p' I h;simp only[zUc]at h;split at h
  ·cases h;exact⟨I,Fw.refl _,by simp[wtE,wtEs];omega⟩
  split at h
  ·rename_i hc;split at h
   ·cases h
   ·rename_i q hq;cases h;obtain⟨I',F,W⟩:=E.expr _ _ _ _ _ (I.adv _ hc) hq;have:=znc M p;have:=zkc (M:=M) (zq T [41] q.2);exact⟨I'.must _,((zT p).trans F).trans (zq _ _ _),by omega⟩
  split at h
  ·rename_i hc;cases h;have:=znc M p;exact⟨I.adv _ hc,zT p,by simp[wtE,wtEs];omega⟩
  split at h
  ·rename_i hc;cases h;have:=znc M p;exact⟨I.adv _ hc,zT p,by simp[wtE,wtEs];omega⟩
  split at h
  ·rename_i hc;cases h;have F:=((zT p).trans (zq T [40] _)).trans (zq T [41] _);have:=zkc (M:=M) F;exact⟨((I.adv _ hc).must _).must _,F,by simp[wtE,wtEs];omega⟩
  split at h
  ·rename_i hc;cases h;have:=znc M p;exact⟨I.next (by rw[hc];decide) _ _,zT p,by simp[wtE,wtEs];omega⟩
  have I1:=I.text 1 (by decide);have F1:=zKc T 1 p;have w1:=zkc (M:=M) F1;have hs:=short_text (k:=1) I hS;split at h
  ·rename_i hc;split at h
   ·cases h
   ·rename_i q hq;cases h;obtain⟨I',F,W⟩:=E.args _ _ _ _ (I1.adv _ hc) hq;have:=znc M (zga T 1 p).2;exact⟨I',(F1.trans (zT _)).trans F,by simp only[wtE];omega⟩
  split at h
  ·rename_i hc;split at h
   ·cases h
   ·rename_i q hq;cases h;obtain⟨I',F,W⟩:=E.expr _ _ _ _ _ (I1.adv _ hc) hq;have:=znc M (zga T 1 p).2;have:=zkc (M:=M) (zq T [93] q.2);exact⟨I'.must _,((F1.trans (zT _)).trans F).trans (zq _ _ _),by simp only[wtE,wtEs];omega⟩
  ·cases h;exact⟨I1,F1,by simp only[wtE,wtEs];omega⟩
 ·intro d p v p' I h;simp only[unaryF]at h;have I1:=I.deepF d;have F1:=fw_deepF d p;have w1:=zkc (M:=M) F1;cases hu:unF T (deepF d p)with
  |none=>
   rw[hu]at h;obtain⟨I',F,W⟩:=E.primary _ _ _ _ I1 h;exact⟨I',F1.trans F,by omega⟩
  |some i=>
   rw[hu]at h;simp only at h;have hi:isF T (signR ((i+20:Nat):Int)) (deepF d p)=true:=(unF_get hu).2.1;have:=znc M (deepF d p);split at h
   ·split at h
    ·cases h
    ·rename_i q hq;cases h;have F2:=zq T [40] (adv (deepF d p));have:=zkc (M:=M) F2;obtain⟨I',F,W⟩:=E.expr _ _ _ _ _ ((I1.adv _ hi).must _) hq;have:=zkc (M:=M) (zq T [41] q.2);exact⟨I'.must _,(((F1.trans (zT _)).trans F2).trans F).trans (zq _ _ _),by simp only[wtE,wtEs,yn];omega⟩
   ·split at h
    ·cases h
    ·rename_i q hq;cases h;obtain⟨I',F,W⟩:=E.unary _ _ _ _ (I1.adv _ hi) hq;exact⟨I',(F1.trans (zT _)).trans F,by simp only[wtE,wtEs,yn];omega⟩
 ·intro L d p v p' I h;simp only[zuc]at h;split at h
  ·exact E.unary _ _ _ _ I h
  ·split at h
   ·cases h
   ·rename_i q hq;obtain⟨I',F,W⟩:=E.expr _ _ _ _ _ I hq;obtain⟨I2,F2,W2⟩:=E.loop _ _ _ _ _ _ I' h (2*wa M p) W;exact⟨I2,F.trans F2,W2⟩
 ·intro L d a p v p' I h k hk;simp only[zYa]at h;split at h
  ·cases h;exact⟨I,Fw.refl _,hk⟩
  ·rename_i hne;obtain⟨s,hs⟩:=opF_pos hne;have:=znc M p;split at h
   ·cases h
   ·rename_i q hq;obtain⟨I',F,W⟩:=E.expr _ _ _ _ _ (I.adv _ hs) hq;obtain⟨I2,F2,W2⟩:=E.loop _ _ _ _ _ _ I' h k (by simp only[wtE,wtEs,yn];omega);exact⟨I2,((zT p).trans F).trans F2,W2⟩
 ·intro d p v p' I h;simp only[argsF]at h;split at h
  ·rename_i hc;cases h;have:=znc M p;exact⟨I.adv _ hc,zT p,by simp only[wtEs];omega⟩
  ·split at h
   ·cases h
   ·rename_i q hq;cases h;obtain⟨I',F,W⟩:=E.al _ _ _ _ _ _ I hq (2*wa M p) (by simp[wtEs]);have:=zkc (M:=M) (zq T [41] q.2);exact⟨I'.must _,F.trans (zq _ _ _),by omega⟩
 ·intro d l f p v p' I h k hk;simp only[zqa]at h;have fin:∀q:PS,Inv1 T q->Fw p q->wtEs l+k+(if f then 0 else M+1)<=2*wa M q+(if f then 0 else M+1)->(f=false->wtEs l+k<=2*wa M q)->(if zSa q then some (l,q)else match zuc T n 1 d q with|none=>none|some x=>zqa T n d (l++[x.1]) false x.2)=some (v,p')->Inv1 T p'/\Fw p p'/\wtEs v+k<=2*wa M p'+2*M:=by
   intro q Iq Fq hq hq2 h;have hq3:wtEs l+k<=2*wa M q:=by cases f<;>simp at hq<;>omega
   split at h
   ·cases h;exact⟨Iq,Fq,by omega⟩
   ·split at h
    ·cases h
    ·rename_i x hx;obtain⟨I',F,W⟩:=E.expr _ _ _ _ _ Iq hx;obtain⟨I2,F2,W2⟩:=E.al _ _ _ _ _ _ I' h k (by rw[wtEs_append];simp[wtEs];omega);exact⟨I2,(Fq.trans F).trans F2,W2⟩
  cases f
  ·cases c2:isF T [44] p
   ·rw[c2]at h;simp at h hk;obtain⟨rfl,rfl⟩:=h;exact⟨I,Fw.refl _,by omega⟩
   ·have:=znc M p;rw[c2]at h;simp at hk;exact fin (adv p) (I.adv _ c2) (zT p) (by simp;omega) (fun _=>by omega) h
  ·simp at hk;exact fin p I (Fw.refl _) (by simp;omega) (fun h=>by cases h) h
theorem light{T:List Tok}{M:Nat}(hS:Short T M):∀n,Light T M n
 |0=>⟨fun _ _ _ _ _ h=>by simp[zUc]at h,fun _ _ _ _ _ h=>by simp[unaryF]at h,fun _ _ _ _ _ _ h=>by simp[zuc]at h,fun _ _ _ _ _ _ _ h=>by simp[zYa]at h,fun _ _ _ _ _ h=>by simp[argsF]at h,fun _ _ _ _ _ _ _ h=>by simp[zqa]at h⟩
 |n+1=>light_of hS (light hS n)
section
variable {T:List Tok} {M:Nat}
theorem light1(hS:Short T M){n:Nat}{p p':PS}{v:Expr}(I:Inv1 T p)(h:zuc T n 1 1 p=some (v,p')):Inv1 T p'/\Fw p p'/\wtE v+2*wa M p<=2*wa M p'+M:=(light hS n).expr _ _ _ _ _ I h
theorem lightI(hS:Short T M){n:Nat}{p p':PS}{v:Expr}(I:Inv1 T p)(h:zLe T n p=some (v,p')):Inv1 T p'/\Fw p p'/\wtE v+2*wa M p<=2*wa M p'+M:=by
 unfold zLe at h;split at h
 ·cases h
 ·rename_i q hq;cases h;obtain⟨I',F,W⟩:=light1 hS (I.must _) hq;have:=zkc (M:=M) (zq T [40] p);have:=zkc (M:=M) (zq T [41] q.2);exact⟨I'.must _,((zq _ _ _).trans F).trans (zq _ _ _),by omega⟩
theorem lightN(hS:Short T M){n:Nat}{p p':PS}{v:Stmt}(I:Inv1 T p)(h:namedF T n p=some (v,p')):Inv1 T p'/\Fw p p'/\wtS v+2*wa M p<=2*wa M p'+3*M:=by
 unfold namedF at h;have h8:=hS.1;have I1:=I.text 1 (by decide);have F1:=zKc T 1 p;have w1:=zkc (M:=M) F1;have hs:=short_text (k:=1) I hS;split at h
 ·rename_i hc;split at h
  ·cases h
  ·rename_i q hq;cases h;obtain⟨I',F,W⟩:=(light hS n).args _ _ _ _ (I1.adv _ hc) hq;have:=znc M (zga T 1 p).2;exact⟨I',(F1.trans (zT _)).trans F,by simp only[wtS,wtE,wtEs,wtSs,yn];omega⟩
 split at h
 ·rename_i hc;split at h
  ·cases h
  ·rename_i q hq;obtain⟨I',F,W⟩:=light1 hS (I1.adv _ hc) hq;have:=znc M (zga T 1 p).2;have F2:=(zq T [93] q.2).trans (zq T [61] _);have:=zkc (M:=M) F2;split at h
   ·cases h
   ·rename_i r hr;cases h;obtain⟨I2,F3,W2⟩:=light1 hS ((I'.must [93]).must [61]) hr;exact⟨I2,(((F1.trans (zT _)).trans F).trans F2).trans F3,by simp only[wtS,wtE,wtEs,wtSs,yn];omega⟩
 ·split at h
  ·cases h
  ·rename_i q hq;cases h;obtain⟨I',F,W⟩:=light1 hS (I1.must _) hq;have:=zkc (M:=M) (zq T [61] (zga T 1 p).2);exact⟨I',(F1.trans (zq _ _ _)).trans F,by simp only[wtS,wtE,wtEs,wtSs,yn];omega⟩
end
def ovM(M:Nat)(p:PS):Nat:=if zSa p then 8*M else 0
theorem ovM_le(M:Nat)(p:PS):ovM M p<=8*M:=by unfold ovM;split<;>omega
theorem ovM_fw{M:Nat}{p q:PS}(h:Fw p q):ovM M p<=ovM M q:=by
 unfold ovM;cases ho:zSa p
 ·simp
 ·rw[h.2 ho];exact ye _
theorem go_wa{M:Nat}{p q:PS}(h:Go1 p q):wa M p+M<=wa M q\/ovM M q=8*M:=by
 rcases h with h|h
 ·left;unfold wa;have:=yCa M h;rw[Nat.mul_succ]at this;exact this
 ·right;unfold ovM;rw[if_pos h]
theorem named_go{T:List Tok}{M n:Nat}{p p':PS}{v:Stmt}(hS:Short T M)(I:Inv1 T p)(h:namedF T n p=some (v,p')):Go1 p p':=by
 unfold namedF at h;have I1:=I.text 1 (by decide);have F1:=zKc T 1 p;have G1:=text_go (T:=T) (k:=1) (p:=p);split at h
 ·rename_i hc;split at h
  ·cases h
  ·rename_i q hq;cases h;obtain⟨I',F,W⟩:=(light hS n).args _ _ _ _ (I1.adv _ hc) hq;exact G1.fw ((zT _).trans F)
 split at h
 ·rename_i hc;split at h
  ·cases h
  ·rename_i q hq;obtain⟨I',F,W⟩:=light1 hS (I1.adv _ hc) hq;have F2:=(zq T [93] q.2).trans (zq T [61] _);split at h
   ·cases h
   ·rename_i r hr;cases h;obtain⟨I2,F3,W2⟩:=light1 hS ((I'.must [93]).must [61]) hr;exact G1.fw ((((zT _).trans F).trans F2).trans F3)
 ·split at h
  ·cases h
  ·rename_i q hq;cases h;obtain⟨I',F,W⟩:=light1 hS (I1.must _) hq;exact G1.fw ((zq _ _ _).trans F)
structure LightS(T:List Tok)(M n:Nat):Prop where
 stmt:∀d p v p',Inv1 T p->stmtF T n d p=some (v,p')->Inv1 T p'/\Fw p p'/\wtS v+1+8*wa M p<=8*wa M p'+ovM M p'
 block:∀d l p v p',Inv1 T p->zMb T n d l p=some (v,p')->∀k:Nat,wtSs l+k<=8*wa M p+ovM M p->Inv1 T p'/\Fw p p'/\wtSs v+k<=8*wa M p'+ovM M p'
theorem lightS_of{T:List Tok}{M n:Nat}(hS:Short T M)(E:LightS T M n):LightS T M (n+1):=by
 have h8:=hS.1;refine⟨?_,?_⟩
 ·intro d p v p' I0 h;simp only[stmtF]at h;have I:=I0.deepS d;have F0:=fw_deepS d p;have w0:wa M (deepS d p)=wa M p:=by unfold wa deepS;split<;>rfl
  generalize deepS d p=q at*;have fin:∀r:PS,Fw q r->Go1 q r->∀W:Nat,W+2*wa M q<=2*wa M r+4*M->Fw p r/\W+1+8*wa M p<=8*wa M r+ovM M r:=by
   intro r F G W hW;refine⟨F0.trans F,?_⟩;have:=zkc (M:=M) F;rcases go_wa (M:=M) G with g|g<;>omega
  split at h
  ·have G1:=typed_go (T:=T) (p:=q);have Ft:=(fw_typed T q).trans (zKc T 1 _);have F1:=Ft.trans (zq T [61] _);have hs:=short_text (k:=1) I.typed hS;split at h
   ·cases h
   ·rename_i x hx;cases h;obtain⟨I',F,W⟩:=light1 hS ((I.typed.text 1 (by decide)).must [61]) hx;have F2:=zq T [59] x.2;have:=zkc (M:=M) F1;have:=zkc (M:=M) F2;have:=fin _ ((F1.trans F).trans F2) (G1.fw ((((zKc T 1 _).trans (zq T [61] _)).trans F).trans F2)) (wtS ⟨1,(zja T q).1,(zga T 1 (zja T q).2).1,[x.1],[],[]⟩) (by simp only[wtS,wtEs,wtSs];omega);exact⟨I'.must _,this.1,this.2⟩
  split at h
  ·rename_i hc;have wadv:=znc M q;split at h
   ·cases h
   ·rename_i x hx;obtain⟨I',F,W⟩:=lightI hS (I.adv _ hc) hx;have F2:=zq T [123] x.2;have w2:=zkc (M:=M) F2;have w1:=zkc (M:=M) F;split at h
    ·cases h
    ·rename_i y hy;obtain⟨I2,F3,W3⟩:=E.block _ _ _ _ _ (I'.must [123]) hy (8*wa M (zAa T [123] x.2)+ovM M (zAa T [123] x.2)) (by simp[wtSs]);split at h
     ·rename_i hc2;split at h
      ·cases h
      ·rename_i z hz;cases h;have F4:=(zT y.2).trans (zq T [123] _);have w4:=zkc (M:=M) F4;have o4:=ovM_fw (M:=M) F4;obtain⟨I3,F5,W5⟩:=E.block _ _ _ _ _ ((I2.adv _ hc2).must [123]) hz (8*wa M (zAa T [123] (adv y.2))+ovM M (zAa T [123] (adv y.2))) (by simp[wtSs]);have w5:=zkc (M:=M) F5;have w3:=zkc (M:=M) F3;exact⟨I3,F0.trans ((((((zT q).trans F).trans F2).trans F3).trans F4).trans F5),by simp only[wtS,wtEs,yn];omega⟩
     ·cases h;have w3:=zkc (M:=M) F3;exact⟨I2,F0.trans ((((zT q).trans F).trans F2).trans F3),by simp only[wtS,wtEs,wtSs,yn];omega⟩
  split at h
  ·rename_i hc;have wadv:=znc M q;split at h
   ·cases h
   ·rename_i x hx;obtain⟨I',F,W⟩:=lightI hS (I.adv _ hc) hx;have F2:=zq T [123] x.2;have w2:=zkc (M:=M) F2;have w1:=zkc (M:=M) F;split at h
    ·cases h
    ·rename_i y hy;obtain⟨I2,F3,W3⟩:=E.block _ _ _ _ _ (I'.must [123]) hy (8*wa M (zAa T [123] x.2)+ovM M (zAa T [123] x.2)) (by simp[wtSs]);cases h;have w3:=zkc (M:=M) F3;exact⟨I2,F0.trans ((((zT q).trans F).trans F2).trans F3),by simp only[wtS,wtEs,wtSs,yn];omega⟩
  split at h
  ·rename_i hc;cases h;have wadv:=znc M q;have F2:=zq T [59] (adv q);have:=zkc (M:=M) F2;have:=fin _ ((zT q).trans F2) ((adv_go q).fw F2) (wtS ⟨6,0,[],[],[],[]⟩) (by simp only[wtS,wtEs,wtSs,yn];omega);exact⟨(I.adv _ hc).must _,this.1,this.2⟩
  split at h
  ·rename_i hc;cases h;have wadv:=znc M q;have F2:=zq T [59] (adv q);have:=zkc (M:=M) F2;have:=fin _ ((zT q).trans F2) ((adv_go q).fw F2) (wtS ⟨7,0,[],[],[],[]⟩) (by simp only[wtS,wtEs,wtSs,yn];omega);exact⟨(I.adv _ hc).must _,this.1,this.2⟩
  split at h
  ·rename_i hc;have wadv:=znc M q;split at h
   ·cases h
   ·rename_i x hx;cases h;obtain⟨I',F,W⟩:=light1 hS (I.adv _ hc) hx;have F2:=zq T [59] x.2;have:=zkc (M:=M) F2;have:=fin _ (((zT q).trans F).trans F2) ((adv_go q).fw (F.trans F2)) (wtS ⟨8,0,[],[x.1],[],[]⟩) (by simp only[wtS,wtEs,wtSs,yn];omega);exact⟨I'.must _,this.1,this.2⟩
  split at h
  ·rename_i hc;have wadv:=znc M q;split at h
   ·cases h
   ·rename_i x hx;cases h;obtain⟨I',F,W⟩:=lightI hS (I.adv _ hc) hx;have F2:=zq T [59] x.2;have:=zkc (M:=M) F2;have:=fin _ (((zT q).trans F).trans F2) ((adv_go q).fw (F.trans F2)) (wtS ⟨9,0,[],[x.1],[],[]⟩) (by simp only[wtS,wtEs,wtSs,yn];omega);exact⟨I'.must _,this.1,this.2⟩
  ·split at h
   ·cases h
   ·rename_i x hx;cases h;obtain⟨I',F,W⟩:=lightN hS I hx;have G:=named_go hS I hx;have F2:=zq T [59] x.2;have:=zkc (M:=M) F2;have:=fin _ (F.trans F2) (G.fw F2) (wtS x.1) (by omega);exact⟨I'.must _,this.1,this.2⟩
 ·intro d l p v p' I h k hk;simp only[zMb]at h;split at h
  ·cases h;exact⟨I,Fw.refl _,hk⟩
  rename_i hno;have ho0:ovM M p=0:=by unfold ovM;rw[if_neg hno]
  split at h
  ·rename_i hc;cases h;have:=znc M p;exact⟨I.adv _ hc,zT p,by omega⟩
  ·split at h
   ·cases h
   ·rename_i x hx;obtain⟨I',F,W⟩:=E.stmt _ _ _ _ I hx;obtain⟨I2,F2,W2⟩:=E.block _ _ _ _ _ I' h k (by rw[zCc];simp only[wtSs];omega);exact⟨I2,F.trans F2,W2⟩
theorem lightS{T:List Tok}{M:Nat}(hS:Short T M):∀n,LightS T M n
 |0=>⟨fun _ _ _ _ _ h=>by simp[stmtF]at h,fun _ _ _ _ _ _ h=>by simp[zMb]at h⟩
 |n+1=>lightS_of hS (lightS hS n)
theorem tokGo_short(N:Nat):∀n (q:List UInt8) line acc,q.length<=N->(∀t∈acc,t.text.length<=N)->∀t∈(zpb n q line acc).1,t.text.length<=N:=by
 intro n
 induction n with
 |zero=>intro q line acc hs ha;exact ha
 |succ n ih=>
  intro q line acc hs ha;cases q with
  |nil=>
   simp only[zpb];intro t ht;rcases yx.1 ht with h|h
   ·exact ha t h
   ·rw[yI.1 h];simp
  |cons b r=>
   simp only[yj]at hs;simp only[zpb];split
   ·exact ih _ _ _ (by omega) ha
   split
   ·exact ih _ _ _ (by omega) ha
   split
   ·refine ih _ _ _ ?_ ha;rw[zNc,yva];simp only[yj];omega
   split
   ·split
    ·intro t ht;cases ht
    ·have hw2:=(yLa (l:=b::r) (p:=zF)).length_le;simp only[yj]at hw2;refine ih _ _ _ (by rw[yva];simp only[yj];omega) ?_;intro t ht;rcases yx.1 ht with h|h
     ·exact ha t h
     ·rw[yI.1 h];simp only;omega
   split
   ·intro t ht;cases ht
   ·have hp2:=sign_len (b::r);simp only[yj]at hp2;refine ih _ _ _ (by rw[yva];simp only[yj];omega) ?_;intro t ht;rcases yx.1 ht with h|h
    ·exact ha t h
    ·rw[yI.1 h];simp only;omega
theorem tokens_short(s:List UInt8):Short (zM s).1 100008:=by
 refine⟨by decide,?_⟩;unfold zM;split
 ·intro t ht;cases ht
 ·rename_i h;intro t ht;have:=tokGo_short 100000 _ _ _ _ (by omega) (by simp) t ht;omega
theorem tokens_count(s:List UInt8)(h:(zM s).2.1=0):(zM s).1.length<=100001:=by
 unfold zM at h ⊢;split at h
 ·exact absurd h (by decide)
 rename_i hs;rw[if_neg hs];obtain⟨x1,x2,x3,x4⟩:=tokGo_ok (s.length+1) s 1 [] (by omega) (by omega) (by simp) h;simp at x2;omega
section
variable {T:List Tok} {M:Nat} (hS:Short T M)
theorem block_wt{n:Nat}{d:Int}{p p':PS}{v:List Stmt}(hS:Short T M)(I:Inv1 T p)(h:zMb T n d [] p=some (v,p')):wtSs v<=8*(M*T.length)+8*M:=by
 obtain⟨I',F,W⟩:=(lightS hS n).block _ _ _ _ _ I h (8*wa M p+ovM M p) (by simp[wtSs]);have:=ovM_le M p';have h2:wa M p'<=M*T.length:=yCa _ (Nat.le_of_lt I'.lt);omega
theorem params_len:∀n l (f:Bool) p v p',zkb T n l f p=some (v,p')->v.length<=l.length+n:=by
 intro n
 induction n with
 |zero=>intro l f p v p' h;simp[zkb]at h
 |succ n ih=>
  intro l f p v p' h;simp only[zkb]at h;by_cases hc:(f||isF T [44] p)=true
  ·rw[if_pos hc]at h;generalize(if f=true then p else adv p)=q at h;split at h
   ·cases h;omega
   ·have:=ih _ _ _ _ _ h;simp only[yi,yj,yn]at this;omega
  ·rw[if_neg hc]at h;cases h;omega
theorem function_wt{n:Nat}{t:Int}{s:List UInt8}{p p':PS}{v:Func}(hS:Short T M)(I:Inv1 T p)(h:zBd T n t s p=some (v,p')):wtSs v.body<=8*(M*T.length)+8*M/\v.params.length<=n:=by
 unfold zBd at h;have I1:=I.must [40];split at h
 ·rename_i hc;split at h
  ·cases h
  ·rename_i q hq;cases h;exact⟨block_wt hS ((I1.adv _ hc).must _) hq,by simp⟩
 ·split at h
  ·cases h
  ·rename_i r hr;have Ir:=paramsF_inv _ _ _ _ _ _ hr I1;have hl:=params_len _ _ _ _ _ _ hr;split at h
   ·cases h
   ·rename_i q hq;cases h;exact⟨block_wt hS ((Ir.must _).must _) hq,by simpa using hl⟩
theorem prog_wt(hS:Short T M):∀n ars fs p v p',n<=999999980->Inv1 T p->progF T n ars fs p=some (v,p')->∀B:Nat,n<=B→
  (∀f∈fs,wtSs f.body<=8*(M*T.length)+8*M/\f.params.length<=B)→
  v.arrays.length<=ars.length+n/\v.funcs.length<=fs.length+n/\∀f∈v.funcs,wtSs f.body<=8*(M*T.length)+8*M/\f.params.length<=B:=by
 intro n
 induction n with
 |zero=>intro ars fs p v p' _ I h;simp[progF]at h
 |succ n ih=>
  intro ars fs p v p' hn I h B hB hf;simp only[progF]at h;have I2:=I.typed.text 1 (by decide);split at h
  ·cases h;exact⟨Nat.le_add_right _ _,Nat.le_add_right _ _,hf⟩
  split at h
  ·cases h;exact⟨Nat.le_add_right _ _,Nat.le_add_right _ _,hf⟩
  split at h
  ·rename_i hc;have I3:=(((I2.adv _ hc.2.2).text 0 (by decide)).must [93]).must [59];obtain⟨a1,a2,a3⟩:=ih _ _ _ _ _ (by omega) I3 h B (by omega) hf;simp only[yi,yj,yn]at a1;exact⟨by omega,by omega,a3⟩
  ·split at h
   ·cases h
   ·rename_i q hq;have I3:=(zMe hq I2 (by omega)).2;have hw:=function_wt hS I2 hq;obtain⟨a1,a2,a3⟩:=ih _ _ _ _ _ (by omega) I3 h B (by omega) (by
     intro f hff;rcases yx.1 hff with h'|h'
     ·exact hf f h'
     ·rw[yI.1 h'];exact⟨hw.1,by omega⟩)
    simp only[yi,yj,yn]at a2;exact⟨by omega,by omega,a3⟩
end
theorem parse_sz(s:List UInt8)(h0:(zM s).2.1=0){v:Prog}{p':PS}(h:progF (zM s).1 (fuel (zM s).1) [] [] ⟨0,false,false⟩=some (v,p')):PSz v:=by
 have I:=tokens_inv s h0;have hc:=tokens_count s h0;have hS:=tokens_short s;have hf:fuel (zM s).1<=6400164:=by unfold fuel;omega
 obtain⟨a1,a2,a3⟩:=prog_wt hS _ _ _ _ _ _ (by omega) I h (fuel (zM s).1) (ye _) (by simp);simp only[yn]at a1 a2;have hm:100008*(zM s).1.length<=100008*100001:=yCa _ hc;refine⟨by omega,by omega,fun f hff=>?_⟩;obtain⟨b1,b2⟩:=a3 f hff;exact⟨by omega,by omega⟩
theorem parse_run(s:List UInt8)(h0:(zM s).2.1=0):∃v p',progF (zM s).1 (fuel (zM s).1) [] [] ⟨0,false,false⟩=some (v,p')/\Inv1 (zM s).1 p'/\PSz v:=by
 have I:=tokens_inv s h0;obtain⟨v,p',e,I'⟩:=prog_enough (fuel (zM s).1) [] [] _ I (yOa (by unfold fuel left;omega));exact⟨v,p',e,I',parse_sz s h0 e⟩
def zjd(r:Prog×Int×Int):PV:= .tup [ze r.1,.int .i64 r.2.1,.int .i64 r.2.2]
set_option maxHeartbeats 4000000 in
theorem zoe(s:List UInt8):zj E 14 [.str s] []=some (.ret (zjd (zHa s)),[]):=by
 refine zc rfl rfl rfl (by simp) ?_;have ht:=tokens_spec s;by_cases h0:(zM s).2.1=0
 ·obtain⟨v,p',e,I',hz⟩:=parse_run s h0;have I:=tokens_inv s h0;have hf:fuel (zM s).1<=6400164:=by have:=tokens_count s h0;unfold fuel;omega
  have hp:=(prog_spec e I (by omega)).1;have hr:=right_spec v hz;have hm:zHa s=if p'.deep then(⟨[],[]⟩,2,(tk (zM s).1 p'.at').line)else if p'.bad then(⟨[],[]⟩,20,(tk (zM s).1 p'.at').line)else if zdc v then(v,0,0)else(⟨[],[]⟩,2,0):=by
   unfold zHa;rw[if_pos h0,e]
  have hg:=tk_get I'.lt;rw[hm];clear hm e hz I hf;generalize zM s=tt at*;obtain⟨T,e0,ln⟩:=tt;simp only at h0 hp hg ht I';subst h0;have hlt:=I'.lt;clear I';obtain⟨pa,pb,pd⟩:=p';obtain⟨ars,fs⟩:=v;simp[encTokR,toks,pob,ze,zZ,funcs]at ht hp hr hg hlt;cases pd
  ·cases pb
   ·cases hR:zdc ⟨ars,fs⟩
    ·rw[hR]at hr;simp[*,F14,zjd,ze,zZ,funcs]
    ·rw[hR]at hr;simp[*,F14,zjd,ze,zZ,funcs]
   ·clear hr;simp[*,F14,zjd,ze,zZ,funcs,zx];exact congrArg Tok.line (tk_get' hlt)
  ·clear hr;simp[*,F14,zjd,ze,zZ,funcs,zx];exact congrArg Tok.line (tk_get' hlt)
 ·have hm:zHa s=(⟨[],[]⟩,(zM s).2.1,(zM s).2.2):=by unfold zHa;rw[if_neg h0]
  rw[hm];clear hm;generalize zM s=tt at*;obtain⟨T,e0,ln⟩:=tt;simp only at h0 ht;simp[encTokR,toks]at ht;replace h0:=eqn h0;simp[*,F14,zjd,ze,zZ,funcs]
theorem parse_psz(s:List UInt8):PSz (zHa s).1:=by
 have h0:PSz ⟨[],[]⟩:=⟨by simp,by simp,by simp⟩
 unfold zHa;split
 ·rename_i h;obtain⟨v,p',e,I',hz⟩:=parse_run s h;rw[e];simp only;split
  ·exact h0
  split
  ·exact h0
  split
  ·exact hz
  ·exact h0
 ·exact h0
noncomputable def one(op a:Int):Int:=
 if op=20 then W (0-a)else if op=21 then xor64 (-1) a else if op=22 then(if a=0 then 1 else 0)
 else if op=23 then W (zA .i8 a)else if op=24 then W (zA .i16 a)else if op=25 then W (zA .i32 a)
 else if op=26 then W (zA .u8 a)else if op=27 then W (zA .u16 a)else if op=28 then W (zA .u32 a)else 0
def cmp(op a b:Int):Bool×Bool:=
 if op=12 then(decide (a<b),true)else if op=13 then(decide (a<=b),true)else if op=14 then(decide (b<a),true)
 else if op=15 then(decide (b<=a),true)else if op=16 then(decide (a=b),true)else if op=17 then(!decide (a=b),true)else(false,false)
noncomputable def two(op a b:Int):Int×Bool:=
 if(cmp op a b).2=true then(if(cmp op a b).1=true then 1 else 0,true)
 else if op=1 then(W (a+b),true)else if op=2 then(W (a-b),true)else if op=3 then(W (a*b),true)
 else if op=6 then(and64 a b,true)else if op=7 then(or64 a b,true)else if op=8 then(xor64 a b,true)
 else if op=9 then(W (a*2^(min (and64 b 63).toNat 64)),true)else if op=10 then(shrK a (min (and64 b 63).toNat 64),true)
 else if op=11 then(W (shrK (zA .u64 a) (min (and64 b 63).toNat 64)),true)
 else if b=0 then(0,false)else if op=4 then(W (a.tdiv b),true)else if op=5 then(remK a b,true)else(0,false)
structure RS where
 inp:List Int
 arrs:List (List Int)
 out:List Int
 cost:Int
 fuel:Nat
inductive How where
 |on|brk|cont
 |ret (n:Int)
inductive Rt(α:Type) where
 |ok (a:α)
 |stop (k:Int)
abbrev Vs:=List (List UInt8×Int)
structure Ev where
 expr:Expr->Vs->RS->Rt Int×RS
 stmt:Stmt->Vs->RS->Rt (How×Vs)×RS
def getV(nm:List UInt8):Vs->Int
 | []=>0
 |x::r=>if x.1=nm then x.2 else getV nm r
def setV(nm:List UInt8)(n:Int):Vs->Vs
 | []=>[]
 |x::r=>if x.1=nm then(nm,n)::r else x::setV nm n r
def oneC(op a:Int):Int:=
 if op=20 then yFa .i64 (0-a)else if op=21 then yFa .i64 (-1-a)else if op=22 then(if a=0 then 1 else 0)
 else if op=23 then(a+128)%256-128 else if op=24 then(a+32768)%65536-32768 else if op=25 then(a+2147483648)%4294967296-2147483648
 else if op=26 then a%256 else if op=27 then a%65536 else if op=28 then a%4294967296 else 0
def and64C(a b:Int):Int:=(yfa 64 a&&&yfa 64 b).toInt
def or64C(a b:Int):Int:=(yfa 64 a|||yfa 64 b).toInt
def xor64C(a b:Int):Int:=(yfa 64 a^^^yfa 64 b).toInt
def twoC(op a b:Int):Int×Bool:=
 if(cmp op a b).2=true then(if(cmp op a b).1=true then 1 else 0,true)
 else if op=1 then(yFa .i64 (a+b),true)else if op=2 then(yFa .i64 (a-b),true)else if op=3 then(yFa .i64 (a*b),true)
 else if op=6 then(and64C a b,true)else if op=7 then(or64C a b,true)else if op=8 then(xor64C a b,true)
 else if op=9 then(yFa .i64 (a*2^(b%64).toNat),true)else if op=10 then(a.fdiv (2^(b%64).toNat),true)
 else if op=11 then(yFa .i64 ((a%18446744073709551616).fdiv (2^(b%64).toNat)),true)
 else if b=0 then(0,false)else if op=4 then(yFa .i64 (a.tdiv b),true)else if op=5 then(a.tmod b,true)else(0,false)
def addCost(S:RS):RS:={S with cost:=yFa .i64 (S.cost+1)}
def cellAt(p:Prog)(S:RS)(nm:List UInt8)(n:Int):Option Int:=
 if n<0 then none else(S.arrs[(zdb p nm).toNat]?).bind fun l=>l[n.toNat]?
def putAt(p:Prog)(S:RS)(nm:List UInt8)(n m:Int):Option RS:=
 if n<0 then none else(S.arrs[(zdb p nm).toNat]?).bind fun l=>if n.toNat<l.length then some {S with arrs:=S.arrs.set (zdb p nm).toNat (l.set n.toNat m)}else none
section
variable (p:Prog) (ev:Ev)
def argsW(V:Vs):List Expr->List Int->RS->Rt (List Int)×RS
 | [],acc,S=>(.ok acc,S)
 |x::r,acc,S=>match ev.expr x V S with
  |(.ok n,S1)=>argsW V r (acc++[n]) S1
  |(.stop k,S1)=>(.stop k,S1)
def stmtsW:List Stmt->Vs->RS->Rt (How×Vs)×RS
 | [],V,S=>(.ok (.on,V),S)
 |s::r,V,S=>match ev.stmt s V S with
  |(.ok (.on,V1),S1)=>stmtsW r V1 S1
  |(.ok (h,V1),S1)=>(.ok (h,V1),S1)
  |(.stop k,S1)=>(.stop k,S1)
def blockW(l:List Stmt)(V:Vs)(S:RS):Rt (How×Vs)×RS:=match stmtsW ev l V S with
 |(.ok (h,V1),S1)=>(.ok (h,V1.drop (V1.length-V.length)),S1)
 |(.stop k,S1)=>(.stop k,S1)
def bindV(ps:List Par)(l:List Int):Vs:=((ps.map (·.name)).zip l).reverse
def callW(f:Func)(l:List Int)(S:RS):Rt Int×RS:=match blockW ev f.body (bindV f.params l) S with
 |(.ok (.ret n,_),S1)=>(.ok n,S1)
 |(.ok (_,_),S1)=>(.ok 0,S1)
 |(.stop k,S1)=>(.stop k,S1)
def madeW(e:Expr)(l:List Int)(S:RS):Rt Int×RS:=
 if e.kind=4 then(.ok (oneC e.op (at0 l)),S)
 else if e.kind=6 then(match cellAt p S e.name (at0 l)with
  |some n=>(.ok n,S)
  |none=>(.stop 3,S))
 else if e.kind=8 then(match S.inp with
  | []=>(.stop 4,S)
  |n::r=>(.ok n,{S with inp:=r}))
 else if e.kind=7 then(match zfc p e.name with
  |some f=>callW ev f l S
  |none=>(.ok 0,S))
 else if(twoC e.op (at0 l) (at1 l)).2 then(.ok (twoC e.op (at0 l) (at1 l)).1,S)else(.stop 2,S)
def shortW(e:Expr)(V:Vs)(S:RS):Rt Int×RS:=match ev.expr (arg0 e.args) V S with
 |(.stop j,S1)=>(.stop j,S1)
 |(.ok a,S1)=>if decide (a=0)=decide (e.op=18)then(.ok a,S1)else ev.expr (arg1 e.args) V S1
def exprW(e:Expr)(V:Vs)(S:RS):Rt Int×RS:=
 if e.kind=1\/e.kind=2 then(.ok e.n,S)
 else if e.kind=3 then(.ok (getV e.name V),S)
 else if e.kind=5/\(e.op=18\/e.op=19)then shortW ev e V S
 else match argsW ev V e.args [] S with
  |(.stop j,S1)=>(.stop j,S1)
  |(.ok l,S1)=>madeW p ev e l (addCost S1)
def loopW(c:Expr)(b:List Stmt):Nat->Vs->RS->Rt (How×Vs)×RS
 |0,V,S=>(.stop 0,S)
 |k+1,V,S=>match ev.expr c V S with
  |(.stop j,S1)=>(.stop j,S1)
  |(.ok n,S1)=>if n=0 then(.ok (.on,V),S1)else
   match blockW ev b V S1 with
   |(.ok (.brk,V1),S2)=>(.ok (.on,V1),S2)
   |(.ok (.ret m,V1),S2)=>(.ok (.ret m,V1),S2)
   |(.ok (_,V1),S2)=>loopW c b k V1 S2
   |(.stop j,S2)=>(.stop j,S2)
def plainW(s:Stmt)(V:Vs)(n:Int)(S1:RS):Rt (How×Vs)×RS:=
 if s.kind=1 then(.ok (.on,(s.name,n)::V),S1)
 else if s.kind=2 then(.ok (.on,setV s.name n V),S1)
 else if s.kind=3 then(match ev.expr (arg1 s.args) V S1 with
  |(.stop j,S2)=>(.stop j,S2)
  |(.ok m,S2)=>match putAt p (addCost S2) s.name n m with
   |some S3=>(.ok (.on,V),S3)
   |none=>(.stop 3,addCost S2))
 else if s.kind=4 then blockW ev (if n=0 then s.els else s.thn) V S1
 else if s.kind=8 then(.ok (.ret n,V),S1)
 else if s.kind=9 then(.ok (.on,V),{addCost S1 with out:=S1.out++[n]})
 else(.ok (.on,V),S1)
def stmtW(w:Nat)(s:Stmt)(V:Vs)(S:RS):Rt (How×Vs)×RS:=
 if s.kind=5 then loopW ev (arg0 s.args) s.thn (w+1) V S
 else if s.kind=6 then(.ok (.brk,V),S)
 else if s.kind=7 then(.ok (.cont,V),S)
 else match ev.expr (arg0 s.args) V S with
  |(.stop j,S1)=>(.stop j,S1)
  |(.ok n,S1)=>plainW p ev s V n S1
end
def evF(p:Prog):Nat->Ev
 |0=>⟨fun _ _ S=>(.stop 0,S),fun _ _ S=>(.stop 0,S)⟩
 |w+1=>⟨fun e V S=>match S.fuel with
   |0=>(.stop 0,S)
   |k+1=>exprW p (evF p w) e V {S with fuel:=k},
  fun s V S=>match S.fuel with
   |0=>(.stop 0,S)
   |k+1=>stmtW p (evF p w) w s V {S with fuel:=k}⟩
structure Rn where
 status:Int
 code:Int
 out:List Int
 cost:Int
 fuel:Int
structure Mono(S S1:RS):Prop where
 fuel:S1.fuel<=S.fuel
 out:S1.out.length+S1.fuel<=S.out.length+S.fuel
 arrs:S1.arrs.map List.length=S.arrs.map List.length
def ztc(V:Vs):List (List UInt8):=V.map (·.1)
def addsOf(s:Stmt):List (List UInt8):=if s.kind=1 then[s.name]else[]
structure EvOk(ev:Ev):Prop where
 expr:∀e V S,Mono S (ev.expr e V S).2/\∀n,(ev.expr e V S).1= .ok n->(ev.expr e V S).2.fuel<S.fuel
 stmt:∀s V S,Mono S (ev.stmt s V S).2/\∀h V1,(ev.stmt s V S).1= .ok (h,V1)->(ev.stmt s V S).2.fuel<S.fuel/\ztc V1=addsOf s++ztc V
section
variable {p:Prog} {ev:Ev} (E:EvOk ev)
include E
end
mutual
def okE(p:Prog)(ns:List (List UInt8)):Expr->Prop
 |⟨k,o,n,nm,a⟩=>kindR k o n nm a.length=true/\(k=3->nm∈ns)/\(k=6->zUb p nm=true)/\(k=7->∃f,zfc p nm=some f/\f.params.length=a.length)/\okEs p ns a
def okEs(p:Prog)(ns:List (List UInt8)):List Expr->Prop
 | []=>True
 |x::r=>okE p ns x/\okEs p ns r
end
mutual
def okS(p:Prog)(ns:List (List UInt8))(loop:Bool):Stmt->Prop
 |⟨k,_,nm,a,th,el⟩=>(1<=k/\k<=10)/\(a.length:Int)=(zP k).2.2.1/\okEs p ns a/\(k=2->nm∈ns)/\(k=3->zUb p nm=true)/\(k=6\/k=7->loop=true)∧
  okB p ((if k=1 then[nm]else[])++ns) (loop||decide (k=5)) th/\okB p ((if k=1 then[nm]else[])++ns) loop el
def okB(p:Prog)(ns:List (List UInt8))(loop:Bool):List Stmt->Prop
 | []=>True
 |x::r=>okS p ns loop x/\okB p (addsOf x++ns) loop r
end
theorem okS_eq(p:Prog)(ns:List (List UInt8))(loop:Bool)(s:Stmt):okS p ns loop s=((1<=s.kind/\s.kind<=10)/\(s.args.length:Int)=(zP s.kind).2.2.1/\okEs p ns s.args/\(s.kind=2->s.name∈ns)/\(s.kind=3->zUb p s.name=true)/\(s.kind=6\/s.kind=7->loop=true)∧
  okB p (addsOf s++ns) (loop||decide (s.kind=5)) s.thn/\okB p (addsOf s++ns) loop s.els):=by
 cases s;rw[okS];rfl
mutual
theorem okE_of(p:Prog)(s:List Vr):∀(e:Expr) (m:Int),(zXb p s e).2=0->zmb e m=true->okE p (zrb s) e
 |⟨k,o,n,nm,a⟩,m,h,hR=>by
  rw[zXb]at h;rw[zmb,yb]at hR;split at h
  ·rename_i h1;exact absurd h h1
  rename_i h1;split at h
  ·rename_i h2;exact absurd h h2
  rename_i h2;have h1:zec p s k nm a.length=0:=by simpa using h1
  rw[okE];refine⟨hR.2,?_,?_,?_,okEs_of p s a m (by simpa using h2) hR.1⟩
  ·intro hk;subst hk;simp only[zec,if_true]at h1;split at h1
   ·cases h1
   ·rename_i hf;exact vfindV_mem hf
  ·intro hk;subst hk;simp only[zec]at h1;rw[if_neg (by decide),if_pos trivial]at h1;split at h1
   ·assumption
   ·cases h1
  ·intro hk;subst hk;simp only[zec]at h1;rw[if_neg (by decide),if_neg (by decide),if_pos trivial]at h1;split at h1
   ·cases h1
   ·rename_i f hf;split at h1
    ·exact⟨f,hf,by assumption⟩
    ·cases h1
theorem okEs_of(p:Prog)(s:List Vr):∀(l:List Expr) (m:Int),(zob p s l).2=0->zWb l m=true->okEs p (zrb s) l
 | [],m,_,_=>by rw[okEs];trivial
 |x::r,m,h,hR=>by
  rw[zob]at h;rw[zWb,yb,yb]at hR;split at h
  ·rename_i h1;exact absurd h h1
  rename_i h1;split at h
  ·rename_i h2;exact absurd h h2
  rename_i h2;rw[okEs];exact⟨okE_of p s x (m-1) (by simpa using h1) hR.1.2,okEs_of p s r m (by simpa using h2) hR.2⟩
end
theorem want_ok{p:Prog}{s:List Vr}{e:Expr}{t m:Int}(h:zwc p s e t=0)(hR:zmb e m=true):okE p (zrb s) e:=by
 unfold zwc at h;split at h
 ·rename_i h1;exact absurd h h1
 ·rename_i h1;exact okE_of p s e m (by simpa using h1) hR
theorem arg_one{l:List Expr}{p:Prog}{ns:List (List UInt8)}(hl:(l.length:Int)=1)(h:okE p ns (arg0 l)):okEs p ns l:=by
 match l,hl with
 | [x],_=>rw[okEs,okEs];exact⟨h,trivial⟩
theorem arg_two{l:List Expr}{p:Prog}{ns:List (List UInt8)}(hl:(l.length:Int)=2)(h:okE p ns (arg0 l))(h':okE p ns (arg1 l)):okEs p ns l:=by
 match l,hl with
 | [x,y],_=>rw[okEs,okEs,okEs];exact⟨h,h',trivial⟩
theorem arg0_mem{l:List Expr}(hl:1<=(l.length:Int)):arg0 l∈l:=by
 match l,hl with
 |x::r,_=>simp[arg0]
theorem arg1_mem{l:List Expr}(hl:2<=(l.length:Int)):arg1 l∈l:=by
 match l,hl with
 |x::y::r,_=>simp[arg1]
theorem nms_behind(d:Int)(x:Stmt)(vs:List Vr):zrb (zma d x vs)=addsOf x++zrb vs:=by
 unfold zma addsOf;split<;>rfl
theorem stmt_ok{p:Prog}{s:List Vr}{x:Stmt}{res d m:Int}{loop:Bool}(h:stmtT p res s x.kind x.type x.name x.args d loop=0)(hR:zRb x m=true):
  (1<=x.kind/\x.kind<=10)/\(x.args.length:Int)=(zP x.kind).2.2.1/\okEs p (zrb s) x.args/\(x.kind=2->x.name∈zrb s)/\(x.kind=3->zUb p x.name=true)/\(x.kind=6\/x.kind=7->loop=true):=by
 obtain⟨r1,r2,_,_⟩:=zQb hR;have hb:1<=x.kind/\x.kind<=10:=by
  by_cases h:1<=x.kind/\x.kind<=10
  ·exact h
  ·exfalso;have:(zP x.kind).2.2.1= -1:=by
    unfold zP
    repeat' (first|rw[if_neg (by omega)]|rfl)
   omega
 refine⟨hb,r1,?_⟩;have m0:1<=(x.args.length:Int)->zmb (arg0 x.args) 100=true:=fun h=>r2 _ (arg0_mem h)
 have m1:2<=(x.args.length:Int)->zmb (arg1 x.args) 100=true:=fun h=>r2 _ (arg1_mem h)
 unfold stmtT at h;by_cases k4:x.kind=4\/x.kind=5
 ·rw[if_pos k4]at h;have hl:(x.args.length:Int)=1:=by rcases k4 with k|k<;>rw[r1,k]<;>rfl
  exact⟨arg_one hl (want_ok h (m0 (by omega))),fun k=>by omega,fun k=>by omega,fun k=>by omega⟩
 rw[if_neg k4]at h;by_cases k8:x.kind=8
 ·rw[if_pos k8]at h;have hl:(x.args.length:Int)=1:=by rw[r1,k8];rfl
  exact⟨arg_one hl (want_ok h (m0 (by omega))),fun k=>by omega,fun k=>by omega,fun k=>by omega⟩
 rw[if_neg k8]at h;by_cases k9:x.kind=9
 ·rw[if_pos k9]at h;have hl:(x.args.length:Int)=1:=by rw[r1,k9];rfl
  exact⟨arg_one hl (want_ok h (m0 (by omega))),fun k=>by omega,fun k=>by omega,fun k=>by omega⟩
 rw[if_neg k9]at h;by_cases k10:x.kind=10
 ·rw[if_pos k10]at h;have hl:(x.args.length:Int)=1:=by rw[r1,k10];rfl
  exact⟨arg_one hl (okE_of p s _ 100 h (m0 (by omega))),fun k=>by omega,fun k=>by omega,fun k=>by omega⟩
 rw[if_neg k10]at h;by_cases k6:x.kind=6\/x.kind=7
 ·rw[if_pos k6]at h;have hl:(x.args.length:Int)=0:=by rcases k6 with k|k<;>rw[r1,k]<;>rfl
  have hn:x.args=[]:=yz (by omega);refine⟨by rw[hn,okEs];trivial,fun k=>by omega,fun k=>by omega,fun k=>?_⟩;cases loop
  ·simp at h
  ·rfl
 rw[if_neg k6]at h;unfold boundT at h;by_cases k1:x.kind=1
 ·rw[if_pos k1]at h;have hl:(x.args.length:Int)=1:=by rw[r1,k1];rfl
  refine⟨arg_one hl (want_ok (t:=x.type) ?_ (m0 (by omega))),fun k=>by omega,fun k=>by omega,fun k=>by omega⟩;by_cases hw:zwc p s (arg0 x.args) x.type=0
  ·exact hw
  ·rw[if_pos hw]at h;exact h
 rw[if_neg k1]at h;by_cases k2:x.kind=2
 ·rw[if_pos k2]at h;have hl:(x.args.length:Int)=1:=by rw[r1,k2];rfl
  split at h
  ·cases h
  ·rename_i v r hv;exact⟨arg_one hl (want_ok h (m0 (by omega))),fun k=>vfindV_mem (by rw[hv];simp),fun k=>by omega,fun k=>by omega⟩
 rw[if_neg k2]at h;have k3:x.kind=3:=by omega
 have hl:(x.args.length:Int)=2:=by rw[r1,k3];rfl
 by_cases ha:x.kind=3/\zUb p x.name=false
 ·rw[if_pos ha]at h;cases h
 rw[if_neg ha]at h;have ha:zUb p x.name=true:=by
  cases hq:zUb p x.name
  ·exact absurd ⟨k3,hq⟩ ha
  ·rfl
 by_cases hw:zwc p s (arg0 x.args) 1=0
 ·rw[if_neg (by simp[hw])]at h;exact⟨arg_two hl (want_ok hw (m0 (by omega))) (want_ok h (m1 (by omega))),fun k=>by omega,fun _=>ha,fun k=>by omega⟩
 ·rw[if_pos hw]at h;exact absurd h hw
theorem okB_of(p:Prog)(res:Int):∀(w:Nat) (l:List Stmt) (vs:List Vr) (d n m:Int) (loop:Bool),wtSs l<=w->(zka p res l vs d loop n).1=0->zS l m=true->okB p (zrb vs) loop l:=by
 intro w
 induction w with
 |zero=>
  intro l vs d n m loop hw h hR;have hl:l=[]:=by
   have:=zia l;exact yz (by omega)
  subst hl;rw[okB];trivial
 |succ w ih=>
  intro l vs d n m loop hw h hR;cases l with
  |nil=>rw[okB];trivial
  |cons x r=>
   rw[zQc]at h;rw[zS,yb]at hR;simp only[wtSs]at hw;have hwx:=zCa x;split at h
   ·rename_i h1;exact absurd h h1
   rename_i h1;have h1:(zzc p res x vs d loop n).1=0:=by simpa using h1
   rw[okB];have i:=ih r _ _ _ _ _ (by omega) h hR.2;rw[nms_behind]at i;refine⟨?_,i⟩;rw[zHd]at h1;split at h1
   ·rename_i h2;exact absurd h1 h2
   rename_i h2;split at h1
   ·rename_i h3;exact absurd h1 h3
   rename_i h3;obtain⟨r1,r2,r3,r4⟩:=zQb hR.1;obtain⟨s1,s2,s3,s4,s5,s6⟩:=stmt_ok (by simpa using h2) hR.1;rw[okS_eq];have i1:=ih x.thn _ _ _ _ _ (by omega) (by simpa using h3) r3;have i2:=ih x.els _ _ _ _ _ (by omega) h1 r4;rw[nms_behind]at i1 i2;exact⟨s1,s2,s3,s4,s5,s6,i1,i2⟩
theorem nms_scoped(l:List Par):zrb (zca l)=(l.map (·.name)).reverse:=by
 suffices h:∀d:List Par,zrb (zca d.reverse)=d.map (·.name) by
  have:=h l.reverse;rw[List.reverse_reverse]at this;rw[this,List.map_reverse]
 intro d
 induction d with
 |nil=>rfl
 |cons x r ih=>rw[yGa,zQd];simp only[zrb,yv]at ih ⊢;rw[ih]
structure OkP(p:Prog):Prop where
 sz:PSz p
 fn:∀f∈p.funcs,okB p ((f.params.map (·.name)).reverse) false f.body/\zMc f.body=true/\(f.params.map (·.name)).Nodup
 main:∃f,zfc p zqe=some f/\f.params=[]
 names:(p.arrays.map (·.name)).Nodup
 size:∀a∈p.arrays,1<=a.size/\a.size<=1000
theorem checkT_ok{p:Prog}(hz:PSz p)(h:(zbb p).1=0):OkP p:=by
 unfold zbb at h;split at h
 case isFalse=>cases h
 rename_i hR;split at h
 case isFalse=>cases h
 rename_i hN;unfold zdc at hR;rw[yb,yu,yu]at hR;unfold zYc at hN;rw[yb,decide_eq_true_eq]at hN;obtain⟨hN1,hN2⟩:=hN;refine⟨hz,?_,?_,(yQa.1 hN1).1,?_⟩
 ·intro f hf;have h1:=checkGo_ok p _ _ h f hf;have hfR:=hR.2 f hf;unfold zhe at hfR;simp only[yb]at hfR;unfold zvb at h1;split at h1
  ·cases h1
  rename_i ht;simp only at h1;have ht:(f.params.map (·.name)).Nodup:=by
   unfold twiceM at ht;simpa using ht
  split at h1
  ·cases h1
  rename_i he;have hb:=okB_of p f.type _ f.body _ _ _ _ _ (ye _) h1 hfR.2.2.2.1;rw[nms_scoped]at hb;refine⟨hb,?_,ht⟩;cases hq:zMc f.body
  ·exact absurd ⟨h1,hq⟩ he
  ·rfl
 ·split at hN2
  ·rename_i f hf;rw[yb,decide_eq_true_eq,decide_eq_true_eq]at hN2;exact⟨f,hf,hN2.2⟩
  ·cases hN2
 ·intro a ha;have:=hR.1 a ha;unfold arrR at this;simp only[yb,decide_eq_true_eq]at this;exact this.2
open PE.R (nthK fromK)
theorem frK_par(k n:Nat)(σ:zd)(p:Par):zK (k+1) n σ (stripA (encPar p))=encPar p:=by
 cases k<;>simp[encPar,stripA,strip,zK]
theorem frK_pars(k:Nat){σ:zd}{q:Nat}{ps:List Par}(h:σ[q]? =some (.arr 2 (ps.map encPar))):zK (k+2) 0 σ (.mslice q 0 ps.length 2)= .slice .plain 2 (ps.map encPar):=by
 have hf:(fun e=>zK (k+1) 0 σ (stripA e)) ∘ encPar=encPar:=by funext p;exact frK_par k 0 σ p
 unfold zK;simp[h,hf];exact yy (by simp)
theorem frK_func(k:Nat){σ:zd}{f:Func}{q:Nat}(h:f.params≠ []->σ[q]? =some (.arr 2 (f.params.map encPar))):zK (k+3) 0 σ (stripA (zlb f q))=zl f:=by
 obtain⟨nm,ty,ps,body⟩:=f;by_cases hp:ps=[]
 ·subst hp;simp[zlb,zl,parsV,zg,stripA,strip,zK]
 ·have hq:=frK_pars (k:=k) (h hp);simp[zlb,hp,zl,parsV,zg,stripA,strip]at hq ⊢;rw[show zK (k+3) 0 σ (.agg [.str nm,.int .i64 ty,.mslice q 0 ps.length 2,.slice .plain 6 (body.map zu)])= .agg ([.str nm,.int .i64 ty,.mslice q 0 ps.length 2,.slice .plain 6 (body.map zu)].map (zK (k+2) 0 σ))from rfl];simp[hq];simp[zK]
theorem frK_prog(k:Nat){σ:zd}{F:Nat}{fs:List Func}{qs:List Nat}(hO:OpenP σ F fs qs):zK (k+4) 0 σ (.mslice F 0 fs.length 4)= .slice .plain 4 (fs.map zl):=by
 have hl:=openFs_len hO.len;have hm:(zX fs qs).map (fun e=>zK (k+3) 0 σ (stripA e))=fs.map zl:=by
  refine yka fun i=>?_
  rw[yo,yo];by_cases hi:i<fs.length
  ·have h1:fs[i]? =some fs[i]:=yf hi;have hi2:i<qs.length:=by rw[hO.len];exact hi
   have h2:qs[i]? =some qs[i]:=yf hi2;rw[openFs_get h1 h2,h1];simp only[yW];rw[frK_func k (fun hp=>(hO.par i _ _ h1 h2 hp).1)]
  ·rw[yZ (by rw[hl];omega),yZ (by omega)];rfl
 rw[zK,if_pos (Nat.zero_le _),hO.row];simp only;have hc:0+fs.length<=(zX fs qs).length:=by rw[hl];omega
 rw[if_pos (by first|exact⟨rfl,hc⟩|exact⟨trivial,hc⟩|exact hc),List.drop_zero,yy (by rw[hl];exact ye _),hm]
theorem frK_arrs(k:Nat){σ:zd}{l:List PArr}(h:l≠ []->σ[0]? =some (.arr 2 (l.map zH))):zK (k+2) 0 σ (arrV l)=zZ l:=by
 unfold arrV zZ;by_cases hl:l=[]
 ·subst hl;rfl
 ·rw[if_neg hl];have hf:(fun e=>zK (k+1) 0 σ (stripA e)) ∘ zH=zH:=by
   funext p;cases k<;>simp[zH,stripA,strip,zK]
  unfold zK;simp[h hl,hf];exact yy (by simp)
theorem set_same{σ:zd}{q:Nat}{o:Obj}(h:σ[q]? =some o):σ.set q o=σ:=by
 obtain⟨h1,h2⟩:=ya.1 h;rw[<-h2];exact yMa h1
theorem openFs_set{fs:List Func}{qs:List Nat}(hl:qs.length=fs.length){i q:Nat}(f:Func)(h':qs[i]? =some q):(zX fs qs).set i (zlb f q)=zX (fs.set i f) qs:=by
 refine yka fun j=>?_
 unfold zX;rw[List.getElem?_zipWith,List.getElem?_set,List.getElem?_set,List.getElem?_zipWith,List.length_zipWith,hl,Nat.min_self];by_cases e:i=j
 ·subst e;have hi:i<fs.length:=by rw[<-hl];exact(ya.1 h').1
  simp[hi,h']
 ·simp[e]
theorem OpenP.change{σ:zd}{F:Nat}{fs:List Func}{qs:List Nat}(hO:OpenP σ F fs qs){i q:Nat}{g f:Func}(hg:fs[i]? =some g)(hq:qs[i]? =some q)(hlen:f.params.length=g.params.length)
  {σ':zd} (hrow:σ'[F]? =some (.arr 4 (zX (fs.set i f) qs))) (hpar:f.params≠ []->σ'[q]? =some (.arr 2 (f.params.map encPar))) (hoth:∀j,j≠F->(g.params≠ []->j≠q)->σ'[j]? =σ[j]?):OpenP σ' F (fs.set i f) qs:=by
 have hi:=(ya.1 hg).1;have hne:f.params≠ []->g.params≠ []:=fun h e=>h (yaa.1 (by rw[hlen,e];rfl))
 have hcase:∀(j:Nat) x,(fs.set i f)[j]? =some x->(j=i/\x=f)\/(j≠i/\fs[j]? =some x):=by
  intro j x hx;rw[List.getElem?_set]at hx;by_cases e:i=j
  ·subst e;simp[hi]at hx;exact .inl ⟨rfl,hx.symm⟩
  ·simp[e]at hx;exact .inr ⟨fun h=>e h.symm,hx⟩
 refine⟨by rw[List.length_set];exact hO.len,hrow,?_,?_⟩
 ·intro j x q' hx hq' hxp;rcases hcase j x hx with⟨rfl,rfl⟩|⟨hj,hx'⟩
  ·rw[hq]at hq';cases hq';exact⟨hpar hxp,(hO.par j g q hg hq (hne hxp)).2⟩
  ·have h1:=hO.par j x q' hx' hq' hxp;refine⟨?_,h1.2⟩;rw[hoth q' h1.2 (fun hgp e=>hj (by subst e;exact hO.nd j i x g q' hx' hg hq' hq hxp hgp))];exact h1.1
 ·intro j j' x x' q' hx hx' hq' hq'' hxp hxp';rcases hcase j x hx with⟨rfl,rfl⟩|⟨hj,hy⟩<;>rcases hcase j' x' hx' with⟨rfl,rfl⟩|⟨hj',hy'⟩
  ·rfl
  ·exact hO.nd j j' g x' q' hg hy' hq' hq'' (hne hxp) hxp'
  ·exact hO.nd j j' x g q' hy hg hq' hq'' hxp (hne hxp')
  ·exact hO.nd j j' x x' q' hy hy' hq' hq'' hxp hxp'
end PE.U

namespace PE.U
open Go PE
open PE.R (nthK fromK)
def parK(ps:List Par)(k:Nat):List Par:=(ps.map zWc).take k++ps.drop k
theorem parK_zero(ps:List Par):parK ps 0=ps:=by simp[parK]
theorem parK_all(ps:List Par):parK ps ps.length=ps.map zWc:=by
 simp[parK];exact yy (by simp)
theorem parK_get(ps:List Par){k:Nat}(h:k<ps.length):(parK ps k)[k]? =ps[k]? :=by
 unfold parK;rw[yg (by simp;omega)];simp[Nat.min_eq_left (Nat.le_of_lt h)]
theorem parK_set(ps:List Par){k:Nat}{p:Par}(h:ps[k]? =some p):(parK ps k).set k (zWc p)=parK ps (k+1):=by
 have hk:=(ya.1 h).1;refine yka fun j=>?_
 unfold parK;rw[List.getElem?_set];by_cases e:k=j
 ·subst e;rw[if_pos rfl,if_pos (by simp;omega),yh (by simp;omega),yoa (by omega),yo,h];rfl
 ·rw[if_neg e];by_cases hj:j<k
  ·rw[yh (by simp;omega),yh (by simp;omega),yoa hj,yoa (by omega)]
  ·rw[yg (by simp;omega),yg (by simp;omega),yG,yG];congr 1;simp;omega
def funK(gs:List Func)(i:Nat):List Func:=(gs.map zAb).take i++gs.drop i
theorem funK_zero(gs:List Func):funK gs 0=gs:=by simp[funK]
theorem funK_all(gs:List Func):funK gs gs.length=gs.map zAb:=by
 simp[funK];exact yy (by simp)
theorem funK_len(gs:List Func){i:Nat}(h:i<=gs.length):(funK gs i).length=gs.length:=by simp[funK];omega
theorem funK_get(gs:List Func){k:Nat}(h:k<gs.length):(funK gs k)[k]? =gs[k]? :=by
 unfold funK;rw[yg (by simp;omega)];simp[Nat.min_eq_left (Nat.le_of_lt h)]
theorem funK_set(gs:List Func){k:Nat}{p:Func}(h:gs[k]? =some p):(funK gs k).set k (zAb p)=funK gs (k+1):=by
 have hk:=(ya.1 h).1;refine yka fun j=>?_
 unfold funK;rw[List.getElem?_set];by_cases e:k=j
 ·subst e;rw[if_pos rfl,if_pos (by simp;omega),yh (by simp;omega),yoa (by omega),yo,h];rfl
 ·rw[if_neg e];by_cases hj:j<k
  ·rw[yh (by simp;omega),yh (by simp;omega),yoa hj,yoa (by omega)]
  ·rw[yg (by simp;omega),yg (by simp;omega),yG,yG];congr 1;simp;omega
structure ShOk(g:Func):Prop where
 sz:wtSs g.body<1099508500000
 nv:∃c,c=g.params.length+(zTb g.body).length/\c<=200000000000/\nvSs c g.body
 par:∀i p,g.params[i]? =some p->p.name=newN i
set_option maxHeartbeats 8000000 in
theorem pnames_ok(p:Prog)(hz:PSz p)(hfn:p.funcs≠ [])(h0:(zbb p).1=0)(hok:∀g∈p.funcs.map renF,ShOk g):
  zj E 12 [ze p] []=some (.ret (.tup [ze ⟨p.arrays,(p.funcs.map renF).map zAb⟩,.int .i64 0]),[]):=by
 refine pcall_wpD rfl rfl rfl (by simp[ze]) ?_;have hr:=prenU_spec p hz hfn h0;rw[zfd]at hr;obtain⟨r,st,he,F,qs,rfl,hO,hA⟩:=hr;obtain⟨z1,z2,z3⟩:=hz;have hO:OpenP st F (p.funcs.map renF) qs:=by
  rcases hO with⟨a,_⟩|⟨_,h⟩
  ·simp at a;exact absurd a hfn
  ·exact h
 have hac:accF F p.funcs.length= .mslice F 0 p.funcs.length 4:=by
  unfold accF;rw[if_neg (by simpa using hfn)]
 rw[hac]at he;obtain⟨ars,fs⟩:=p;simp only at he hO hA hfn z2 hok ⊢;generalize hG:fs.map renF=gs at*;have hgl:gs.length=fs.length:=by rw[<-hG];simp
 rw[<-hgl]at he z2;clear hG hac hfn z3 h0;have hav1:strip (arrV ars)=arrV ars:=by unfold arrV;split<;>rfl
 have hav2:canon1 (arrV ars)=arrV ars:=by unfold arrV;split<;>rfl
 have hav3:zE (arrV ars)=true:=by unfold arrV;split<;>rfl
 have hav4:stripA (arrV ars)=arrV ars:=by unfold arrV;split<;>rfl
 have hfz:=fun σ (h:ArrOk σ F qs ars)=>frK_arrs 9 (σ:=σ) (l:=ars) (fun hne=>(h hne).1)
 generalize arrV ars=av at*;simp[ze,zZ,funcs]at he;clear hgl;simp[*,F12,ze,zZ,funcs];clear he;refine zU K12_1 B12_1 (fun q:Nat×zd=>gs.length-q.1) (fun q=>[(21,.int .i64 q.1)]) (fun _=>[]) (fun q=>q.2) (fun q=>q.1<=gs.length/\OpenP q.2 F (funK gs q.1) qs/\ArrOk q.2 F qs ars) (0,st) ⟨by simp,by simp,by simp,by simp,by rw[funK_zero];exact hO,hA⟩ ?_;clear hO hA
 rintro⟨i,σ⟩ s1 ⟨hi,hO,hA⟩ h1 h2 h3 h2b h4
 simp only at hi hO hA;simp at h1 h2 h3 h2b h4;by_cases hend:i=gs.length
 ·subst hend;rw[funK_all]at hO;have hdec:decide ((gs.length:Int)<(gs.length:Int))=false:=by simp
  have hf1:=hfz σ hA;have hf2:=frK_prog 7 hO;rw[yr]at hf2;have hff:zK 12 0 σ (.agg [av,.mslice F 0 gs.length 4])= .agg [.slice .plain 2 (ars.map zH),.slice .plain 4 ((gs.map zAb).map zl)]:=by
   rw[zK];simp only[yv,yxa];rw[hf1,hf2];rfl
  have hfi:zK 12 0 σ (.int .i64 0)= .int .i64 0:=rfl;have hwf0:zd.wf 0 []=true:=rfl;rw[List.map_map]at hff;have hpl:zO 0 (gs.map (zl ∘ zAb))=true:=by
   rw[<-List.map_map];exact ztb _ _ _ (fun x=>by simp[zl,parsV,zg])
  clear hok hO hA hfz hf1 hf2;simp[*,finD]
 ·have hlt:i<gs.length:=by omega
  obtain⟨g,hg⟩:∃g,gs[i]? =some g:=⟨_,yf hlt⟩
  have hgok:=hok g (yR hg);have hqi:i<qs.length:=by rw[hO.len,funK_len gs hi];exact hlt
  obtain⟨q,hq⟩:∃q,qs[i]? =some q:=⟨_,yf hqi⟩
  have hgk:(funK gs i)[i]? =some g:=by rw[funK_get gs hlt];exact hg
  have hRi:=openFs_get hgk hq;have hR:=hO.row;have hset:=openFs_set hO.len (zAb g) hq;rw[funK_set gs hg]at hset;have hpar:=hO.par i g q hgk hq;have hchg:=fun σ'=>hO.change (σ':=σ') (f:=zAb g) hgk hq (by simp[zAb])
  rw[funK_set gs hg]at hchg;have hdec:decide (i<gs.length)=true:=decide_eq_true hlt;have hw1:zA .i64 ((i:Int)+1)=(i:Int)+1:=by rw[zi]<;>omega
  obtain⟨hsz,⟨c,hc,hcb,hnv⟩,hpn⟩:=hgok;have hl:=lets_spec (wtSs g.body) g.body (ye _) (by omega);have hst:=nstmts_spec c hcb (wtSs g.body) g.body (ye _) (by omega) hnv;have hfr:=first_x c hcb [];obtain⟨gn,gt,ps,gb⟩:=g;simp only at hc hcb hnv hl hst hpn hpar;have hln:((ps.length:Int)+((zTb gb).length:Int))=(c:Int):=by omega
  have hwc:zA .i64 (c:Int)=(c:Int):=by rw[zi]<;>omega
  generalize zX (funK gs i) qs=R at*;by_cases hps:ps=[]
  ·subst hps;simp[zlb,zg]at hRi;simp[zg]at hl hst;have hX:namV c= .slice .plain 1 (((yD c).map nthM).map .str):=rfl;rw[hX]at hst;simp at hst hfr hln;have HK:Nonempty (PLift (F<σ.length/\σ[F]? =some (.arr 4 R)/\R.set i (zlb (zAb ⟨gn,gt,[],gb⟩) q)=zX (funK gs (i+1)) qs/\ArrOk σ F qs ars)):=⟨⟨(ya.1 hR).1,hR,hset,hA⟩⟩
   have HC:=Nonempty.intro (PLift.up hchg);clear hok hO hchg hpar hset hA hfz hg hgk hq hqi hsz hc hcb hnv hpn hX;simp[*];refine zU K12_0 B12_0 (fun _:Unit=>0) (fun _=>[(45,.int .i64 0)]) (fun _=>[]) (fun _=>σ) (fun _=>True) () ⟨by simp,by simp,by simp,trivial⟩ ?_
   rintro⟨⟩ s2-q1 q2 q3 q4 q5
   simp at q1 q2 q3 q4 q5;simp[*];obtain⟨⟨HK1,HK2,HK3,HK4⟩⟩:=HK;obtain⟨⟨hchg⟩⟩:=HC;refine⟨i+1,by omega,by simp,by omega,?_,?_⟩
   ·refine hchg _ ?_ (fun h=>absurd rfl h) (fun j hj _=>by rw[yl (Ne.symm hj)]);rw[ym (by simpa using HK1),<-HK3];rfl
   ·intro hne;obtain⟨A1,A2,A3⟩:=HK4 hne;exact⟨by rw[yl A2];exact A1,A2,A3⟩
  ·obtain⟨hq1,hqne⟩:=hpar hps;have hX:namV c= .slice .plain 1 (((yD c).map nthM).map .str):=rfl;rw[hX]at hst;simp[zlb,hps,zg]at hRi;simp[zg]at hl hst;simp at hst hfr hln;have hpc:ps.length<=c:=by omega
   have HK:Nonempty (PLift (F<σ.length/\σ[F]? =some (.arr 4 R)/\R.set i (zlb (zAb ⟨gn,gt,ps,gb⟩) q)=zX (funK gs (i+1)) qs/\ArrOk σ F qs ars/\q∈qs)):=⟨⟨(ya.1 hR).1,hR,hset,hA,yR hq⟩⟩
   have HC:=Nonempty.intro (PLift.up hchg);have hz2:ps.length<200000000001:=by omega
   clear hok hO hchg hpar hset hA hfz hg hgk hq hqi hsz hc hcb hnv hX;have HQ:Nonempty (PLift (σ[q]? =some (.arr 2 (ps.map encPar))/\ps.length<=c/\ps.length<200000000001/\(∀i p,ps[i]? =some p->p.name=newN i)/\ps≠ [])):=⟨⟨hq1,hpc,hz2,hpn,hps⟩⟩
   clear hq1 hpc hz2 hpn hps;simp[*];obtain⟨⟨hq1,hpc,hz2,hpn,hps⟩⟩:=HQ;have hql:=(ya.1 hq1).1;refine zU K12_0 B12_0 (fun k:Nat=>ps.length-k) (fun k=>[(45,.int .i64 k)]) (fun _=>[]) (fun k=>σ.set q (.arr 2 ((parK ps k).map encPar))) (fun k=>k<=ps.length) 0 ⟨by simp,by simp,by simp[parK_zero,set_same hq1],by omega⟩ ?_;intro k s2 hk q1 q2 q3 q4 q5;simp at q1 q2 q3 q4 q5;have hSF:(σ.set q (.arr 2 ((parK ps k).map encPar)))[F]? =some (.arr 4 R):=by rw[yl hqne];exact hR
   have hSq:(σ.set q (.arr 2 ((parK ps k).map encPar)))[q]? =some (.arr 2 ((parK ps k).map encPar)):=ym (by simpa using hql);by_cases hke:k=ps.length
   ·subst hke;rw[parK_all]at q5 hSF hSq;have kdec:decide (ps.length<ps.length)=false:=by simp
    have HQ:Nonempty (PLift (ps≠ []/\σ[q]? =some (.arr 2 (ps.map encPar))/\F≠q/\q<σ.length/\(σ.set q (.arr 2 ((ps.map zWc).map encPar)))[q]? =some (.arr 2 ((ps.map zWc).map encPar)))):=⟨⟨hps,hq1,fun e=>hqne e.symm,hql,hSq⟩⟩
    generalize hS:σ.set q (.arr 2 ((ps.map zWc).map encPar))=S at*;have HS:Nonempty (PLift (σ.set q (.arr 2 ((ps.map zWc).map encPar))=S)):=⟨⟨hS⟩⟩
    clear hS hSq hq1 hpc hz2 hpn hps hql hqne hR;simp[*];obtain⟨⟨HK1,HK2,HK3,HK4,HK5⟩⟩:=HK;obtain⟨⟨hchg⟩⟩:=HC;obtain⟨⟨hps,hq1,hFq,hql,hSq⟩⟩:=HQ;obtain⟨⟨hS⟩⟩:=HS;refine⟨i+1,by omega,by simp,by omega,?_,?_⟩
    ·refine hchg _ ?_ (fun _=>?_) (fun j hj hjq=>?_)
     ·rw[ym (by rw[<-hS];simpa using HK1),<-HK3];simp[zlb,zAb,hps,zg]
     ·rw[yl hFq];exact hSq
     ·rw[yl (Ne.symm hj),<-hS,yl (fun e=>hjq hps e.symm)]
    ·intro hne;obtain⟨A1,A2,A3⟩:=HK4 hne;exact⟨by rw[yl A2,<-hS,yl (A3 q HK5)];exact A1,A2,A3⟩
   ·have hkl:k<ps.length:=by omega
    obtain⟨⟨pn,pt⟩,hp⟩:∃p,ps[k]? =some p:=⟨_,yf hkl⟩
    have hpk:=hpn k _ hp;simp only at hpk;have hAk:((parK ps k).map encPar)[k]? =some (.agg [.str pn,.int .i64 pt]):=by
     rw[yo,parK_get ps hkl,hp];rfl
    have hAs:∀A,A=(parK ps k).map encPar->(σ.set q (.arr 2 A)).set q (.arr 2 (A.set k (.agg [.str (nthM k),.int .i64 pt])))=σ.set q (.arr 2 ((parK ps (k+1)).map encPar)):=by
     rintro A rfl
     rw[yWa,<-parK_set ps hp,List.map_set];have:numM pn=nthM k:=by rw[hpk];exact zid (by omega)
     simp[encPar,zWc,this]
    have hkc:k<c:=by omega
    have kdec:decide (k<ps.length)=true:=decide_eq_true hkl;have kw1:zA .i64 ((k:Int)+1)=(k:Int)+1:=by rw[zi]<;>omega
    have hAs:=hAs _ rfl;generalize hA0:(parK ps k).map encPar=A at*;generalize hS:σ.set q (.arr 2 A)=S at*;have HQ:Nonempty (PLift (k<=ps.length)):=⟨⟨hk⟩⟩
    clear hA0 hS hq1 hpc hz2 hpn hps hql hqne hR hp hpk hk hke;simp[*];obtain⟨⟨hk⟩⟩:=HQ;exact⟨k+1,by omega,by simp,rfl,by omega⟩
end PE.U

namespace PE.U
open Go PE
def inO(c n:Nat)(row:List PV):zd:=cobj c::(if n=0 then[]else yya (n-1) (.dead 2)++[.arr 2 row])
def parO(L n:Nat):PV:=if n=0 then .slice .fit 2 []else .mslice (L+n) 0 n 2
theorem inO_len(c n:Nat)(row:List PV):(inO c n row).length=n+1:=by
 unfold inO;split
 ·rename_i h;subst h;rfl
 ·simp;omega
theorem sin_len(σ:zd)(c n:Nat)(row:List PV):(σ++inO c n row).length=σ.length+n+1:=by rw[yi,inO_len];omega
theorem sin_row(σ:zd)(c:Nat){n:Nat}(row:List PV)(h:n≠0):(σ++inO c n row)[σ.length+n]? =some (.arr 2 row):=by
 rw[yg (by omega),show σ.length+n-σ.length=n by omega];unfold inO;rw[if_neg h];obtain⟨m,rfl⟩:∃m,n=m+1:=⟨n-1,by omega⟩
 simp
theorem sin_next(σ:zd)(c n:Nat)(row row':List PV):(if n=0 then σ++inO c n row else(σ++inO c n row).set (σ.length+n) (.dead 2))++[.arr 2 row']=σ++inO c (n+1) row':=by
 by_cases h:n=0
 ·subst h;simp[inO]
 ·rw[if_neg h,yda _ _ (by omega),show σ.length+n-σ.length=n by omega,yO];congr 1;obtain⟨m,rfl⟩:∃m,n=m+1:=⟨n-1,by omega⟩
  unfold inO;rw[if_neg (by omega),if_neg (by omega)];simp[List.replicate_succ']
theorem sin_cst(σ:zd)(c c' n:Nat)(row:List PV):cst (σ++inO c n row) σ.length c'=σ++inO c' n row:=by
 unfold cst;rw[yda _ _ (ye _),Nat.sub_self];rfl
theorem sin_first(σ:zd)(row:List PV):σ++[.arr 1 [.agg [.int .i64 0]]]=σ++inO 0 0 row:=rfl
theorem append_keep6{σ τ:zd}(i:Nat)(o:Obj)(h:σ[i]? =some o):(σ++τ)[i]? =some o:=by
 rw[yh (ya.1 h).1];exact h
def RenD(p:Prog)(r:CRes)(st:zd):Prop:=∃F qs,r= .ret (.tup [.agg [zZ p.arrays,accF F p.funcs.length],.int .i64 0])/\OpenA st F (p.funcs.map renF) qs
set_option maxHeartbeats 8000000 in
theorem rrenU_spec(p:Prog)(hz:PSz p)(hfn:p.funcs≠ [])(h0:(zbb p).1=0):PC (zj E 30 [ze p] []) (RenD p):=by
 refine zXa rfl rfl rfl (by simp[ze]) ?_;have hc:=rcheckP_spec p hz;generalize zbb p=q at*;obtain⟨e,n⟩:=q;simp only at h0;subst h0;obtain⟨ars,fs⟩:=p;obtain⟨z1,z2,z3⟩:=hz;simp only at z1 z2 z3 hfn;have hra:ars.length*24<=zn:=by simp only[zn];omega
 simp[zza,ze,zZ,funcs]at hc;simp[*,F30,ze,zZ,funcs];clear hc;refine aS (fun v=>some (.undef,.cells [v,.slice .fit 4 []],[])) ?_;simp;refine zU K30_1 B30_1 (fun q:List Func×zd×Nat×List Nat=>fs.length-q.1.length) (fun q=>[(7,.int .i64 q.1.length)]) (fun q=>[(6,.cells [acc 2 (ars.map zH),accF q.2.2.1 q.1.length])]) (fun q=>q.2.1)
  (fun q=>q.1.length<=fs.length/\q.1=fs.take q.1.length/\OpenA q.2.1 q.2.2.1 (q.1.map renF) q.2.2.2) ([],[],1,[]) ⟨by simp,by simp[accF],by simp,by simp,by simp,.inl ⟨rfl,rfl⟩⟩ ?_
 rintro⟨d,σ,F,qs⟩ s1 ⟨hdl,hdt,hO⟩ h1 h2 h3 h2b h4
 simp only at hdl hdt hO;simp at h1 h2 h3 h2b h4;by_cases hend:d.length=fs.length
 ·have hdd:d=fs:=by rw[hdt,hend,List.take_length]
  subst hdd;have hdec:decide (d.length<d.length)=false:=by simp
  replace hO:=Nonempty.intro (PLift.up hO);have hac:accF F d.length= .mslice F 0 d.length 4:=by
   unfold accF;rw[if_neg (by simpa using hfn)]
  clear z3 hdt;simp[*,RenD];obtain⟨⟨hO⟩⟩:=hO;exact⟨F,by simp[hac,zZ],qs,hO⟩
 ·have hlt:d.length<fs.length:=by omega
  obtain⟨x,hx⟩:∃x,fs[d.length]? =some x:=⟨_,yf hlt⟩
  have hmem:=yR hx;have hzx:=z3 x hmem;have hdt2:d++[x]=fs.take (d++[x]).length:=by
   rw[yi,yH,yPa,<-hdt,hx];rfl
  have hdec:decide (d.length<fs.length)=true:=decide_eq_true hlt;have hw1:zA .i64 ((d.length:Int)+1)=(d.length:Int)+1:=by rw[zi]<;>omega
  have hroom:(d.length+1)*72<=zn:=by simp only[zn];omega
  have h72:72<=zn:=by simp only[zn];omega
  have h24:24<=zn:=by simp only[zn];omega
  obtain⟨fnm,fty,ps,body⟩:=x;simp only at hzx;have hrl:=zXc ps [] 0;simp only[yn]at hrl;have hbk:∀row,zj E 58 [.ptr σ.length 0 0,zg body,prs (zy ps [] 0).2.1] (σ++inO (zy ps [] 0).2.2 ps.length row)=some (.ret (zg (renB body (zy ps [] 0).2.1 (zy ps [] 0).2.2).1),σ++inO (renB body (zy ps [] 0).2.1 (zy ps [] 0).2.2).2.2 ps.length row):=by
   intro row;have:=rblock_spec (wtSs body) body (zy ps [] 0).2.1 (zy ps [] 0).2.2 (σ++inO 0 ps.length row) σ.length (ye _) (by omega) (by omega) (by omega) (by rw[sin_len];omega);rwa[sin_cst,sin_cst]at this
  have hnx:∀c n row,c<=9000000000000->zj E 57 [.ptr σ.length 0 0] (σ++inO c n row)=some (.ret (.str (newN c)),σ++inO (c+1) n row):=by
   intro c n row hc;have:=next_spec (σ:=σ++inO 0 n row) (j:=σ.length) (by rw[sin_len];omega) c hc;rwa[sin_cst,sin_cst]at this
  have hren:renF ⟨fnm,fty,ps,body⟩=⟨fnm,fty,(zy ps [] 0).1,(renB body (zy ps [] 0).2.1 (zy ps [] 0).2.2).1⟩:=rfl;have hin0:σ++[.arr 1 [.agg [.int .i64 0]]]=σ++inO 0 0 []:=sin_first σ [];have HK:Nonempty (PLift (OpenA σ F (d.map renF) qs/\d++[⟨fnm,fty,ps,body⟩]=fs.take (d++[(⟨fnm,fty,ps,body⟩:Func)]).length/\d.length<fs.length)):=⟨⟨hO,hdt2,hlt⟩⟩
  clear hO hdt2 hlt hmem hdt z3;simp[*,zl,parsV,zg];refine zTc ps K30_0 B30_0 (fun e=>[(11,acc 2 ((zy e [] 0).2.1.map encPr).reverse),(12,.int .i64 e.length)]) (fun e=>[(10,.cells [.str fnm,.int .i64 fty,parO σ.length e.length,.slice .fit 6 []])]) (fun e=>σ++inO (zy e [] 0).2.2 e.length ((zy e [] 0).1.map encPar)) (fun _=>True) (by omega) ?_ ?_ ?_
  ·simp[zy,parO,inO]
  ·intro e y r' s2 kl klt kget kget' kw1 kp k1 k2 k3 k4 k5;simp at k1 k2 k3 k4 k5;have hps:=zXc e [] 0;have hap:=renPs_append e [y] [] 0;rw[hap];generalize zy e [] 0=q at*;obtain⟨po,N0,c0⟩:=q;simp only[yn]at hps hap;have kdec:decide (e.length<ps.length)=true:=decide_eq_true klt;have hr2:(N0.length+1)*32<=zn:=by simp only[zn];omega
   have hr1:(e.length+1)*24<=zn:=by simp only[zn];omega
   have hpl:(po.map encPar).length=e.length:=by rw[yr];exact hps.1
   have hnx1:=hnx c0 e.length (po.map encPar) (by omega);obtain⟨ynm,yty⟩:=y;simp only[zy];have hrow:=sin_row σ (c0+1) (n:=e.length) (po.map encPar);have hnxt:=fun row'=>sin_next σ (c0+1) e.length (po.map encPar) row'
   have hexp:parO σ.length (e.length+1)= .mslice (σ++inO (c0+1) e.length (po.map encPar)).length 0 (e.length+1) 2:=by
    unfold parO;rw[if_neg (by omega),sin_len];rfl
   have hsl:=sin_len σ (c0+1) e.length (po.map encPar);have hps2:(po.map encPar).map stripA=po.map encPar:=by
    rw[List.map_map];refine List.map_congr_left fun p _=>?_
    simp[encPar,stripA,strip]
   generalize newN c0=nw at*;clear hnx hbk hap hren kl hzx hdec h1 h3 h4 h2b hrl hin0 HK;simp only at k3 k4 k5;rw[yca];generalize po.map encPar=A at*;generalize hS1:σ++inO (c0+1) e.length A=S1 at*;generalize hS0:σ++inO c0 e.length A=S0 at*;simp only[yi,yH];rw[hexp];by_cases he:e.length=0
   ·have hpo:parO σ.length e.length= .slice .fit 2 []:=by rw[he];rfl
    have hA:A=[]:=yaa.1 (by omega);have hnx2:∀row',σ++inO (c0+1) (e.length+1) row'=S1++[.arr 2 row']:=fun row'=>by
     have:=hnxt row';rw[if_pos he]at this;exact this.symm
    rw[hpo]at k4;rw[hnx2,hA];have HE:Nonempty (PLift (e.length=0)):=⟨⟨he⟩⟩
    clear hnxt hnx2 hrow he hexp hpo hS1 hS0 hsl hps hpl;simp[*,encPar,encPr];obtain⟨⟨he⟩⟩:=HE;exact yaa.1 he
   ·have hpo:parO σ.length e.length= .mslice (σ.length+e.length) 0 e.length 2:=by unfold parO;rw[if_neg he]
    have hrow:=hrow he;have hpos:0<e.length:=by omega
    have htk:A.take e.length=A:=yy (by omega);have hnx2:∀row',σ++inO (c0+1) (e.length+1) row'=S1.set (σ.length+e.length) (.dead 2)++[.arr 2 row']:=fun row'=>by
     have:=hnxt row';rw[if_neg he]at this;exact this.symm
    rw[hpo]at k4;rw[hnx2];clear hnxt hnx2 he hexp hpo hS1 hS0 hsl hps;simp[*,encPar,encPr]
  ·intro s2 kp k1 k2 k3 k4 k5;simp at k1 k2 k3 k4 k5;obtain⟨⟨hO,hdt2,hlt⟩⟩:=HK;have hbk:=hbk ((zy ps [] 0).1.map encPar);have hpl:(renF ⟨fnm,fty,ps,body⟩).params.length=ps.length:=hrl.1;have hpe:((renF ⟨fnm,fty,ps,body⟩).params=[])<->ps.length=0:=by rw[<-yaa,hpl]
   have hrow:=sin_row σ (renB body (zy ps [] 0).2.1 (zy ps [] 0).2.2).2.2 (n:=ps.length) ((zy ps [] 0).1.map encPar);have hsl:=sin_len σ (renB body (zy ps [] 0).2.1 (zy ps [] 0).2.2).2.2 ps.length ((zy ps [] 0).1.map encPar);have hkeep:∀(i:Nat) o,σ[i]? =some o->(σ++inO (renB body (zy ps [] 0).2.1 (zy ps [] 0).2.2).2.2 ps.length ((zy ps [] 0).1.map encPar))[i]? =some o:=fun i o=>append_keep6 i o
   have hnxO:=hO.snoc (σ1:=σ++inO (renB body (zy ps [] 0).2.1 (zy ps [] 0).2.2).2.2 ps.length ((zy ps [] 0).1.map encPar)) (renF ⟨fnm,fty,ps,body⟩) (σ.length+ps.length) hkeep (by omega) (by omega) (fun hy=>hrow (fun e=>hy (hpe.2 e)));have hmr:(d++[(⟨fnm,fty,ps,body⟩:Func)]).map renF=d.map renF++[renF ⟨fnm,fty,ps,body⟩]:=by simp
   rw[<-hmr]at hnxO;have hln:(zX (d.map renF) qs).length=d.length:=by
    rcases hO with⟨a,b⟩|⟨_,hO⟩
    ·rw[b];simp at a;simp[zX,a]
    ·rw[openFs_len hO.len];simp
   have hL0:d=[]->zX (d.map renF) qs=[]:=fun h=>by subst h;exact yaa.1 hln
   have hτF:d≠ []->(σ++inO (renB body (zy ps [] 0).2.1 (zy ps [] 0).2.2).2.2 ps.length ((zy ps [] 0).1.map encPar))[F]? =some (.arr 4 (zX (d.map renF) qs)):=by
    intro hd;rcases hO with⟨a,b⟩|⟨_,hO⟩
    ·simp at a;exact absurd a hd
    ·exact hkeep _ _ hO.row
   have hRs:=zhd (d.map renF) qs;have hof:zlb (renF ⟨fnm,fty,ps,body⟩) (σ.length+ps.length)= .agg [.str fnm,.int .i64 fty,canon1 (parO σ.length ps.length),zg (renB body (zy ps [] 0).2.1 (zy ps [] 0).2.2).1]:=by
    unfold zlb parO;by_cases h:ps.length=0
    ·rw[if_pos (hpe.2 h),if_pos h];rfl
    ·rw[if_neg (fun e=>h (hpe.1 e)),if_neg h,hpl];rfl
   have hwr:nextO (σ++inO (renB body (zy ps [] 0).2.1 (zy ps [] 0).2.2).2.2 ps.length ((zy ps [] 0).1.map encPar)) F (d.map renF) qs (renF ⟨fnm,fty,ps,body⟩) (σ.length+ps.length)=if d=[]then(σ++inO (renB body (zy ps [] 0).2.1 (zy ps [] 0).2.2).2.2 ps.length ((zy ps [] 0).1.map encPar))++[.arr 4 [zlb (renF ⟨fnm,fty,ps,body⟩) (σ.length+ps.length)]]else(σ++inO (renB body (zy ps [] 0).2.1 (zy ps [] 0).2.2).2.2 ps.length ((zy ps [] 0).1.map encPar)).set F (.dead 4)++[.arr 4 (zX (d.map renF) qs++[zlb (renF ⟨fnm,fty,ps,body⟩) (σ.length+ps.length)])]:=by
    unfold nextO;by_cases hd:d=[]
    ·rw[if_pos hd,if_pos (by simpa using hd),hL0 hd];rfl
    ·rw[if_neg hd,if_neg (by simpa using hd)]
   rw[hof]at hwr;have hp1:stripA (parO σ.length ps.length)=canon1 (parO σ.length ps.length):=by unfold parO;split<;>rfl
   have hp2:canon1 (strip (parO σ.length ps.length))=canon1 (parO σ.length ps.length):=by unfold parO;split<;>rfl
   have hp3:canon1 (canon1 (parO σ.length ps.length))=canon1 (parO σ.length ps.length):=by unfold parO;split<;>rfl
   have hp4:strip (canon1 (parO σ.length ps.length))=canon1 (parO σ.length ps.length):=by unfold parO;split<;>rfl
   have hp5:strip (parO σ.length ps.length)=parO σ.length ps.length:=by unfold parO;split<;>rfl
   generalize zy ps [] 0=q0 at*;obtain⟨po,N0,c0⟩:=q0;simp only at hbk k3 k4 k5 hwr hnxO hL0 hτF hsl;generalize renB body N0 c0=q1 at*;obtain⟨bo,N1,c1⟩:=q1;simp only at hbk hwr hnxO hL0 hτF hsl;generalize zX (d.map renF) qs=R at*;generalize σ++inO c1 ps.length (po.map encPar)=τ at*;generalize σ++inO c0 ps.length (po.map encPar)=S0 at*;generalize parO σ.length ps.length=pv0 at*;generalize hpv:canon1 pv0=pv at*;generalize hσ2:nextO τ F (d.map renF) qs (renF ⟨fnm,fty,ps,body⟩) (σ.length+ps.length)=σ2 at*;have HN:Nonempty (PLift (OpenA σ2 τ.length ((d++[(⟨fnm,fty,ps,body⟩:Func)]).map renF) (qs++[σ.length+ps.length])/\d++[(⟨fnm,fty,ps,body⟩:Func)]=fs.take (d++[(⟨fnm,fty,ps,body⟩:Func)]).length/\d.length<fs.length)):=⟨⟨hnxO,hdt2,hlt⟩⟩
   have hwrN:=Nonempty.intro (PLift.up hwr);simp[prs,zg]at hbk;clear hnxO hdt2 hO hσ2 hmr hkeep hrow hpe hpl hof hren hnx hin0 hrl hzx hwr hsl h1 h3 hlt;by_cases hd0:d=[]
   ·have hacc:accF F d.length= .slice .fit 4 []:=by rw[hd0];rfl
    rw[hacc]at h2b;have HZ:Nonempty (PLift (d=[])):=⟨⟨hd0⟩⟩
    clear hd0 hL0 hτF hacc hln;simp[*];obtain⟨⟨HN1,HN2,HN3⟩⟩:=HN;obtain⟨⟨hd0⟩⟩:=HZ;obtain⟨⟨hwr⟩⟩:=hwrN;rw[if_pos hd0]at hwr;refine⟨d++[⟨fnm,fty,ps,body⟩],by simp;omega,by simp,_,τ.length,by simp[accF,hd0],rfl,by simp;omega,HN2,qs++[σ.length+ps.length],?_⟩;simp only[zg]at hwr;rw[<-hwr];exact HN1
   ·have hacc:accF F d.length= .mslice F 0 d.length 4:=by unfold accF;rw[if_neg (by simpa using hd0)]
    rw[hacc]at h2b;have hpos:0<d.length:=yha.2 hd0;have hτ:=hτF hd0;have htk:R.take d.length=R:=yy (by omega);have hRl:(0+d.length<=R.length)=True:=eqp (by omega);have HZ:Nonempty (PLift (¬d=[])):=⟨⟨hd0⟩⟩
    clear hd0 hL0 hτF hacc;simp[*];obtain⟨⟨HN1,HN2,HN3⟩⟩:=HN;obtain⟨⟨hd0⟩⟩:=HZ;obtain⟨⟨hwr⟩⟩:=hwrN;rw[if_neg hd0]at hwr;refine⟨d++[⟨fnm,fty,ps,body⟩],by simp;omega,by simp,_,τ.length,by simp[accF],rfl,by simp;omega,HN2,qs++[σ.length+ps.length],?_⟩;simp only[zg]at hwr;rw[<-hwr];exact HN1
open PE.R (nthK fromK)
set_option maxHeartbeats 8000000 in
theorem rnames_ok(p:Prog)(hz:PSz p)(hfn:p.funcs≠ [])(h0:(zbb p).1=0)(hok:∀g∈p.funcs.map renF,ShOk g):
  zj E 13 [ze p] []=some (.ret (.tup [ze ⟨p.arrays,(p.funcs.map renF).map zAb⟩,.int .i64 0]),[]):=by
 refine pcall_wpD rfl rfl rfl (by simp[ze]) ?_;have hr:=rrenU_spec p hz hfn h0;rw[zfd]at hr;obtain⟨r,st,he,F,qs,rfl,hO⟩:=hr;obtain⟨z1,z2,z3⟩:=hz;have hO:OpenP st F (p.funcs.map renF) qs:=by
  rcases hO with⟨a,_⟩|⟨_,h⟩
  ·simp at a;exact absurd a hfn
  ·exact h
 have hac:accF F p.funcs.length= .mslice F 0 p.funcs.length 4:=by
  unfold accF;rw[if_neg (by simpa using hfn)]
 rw[hac]at he;obtain⟨ars,fs⟩:=p;simp only at he hO hfn z2 hok ⊢;generalize hG:fs.map renF=gs at*;have hgl:gs.length=fs.length:=by rw[<-hG];simp
 rw[<-hgl]at he z2;clear hG hac hfn z3 h0;simp[ze,zZ,funcs]at he;clear hgl;simp[*,F13,ze,zZ,funcs];clear he;refine zU K13_1 B13_1 (fun q:Nat×zd=>gs.length-q.1) (fun q=>[(6,.int .i64 q.1)]) (fun _=>[]) (fun q=>q.2) (fun q=>q.1<=gs.length/\OpenP q.2 F (funK gs q.1) qs) (0,st) ⟨by simp,by simp,by simp,by simp,by rw[funK_zero];exact hO⟩ ?_;clear hO
 rintro⟨i,σ⟩ s1 ⟨hi,hO⟩ h1 h2 h3 h2b h4
 simp only at hi hO;simp at h1 h2 h3 h2b h4;by_cases hend:i=gs.length
 ·subst hend;rw[funK_all]at hO;have hf2:=frK_prog 7 hO;rw[yr]at hf2;have hff:zK 12 0 σ (.agg [.slice .plain 2 (ars.map zH),.mslice F 0 gs.length 4])= .agg [.slice .plain 2 (ars.map zH),.slice .plain 4 ((gs.map zAb).map zl)]:=by
   rw[zK];simp only[yv,yxa];rw[hf2];rfl
  have hfi:zK 12 0 σ (.int .i64 0)= .int .i64 0:=rfl;have hwf0:zd.wf 0 []=true:=rfl;rw[List.map_map]at hff;have hpl:zO 0 (gs.map (zl ∘ zAb))=true:=by
   rw[<-List.map_map];exact ztb _ _ _ (fun x=>by simp[zl,parsV,zg])
  clear hok hO hf2;simp[*,finD]
 ·have hlt:i<gs.length:=by omega
  obtain⟨g,hg⟩:∃g,gs[i]? =some g:=⟨_,yf hlt⟩
  have hgok:=hok g (yR hg);have hqi:i<qs.length:=by rw[hO.len,funK_len gs hi];exact hlt
  obtain⟨q,hq⟩:∃q,qs[i]? =some q:=⟨_,yf hqi⟩
  have hgk:(funK gs i)[i]? =some g:=by rw[funK_get gs hlt];exact hg
  have hRi:=openFs_get hgk hq;have hR:=hO.row;have hset:=openFs_set hO.len (zAb g) hq;rw[funK_set gs hg]at hset;have hpar:=hO.par i g q hgk hq;have hchg:=fun σ'=>hO.change (σ':=σ') (f:=zAb g) hgk hq (by simp[zAb])
  rw[funK_set gs hg]at hchg;have hdec:decide (i<gs.length)=true:=decide_eq_true hlt;have hw1:zA .i64 ((i:Int)+1)=(i:Int)+1:=by rw[zi]<;>omega
  obtain⟨hsz,⟨c,hc,hcb,hnv⟩,hpn⟩:=hgok;have hst:=sstmts_spec c hcb (wtSs g.body) g.body (ye _) (by omega) hnv;obtain⟨gn,gt,ps,gb⟩:=g;simp only at hc hcb hnv hst hpn hpar;generalize zX (funK gs i) qs=R at*;by_cases hps:ps=[]
  ·subst hps;simp[zlb,zg]at hRi;simp[zg]at hst;have HK:Nonempty (PLift (F<σ.length/\σ[F]? =some (.arr 4 R)/\R.set i (zlb (zAb ⟨gn,gt,[],gb⟩) q)=zX (funK gs (i+1)) qs)):=⟨⟨(ya.1 hR).1,hR,hset⟩⟩
   have HC:=Nonempty.intro (PLift.up hchg);clear hok hO hchg hpar hset hg hgk hq hqi hsz hc hcb hnv hpn;simp[*];refine zU K13_0 B13_0 (fun _:Unit=>0) (fun _=>[(7,.int .i64 0)]) (fun _=>[]) (fun _=>σ) (fun _=>True) () ⟨by simp,by simp,by simp,trivial⟩ ?_
   rintro⟨⟩ s2-q1 q2 q3 q4 q5
   simp at q1 q2 q3 q4 q5;simp[*];obtain⟨⟨HK1,HK2,HK3⟩⟩:=HK;obtain⟨⟨hchg⟩⟩:=HC;refine⟨i+1,by omega,by simp,by omega,?_⟩;refine hchg _ ?_ (fun h=>absurd rfl h) (fun j hj _=>by rw[yl (Ne.symm hj)]);rw[ym (by simpa using HK1),<-HK3];rfl
  ·obtain⟨hq1,hqne⟩:=hpar hps;simp[zlb,hps,zg]at hRi;simp[zg]at hst;have hpc:ps.length<=c:=by omega
   have HK:Nonempty (PLift (F<σ.length/\σ[F]? =some (.arr 4 R)/\R.set i (zlb (zAb ⟨gn,gt,ps,gb⟩) q)=zX (funK gs (i+1)) qs)):=⟨⟨(ya.1 hR).1,hR,hset⟩⟩
   have HC:=Nonempty.intro (PLift.up hchg);have hz2:ps.length<200000000001:=by omega
   clear hok hO hchg hpar hset hg hgk hq hqi hsz hc hcb hnv;have HQ:Nonempty (PLift (σ[q]? =some (.arr 2 (ps.map encPar))/\ps.length<200000000001/\(∀i p,ps[i]? =some p->p.name=newN i)/\ps≠ [])):=⟨⟨hq1,hz2,hpn,hps⟩⟩
   clear hq1 hpc hz2 hpn hps;simp[*];obtain⟨⟨hq1,hz2,hpn,hps⟩⟩:=HQ;have hql:=(ya.1 hq1).1;refine zU K13_0 B13_0 (fun k:Nat=>ps.length-k) (fun k=>[(7,.int .i64 k)]) (fun _=>[]) (fun k=>σ.set q (.arr 2 ((parK ps k).map encPar))) (fun k=>k<=ps.length) 0 ⟨by simp,by simp,by simp[parK_zero,set_same hq1],by omega⟩ ?_;intro k s2 hk q1 q2 q3 q4 q5;simp at q1 q2 q3 q4 q5;have hSF:(σ.set q (.arr 2 ((parK ps k).map encPar)))[F]? =some (.arr 4 R):=by rw[yl hqne];exact hR
   have hSq:(σ.set q (.arr 2 ((parK ps k).map encPar)))[q]? =some (.arr 2 ((parK ps k).map encPar)):=ym (by simpa using hql);by_cases hke:k=ps.length
   ·subst hke;rw[parK_all]at q5 hSF hSq;have kdec:decide (ps.length<ps.length)=false:=by simp
    have HQ:Nonempty (PLift (ps≠ []/\σ[q]? =some (.arr 2 (ps.map encPar))/\F≠q/\q<σ.length/\(σ.set q (.arr 2 ((ps.map zWc).map encPar)))[q]? =some (.arr 2 ((ps.map zWc).map encPar)))):=⟨⟨hps,hq1,fun e=>hqne e.symm,hql,hSq⟩⟩
    generalize hS:σ.set q (.arr 2 ((ps.map zWc).map encPar))=S at*;have HS:Nonempty (PLift (σ.set q (.arr 2 ((ps.map zWc).map encPar))=S)):=⟨⟨hS⟩⟩
    clear hS hSq hq1 hz2 hpn hps hql hqne hR;simp[*];obtain⟨⟨HK1,HK2,HK3⟩⟩:=HK;obtain⟨⟨hchg⟩⟩:=HC;obtain⟨⟨hps,hq1,hFq,hql,hSq⟩⟩:=HQ;obtain⟨⟨hS⟩⟩:=HS;refine⟨i+1,by omega,by simp,by omega,?_⟩;refine hchg _ ?_ (fun _=>?_) (fun j hj hjq=>?_)
    ·rw[ym (by rw[<-hS];simpa using HK1),<-HK3];simp[zlb,zAb,hps,zg]
    ·rw[yl hFq];exact hSq
    ·rw[yl (Ne.symm hj),<-hS,yl (fun e=>hjq hps e.symm)]
   ·have hkl:k<ps.length:=by omega
    obtain⟨⟨pn,pt⟩,hp⟩:∃p,ps[k]? =some p:=⟨_,yf hkl⟩
    have hpk:=hpn k _ hp;simp only at hpk;have hAk:((parK ps k).map encPar)[k]? =some (.agg [.str pn,.int .i64 pt]):=by
     rw[yo,parK_get ps hkl,hp];rfl
    have hAs:∀A,A=(parK ps k).map encPar->(σ.set q (.arr 2 A)).set q (.arr 2 (A.set k (.agg [.str (nthM k),.int .i64 pt])))=σ.set q (.arr 2 ((parK ps (k+1)).map encPar)):=by
     rintro A rfl
     rw[yWa,<-parK_set ps hp,List.map_set];have:numM pn=nthM k:=by rw[hpk];exact zid (by omega)
     simp[encPar,zWc,this]
    have n1:=snumber_spec k (by omega);have n2:=nth_spec k (by omega);rw[<-hpk]at n1;have kdec:decide (k<ps.length)=true:=decide_eq_true hkl;have kw1:zA .i64 ((k:Int)+1)=(k:Int)+1:=by rw[zi]<;>omega
    have hAs:=hAs _ rfl;generalize hA0:(parK ps k).map encPar=A at*;generalize hS:σ.set q (.arr 2 A)=S at*;have HQ:Nonempty (PLift (k<=ps.length)):=⟨⟨hk⟩⟩
    clear hA0 hS hq1 hz2 hpn hps hql hqne hR hp hpk hk hke;simp[*];obtain⟨⟨hk⟩⟩:=HQ;exact⟨k+1,by omega,by simp,rfl,by omega⟩
end PE.U

namespace PE.U
open Go PE
inductive RV:Nm->List Vr->List Vr->Prop
 |nil:RV [] [] []
 |cons {N:Nm} {s s':List Vr} (o w:List UInt8) (t d:Int) (h:RV N s s'):RV ((o,w)::N) (⟨o,t,d⟩::s) (⟨w,t,d⟩::s')
section
variable {p:Prog} {N:Nm} {s s':List Vr} (h:RV N s s') (hN:(N.map (·.2)).Nodup)
include h hN
end
def NL(N:Nm):Prop:=∀x∈N.map (·.2),x.length<=12
theorem newN_len{c:Nat}(h:c<100000000000):(newN c).length<=12:=by
 have hl:=digF_len2 20 11 c (by omega) (by simpa using h);unfold newN zR;simp only[yj];omega
theorem NI.short{N:Nm}{c:Nat}(h:NI N c)(hc:c<100000000000):NL N:=by
 intro x hx;obtain⟨i,hi,rfl⟩:=h.2 x hx;exact newN_len (by omega)
theorem findN_len{N:Nm}(hv:NL N)(nm:List UInt8):1+(zLa nm N).length<=13*(1+nm.length):=by
 induction N with
 |nil=>simp only[zLa];omega
 |cons x r ih=>
  unfold zLa;split
  ·have:=hv x.2 (by simp);omega
  ·exact ih fun y hy=>hv y (by rw[yv,yB];exact .inr hy)
mutual
theorem wtE_ren{N:Nm}(hv:NL N):∀(e:Expr),wtE (renE N e)<=13*wtE e
 |⟨k,o,n,nm,ar⟩=>by
  have h1:=wtEs_ren hv ar;have h2:=findN_len hv nm;rw[renE,wtE,wtE];split<;>omega
theorem wtEs_ren{N:Nm}(hv:NL N):∀(l:List Expr),wtEs (zua N l)<=13*wtEs l
 | []=>by rw[zua,wtEs];omega
 |x::r=>by
  have h1:=wtE_ren hv x;have h2:=wtEs_ren hv r;rw[zua,wtEs,wtEs];omega
end
mutual
theorem wtS_ren:∀(s:Stmt) (N:Nm) (c:Nat),NI N c->c+wtS s<100000000000->wtS (renS s N c).1<=13*wtS s
 |⟨k,ty,nm,ar,th,el⟩,N,c,hN,hc=>by
  have hw:=zCa ⟨k,ty,nm,ar,th,el⟩;simp only at hw;have hN1:NI (if k=1 then(nm,newN c)::N else N) (if k=1 then c+1 else c):=by
   split
   ·exact hN.next (by omega) nm
   ·exact hN
  have hc1:(if k=1 then c+1 else c)<=c+1:=by split<;>omega
  have hb:=zib th (if k=1 then(nm,newN c)::N else N) (if k=1 then c+1 else c);have h1:=wtEs_ren (hN.short (by omega)) ar;have h2:=findN_len (hN1.short (by omega)) nm;have h3:=wtSs_ren th _ _ hN1 (by omega);have h4:=wtSs_ren el _ _ (hN1.le hb.2.1) (by omega);simp only[renS];rw[wtS,hw];split<;>omega
theorem wtSs_ren:∀(l:List Stmt) (N:Nm) (c:Nat),NI N c->c+wtSs l<100000000000->wtSs (renB l N c).1<=13*wtSs l
 | [],N,c,_,_=>by simp[renB,wtSs]
 |x::r,N,c,hN,hc=>by
  have hw:wtSs (x::r)=1+wtS x+wtSs r:=rfl;have hb:=renS_bd x N c;have h1:=wtS_ren x N c hN (by omega);have h2:=wtSs_ren r _ _ (ni_ren x N c hN (by omega)) (by omega);simp only[renB];rw[wtSs,hw];omega
end
def PSm(p:Prog):Prop:=p.arrays.length<1099509000000/\p.funcs.length<1099509000000/\∀f∈p.funcs,wtSs f.body<=80008000128/\f.params.length<=6400164
theorem psz_ren(p:Prog)(h:PSm p):PSz (renP p):=by
 obtain⟨h1,h2,h3⟩:=h;refine⟨h1,by show(p.funcs.map renF).length<_;simpa using h2,?_⟩;intro g hg;obtain⟨f,hf,rfl⟩:=List.mem_map.1 hg;have hl:=zXc f.params [] 0;have hb:=h3 f hf;have hw:=wtSs_ren f.body _ _ (ni_pars f.params [] 0 ⟨by simp,fun x h=>by simp at h⟩ (by omega)) (by omega);refine⟨?_,?_⟩
 ·show wtSs (renB f.body (zy f.params [] 0).2.1 (zy f.params [] 0).2.2).1<_
  omega
 ·show(zy f.params [] 0).1.length<_
  omega
open PE.R (nthK fromK)
theorem pren_bad(p:Prog)(hz:PSz p)(h0:¬(zbb p).1=0):zj E 27 [ze p] []=some (.ret (.tup [.agg [.slice .plain 2 [],.slice .plain 4 []],.int .i64 1]),[]):=by
 refine zc rfl rfl rfl (by simp[ze]) ?_;have hc:=check_spec p hz;generalize zbb p=q at*;obtain⟨e,n⟩:=q;simp only at h0;replace h0:=eqn h0;obtain⟨ars,fs⟩:=p;simp[zza,ze,zZ,funcs]at hc;simp[*,F27,ze,zZ,funcs]
theorem rren_bad(p:Prog)(hz:PSz p)(h0:¬(zbb p).1=0):zj E 30 [ze p] []=some (.ret (.tup [.agg [.slice .plain 2 [],.slice .plain 4 []],.int .i64 1]),[]):=by
 refine zc rfl rfl rfl (by simp[ze]) ?_;have hc:=rcheckP_spec p hz;generalize zbb p=q at*;obtain⟨e,n⟩:=q;simp only at h0;replace h0:=eqn h0;obtain⟨ars,fs⟩:=p;simp[zza,ze,zZ,funcs]at hc;simp[*,F30,ze,zZ,funcs]
theorem pnames_bad(p:Prog)(hz:PSz p)(h0:¬(zbb p).1=0):zj E 12 [ze p] []=some (.ret (.tup [ze ⟨[],[]⟩,.int .i64 1]),[]):=by
 refine pcall_wpD rfl rfl rfl (by simp[ze]) ?_;have hr:=pren_bad p hz h0;have hwf0:zd.wf 0 []=true:=rfl;have hfi:zK 12 0 [] (.int .i64 1)= .int .i64 1:=rfl;have hff:zK 12 0 [] (.agg [.slice .plain 2 [],.slice .plain 4 []])= .agg [.slice .plain 2 [],.slice .plain 4 []]:=rfl;obtain⟨ars,fs⟩:=p;simp[ze,zZ,funcs]at hr;clear h0 hz;simp[*,F12,ze,zZ,funcs,finD]
theorem rnames_bad(p:Prog)(hz:PSz p)(h0:¬(zbb p).1=0):zj E 13 [ze p] []=some (.ret (.tup [ze ⟨[],[]⟩,.int .i64 1]),[]):=by
 refine pcall_wpD rfl rfl rfl (by simp[ze]) ?_;have hr:=rren_bad p hz h0;have hwf0:zd.wf 0 []=true:=rfl;have hfi:zK 12 0 [] (.int .i64 1)= .int .i64 1:=rfl;have hff:zK 12 0 [] (.agg [.slice .plain 2 [],.slice .plain 4 []])= .agg [.slice .plain 2 [],.slice .plain 4 []]:=rfl;obtain⟨ars,fs⟩:=p;simp[ze,zZ,funcs]at hr;clear h0 hz;simp[*,F13,ze,zZ,funcs,finD]
theorem check_funcs{p:Prog}(hz:PSz p)(h0:(zbb p).1=0):p.funcs≠ []:=by
 obtain⟨f,hf,_⟩:=(checkT_ok hz h0).main;intro e;unfold zfc at hf;rw[e]at hf;cases hf
theorem psz_of_psm{p:Prog}(h:PSm p):PSz p:=by
 obtain⟨h1,h2,h3⟩:=h;exact⟨h1,h2,fun f hf=>by have:=h3 f hf;omega⟩
theorem ren_ok{p:Prog}(hm:PSm p)(h0:(zbb p).1=0):(∀g∈p.funcs.map renF,ShOk g)/\(p.funcs.map renF).map zAb=p.funcs.map shF:=by
 have hz:=psz_of_psm hm;have hsc:=check_sc p h0;have hzr:=psz_ren p hm;refine⟨fun g hg=>?_,?_⟩
 ·have hzg:=hzr.2.2 g hg;obtain⟨f,hf,rfl⟩:=List.mem_map.1 hg;have hzf:=hz.2.2 f hf;obtain⟨_,s2,s3,s4,s5⟩:=shortF_ren f hzf.1 hzf.2 (hsc f hf);have hmf:=hm.2.2 f hf;refine⟨by omega,⟨renC f,s4,?_,s2⟩,s3⟩;have hb:=zib f.body (zy f.params [] 0).2.1 (zy f.params [] 0).2.2;have hl:=zXc f.params [] 0;unfold renC;omega
 ·rw[List.map_map];refine List.map_congr_left fun f hf=>?_
  have hzf:=hz.2.2 f hf;exact(shortF_ren f hzf.1 hzf.2 (hsc f hf)).1
theorem pnames_spec(p:Prog)(hm:PSm p):zj E 12 [ze p] []=some (.ret (encRen (shM p)),[]):=by
 have hz:=psz_of_psm hm;unfold shM;by_cases h0:(zbb p).1=0
 ·rw[if_pos h0];obtain⟨a,b⟩:=ren_ok hm h0;have:=pnames_ok p hz (check_funcs hz h0) h0 a;rw[b]at this;exact this
 ·rw[if_neg h0];exact pnames_bad p hz h0
theorem rnames_spec(p:Prog)(hm:PSm p):zj E 13 [ze p] []=some (.ret (encRen (shM p)),[]):=by
 have hz:=psz_of_psm hm;unfold shM;by_cases h0:(zbb p).1=0
 ·rw[if_pos h0];obtain⟨a,b⟩:=ren_ok hm h0;have:=rnames_ok p hz (check_funcs hz h0) h0 a;rw[b]at this;exact this
 ·rw[if_neg h0];exact rnames_bad p hz h0
def shortN(n:Int):List UInt8:=if n<0\/n>20000 then[]else nthM n.toNat
theorem zGc(n:Int)(h0: -9223372036854775808<=n)(h1:n<=9223372036854775807):zj E 9 [.int .i64 n] []=some (.ret (.str (shortN n)),[]):=by
 refine zc rfl rfl rfl (by simp) ?_;unfold shortN;by_cases hn:n<0
 ·have c1:(n<0)=True:=eqp hn;simp[*,F9]
 ·have c1:(n<0)=False:=eqn hn;by_cases hm:n>20000
  ·have c2:(20000<n)=True:=eqp hm;simp[*,F9]
  ·have c2:(20000<n)=False:=eqn hm;obtain⟨k,rfl⟩:∃k:Nat,n=k:=⟨n.toNat,by omega⟩
   have hk:k<=20000:=by omega
   have hf:=first_x (k+1) (by omega) [];have hw:zA .i64 ((k:Int)+1)=(k:Int)+1:=by rw[zi]<;>omega
   have e1:(((k+1:Nat)):Int)=(k:Int)+1:=by omega
   rw[e1]at hf;have hlt:k<k+1:=by omega
   simp at hf;rw[if_neg (by omega),Int.toNat_natCast];clear hn hm h0 h1 e1;simp[*,F9]
theorem rname1_spec(n:Int)(h0: -9223372036854775808<=n)(h1:n<=9223372036854775807):zj E 10 [.int .i64 n] []=some (.ret (.str (shortN n)),[]):=by
 refine zc rfl rfl rfl (by simp) ?_;unfold shortN;by_cases hn:n<0
 ·have c1:(n<0)=True:=eqp hn;simp[*,F10]
 ·have c1:(n<0)=False:=eqn hn;by_cases hm:n>20000
  ·have c2:(20000<n)=True:=eqp hm;simp[*,F10]
  ·have c2:(20000<n)=False:=eqn hm;obtain⟨k,rfl⟩:∃k:Nat,n=k:=⟨n.toNat,by omega⟩
   have hk:k<=20000:=by omega
   have hf:=nth_spec k (by omega);rw[if_neg (by omega),Int.toNat_natCast];clear hn hm h0 h1;simp[*,F10]
end PE.U

namespace PE.U
open Go PE
section
variable {p:Prog} {N:Nm} {s s':List Vr} (h:RV N s s') (hN:(N.map (·.2)).Nodup)
include h hN
end
theorem NJ.short{N:Nm}{c:Nat}(h:NJ N c)(hc:c<100000000000):NL N:=by
 intro x hx;obtain⟨i,hi,rfl⟩:=h.2 x hx;exact nthM_len (by omega)
mutual
theorem wtS_renJ:∀(s:Stmt) (N:Nm) (c:Nat),NJ N c->c+wtS s<100000000000->wtS (shS s N c).1<=13*wtS s
 |⟨k,ty,nm,ar,th,el⟩,N,c,hN,hc=>by
  have hw:=zCa ⟨k,ty,nm,ar,th,el⟩;simp only at hw;have hN1:NJ (if k=1 then(nm,nthM c)::N else N) (if k=1 then c+1 else c):=by
   split
   ·exact hN.next (by omega) nm
   ·exact hN
  have hc1:(if k=1 then c+1 else c)<=c+1:=by split<;>omega
  have hb:=renB_bdJ th (if k=1 then(nm,nthM c)::N else N) (if k=1 then c+1 else c);have h1:=wtEs_ren (hN.short (by omega)) ar;have h2:=findN_len (hN1.short (by omega)) nm;have h3:=wtSs_renJ th _ _ hN1 (by omega);have h4:=wtSs_renJ el _ _ (hN1.le hb.2.1) (by omega);simp only[shS];rw[wtS,hw];split<;>omega
theorem wtSs_renJ:∀(l:List Stmt) (N:Nm) (c:Nat),NJ N c->c+wtSs l<100000000000->wtSs (shB l N c).1<=13*wtSs l
 | [],N,c,_,_=>by simp[shB,wtSs]
 |x::r,N,c,hN,hc=>by
  have hw:wtSs (x::r)=1+wtS x+wtSs r:=rfl;have hb:=renS_bdJ x N c;have h1:=wtS_renJ x N c hN (by omega);have h2:=wtSs_renJ r _ _ (ni_renJ x N c hN (by omega)) (by omega);simp only[shB];rw[wtSs,hw];omega
end
theorem psz_renJ(p:Prog)(h:PSm p):PSz (shP p):=by
 obtain⟨h1,h2,h3⟩:=h;refine⟨h1,by show(p.funcs.map shF).length<_;simpa using h2,?_⟩;intro g hg;obtain⟨f,hf,rfl⟩:=List.mem_map.1 hg;have hl:=renPs_lenJ f.params [] 0;have hb:=h3 f hf;have hw:=wtSs_renJ f.body _ _ (ni_parsJ f.params [] 0 ⟨by simp,fun x h=>by simp at h⟩ (by omega)) (by omega);refine⟨?_,?_⟩
 ·show wtSs (shB f.body (shPs f.params [] 0).2.1 (shPs f.params [] 0).2.2).1<_
  omega
 ·show(shPs f.params [] 0).1.length<_
  omega
set_option maxHeartbeats 2000000 in
theorem sameEs_self:∀(w:Nat) (l:List Expr),wtEs l<=w->w<1099511000000->zj E 71 [zf l,zf l] []=some (.ret (.bool true),[]):=by
 intro w
 induction w using yia with
 |_ w IH=>
 intro l h hw;refine zc rfl rfl rfl (by simp[zf]) ?_;have hlen:=zxb l;simp[F71,zf];refine zD l K71_0 B71_0 (fun d=>[(5,.int .i64 d.length)]) (fun _=>[]) (fun d=>True) (by omega) (by simp) ?_ ?_
 ·intros d x r s1 hl' hlt hget hget' hw1 hp h1 h2 h3 h4;simp at h1 h2 h3;have hwx:=zzb hl'.mem;have hwe:=zed x;have ih:=IH (wtEs x.args) (by omega) x.args (ye _) (by omega);have hdec:decide (d.length<l.length)=true:=decide_eq_true hlt;clear IH hl' hwx hwe h h2;simp[zf]at ih;simp[*,za,zf]
 ·intros s1 hp h1 h2 h3 h4;simp at h1 h2 h3;simp[*]
set_option maxHeartbeats 2000000 in
theorem sameSs_self:∀(w:Nat) (l:List Stmt),wtSs l<=w->w<1099511000000->zj E 37 [zg l,zg l] []=some (.ret (.bool true),[]):=by
 intro w
 induction w using yia with
 |_ w IH=>
 intro l h hw;refine zc rfl rfl rfl (by simp[zg]) ?_;have hlen:=zia l;simp[F37,zg];refine zD l K37_0 B37_0 (fun d=>[(5,.int .i64 d.length)]) (fun _=>[]) (fun d=>True) (by omega) (by simp) ?_ ?_
 ·intros d x r s1 hl' hlt hget hget' hw1 hp h1 h2 h3 h4;simp at h1 h2 h3;have hwx:=zmc hl'.mem;have hwe:=zCa x;have ih1:=IH (wtSs x.thn) (by omega) x.thn (ye _) (by omega);have ih2:=IH (wtSs x.els) (by omega) x.els (ye _) (by omega);have ie:=sameEs_self (wtEs x.args) x.args (ye _) (by omega);have hdec:decide (d.length<l.length)=true:=decide_eq_true hlt;clear IH hl' hwx hwe h h2;simp[zf,zg]at ih1 ih2 ie;simp[*,zb,zf,zg]
 ·intros s1 hp h1 h2 h3 h4;simp at h1 h2 h3;simp[*]
set_option maxHeartbeats 4000000 in
theorem same03_self(p:Prog)(hz:PSz p):zj E 16 [ze p,ze p] []=some (.ret (.bool true),[]):=by
 refine zc rfl rfl rfl (by simp[ze]) ?_;obtain⟨ars,fs⟩:=p;obtain⟨z1,z2,z3⟩:=hz;simp only at z1 z2 z3;simp[F16,ze,zZ,funcs];refine zD ars K16_0 B16_0 (fun d=>[(5,.int .i64 d.length)]) (fun _=>[]) (fun d=>True) (by omega) (by simp) ?_ ?_
 ·intros d x r s1 hl' hlt hget hget' hw1 hp h1 h2 h3 h4;simp at h1 h2 h3;have hdec:decide (d.length<ars.length)=true:=decide_eq_true hlt;clear hl' z3;obtain⟨nm,sz⟩:=x;simp[*,zH]
 ·intros s1 hp h1 h2 h3 h4;simp at h1 h2 h3;simp[*];refine zD fs K16_2 B16_2 (fun d=>[(6,.int .i64 d.length)]) (fun _=>[]) (fun d=>True) (by omega) (by simp) ?_ ?_
  ·intros d x r s2 hl' hlt hget hget' hw1 kp k1 k2 k3 k4;simp at k1 k2 k3;have hzx:=z3 x hl'.mem;have hdec:decide (d.length<fs.length)=true:=decide_eq_true hlt;obtain⟨fnm,fty,ps,body⟩:=x;simp only at hzx;have ib:=sameSs_self (wtSs body) body (ye _) (by omega);simp[zg]at ib;clear hl' z3;simp[*,zl,parsV,zg];refine zD ps K16_1 B16_1 (fun e=>[(9,.int .i64 e.length)]) (fun _=>[]) (fun e=>True) (by omega) (by simp) ?_ ?_
   ·intros e y r' s3 jl jlt jget jget' jw1 jp j1 j2 j3 j4;simp at j1 j2 j3;have jdec:decide (e.length<ps.length)=true:=decide_eq_true jlt;obtain⟨ynm,yty⟩:=y;clear jl hzx;simp[*,encPar]
   ·intros s3 jp j1 j2 j3 j4;simp at j1 j2 j3;simp[*]
  ·intros s2 kp k1 k2 k3 k4;simp at k1 k2 k3;simp[*]
theorem parse_psm(s:List UInt8):PSm (zHa s).1:=by
 have h0:PSm ⟨[],[]⟩:=⟨by simp,by simp,by simp⟩
 unfold zHa;split
 ·rename_i h;obtain⟨v,p',e,I',hz⟩:=parse_run s h;rw[e];have hz2:PSm v:=by
   have I:=tokens_inv s h;have hc:=tokens_count s h;have hS:=tokens_short s;have hf:fuel (zM s).1<=6400164:=by unfold fuel;omega
   obtain⟨a1,a2,a3⟩:=prog_wt hS _ _ _ _ _ _ (by omega) I e (fuel (zM s).1) (ye _) (by simp);have hm:100008*(zM s).1.length<=100008*100001:=yCa _ hc;refine⟨hz.1,hz.2.1,fun f hff=>?_⟩;obtain⟨b1,b2⟩:=a3 f hff;exact⟨by omega,by omega⟩
  simp only;split
  ·exact h0
  split
  ·exact h0
  split
  ·exact hz2
  ·exact h0
 ·exact h0
def u8s(l:List UInt8):PV:= .slice .plain 1 (l.map fun b=> .int .u8 b.toNat)
section
variable (l:List UInt8)
@[simp high] theorem isVar_u8s:zE (u8s l)=true:=yd rfl rfl
@[simp high] theorem strip_u8s:strip (u8s l)=u8s l:=yd rfl rfl
@[simp high] theorem stripA_u8s:stripA (u8s l)=u8s l:=yd rfl rfl
@[simp high] theorem bl_u8(n:Nat):zO n (l.map fun b=>PV.int .u8 b.toNat)=true:=ztb _ _ _ (fun _=>rfl)
@[simp high] theorem below_u8s(n:Nat):zz n (u8s l)=true:=by simp[u8s]
end
theorem remNat(a b:Nat):remK (a:Int) (b:Int)=((a%b:Nat):Int):=by rw[remK_eq];rfl
def zcd:List (List UInt8):=[[120,32,61,32,49,59],[105,110,116,32,121,32,61,32,120,59],[98,111,111,108,32,98,32,61,32,120,32,60,32,50,59],[98,32,61,32,33,98,59],[97,91,120,93,32,61,32,121,59],[105,102,32,40,98,41,32,123],[125,32,101,108,115,101,32,123],[125],[119,104,105,108,101,32,40,120,32,60,32,51,41,32,123],[119,104,105,108,101,32,40,116,114,117,101,41,32,123],[98,114,101,97,107,59],[99,111,110,116,105,110,117,101,59],[114,101,116,117,114,110,32,120,59],[114,101,116,117,114,110,32,98,59],[112,114,105,110,116,40,120,32,43,32,97,91,48,93,41,59],[102,40,120,44,32,98,41,59],[105,110,116,32,120,32,61,32,50,59],[120,32,61,32,102,40,49,44,32,116,114,117,101,41,59],[98,32,61,32,102,40,120,44,32,98,41,32,61,61,32,50,32,38,38,32,98,59],[121,32,61,32,105,56,40,120,41,59],[98,32,61,32,120,59],[120,32,61,32,45,98,59],[114,101,116,117,114,110,32,102,40,120,44,32,98,32,61,61,32,116,114,117,101,41,59],[122,32,61,32,49,59],[99,91,48,93,32,61,32,49,59],[104,40,41,59],[120,32,61,32,114,101,97,100,40,41,59],[123],[114,101,116,117,114,110,32,48,59],[112,114,105,110,116,40,116,114,117,101,41,59],[98,32,61,32,116,114,117,101,32,33,61,32,40,120,32,62,32,49,41,59]]
theorem texts05_spec:zj E 36 [] []=some (.ret (.slice .plain 1 (zcd.map PV.str)),[]):=by
 refine zc rfl rfl rfl (by simp) ?_;simp[F36,zcd]
def pre05:List UInt8:=[105,110,116,32,97,91,52,93,59,10,105,110,116,32,102,40,105,110,116,32,120,44,32,98,111,111,108,32,98,41,32,123,10]
def ret05:List UInt8:=[114,101,116,117,114,110,32,49,59,10]
def suf05:List UInt8:=[125,10,105,110,116,32,109,97,105,110,40,41,32,123,32,114,101,116,117,114,110,32,102,40,49,44,32,116,114,117,101,41,59,32,125,10]
def piece05(b:UInt8):List UInt8:=zcd[b.toNat%31]?.getD []++[10]
def bodyM(l:List UInt8)(ends:Bool):List UInt8:=pre05++((l.take 14).flatMap piece05++((if ends then ret05 else[])++suf05))
theorem texts05_get(k:Nat)(h:k<31):zcd[k]? =some (zcd[k]?.getD [])/\(zcd[k]?.getD []).length<=29:=by
 have:∀k,k<31->zcd[k]? =some (zcd[k]?.getD [])/\(zcd[k]?.getD []).length<=29:=by decide
 exact this k h
def q05(l:List UInt8)(i:Nat):List UInt8:=(l.take i).flatMap piece05
theorem piece05_len(b:UInt8):(piece05 b).length<=30:=by
 obtain⟨g1,g2⟩:=texts05_get (b.toNat%31) (yna _ (by decide));unfold piece05;rw[yi];simp only[yj,yn];omega
theorem flat05_len(l:List UInt8):(l.flatMap piece05).length<=30*l.length:=by
 induction l with
 |nil=>simp
 |cons b r ih=>
  have:=piece05_len b;rw[List.flatMap_cons,yi,yj];omega
theorem q05_len(l:List UInt8)(i:Nat):(q05 l i).length<=30*i:=by
 have h1:=flat05_len (l.take i);have h2:(l.take i).length<=i:=by rw[List.length_take];omega
 unfold q05;omega
theorem q05_succ(l:List UInt8)(i:Nat)(h:i<l.length):q05 l (i+1)=q05 l i++(zcd[l[i].toNat%31]?.getD []++[10]):=by
 unfold q05;rw[yPa,yf h,Option.toList_some,List.flatMap_append,List.flatMap_singleton];rfl
set_option maxHeartbeats 1000000 in
theorem body_spec(l:List UInt8)(ends:Bool)(hl:l.length<=9223372036854775807):zj E 15 [u8s l,.bool ends] []=some (.ret (.str (bodyM l ends)),[]):=by
 refine zc rfl rfl rfl (by simp) ?_;have ht:=texts05_spec;have htl:zcd.length=31:=rfl;simp[*,F15,u8s];refine zU K15_0 B15_0 (fun i:Nat=>14-i) (fun i=>[(5,.str (pre05++q05 l i)),(7,.int .i64 i)]) (fun _=>[]) (fun _=>[]) (fun i=>i<=14/\i<=l.length) 0 (by simp[pre05,q05]) ?_
 rintro i s1 ⟨hi,hil⟩ h1 h2 h3 h4 h5
 simp at h1 h3 h5;clear h2 h4;have hlen:=q05_len l i;have hp:pre05.length=33:=rfl;by_cases hc:i<l.length/\i<14
 ·obtain⟨c1,c2⟩:=hc;obtain⟨g1,g2⟩:=texts05_get (l[i].toNat%31) (yna _ (by decide));have hrem:remK (l[i].toNat:Int) 31=((l[i].toNat%31:Nat):Int):=remNat _ 31;have htk:=q05_succ l i c1;have hget:l[i]? =some l[i]:=yf c1;generalize zcd[l[i].toNat%31]?.getD []=t at*;generalize hb:l[i]=b at*;generalize hk:b.toNat%31=k at*;generalize q05 l i=q at*;have k1:((i:Int)<l.length)=True:=eqp (by omega);have k2:((i:Int)<14)=True:=eqp (by omega);have hw:zA .i64 ((i:Int)+1)=(i:Int)+1:=zi (by omega) (by omega);have m1:33+q.length+t.length<=9223372036854775807:=by omega
  have m2:33+q.length+t.length+1<=9223372036854775807:=by omega
  have m1':33+(q.length+t.length)<=9223372036854775807:=by omega
  have m2':33+(q.length+(t.length+1))<=9223372036854775807:=by omega
  have m2'':33+(q.length+t.length)+1<=9223372036854775807:=by omega
  clear ht hk c1 hb;simp[*];exact⟨i+1,by omega,⟨by rw[htk],by omega⟩,by omega,by have:=of_eq_true k1;omega⟩
 ·have e:l.take 14=l.take i:=by
   by_cases h14:i=14
   ·rw[h14]
   ·have:l.length<=i:=by omega
    rw[yy this,yy (by omega)]
  have e2:bodyM l ends=pre05++(q05 l i++((if ends then ret05 else[])++suf05)):=by unfold bodyM q05;rw[e]
  rw[e2];clear e e2;generalize q05 l i=q at*;have m1:33+q.length+10<=9223372036854775807:=by omega
  have m2:33+q.length+10+36<=9223372036854775807:=by omega
  have m3:33+q.length+36<=9223372036854775807:=by omega
  have m1':33+(q.length+10)<=9223372036854775807:=by omega
  have m2':33+(q.length+10)+36<=9223372036854775807:=by omega
  have m3':33+(q.length+36)<=9223372036854775807:=by omega
  by_cases k1:(i:Int)<l.length
  ·have k2:¬(i:Int)<14:=by omega
   replace k1:=eqp k1;replace k2:=eqn k2;clear ht;cases ends<;>simp[*,ret05,suf05]
  ·replace k1:=eqn k1;clear ht;cases ends<;>simp[*,ret05,suf05]
def mob(l:List UInt8)(i:Nat):zd:=[.arr 2 [.agg [u8s l,.int .i64 i]]]
def pickM(l:List UInt8)(i n:Nat):Nat:=if l.length<i+1\/120<i+1 then 0 else(l[i]?.getD 0).toNat%n
theorem pick_spec(l:List UInt8)(i n:Nat)(hn:0<n/\n<=1000)(hi:i<=1000000000000)(hl:l.length<=9223372036854775807):
  zj E 49 [.ptr 0 0 0,.int .i64 n] (mob l i)=some (.ret (.int .i64 (pickM l i n)),mob l (i+1)):=by
 refine zc rfl rfl rfl (by simp) ?_;have hw:zA .i64 ((i:Int)+1)=(i:Int)+1:=zi (by omega) (by omega);by_cases h1:l.length<i+1
 ·have k1:((l.length:Int)<(i:Int)+1)=True:=eqp (by omega);have h2:pickM l i n=0:=by simp[pickM,h1]
  clear h1;simp[*,F49,mob,u8s]
 ·have k1:((l.length:Int)<(i:Int)+1)=False:=eqn (by omega);by_cases h3:120<i+1
  ·have k3:((120:Int)<(i:Int)+1)=True:=eqp (by omega);have h2:pickM l i n=0:=by simp only[pickM,h3,or_true,if_true]
   clear h1 h3;simp[*,F49,mob,u8s]
  ·have k3:((120:Int)<(i:Int)+1)=False:=eqn (by omega);obtain⟨b,hb⟩:∃b,l[i]? =some b:=⟨_,yf (by omega)⟩
   have h2:pickM l i n=b.toNat%n:=by simp only[pickM,h1,h3,or_self,if_false,hb,yea]
   have hr:remK (b.toNat:Int) (n:Int)=((b.toNat%n:Nat):Int):=remNat _ _;have hw2:zA .i64 (i:Int)=(i:Int):=zi (by omega) (by omega);have hn0:(n=0)=False:=eqn (by omega);clear h1 h3 hl;simp[*,F49,mob,u8s]
theorem zBb(l:List UInt8)(i n:Nat)(hn:0<n/\n<=1000)(hi:i<=1000000000000)(hl:l.length<=9223372036854775807):
  ∃k:Nat,k<n/\zj E 49 [.ptr 0 0 0,.int .i64 n] (mob l i)=some (.ret (.int .i64 k),mob l (i+1)):=by
 refine⟨_,?_,pick_spec l i n hn hi hl⟩;unfold pickM;split
 ·omega
 ·exact yna _ hn.1
end PE.U
