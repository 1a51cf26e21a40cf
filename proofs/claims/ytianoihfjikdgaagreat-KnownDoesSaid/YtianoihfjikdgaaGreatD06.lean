/-
  Texts joined by program: AZH7, AZD3, AZE41, AZE19, AZB1, AZB2, AZB3, AZB4, AZB5, AZE20, AZE42, AZC4, AZG1, AZG2, AZG3, AZG4, AZG5, AZG6, AZE21, AZE43, AZE44, PfEnd, PfRead.
-/
import Derived.Test.YtianoihfjikdgaaGreatD05
import Derived.WalkKit
import Derived.ProofKit
import Derived.OpenShut
import Derived.ShutString
import Derived.ChangeOld
import Derived.Below
set_option linter.unusedVariables false
set_option linter.unusedSectionVars false
set_option linter.unusedSimpArgs false
open Bool renaming and_eq_true→ya,or_eq_false_iff→yB,or_eq_true→yw
open Function renaming comp_def→yL
open Int renaming le_refl→yQa
open List renaming all_eq_true→yj,append_assoc→yY,append_nil→yla,cons_append→yI,contains_iff_mem→yAa,eq_nil_of_length_eq_zero→yda,findIdx?_eq_none_iff→yfa,getElem?_append_left→yn,getElem?_append_right→yq,getElem?_cons_succ→yO,getElem?_cons_zero→yD,getElem?_eq_getElem→yd,getElem?_eq_some_iff→yb,getElem?_map→yk,getElem?_of_mem→yP,getElem?_set_ne→yx,getElem?_set_self→yo,getElem?_take→yJ,length_append→ym,length_cons→yZ,length_map→yV,length_nil→yea,map_append→yDa,map_cons→yR,map_set→yxa,mem_append→yh,mem_cons→yA,mem_cons_of_mem→yha,mem_map→yka,mem_of_getElem?→yr,mem_range→yya,nil_append→yqa,not_mem_nil→yVa,range→yaa,range_succ→yRa,replicate→yf,set_append_right→yGa,set_set→yXa
open Nat renaming add_assoc→yFa,le_refl→yg,lt_or_ge→yQ,mul_add→ypa,strongRecOn→ysa
open Option renaming bind_eq_some_iff→yN,getD_some→yga,map_eq_some_iff→yc,map_some→yT
open UInt8 renaming ofNat→yPa
namespace PE.U
open Go PE
section
variable (L:List UInt8) (hL:L.length<=9223372036854775807)
include hL
theorem made_spec:zk E 14 [u8s L] []=some (.ret (encUnt (zjc L)),[]):=by
 refine zc rfl rfl rfl (by simp[u8s]) ?_;have f1:=gflow_spec [] L hL 0 [] 0 zw [] (by simp) (by omega);have hi1:(zyd L zw [] 0).i<=10000:=by have:=(zkd L [] 0).i;rw[zFd];simp only;omega
 have f2:=gflow_spec [] L hL (zyd L zw [] 0).i (zyd L zw [] 0).ts (zyd L zw [] 0).left [102] [1,2] (by simp) (by omega);have hm:zjc L=⟨[⟨[97],4⟩],[(zyd L zw [] 0).n,(zyd L [102] [1,2] (zyd L zw [] 0).i).n]⟩:=rfl;rw[hm];generalize zyd L zw [] 0=A at*;generalize zyd L [102] [1,2] A.i=B at*;clear hm;have e1:zw=[109,97,105,110]:=rfl;simp[ints,gst,zf,e1,u8s]at f1 f2;simp[*,F14,encUnt,arrs,flows,zga,zf,u8s,zo,ints]
end
theorem playM_more(u:Unt)(hz:USz u)(inp:List Int)(fu m:Int)(hf:0<=fu)(hm:0<=m)(hs:fu+m<=1000000000):
  ((zHa u inp fu).status=0->(zHa u inp fu).fuel=0/\(∃x,(zHa u inp (fu+m)).out=(zHa u inp fu).out++x)/\(zHa u inp fu).cost<=(zHa u inp (fu+m)).cost)∧
  ((zHa u inp fu).status≠0->zHa u inp (fu+m)={zHa u inp fu with fuel:=(zHa u inp fu).fuel+m.toNat}):=by
 unfold zHa;split
 ·rename_i h0;have hU:=zcf hz h0;obtain⟨f,hf',hfm,hp',hfp⟩:=hU.main;have e1:(run0 u inp fu).fuel=fu.toNat:=rfl;have e2:(run0 u inp (fu+m)).fuel=fu.toNat+m.toNat:=by show(fu+m).toNat=_;omega
  have e3:run0 u inp (fu+m)=plus m.toNat (run0 u inp fu):=by
   simp only[run0,plus,RS.mk.injEq,true_and];omega
  have hlow:Low (plus m.toNat (run0 u inp fu)):=⟨yQa _,by simp only[plus,run0];omega⟩
  have hc:=callW_M (evN_M hU m.toNat fu.toNat) (zic hU _) (evN_G u _) (evN_G u _) (hU.body f hfm).2 (l:=[]) (by simp) (run0 u inp fu) (by rw[e1];omega) hlow;have hmw:mainW u (run0 u inp fu)=zRc (evN u fu.toNat) f [] (run0 u inp fu):=by unfold mainW;rw[hf',e1]
  have hmw2:mainW u (run0 u inp (fu+m))=zRc (evN u (fu.toNat+m.toNat)) f [] (plus m.toNat (run0 u inp fu)):=by unfold mainW;rw[hf',e2,e3]
  rw[hmw,hmw2];generalize zRc (evN u fu.toNat) f [] (run0 u inp fu)=q at*;generalize zRc (evN u (fu.toNat+m.toNat)) f [] (plus m.toNat (run0 u inp fu))=q' at*;obtain⟨a,S1⟩:=q;obtain⟨a',S1'⟩:=q';by_cases ha:a= .stop 0
  ·subst ha;obtain⟨g1,⟨g2,g3⟩,g4⟩:=hc.go rfl;refine⟨fun _=>⟨g1,?_,?_⟩,fun e=>absurd rfl e⟩
   ·cases a'<;>exact g2
   ·cases a'<;>exact g3
  ·have hsame:=hc.same ha;cases hsame;cases a with
   |stop k=>
    refine⟨fun e=>?_,fun _=>rfl⟩;simp only[runEnd]at e;subst e;exact absurd rfl ha
   |ok n=>
    refine⟨fun e=>?_,fun _=>rfl⟩;simp[runEnd]at e
 ·exact⟨fun _=>⟨rfl,⟨[],rfl⟩,yQa _⟩,fun e=>absurd rfl e⟩
theorem follows_spec(a b:Rn)(hs:a.status=0)(x:List Int)(hx:b.out=a.out++x)(hb:b.out.length<1099511627776):zk E 34 [zge a,zge b] []=some (.ret (.bool true),[]):=by
 have hl:a.out.length<=b.out.length:=by rw[hx];simp
 have ho:=sameOut_spec a.out a.out (by omega) (by omega);have ht:(b.out.map (PV.int .i64)).take a.out.length=a.out.map (PV.int .i64):=by rw[<-List.map_take,hx];simp
 have e:outSame a.out a.out=true:=by simp[outSame]
 have hl':((a.out.length:Int)<=b.out.length)=True:=eqp (by omega);have hl2:(a.out.length<=b.out.length)=True:=eqp hl;rw[e]at ho;simp[ints]at ho;refine zc rfl rfl rfl (by simp[zge]) ?_;clear hx hb hl;simp[*,F34,zge,ints]
def Fol2(a b:Rn):Prop:=(a.status=0/\∃x,b.out=a.out++x)\/(a.status≠0/\b.status=a.status/\b.code=a.code/\b.out=a.out)
theorem more_fol{u:Unt}(hz:USz u)(inp:List Int)(b a:Nat)(h:b<=a)(ha:a<=1000000000):Fol2 (zHa u inp b) (zHa u inp a)/\((zHa u inp b).status≠0->(zHa u inp a).cost=(zHa u inp b).cost/\(zHa u inp b).fuel<=(zHa u inp a).fuel):=by
 obtain⟨h1,h2⟩:=playM_more u hz inp b ((a-b:Nat):Int) (by omega) (by omega) (by omega);have e:(b:Int)+((a-b:Nat):Int)=(a:Int):=by omega
 rw[e]at h1 h2;by_cases hs:(zHa u inp b).status=0
 ·exact⟨.inl ⟨hs,(h1 hs).2.1⟩,fun hn=>absurd hs hn⟩
 ·have:=h2 hs;rw[this];exact⟨.inr ⟨hs,rfl,rfl,rfl⟩,fun _=>⟨rfl,by simp only;omega⟩⟩
theorem better_law{u:Unt}(hz:USz u)(hc:(zJa u).1=0)(inp:List Int)(k:Nat)(hN:zLa u.flows<=1000000)(hk:k<=255):
  (Fol2 (zHa u inp k) (zHa (zT u) inp k)/\((zHa u inp k).status≠0->(zHa (zT u) inp k).cost<=(zHa u inp k).cost/\(zHa u inp k).fuel<=(zHa (zT u) inp k).fuel))∧
  Fol2 (zHa (zT u) inp ((k/4:Nat):Int)) (zHa u inp (((k/4+1)*(zLa u.flows+1):Nat):Int)):=by
 have hz1:=knownM_sz hz;constructor
 ·obtain⟨b,b1,b2,b3,b4,b5,b6,b7⟩:=playM_sim hz hc inp k (by omega);obtain⟨m1,m2⟩:=more_fol hz1 inp b k b1 (by omega);refine⟨?_,fun hs=>?_⟩
  ·rcases m1 with⟨m1,x,m3⟩|⟨m1,m3,m4,m5⟩
   ·exact .inl ⟨by rw[<-b3];exact m1,x,by rw[m3,b5]⟩
   ·exact .inr ⟨by rw[<-b3];exact m1,by rw[m3,b3],by rw[m4,b4],by rw[m5,b5]⟩
  ·obtain⟨m3,m4⟩:=m2 (by rw[b3];exact hs);exact⟨by rw[m3];exact b7,by rw[<-b6];exact m4⟩
 ·have hq:(k/4+1)*(zLa u.flows+1)<=1000000000:=by
   have:(k/4+1)*(zLa u.flows+1)<=64*1000001:=Nat.mul_le_mul (by omega) (by omega);omega
  obtain⟨b,b1,b2,b3,b4,b5,b6,b7⟩:=playM_sim hz hc inp ((k/4+1)*(zLa u.flows+1)) hq;have hb:k/4<=b:=by
   rcases yQ b (k/4)with h|h
   ·exfalso;have h1:(zLa u.flows+1)*(b+1)<=(zLa u.flows+1)*(k/4):=Nat.mul_le_mul_left _ (by omega);rw[Nat.mul_comm (k/4+1),ypa]at b2;rw[ypa]at h1;omega
   ·exact h
  obtain⟨m1,_⟩:=more_fol hz1 inp (k/4) b hb (by omega);rcases m1 with⟨m1,x,m3⟩|⟨m1,m3,m4,m5⟩
  ·exact .inl ⟨m1,x,by rw[<-m3,b5]⟩
  ·exact .inr ⟨m1,by rw[<-b3,m3],by rw[<-b4,m4],by rw[<-b5,m5]⟩
def zac(k:Nat):List Arr->List PV
 | []=>[]
 |a::r=> .mslice k 0 a.size.toNat 1::zac (k+1) r
def stK:Option Int->Int
 |none=>0
 |some k=>k
def spK:Option Int->Bool
 |none=>false
 |some k=>decide (k=0)
def runR(u:Unt)(S:RS)(h:Option Int):Obj:= .arr 10 [.agg [arrs u.arrays,flows u.flows,ints S.inp,acc 1 (zac 1 u.arrays),.int .i64 (stK h),.int .i64 0,acc 1 (S.out.map (PV.int .i64)),.int .i64 S.cost,.int .i64 S.fuel,.bool (spK h)]]
def stR(u:Unt)(S:RS)(h:Option Int)(T:List (List Int)):zd:=runR u S h::(zQd S.arrs++zQd T)
def goH{α:Type}:Rt α->Option Int
 | .ok _=>none
 | .stop k=>some k
@[simp] theorem goH_ok{α:Type}(a:α):goH (.ok a)=none:=rfl
@[simp] theorem goH_stop{α:Type}(k:Int):goH (.stop k:Rt α)=some k:=rfl
section
variable (u:Unt) (S:RS) (h:Option Int) (T:List (List Int))
@[simp] theorem stR_0:(stR u S h T)[0]? =some (.arr 10 [.agg [arrs u.arrays,flows u.flows,ints S.inp,acc 1 (zac 1 u.arrays),.int .i64 (stK h),.int .i64 0,acc 1 (S.out.map (PV.int .i64)),.int .i64 S.cost,.int .i64 S.fuel,.bool (spK h)]]):=rfl
@[simp] theorem stK_none:stK none=0:=rfl
@[simp] theorem spK_none:spK none=false:=rfl
@[simp] theorem stK_some(k:Int):stK (some k)=k:=rfl
@[simp] theorem spK_some(k:Int):spK (some k)=decide (k=0):=rfl
@[simp] theorem setR_fuel(k:Nat):(stR u S none T).set 0 (.arr 10 [.agg [arrs u.arrays,flows u.flows,ints S.inp,acc 1 (zac 1 u.arrays),.int .i64 0,.int .i64 0,acc 1 (S.out.map (PV.int .i64)),.int .i64 S.cost,.int .i64 k,.bool false]])=stR u {S with fuel:=k} none T:=rfl
@[simp] theorem setR_spent:(stR u S none T).set 0 (.arr 10 [.agg [arrs u.arrays,flows u.flows,ints S.inp,acc 1 (zac 1 u.arrays),.int .i64 0,.int .i64 0,acc 1 (S.out.map (PV.int .i64)),.int .i64 S.cost,.int .i64 S.fuel,.bool true]])=stR u S (some 0) T:=rfl
@[simp] theorem setR_2:(stR u S none T).set 0 (.arr 10 [.agg [arrs u.arrays,flows u.flows,ints S.inp,acc 1 (zac 1 u.arrays),.int .i64 2,.int .i64 0,acc 1 (S.out.map (PV.int .i64)),.int .i64 S.cost,.int .i64 S.fuel,.bool false]])=stR u S (some 2) T:=rfl
@[simp] theorem setR_3:(stR u S none T).set 0 (.arr 10 [.agg [arrs u.arrays,flows u.flows,ints S.inp,acc 1 (zac 1 u.arrays),.int .i64 3,.int .i64 0,acc 1 (S.out.map (PV.int .i64)),.int .i64 S.cost,.int .i64 S.fuel,.bool false]])=stR u S (some 3) T:=rfl
@[simp] theorem setR_4:(stR u S none T).set 0 (.arr 10 [.agg [arrs u.arrays,flows u.flows,ints S.inp,acc 1 (zac 1 u.arrays),.int .i64 4,.int .i64 0,acc 1 (S.out.map (PV.int .i64)),.int .i64 S.cost,.int .i64 S.fuel,.bool false]])=stR u S (some 4) T:=rfl
@[simp] theorem setR_cost':(stR u S none T).set 0 (.arr 10 [.agg [arrs u.arrays,flows u.flows,.slice .plain 1 (S.inp.map (PV.int .i64)),acc 1 (zac 1 u.arrays),.int .i64 0,.int .i64 0,acc 1 (S.out.map (PV.int .i64)),.int .i64 (zW .i64 (S.cost+1)),.int .i64 S.fuel,.bool false]])=stR u (zq S) none T:=by
 rw[zY];rfl
@[simp] theorem setR_st(k:Int)(hk:k≠0):(stR u S none T).set 0 (.arr 10 [.agg [arrs u.arrays,flows u.flows,.slice .plain 1 (S.inp.map (PV.int .i64)),acc 1 (zac 1 u.arrays),.int .i64 k,.int .i64 0,acc 1 (S.out.map (PV.int .i64)),.int .i64 S.cost,.int .i64 S.fuel,.bool false]])=stR u S (some k) T:=by
 have:decide (k=0)=false:=by simp[hk]
 unfold stR runR stK spK;simp only[List.set_cons_zero,this];rfl
theorem setR_out(l:List Int):(stR u S none T).set 0 (.arr 10 [.agg [arrs u.arrays,flows u.flows,ints S.inp,acc 1 (zac 1 u.arrays),.int .i64 0,.int .i64 0,acc 1 (l.map (PV.int .i64)),.int .i64 S.cost,.int .i64 S.fuel,.bool false]])=stR u {S with out:=l} none T:=rfl
@[simp] theorem setR_inp(l:List Int):(stR u S none T).set 0 (.arr 10 [.agg [arrs u.arrays,flows u.flows,.slice .plain 1 (l.map (PV.int .i64)),acc 1 (zac 1 u.arrays),.int .i64 0,.int .i64 0,acc 1 (S.out.map (PV.int .i64)),.int .i64 S.cost,.int .i64 S.fuel,.bool false]])=stR u {S with inp:=l} none T:=rfl
end
theorem zrb(u:Unt)(S:RS)(h:Option Int)(T:List (List Int)):zk E 28 [.ptr 0 0 0] (stR u S h T)=some (.ret (.bool h.isSome),stR u S h T):=by
 refine zc rfl rfl rfl (by simp) ?_;cases h with
 |none=>simp[F28]
 |some k=>
  by_cases hk:k=0
  ·subst hk;simp[F28]
  ·replace hk:=eqn hk;simp[*,F28]
theorem rstep_spec(u:Unt)(S:RS)(T:List (List Int))(hf:S.fuel<=9000000000000000000):zk E 64 [.ptr 0 0 0] (stR u S none T)=some (match S.fuel with
  |0=>(.ret (.bool false),stR u S (some 0) T)
  |k+1=>(.ret (.bool true),stR u {S with fuel:=k} none T)):=by
 refine zc rfl rfl rfl (by simp) ?_;have h0:=zrb u S none T;simp at h0;cases h:S.fuel with
 |zero=>
  have hs:(stR u S none T).set 0 (.arr 10 [.agg [arrs u.arrays,flows u.flows,ints S.inp,acc 1 (zac 1 u.arrays),.int .i64 0,.int .i64 0,acc 1 (S.out.map (PV.int .i64)),.int .i64 S.cost,.int .i64 0,.bool true]])=stR u S (some 0) T:=by
   have:=setR_spent u S T;rw[h]at this;exact this
  simp[*,F64]
 |succ k=>
  have hw:zW .i64 (((k+1:Nat):Int)-1)=(k:Int):=by rw[zm]<;>omega
  have hne:(((k+1:Nat):Int)<1)=False:=eqn (by omega);generalize hc:((k+1:Nat):Int)=c at*;simp[*,F64]
theorem rptrs_get:∀(l:List Arr) (k i:Nat),(zac k l)[i]? =(l[i]?).map fun a=> .mslice (k+i) 0 a.size.toNat 1
 | [],k,i=>by simp[zac]
 |a::r,k,0=>by simp[zac]
 |a::r,k,i+1=>by
  simp only[zac,yO];rw[rptrs_get r (k+1) i];cases r[i]? with
  |none=>rfl
  |some b=>simp;omega
theorem rptrs_len:∀(l:List Arr) (k:Nat),(zac k l).length=l.length
 | [],k=>rfl
 |a::r,k=>by simp[zac,rptrs_len r]
theorem rarr_at{u:Unt}{S:RS}{nm:List UInt8}(hS:FitS u S)(h:zsc u.arrays nm=true):∃(i:Nat) (l:List Int),zFe u.arrays nm=i/\i<S.arrs.length/\S.arrs[i]? =some l/\(zac 1 u.arrays)[i]? =some (.mslice (i+1) 0 l.length 1):=by
 obtain⟨i,l,a1,a2,a3,a4⟩:=arr_at hS h;refine⟨i,l,a1,a2,a3,?_⟩;rw[rptrs_get];have hlt:i<u.arrays.length:=by rw[<-hS.len];exact a2
 have e:=congrArg (fun l:List Nat=>l[i]?) hS.1;simp only[yk,a3,yd hlt,yT,Option.some.injEq]at e;rw[yd hlt,yT,<-e,Nat.add_comm 1 i]
theorem stR_row{u:Unt}{S:RS}{h:Option Int}{T:List (List Int)}{i:Nat}{l:List Int}(hl:S.arrs[i]? =some l):(stR u S h T)[i+1]? =some (.arr 1 (l.map (PV.int .i64))):=by
 have hlt:=(yb.1 hl).1;simp only[stR,yO];rw[yn (by simpa[zQd]using hlt)];simp[zQd,hl,intO]
theorem rput_row{u:Unt}{S:RS}{h:Option Int}{T:List (List Int)}{i:Nat}{l:List Int}(hl:S.arrs[i]? =some l)(k:Nat)(m:Int):(stR u S h T).set (i+1) (.arr 1 ((l.map (PV.int .i64)).set k (.int .i64 m)))=stR u {S with arrs:=S.arrs.set i (l.set k m)} h T:=by
 have hlt:=(yb.1 hl).1;have e:(l.map (PV.int .i64)).set k (.int .i64 m)=(l.set k m).map (PV.int .i64):=by rw[yxa]
 rw[e];simp only[stR,List.set_cons_succ];rw[List.set_append_left _ _ (by simpa[zQd]using hlt)];have:(zQd S.arrs).set i (.arr 1 ((l.set k m).map (PV.int .i64)))=zQd (S.arrs.set i (l.set k m)):=by simp[zQd,yxa,intO]
 rw[this];rfl
theorem rcell_spec{u:Unt}{S:RS}{T:List (List Int)}{i:Nat}{l:List Int}(n:Int)(hl:S.arrs[i]? =some l)(hm:(zac 1 u.arrays)[i]? =some (.mslice (i+1) 0 l.length 1)):
  zk E 94 [.ptr 0 0 0,.int .i64 i,.int .i64 n] (stR u S none T)=some (if 0<=n/\n<l.length then(.ret (.bool true),stR u S none T)else(.ret (.bool false),stR u S (some 3) T)):=by
 refine zc rfl rfl rfl (by simp) ?_;by_cases h0:n<0
 ·have hn:¬(0<=n/\n<l.length):=by omega
  rw[if_neg hn];replace h0:=eqp h0;simp[*,F94]
 ·by_cases h1:(l.length:Int)<=n
  ·have hn:¬(0<=n/\n<l.length):=by omega
   rw[if_neg hn];replace h0:=eqn h0;replace h1:=eqp h1;simp[*,F94]
  ·rw[if_pos (by omega)];have h4:0<=n:=by omega
   replace h0:=eqn h0;replace h1:=eqn h1;simp[*,F94]
def nbR(u:Unt):Nat:=u.arrays.length+1
section
variable {u:Unt} {S:RS} {h:Option Int} {T:List (List Int)}
theorem stR_len(hS:FitS u S):(stR u S h T).length=nbR u+T.length:=by
 simp[stR,zQd,hS.len,nbR];omega
theorem stR_get(hS:FitS u S){j:Nat}{v:List Int}(hj:T[j]? =some v):(stR u S h T)[nbR u+j]? =some (.arr 1 (v.map (PV.int .i64))):=by
 have:nbR u+j=u.arrays.length+j+1:=by unfold nbR;omega
 rw[this];simp only[stR,yO];rw[yq (by simp[zQd,hS.len])];simp[zQd,hS.len,hj,intO]
theorem stR_set(hS:FitS u S)(j:Nat)(v:List Int):(stR u S h T).set (nbR u+j) (.arr 1 (v.map (PV.int .i64)))=stR u S h (T.set j v):=by
 have:nbR u+j=u.arrays.length+j+1:=by unfold nbR;omega
 rw[this];simp only[stR,List.set_cons_succ];rw[yGa _ _ (by simp[zQd,hS.len])];simp[zQd,hS.len,yxa,intO]
theorem stR_app{v:List Int}:stR u S h T++[.arr 1 (v.map (PV.int .i64))]=stR u S h (T++[v]):=by simp[stR,zQd,intO]
theorem stR_take(hS:FitS u S)(j:Nat):(stR u S h T).take (nbR u+j)=stR u S h (T.take j):=by
 have:nbR u+j=u.arrays.length+j+1:=by unfold nbR;omega
 rw[this];simp only[stR,List.take_succ_cons];rw[List.take_append,List.take_of_length_le (by simp[zQd,hS.len])];simp[zQd,hS.len,List.map_take]
theorem rptrs_below(n:Nat):∀(l:List Arr) (k:Nat),k+l.length<=n->zU n (zac k l)=true
 | [],_,_=>rfl
 |a::r,k,h=>by
  simp only[yZ]at h;simp only[zac,belowL_cons,below_mslice,ya,decide_eq_true_eq];exact⟨by omega,rptrs_below n r (k+1) (by omega)⟩
theorem below_acc(n sz:Nat)(l:List PV)(h:zU n l=true):zE n (acc sz l)=true:=by
 cases l with
 |nil=>rfl
 |cons x r=>simpa using h
theorem stR_wf{n:Nat}(hn:nbR u<=n):zd.wf n (stR u S h T)=true:=by
 unfold zd.wf;simp only[stR,List.all_cons,List.all_append,ya];refine⟨?_,rowsO_wf n _,rowsO_wf n _⟩;have h1:=rptrs_below n u.arrays 1 (by unfold nbR at hn;omega);simp[runR,Obj.below,belowL_acc,ints,below_acc _ _ _ h1]
end
set_option maxHeartbeats 1000000 in
theorem vof_spec{u:Unt}{S:RS}{h:Option Int}{T:List (List Int)}{j n:Nat}{v:List Int}(hS:FitS u S)(hj:T[j]? =some v)(hv:v.length=n){l:List Int}(ho:inR n l)(hz:l.length<1099511627776):
  zk E 65 [.mslice (nbR u+j) 0 n 1,ints l] (stR u S h T)=some (.ret (ints (ofW v l)),stR u S h T):=by
 refine zc rfl rfl rfl (by simp[ints]) ?_;have hgt:=stR_get (u:=u) (h:=h) hS hj;simp[F65,ints];refine zG l K65_0 B65_0 (fun d=>[(6,.int .i64 d.length),(5,acc 1 ((ofW v d).map (PV.int .i64)))]) (fun d=>stR u S h T) (fun _=>True) (by omega) (by simp[ofW]) ?_ ?_
 ·intros d x r s1 hl' hlt hget hget' hwr hp g1 g2 g3 g4;simp at g1 g3;obtain⟨x0,x1⟩:=ho x hl'.mem;have hx:=zid (l:=v) x0 (by omega);have hxn:x.toNat<n:=by omega
  have hxv:x.toNat<v.length:=by omega
  have hx3:=zwc (l:=v) x0 (by omega) hxv;have hdec:decide (d.length<l.length)=true:=decide_eq_true hlt;have hroom:((ofW v d).length+1)*8<=zo:=by rw[zKc];simp only[zo];omega
  have hsn:ofW v (d++[x])=ofW v d++[at0 v x]:=by simp[ofW]
  generalize ofW v d=c at*;clear hl' hget' hp hj ho hlt;simp[*]
 ·intros s1 hp g1 g2 g3 g4;simp at g1 g3;clear hj ho;simp[*]
theorem rset_spec{u:Unt}{S:RS}{h:Option Int}{T:List (List Int)}{j n:Nat}{v:List Int}(hS:FitS u S)(hj:T[j]? =some v)(hv:v.length=n){o ns:List Int}(ho:inR n o)(hl:o.length=ns.length)(hz:o.length<1099511627776):
  zk E 66 [.mslice (nbR u+j) 0 n 1,ints o,ints ns] (stR u S h T)=some (.ret (.tup []),stR u S h (T.set j (setW v o ns))):=by
 refine zc rfl rfl rfl (by simp[ints]) ?_;have hjl:=(yb.1 hj).1;simp[F66,ints];refine zG o K66_0 B66_0 (fun d=>[(6,.int .i64 d.length)]) (fun d=>stR u S h (T.set j (setW v d (ns.take d.length)))) (fun _=>True) (by omega) (by simp[setW,set_self hj]) ?_ ?_
 ·intros d x r s1 hl' hlt hget hget' hwr hp g1 g2 g3 g4;simp at g1 g3;obtain⟨x0,x1⟩:=ho x hl'.mem;have hn:ns[d.length]? =some ns[d.length]:=yd (by omega);generalize ns[d.length]=m at hn;have hcur:(T.set j (setW v d (ns.take d.length)))[j]? =some (setW v d (ns.take d.length)):=yo hjl;have hgt:=stR_get (u:=u) (h:=h) hS hcur;have hsn:setW v (d++[x]) (ns.take (d.length+1))=(setW v d (ns.take d.length)).set x.toNat m:=by
   rw[take_snoc hn,setW_snoc _ _ _ _ _ (by simp;omega)]
  have hst:=stR_set (u:=u) (S:=S) (h:=h) (T:=T.set j (setW v d (ns.take d.length))) hS j (setW v (d++[x]) (ns.take (d.length+1)));have hlen:=zDa v d (ns.take d.length);have hx:x.toNat<n:=by omega
  have hsl:(setW v d (ns.take d.length)).length=n:=by rw[hlen,hv]
  rw[yXa]at hst;rw[hsn,yxa,<-hsn]at hst;have hgo:(stR u S h (T.set j (setW v d (ns.take d.length)))).set (nbR u+j) (.arr 1 (((setW v d (ns.take d.length)).map (PV.int .i64)).set x.toNat (.int .i64 m)))=stR u S h (T.set j (setW v (d++[x]) (ns.take (d.length+1)))):=hst;clear hst;generalize setW v d (ns.take d.length)=c at*;have hdec:decide (d.length<o.length)=true:=decide_eq_true hlt;clear hl' hget' hp hj ho hlen hsn hcur hl hlt;simp[*]
 ·intros s1 hp g1 g2 g3 g4;simp at g1 g3;have:ns.take o.length=ns:=by rw[hl];exact List.take_length
  rw[this]at g4;simp[*]
def SpecR(u:Unt)(w:Nat):Prop:=∀m p l v S T j,FitS u S->S.fuel<=w->l≠ []->okL u m p l->wtL l<capE->T[j]? =some v->v.length=m→
 ∃y:Wy,zk E 44 [.ptr 0 0 0,zh l,.mslice (nbR u+j) 0 m 1] (stR u S none T)=some (.ret (encW y),stR u (zB (evN u w) l v S).2.2 (goH (zB (evN u w) l v S).1) (T.set j (zB (evN u w) l v S).2.1))∧
  ∀r,(zB (evN u w) l v S).1= .ok r->y=r
set_option maxHeartbeats 2000000 in
theorem rcall_of{u:Unt}(hU:OkU u){w:Nat}(hL:SpecR u w){f:Flow}{k:Nat}(hf:u.flows[k]? =some f){l:List Int}{S:RS}{T:List (List Int)}(hS:FitS u S)(hw:S.fuel<=w)(hl:l.length<=f.types.length):
  ∃z:Int,zk E 26 [.ptr 0 0 0,.int .i64 k,ints l] (stR u S none T)=some (.ret (.int .i64 z),stR u (zRc (evN u w) f l S).2 (goH (zRc (evN u w) f l S).1) T)/\∀r,(zRc (evN u w) f l S).1= .ok r->z=r:=by
 have hfm:f∈u.flows:=yr hf;have hty:=hU.sz.types f hfm;have hb:=hU.body f hfm;have hlen:=stR_len (h:=none) (T:=T) hS;have hap:=stR_app (u:=u) (S:=S) (h:=none) (T:=T) (v:=yf f.types.length 0);simp only[List.map_replicate]at hap;have l1:(0:Int)<=(f.types.length:Int):=by omega
 have l2:(f.types.length:Int)<=9223372036854775807:=by omega
 have l3:8*(f.types.length:Int)<=281474976710656:=by omega
 have hgl:(l++yf (f.types.length-l.length) 0).length=f.types.length:=by simp;omega
 have hc:=hL f.types.length ⟨none,none,none⟩ f.body (l++yf (f.types.length-l.length) 0) S (T++[l++yf (f.types.length-l.length) 0]) T.length hS hw hb.1 hb.2 (hU.sz.body f hfm) (by simp) hgl;rw[yGa _ _ (yg _),Nat.sub_self,List.set_cons_zero]at hc;obtain⟨m1,m2,m3⟩:=zpb (zic hU w) f.body (l++yf (f.types.length-l.length) 0) S hb.1 hb.2 hgl;have hrep:∀d x,l[d]? =some x->d<l.length->((l.take d++yf (f.types.length-d) 0).map (PV.int .i64)).set d (.int .i64 x)=(l.take (d+1)++yf (f.types.length-(d+1)) 0).map (PV.int .i64):=by
  intro d x hx hd;have e:f.types.length-d=(f.types.length-(d+1))+1:=by omega
  rw[take_snoc hx,e,List.replicate_succ,yDa,yGa _ _ (by simp;omega)];simp[Nat.min_eq_left (Nat.le_of_lt hd)]
 unfold zRc;generalize hq:zB (evN u w) f.body (l++yf (f.types.length-l.length) 0) S=q at*;obtain⟨a,v1,S1⟩:=q;simp only at m1 m2 m3 hc ⊢;obtain⟨y,hc,hy⟩:=hc;have hS1:=hS.mono m1;have htk:∀h,(stR u S1 h (T++[v1])).take (nbR u+T.length)=stR u S1 h T:=by
  intro h;rw[stR_take hS1];simp
 have hwf:∀h,zd.wf (nbR u+T.length) (stR u S1 h T)=true:=fun h=>stR_wf (by omega)
 have hln:∀h,(stR u S1 h (T++[v1])).length=nbR u+(T.length+1):=by
  intro h;rw[stR_len hS1];simp
 have hov:=zrb u S1 (goH a) (T++[v1]);have hll:l.length<1099511627776:=by omega
 simp[zh]at hc;obtain⟨z,hz1,hz2⟩:∃z:Int,(∀r,a= .ok r->z=atA r.l 0)/\(∀k,a= .stop k->z=0):=by
  cases a with
  |ok r=>exact⟨atA r.l 0,(fun r' e=>by cases e;rfl),(fun k e=>by cases e)⟩
  |stop k=>exact⟨0,(fun r' e=>by cases e),(fun k e=>rfl)⟩
 refine⟨z,zc rfl rfl rfl (by simp[ints]) ?_,?_⟩
 ·have e0:l.take 0++yf (f.types.length-0) 0=yf f.types.length (0:Int):=by simp
  have hget0:∀d,(stR u S none (T++[l.take d++yf (f.types.length-d) 0]))[nbR u+T.length]? =some (.arr 1 ((l.take d++yf (f.types.length-d) 0).map (PV.int .i64))):=fun d=>stR_get hS (by simp)
  have hset0:∀d c,(stR u S none (T++[l.take d++yf (f.types.length-d) 0])).set (nbR u+T.length) (.arr 1 (c.map (PV.int .i64)))=stR u S none (T++[c]):=by
   intro d c;rw[stR_set hS,yGa _ _ (yg _),Nat.sub_self,List.set_cons_zero]
  clear hU hL hb hS hw m1 hgl hfm hS1 hty;simp[*,F26,flows,zf,ints,zh];refine zG l K26_0 [7,10] (fun d=>[(9,.int .i64 d.length)]) (fun d=>stR u S none (T++[l.take d.length++yf (f.types.length-d.length) 0])) (fun _=>True) (by omega) (by simp) ?_ ?_
  ·intros d x r s1 hl' hlt hget hget' hwr hp g1 g2 g3 g4;simp at g1 g3;have h1:=hrep d.length x hget hlt;have h2:=hget0 d.length;have h3:=hset0 d.length (l.take (d.length+1)++yf (f.types.length-(d.length+1)) 0);have h4:(l.take d.length++yf (f.types.length-d.length) (0:Int)).length=f.types.length:=by simp;omega
   have hdl:d.length<f.types.length:=by omega
   obtain⟨y,hy⟩:∃y,(l.take d.length++yf (f.types.length-d.length) (0:Int))[d.length]? =some y:=⟨_,yd (by omega)⟩
   have hdec:decide (d.length<l.length)=true:=decide_eq_true hlt;rw[<-h1]at h3;generalize l.take d.length++yf (f.types.length-d.length) (0:Int)=c at*;clear hl' hget' hlt hp hrep hget0 hset0 hc hov htk hwf hln m3 hz1 hz2 hlen hap h1;simp[*,-getElem?_pos,yD]
  ·intros s1 hp g1 g2 g3 g4;simp at g1 g3;have e1:l.take l.length=l:=List.take_length;rw[e1]at g4;clear hp hrep hget0 hset0 hlen hap;cases a with
   |stop k=>
    have hz:=hz2 k rfl;simp[encW,ints]at hc;simp at hov;clear m3 hz1 hz2;simp[*,fin]
   |ok r=>
    have hz:=hz1 r rfl;obtain⟨_,m4,_⟩:=m3 r rfl;have hr:∃x,r.l=[x]:=by
     rcases m4 with m4|m4|m4|m4
     ·cases m4.2
     ·cases m4.2
     ·cases m4.2
     ·exact List.length_eq_one_iff.1 m4.2
    obtain⟨x,hr⟩:=hr;have hyr:=hy r rfl;subst hyr;rw[hr]at hz;have hz:z=x:=hz;simp[encW,ints,hr]at hc;clear hr hy;simp at hov;clear m3 hz1 hz2 m4;simp[*,fin,atA]
 ·intro r e;cases a with
  |ok w=>simp only[Rt.ok.injEq]at e;rw[<-e];exact hz1 w rfl
  |stop k=>cases e
def sumR(u:Unt)(T:List (List Int))(x:Node)(q:Rt (List Int)×RS)(r:Option (CRes×zd)):Prop:=
 ∃z:Int,r=some (.ret (.int .i64 z),stR u q.2 (goH q.1) T)/\∀m,q.1= .ok [m]->z=m
theorem rone_specC(op a:Int)(σ:zd):zk E 92 [.int .i64 op,.int .i64 a] σ=some (.ret (.int .i64 (oneC op a)),σ):=by
 rw[<-one_eqC,<-rone_eq];exact rone_spec op a σ
theorem rtwo_specC(op a b:Int)(σ:zd):zk E 93 [.int .i64 op,.int .i64 a,.int .i64 b] σ=some (.ret (.tup [.int .i64 (twoC op a b).1,.bool (twoC op a b).2]),σ):=by
 rw[<-two_eqC];exact rtwo_spec op a b σ
set_option maxHeartbeats 4000000 in
theorem rsum_of{u:Unt}(hU:OkU u){w:Nat}(hL:SpecR u w){m:Nat}{p:Pl}{x:Node}(ho:okH u m p x)(hk:3<=x.kind/\x.kind<=9){S:RS}{T:List (List Int)}(hS:FitS u S)
  (hw:S.fuel<=w) (hfu:S.out.length+S.fuel<1000000000000) {l:List Int} (hl:l.length=x.args.length):
  sumR u T x (zoa u (evN u w) x l (zq S)) (zk E 68 [.ptr 0 0 0,zK x,ints l] (stR u S none T)):=by
 have hra:=rarray_spec u x.name [] hU.sz.arrs;obtain⟨args,outs,prs,k12,k3,k4,k5,k6,k7,k8,k9,-,-,-,-,-,-,-⟩:=ho;simp[encUnt]at hra;unfold zoa sumR;by_cases e3:x.kind=3
 ·rw[if_pos e3];obtain⟨a,ha⟩:=len1 (hl.trans (k3 e3).1);have hone:=rone_specC x.op a [];subst ha;replace e3:=eqp e3;refine⟨oneC x.op a,zc rfl rfl rfl (by simp[za,ints]) ?_,fun z e=>by cases e;rfl⟩;clear args outs prs k12 k3 k4 k5 k6 k7 k8 k9 hk hl hL hU;simp[*,F68,za,ints]
 rw[if_neg e3];replace e3:=eqn e3;by_cases e4:x.kind=4
 ·rw[if_pos e4];obtain⟨a,b,ha⟩:=len2 (hl.trans (k4 e4).1);subst ha;have htwo:=rtwo_specC x.op a b [];have e0:atA [a,b] 0=a:=rfl;have e1:atA [a,b] 1=b:=rfl;rw[e0,e1];replace e4:=eqp e4;by_cases hz:(twoC x.op a b).2=true
  ·rw[if_pos hz];refine⟨(twoC x.op a b).1,zc rfl rfl rfl (by simp[za,ints]) ?_,fun z e=>by cases e;rfl⟩;clear args outs prs k12 k3 k4 k5 k6 k7 k8 k9 hk hl hL hU;simp[*,F68,za,ints]
  ·rw[if_neg hz];simp only[Bool.not_eq_true]at hz;refine⟨(twoC x.op a b).1,zc rfl rfl rfl (by simp[za,ints]) ?_,fun z e=>by cases e⟩;clear args outs prs k12 k3 k4 k5 k6 k7 k8 k9 hk hl hL hU;simp[*,F68,za,ints]
 rw[if_neg e4];replace e4:=eqn e4;by_cases e5:x.kind=5
 ·rw[if_pos e5];obtain⟨a0,a1,a2⟩:=k5 e5;obtain⟨a,ha⟩:=len1 (hl.trans a1);subst ha;have e0:atA [a] 0=a:=rfl;rw[e0];obtain⟨i,row,b1,b2,b3,b4⟩:=rarr_at hS.cost a0;have hc:=rcell_spec (T:=T) a b3 b4;have hr:=stR_row (T:=T) (u:=u) (h:=none) b3;rw[b1]at hra;unfold cellAt;rw[b1];simp only[Int.toNat_natCast,b3,Option.bind_some];replace e5:=eqp e5;by_cases hx:0<=a/\a<row.length
  ·rw[if_pos hx]at hc;have hn:¬a<0:=by omega
   have hlt:a.toNat<row.length:=by omega
   have hx0:=hx.1;rw[if_neg hn];obtain⟨y,hy⟩:∃y,row[a.toNat]? =some y:=⟨_,yd hlt⟩
   rw[hy];refine⟨y,zc rfl rfl rfl (by simp[za,ints]) ?_,fun z e=>by cases e;rfl⟩;clear args outs prs k12 k3 k4 k5 k6 k7 k8 k9 hk hl hL hU hx hn b1 b2 b3 a0 a1 a2;simp[*,F68,za,ints,-getElem?_pos,yD]
  ·rw[if_neg hx]at hc;have hnone:(if a<0 then none else row[a.toNat]?)=none:=by
    split
    ·rfl
    ·rw[List.getElem?_eq_none];omega
   rw[hnone];refine⟨0,zc rfl rfl rfl (by simp[za,ints]) ?_,fun z e=>by cases e⟩;clear args outs prs k12 k3 k4 k5 k6 k7 k8 k9 hk hl hL hU hx hnone b1 b2 b3 a0 a1 a2;simp[*,F68,za,ints]
 rw[if_neg e5];replace e5:=eqn e5;by_cases e6:x.kind=6
 ·rw[if_pos e6];obtain⟨a0,a1,a2⟩:=k6 e6;obtain⟨a,b,ha⟩:=len2 (hl.trans a1);subst ha;have e0:atA [a,b] 0=a:=rfl;have e1:atA [a,b] 1=b:=rfl;rw[e0,e1];obtain⟨i,row,b1,b2,b3,b4⟩:=rarr_at hS.cost a0;have hc:=rcell_spec (T:=T) a b3 b4;have hr:=stR_row (T:=T) (u:=u) (h:=none) b3;rw[b1]at hra;unfold putAt;rw[b1];simp only[Int.toNat_natCast,b3,Option.bind_some];replace e6:=eqp e6;by_cases hx:0<=a/\a<row.length
  ·rw[if_pos hx]at hc;have hn:¬a<0:=by omega
   have hlt:a.toNat<row.length:=by omega
   have hx0:=hx.1;rw[if_neg hn,if_pos hlt];obtain⟨y,hy⟩:∃y,row[a.toNat]? =some y:=⟨_,yd hlt⟩
   have hput:=rput_row (T:=T) (u:=u) (h:=none) b3 a.toNat b;refine⟨0,zc rfl rfl rfl (by simp[za,ints]) ?_,fun z e=>by cases e⟩;clear args outs prs k12 k3 k4 k5 k6 k7 k8 k9 hk hl hL hU hx hn b1 b2 b3 a0 a1 a2;simp[*,F68,za,ints,-getElem?_pos,yD]
  ·rw[if_neg hx]at hc;have hnone:(if a<0 then none else if a.toNat<row.length then some {zq S with arrs:=(zq S).arrs.set i (row.set a.toNat b)}else none:Option RS)=none:=by
    split
    ·rfl
    ·rw[if_neg (by omega)]
   rw[hnone];refine⟨0,zc rfl rfl rfl (by simp[za,ints]) ?_,fun z e=>by cases e⟩;clear args outs prs k12 k3 k4 k5 k6 k7 k8 k9 hk hl hL hU hx hnone b1 b2 b3 a0 a1 a2;simp[*,F68,za,ints]
 rw[if_neg e6];replace e6:=eqn e6;by_cases e7:x.kind=7
 ·rw[if_pos e7];obtain⟨g,a0,a1,a2,a3⟩:=k7 e7;rw[a0];simp only;have hgm:g∈u.flows:=yr a0;have hlg:l.length<=g.types.length:=by rw[hl,a2];simp[pars];omega
  obtain⟨z,hcall,hz⟩:=rcall_of hU hL a0 (l:=l) (T:=T) hS.cost hw hlg;have hpl:=zWc u x.name [] hU.sz.flows;have hpn:(((zZ u.flows x.name).toNat:Nat):Int)=zZ u.flows x.name:=Int.toNat_of_nonneg a1;rw[hpn]at hcall;simp[encUnt]at hpl;generalize zRc (evN u w) g l (zq S)=q at*;obtain⟨y,S1⟩:=q;simp only at hcall hz;replace e7:=eqp e7;cases y with
  |stop k=>
   refine⟨z,zc rfl rfl rfl (by simp[za,ints]) ?_,fun z e=>by cases e⟩;simp[ints]at hcall;clear args outs prs k12 k3 k4 k5 k6 k7 k8 k9 hk hl hL hU a0 a1 a2 a3 hz;simp[*,F68,za,ints]
  |ok y=>
   have hz:=hz y rfl;subst hz;refine⟨z,zc rfl rfl rfl (by simp[za,ints]) ?_,fun z e=>by cases e;rfl⟩;simp[ints]at hcall;clear args outs prs k12 k3 k4 k5 k6 k7 k8 k9 hk hl hL hU a0 a1 a2 a3;simp[*,F68,za,ints]
 rw[if_neg e7];replace e7:=eqn e7;by_cases e8:x.kind=8
 ·rw[if_pos e8];have e9:(x.kind=9)=False:=eqn (by omega);replace e8:=eqp e8;have hic:(zq S).inp=S.inp:=rfl;rw[hic];have hsc:=setR_cost' u S T;have hco:(zq S).inp=S.inp:=rfl;cases hi:S.inp with
  |nil=>
   rw[hi]at hsc hco;simp only[List.map_nil]at hsc;have hs4:=setR_4 u (zq S) T;rw[hco]at hs4;simp only[ints,List.map_nil]at hs4;refine⟨0,zc rfl rfl rfl (by simp[za,ints]) ?_,fun z e=>by cases e⟩;clear args outs prs k12 k3 k4 k5 k6 k7 k8 k9 hk hl hL hU;simp[*,F68,za,ints]
  |cons n r=>
   rw[hi]at hsc hco;simp only[yR]at hsc;have hne:¬((r.length:Int)+1=0):=by omega
   have ht:List.take r.length (r.map (PV.int .i64))=r.map (PV.int .i64):=by rw[List.take_of_length_le];simp
   refine⟨n,zc rfl rfl rfl (by simp[za,ints]) ?_,fun z e=>by cases e;rfl⟩;clear args outs prs k12 k3 k4 k5 k6 k7 k8 k9 hk hl hL hU;simp[*,F68,za,ints]
 rw[if_neg e8];replace e8:=eqn e8;by_cases e9:x.kind=9
 ·rw[if_pos e9];obtain⟨a1,a2⟩:=k9 e9;obtain⟨a,ha⟩:=len1 (hl.trans a1);subst ha;have e0:atA [a] 0=a:=rfl;rw[e0];have hso:=setR_out (u:=u) (S:=zq S) (T:=T) (S.out++[a]);have hroom:(S.out.length+1)*8<=zo:=by have:=hS.2;simp only[zo];omega
  have hr4:∀X,((stR u (zq S) none T).set 0 X)[0]? =some X:=by
   intro X;rw[yo (by rw[stR_len hS.cost];unfold nbR;omega)]
  have hao:acc 1 ((S.out++[a]).map (PV.int .i64))= .slice .own 1 (S.out.map (PV.int .i64)++[.int .i64 a]):=by
   rw[acc_ne (by simp)];simp
  have hio:isOwn (acc 1 (S.out.map (PV.int .i64)++[.int .i64 a]))=some (1,S.out.map (PV.int .i64)++[.int .i64 a]):=by
   rw[acc_ne (by simp)];rfl
  rw[hao]at hso;simp only[ints]at hso;have hco:(zq S).out=S.out:=rfl;replace e9:=eqp e9;refine⟨0,zc rfl rfl rfl (by simp[za,ints]) ?_,fun z e=>by cases e⟩;clear args outs prs k12 k3 k4 k5 k6 k7 k8 k9 hk hl hL hU hao;simp[*,F68,za,ints]
 exact absurd hk (by simp only[eq_iff_iff,iff_false]at e3 e4 e5 e6 e7 e8;omega)
set_option maxHeartbeats 4000000 in
theorem rloop_of{u:Unt}(hU:OkU u){w:Nat}(hL:SpecR u w){m:Nat}{p:Pl}{x:Node}(ho:okN u m p x)(hk:x.kind=11){v:List Int}{S:RS}{T:List (List Int)}{j:Nat}(hS:FitS u S)(hwt:wtN x<capE)
  (hj:T[j]? =some v) (hv:v.length=m) (hw:S.fuel<=w) {l:List Int} (hl:l.length=x.params.length):
  ∃y:Wy,zk E 67 [.ptr 0 0 0,zK x,.mslice (nbR u+j) 0 m 1,ints l] (stR u S none T)=some (.ret (encW y),stR u (zTa (evN u w) x (w+1) l v S).2.2 (goH (zTa (evN u w) x (w+1) l v S).1) (T.set j (zTa (evN u w) x (w+1) l v S).2.1))∧
   ∀r,(zTa (evN u w) x (w+1) l v S).1= .ok r->y=r:=by
 have hws:=zlb x;have hjl:=(yb.1 hj).1;rw[zhb]at ho;obtain⟨o1,o2⟩:=ho;have hkid:=zqf (o1.k11 hk).2;have hp:plIn p x.kind x.outs x.params=⟨none,some x.params.length,some x.outs.length⟩:=by rw[hk];rfl
 rw[hp]at o2;have hmem:kid0 x∈x.kids:=by rw[hkid];simp
 obtain⟨h1,h2⟩:=zjb o2 _ hmem;have hwk:=zld hmem;unfold capE at hwt;have ou:=o1.outs;have op:=o1.prs;have hset1:∀l1 v1 S1,FitS u S1->v1.length=m->l1.length=x.params.length->zk E 66 [.mslice (nbR u+j) 0 m 1,ints x.params,ints l1] (stR u S1 none (T.set j v1))=some (.ret (.tup []),stR u S1 none (T.set j (setW v1 x.params l1))):=by
  intro l1 v1 S1 q1 q2 q3;have:=rset_spec (j:=j) (h:=none) (T:=T.set j v1) q1 (yo hjl) q2 op q3.symm (by omega);rwa[yXa]at this
 have hset2:∀l1 v1 S1,FitS u S1->v1.length=m->l1.length=x.outs.length->zk E 66 [.mslice (nbR u+j) 0 m 1,ints x.outs,ints l1] (stR u S1 none (T.set j v1))=some (.ret (.tup []),stR u S1 none (T.set j (setW v1 x.outs l1))):=by
  intro l1 v1 S1 q1 q2 q3;have:=rset_spec (j:=j) (h:=none) (T:=T.set j v1) q1 (yo hjl) q2 ou q3.symm (by omega);rwa[yXa]at this
 have hlist:∀v1 S1,FitS u S1->S1.fuel<=w->v1.length=m->∃y:Wy,zk E 44 [.ptr 0 0 0,zh (kid0 x),.mslice (nbR u+j) 0 m 1] (stR u S1 none (T.set j v1))=some (.ret (encW y),stR u (zB (evN u w) (kid0 x) v1 S1).2.2 (goH (zB (evN u w) (kid0 x) v1 S1).1) (T.set j (zB (evN u w) (kid0 x) v1 S1).2.1))/\∀r,(zB (evN u w) (kid0 x) v1 S1).1= .ok r->y=r:=by
  intro v1 S1 q1 q2 q3;have:=hL m _ _ v1 S1 (T.set j v1) j q1 q2 h1 h2 (by unfold capE;omega) (yo hjl) q3;rwa[yXa]at this
 have hrun:∀v1 S1,v1.length=m->ListRun m ⟨none,some x.params.length,some x.outs.length⟩ (kid0 x) S1 (zB (evN u w) (kid0 x) v1 S1):=fun v1 S1 q=>zpb (zic hU w) _ v1 S1 h1 h2 q
 have hself:=set_self hj;suffices H:PC (zk E 67 [.ptr 0 0 0,zK x,.mslice (nbR u+j) 0 m 1,ints l] (stR u S none T)) (fun res st=>∃y:Wy,res= .ret (encW y)/\st=stR u (zTa (evN u w) x (w+1) l v S).2.2 (goH (zTa (evN u w) x (w+1) l v S).1) (T.set j (zTa (evN u w) x (w+1) l v S).2.1)/\∀r,(zTa (evN u w) x (w+1) l v S).1= .ok r->y=r) by
  obtain⟨r,st,e,y,rfl,rfl,h⟩:=PC_iff.1 H;exact⟨y,e,h⟩
 refine pcall_wpP rfl rfl rfl (by simp[za,ints]) ?_;clear hL hU o1 o2 hp hmem h1 h2 hwk hws ou op hj;simp[F67,za,ints];refine zje K67_0 B67_0 (fun c:RSt=>c.S.fuel) (fun c=>[(3,ints c.l)]) (fun c=>[(8,.cells [.int .i64 0,.slice .fit 1 []])]) (fun c=>stR u c.S none (T.set j c.v))
  (fun c=>zTa (evN u w) x (w+1) l v S=zTa (evN u w) x c.k c.l c.v c.S/\FitS u c.S/\c.S.fuel<=w/\c.S.fuel<c.k/\c.v.length=m/\c.l.length=x.params.length) ⟨w+1,l,v,S⟩ ?_ ?_
 ·simp[*,ints];omega
 ·rintro⟨k,l1,v1,S1⟩ s1 ⟨d2,d3,d4,d5,d6,d7⟩ g1 g2 g3 g4 g5
  simp at d2 d3 d4 d5 d6 d7 g1 g2 g3 g4 g5;rw[d2];cases k with
  |zero=>omega
  |succ k=>
   have hs1:=hset1 l1 v1 S1 d3 d6 d7;have hvl:(setW v1 x.params l1).length=m:=by rw[zDa];exact d6
   obtain⟨y,hc,hy⟩:=hlist (setW v1 x.params l1) S1 d3 d4 hvl;obtain⟨r1,r2,r3⟩:=hrun (setW v1 x.params l1) S1 hvl;simp only[zTa];simp only[zTa]at d2;generalize zB (evN u w) (kid0 x) (setW v1 x.params l1) S1=q at*;obtain⟨a,v2,S2⟩:=q;simp only at r1 r2 r3 hc d2 hy;have hS2:=d3.mono r1;have hset2:=fun z hz=>hset2 z v2 S2 hS2 r2 hz
   have hov:=zrb u S2 (goH a) (T.set j v2);clear hlist hrun hset1;simp[ints]at hs1;simp[encW,zh,ints]at hc;cases a with
   |stop q=>
    simp at hov hc;have hfin:∃y':Wy,encW y=encW y':=⟨y,rfl⟩
    simp[encW,ints]at hfin;clear d2 hset2 r3 d7 hy;simp[*,za,kids,zh,ints,encW]
   |ok r=>
    obtain⟨r4,r5,_⟩:=r3 r rfl;have hyr:=hy r rfl;subst hyr;clear r3 hy;simp at hov hc;simp only at d2 ⊢;by_cases h15:y.kind=15
    ·rw[if_pos h15];have hfin:∃y':Wy,((15:Int)=y'.kind/\y.l.map (PV.int .i64)=y'.l.map (PV.int .i64))/\y'=y:=⟨y,⟨h15.symm,rfl⟩,rfl⟩
     rw[h15]at hc;clear d2 hset2 d7 r5;simp[*,za,kids,zh,ints,encW]
    ·by_cases h14:y.kind=14
     ·rw[if_neg h15,if_pos h14];have hyl:y.l.length=x.outs.length:=by
       rcases r5 with r5|r5|r5|r5
       ·omega
       ·omega
       ·have:=r5.2;simp at this;exact this.symm
       ·omega
      have hs2:=hset2 y.l hyl;simp[ints]at hs2;rw[h14]at hc;clear d2 hset2 r5 d7 hyl;simp[*,za,kids,zh,ints,encW]
     ·rw[if_neg h15,if_neg h14];rw[if_neg h15,if_neg h14]at d2;have hyl:y.l.length=x.params.length:=by
       rcases r5 with r5|r5|r5|r5
       ·cases r5.2
       ·have:=r5.2;simp at this;exact this.symm
       ·omega
       ·omega
      have h13:y.kind=13:=by
       rcases r5 with r5|r5|r5|r5
       ·cases r5.2
       ·exact r5.1
       ·omega
       ·omega
      rw[h13]at hc;have hfu:S2.fuel<S1.fuel:=r4;have hm:FitS u S2/\S2.fuel<=w/\S2.fuel<k:=⟨hS2,by omega,by omega⟩
      clear hset2 r5 d7 h15 h14 h13;simp[*,za,kids,zh,ints];refine⟨⟨k,y.l,v2,S2⟩,?_⟩;simp[*,ints]
theorem evN_zero(u:Unt)(w:Nat)(x:Node)(v:List Int)(S:RS)(h:S.fuel=0):evN u w x v S=(.stop 0,v,S):=by
 cases w with
 |zero=>rfl
 |succ w=>simp only[evN,h]
set_option maxHeartbeats 8000000 in
theorem rlist_of{u:Unt}(hU:OkU u){w:Nat}(hL:∀w',w=w'+1->SpecR u w'):SpecR u w:=by
 intro m p l v S T j hS hf hne ho hw hj hv;have hlen:=zlc l;have hjl:=(yb.1 hj).1;have hE:=zic hU w;have hself:=set_self hj;suffices H:PC (zk E 44 [.ptr 0 0 0,zh l,.mslice (nbR u+j) 0 m 1] (stR u S none T)) (fun res st=>∃y:Wy,res= .ret (encW y)/\st=stR u (zB (evN u w) l v S).2.2 (goH (zB (evN u w) l v S).1) (T.set j (zB (evN u w) l v S).2.1)/\∀r,(zB (evN u w) l v S).1= .ok r->y=r) by
  obtain⟨r,st,e,y,rfl,rfl,h⟩:=PC_iff.1 H;exact⟨y,e,h⟩
 unfold capE at hw;refine pcall_wpP rfl rfl rfl (by simp[zh]) ?_;simp[F44,zh];refine zje K44_0 B44_0 (fun c:LSt=>c.rest.length) (fun c=>[(7,.int .i64 ((l.length-c.rest.length:Nat):Int))]) (fun c=>[(6,.cells [.int .i64 0,.slice .fit 1 []])]) (fun c=>stR u c.S none (T.set j c.v))
  (fun c=>(∃d,l=d++c.rest)/\zB (evN u w) l v S=zB (evN u w) c.rest c.v c.S/\FitS u c.S/\c.S.fuel<=w/\c.v.length=m/\okL u m p c.rest/\c.rest≠ []) ⟨l,v,S⟩ ?_ ?_
 ·simp[*]
 ·rintro⟨rest,v1,S1⟩ s1 ⟨⟨d,d1⟩,d2,d3,d4,d5,d6,d7⟩ g1 g2 g3 g4 g5
  simp at d1 d2 d3 d4 d5 d6 d7 g1 g2 g3 g4 g5;rw[d2];cases rest with
  |nil=>exact absurd rfl d7
  |cons x rest=>
   have hdl:l.length-(rest.length+1)=d.length:=by rw[d1];simp
   have hdl2:l.length-rest.length=d.length+1:=by rw[d1];simp;omega
   have hx:l[d.length]? =some x:=by rw[d1];simp
   have hlt:(d.length:Int)<l.length:=by rw[d1];simp;omega
   have hwx:wtN x<capE:=by have:=zHe (show x∈l by rw[d1];simp);unfold capE;omega
   have hws:=zlb x;rw[okL]at d6;obtain⟨o0,oc,or⟩:=d6;have hwr:zW .i64 ((d.length:Int)+1)=(d.length:Int)+1:=zm (by omega) (by omega);have hdd:∃d',l=d'++rest:=⟨d++[x],by rw[d1];simp⟩
   have hnode:=hE m p x v1 S1 o0 d5;have hstep:=rstep_spec u S1 (T.set j v1) (by have:=d3.2;omega);simp only[zB];simp only[zB]at d2;cases hfu:S1.fuel with
   |zero=>
    rw[hfu]at hstep;rw[evN_zero u w x v1 S1 hfu]at d2 ⊢;simp only at hstep;clear hL hE hS hf ho hj hv hself d3 d4 d5 d7 o0 oc or hnode d2 hws hwx d1;simp[*,za,ints,encW];exact⟨⟨0,[]⟩,rfl,rfl⟩
   |succ k=>
    obtain⟨w',rfl⟩:∃w',w=w'+1:=⟨w-1,by omega⟩
    have hL:=hL w' rfl;rw[hfu]at hstep;simp only at hstep;obtain⟨n1,n2,n3⟩:=hnode;simp only[evN,hfu]at d2 n1 n2 n3 ⊢;have hS0:FitS u {S1 with fuel:=k}:=⟨d3.1,by have:=d3.2;simp only;omega⟩
    have hf0:({S1 with fuel:=k}:RS).fuel<=w':=by simp only;omega
    have hlt0:({S1 with fuel:=k}:RS).out.length+({S1 with fuel:=k}:RS).fuel<1000000000000:=by have:=d3.2;simp only;omega
    have hcur:(T.set j v1)[j]? =some v1:=yo hjl;have ho':=o0;rw[zhb]at ho';obtain⟨o1,o2⟩:=ho';unfold capE at hwx;have hof:=vof_spec (u:=u) (h:=none) hS0 hcur d5 o1.args (by omega);have hol:=zKc v1 x.args;have hlo:=fun(h:x.kind=11)=>rloop_of hU hL o0 h hS0 (by unfold capE;omega) hcur d5 hf0 (l:=ofW v1 x.args) (by rw[hol];exact(o1.k11 h).1)
    have hsm:=fun(h:3<=x.kind/\x.kind<=9)=>rsum_of hU hL o1 h (T:=T.set j v1) hS0 hf0 hlt0 hol
    have hset1:∀o z S2 h,FitS u S2->x.outs=[o]->inR m [o]->(stR u S2 h (T.set j v1)).set (nbR u+j) (.arr 1 ((v1.map (PV.int .i64)).set o.toNat (.int .i64 z)))=stR u S2 h (T.set j (setW v1 x.outs [z])):=by
     intro o z S2 h q1 q2 q3;have:=stR_set (u:=u) (S:=S2) (h:=h) (T:=T.set j v1) q1 j (v1.set o.toNat z);rw[yXa,yxa]at this;rw[this,q2];rfl
    have hgt1:∀S2 h,FitS u S2->(stR u S2 h (T.set j v1))[nbR u+j]? =some (.arr 1 (v1.map (PV.int .i64))):=fun S2 h q=>stR_get q hcur
    have hin1:∀o,x.outs=[o]->0<=o/\o.toNat<m/\∃y,v1[o.toNat]? =some y:=by
     intro o q;have:=o1.outs o (by rw[q];simp);exact⟨this.1,by omega,_,yd (by omega)⟩
    have hcont:∀r v2 S2,(zmb u (evN u w') w' x v1 {S1 with fuel:=k})=(.ok r,v2,S2)->r.kind=0->FitS u S2/\S2.fuel<=w'+1/\v2.length=m/\rest≠ []:=by
     intro r v2 S2 e hr0;rw[e]at n1 n2 n3;obtain⟨m1,m2⟩:=n3 _ rfl;refine⟨d3.mono n1,by have:=n1.fuel;simp only at this;omega,n2,?_⟩
     rintro rfl
     rcases m2 with m2|m2
     ·rw[m2.2]at oc;cases oc
     ·exact m2.1.ne hr0
    have hov0:=zrb u {S1 with fuel:=k} none (T.set j v1);have hch:x.kind=10->∃a,ofW v1 x.args=[a]:=fun h=>len1 (by rw[hol];exact(o1.k10 h).1)
    clear hE n1 n2 n3 hself hS hf ho hj hv d7 hlen d1;generalize hSS:({S1 with fuel:=k}:RS)=S0 at*;generalize hoo:ofW v1 x.args=la at*;unfold zmb at d2 hcont ⊢;rw[hoo]at d2 hcont ⊢;simp[ints]at hof hov0;have hkk:=o1.k;have e0:(x.kind=0)=False:=eqn (by omega);by_cases k1:x.kind=1\/x.kind=2
    ·rw[if_pos k1]at d2 hcont ⊢;obtain⟨o,hou⟩:=len1 (o1.k12 k1);obtain⟨i1,i2,y,i3⟩:=hin1 o hou;have f1:=hset1 o x.n S0 none hS0 hou (by rw[<-hou];exact o1.outs);have f2:=hgt1 S0 none hS0;obtain⟨c1,c2,c3,c4⟩:=hcont _ _ _ rfl rfl;have hov1:=zrb u S0 none (T.set j (setW v1 x.outs [x.n]));simp at hov1;clear hcont hch hlo hsm hset1 hgt1 hin1 hL o0 o1 o2 oc hkk d3 d4 hS0 hf0 hlt0 hcur hol hSS hfu;rcases k1 with k1|k1
     ·replace k1:=eqp k1;rw[hou]at hov1 f1 c3;simp[*,za,ints,encW,-getElem?_pos,yD];refine⟨⟨rest,setW v1 x.outs [x.n],S0⟩,?_⟩;simp[*]
     ·have k0:(x.kind=1)=False:=eqn (by omega);replace k1:=eqp k1;rw[hou]at hov1 f1 c3;simp[*,za,ints,encW,-getElem?_pos,yD];refine⟨⟨rest,setW v1 x.outs [x.n],S0⟩,?_⟩;simp[*]
    rw[if_neg k1]at d2 hcont ⊢;have e1:(x.kind=1)=False:=eqn (by omega);have e2:(x.kind=2)=False:=eqn (by omega);clear k1;by_cases kE:12<=x.kind/\x.kind<=15
    ·rw[if_pos kE]at d2 hcont ⊢;have h4:x.kind=12\/x.kind=13\/x.kind=14\/x.kind=15:=by omega
     clear hcont hch hlo hsm hset1 hgt1 hin1 hL o0 o1 o2 oc hkk d2 d3 d4 hS0 hf0 hlt0 hcur hol hSS hfu kE;have hfin:∃y:Wy,(x.kind=y.kind/\la.map (PV.int .i64)=y.l.map (PV.int .i64))/\y=⟨x.kind,la⟩:=⟨_,⟨rfl,rfl⟩,rfl⟩
     rcases h4 with h4|h4|h4|h4
     ·simp[*,za,ints,encW]
     ·simp[*,za,ints,encW]
     ·simp[*,za,ints,encW]
     ·simp[*,za,ints,encW]
    rw[if_neg kE]at d2 hcont ⊢;have e12:(x.kind=12)=False:=eqn (by omega);have e13:(x.kind=13)=False:=eqn (by omega);have e14:(x.kind=14)=False:=eqn (by omega);have e15:(x.kind=15)=False:=eqn (by omega);clear kE;by_cases k10:x.kind=10
    ·rw[if_pos k10]at d2 hcont ⊢;obtain⟨a,ha⟩:=hch k10;subst ha;have a0:atA [a] 0=a:=rfl;rw[a0]at d2 hcont ⊢;have hkid:=kids_two (o1.k10 k10).2;have hp:plIn p x.kind x.outs x.params={p with y:=some x.outs.length}:=by rw[k10];rfl
     rw[hp]at o2;have hmem:(if a=0 then kid1 x else kid0 x)∈x.kids:=by rw[hkid];split<;>simp
     obtain⟨h1,h2⟩:=zjb o2 _ hmem;have hwk:=zld hmem;obtain⟨y,hc,hy⟩:=hL m _ _ v1 S0 (T.set j v1) j hS0 hf0 h1 h2 (by unfold capE;omega) hcur d5;rw[yXa]at hc;obtain⟨r1,r2,r3⟩:=zpb (zic hU w') _ v1 S0 h1 h2 d5;have hif:(a=0)=True/\(if a=0 then kid1 x else kid0 x)=kid1 x\/(a=0)=False/\(if a=0 then kid1 x else kid0 x)=kid0 x:=by
      by_cases h:a=0<;>simp[h]
     unfold zUa at d2 hcont ⊢;have hou:=o1.outs;have holn:x.outs.length<1099511627776:=by omega
     generalize(if a=0 then kid1 x else kid0 x)=kl at*;generalize zB (evN u w') kl v1 S0=q at*;obtain⟨b,v2,S2⟩:=q;simp only at r1 r2 r3 hc hy d2 hcont ⊢;have hS2:=hS0.mono r1;have hov1:=zrb u S2 (goH b) (T.set j v2);simp[zh,encW,ints]at hc;clear hch hlo hsm hset1 hgt1 hin1 hL o0 o1 o2 oc hkk d3 d4 hS0 hf0 hlt0 hcur hol hSS hfu hwk hmem h1 h2 hp r1;replace k10:=eqp k10;cases b with
     |stop q=>
      simp at hov1 hc;clear hcont d2 r3 hy r2;rcases hif with⟨hc0,hl⟩|⟨hc0,hl⟩<;>subst hl<;>(simp[*,za,kids,zh,ints,encW];exact⟨y,⟨rfl,rfl⟩⟩)
     |ok r=>
      have hyr:=hy r rfl;subst hyr;obtain⟨_,r4,_⟩:=r3 y rfl;simp at hov1 hc;simp only at d2 hcont ⊢;clear hy r3;by_cases hk:y.kind=12
      ·rw[if_pos hk]at d2 hcont ⊢;have hyl:x.outs.length=y.l.length:=by
        rcases r4 with r4|r4|r4|r4
        ·have:=r4.2;simp at this;exact this
        ·omega
        ·omega
        ·omega
       have hset:=rset_spec (j:=j) (h:=none) (T:=T.set j v2) hS2 (yo hjl) r2 hou hyl holn;rw[yXa]at hset;simp[ints]at hset;obtain⟨c1,c2,c3,c4⟩:=hcont _ _ _ rfl rfl;have hov2:=zrb u S2 none (T.set j (setW v2 x.outs y.l));simp at hov2;replace hk:=eqp hk;clear hcont r4 hyl holn hou r2;rcases hif with⟨hc0,hl⟩|⟨hc0,hl⟩<;>subst hl<;>(simp[*,za,kids,zh,ints,encW];refine⟨⟨rest,setW v2 x.outs y.l,S2⟩,?_⟩;simp[*])
      ·rw[if_neg hk]at d2 hcont ⊢;have hk0:(y.kind=0)=False:=eqn r4.ne;replace hk:=eqn hk;clear hcont r4 holn hou r2 d2;rcases hif with⟨hc0,hl⟩|⟨hc0,hl⟩<;>subst hl<;>(simp[*,za,kids,zh,ints,encW])
    rw[if_neg k10]at d2 hcont ⊢;by_cases k11:x.kind=11
    ·rw[if_pos k11]at d2 hcont ⊢;obtain⟨y,hc,hy⟩:=hlo k11;rw[yXa]at hc;have hlk:=(loopW_ok (zic hU w') o0 k11 (w'+1) (l:=la) (v:=v1) (by rw[hol];exact(o1.k11 k11).1) d5 S0).2.2;generalize zTa (evN u w') x (w'+1) la v1 S0=q at*;obtain⟨b,v2,S2⟩:=q;simp only at hc hy hlk;have hov1:=zrb u S2 (goH b) (T.set j v2);simp[za,encW,ints]at hc;clear hch hlo hsm hset1 hgt1 hin1 hL o0 o1 o2 oc hkk d3 d4 hS0 hf0 hlt0 hcur hol hSS hfu;replace k10:=eqn k10;replace k11:=eqp k11;cases b with
     |stop q=>
      simp at hov1 hc;clear hcont d2 hy hlk;simp[*,za,zh,ints,encW];exact⟨y,⟨rfl,rfl⟩⟩
     |ok r=>
      have hyr:=hy r rfl;subst hyr;simp at hov1 hc;simp only at d2 hcont ⊢;clear hy;by_cases hk:y.kind=0
      ·rw[if_pos hk]at d2 ⊢;obtain⟨c1,c2,c3,c4⟩:=hcont _ _ _ rfl hk;clear hcont hlk;rw[hk]at hc;clear hk;simp[*,za,zh,ints,encW];refine⟨⟨rest,v2,S2⟩,?_⟩;simp[*]
      ·rw[if_neg hk]at d2 ⊢;replace hk:=eqn hk;clear hcont d2 hlk;simp[*,za,zh,ints,encW]
    rw[if_neg k11]at d2 hcont ⊢;have h39:3<=x.kind/\x.kind<=9:=by
     have a1:=of_eq_false e1;have a2:=of_eq_false e2;have a3:=of_eq_false e12;have a4:=of_eq_false e13;have a5:=of_eq_false e14;have a6:=of_eq_false e15;omega
    obtain⟨z,hc,hz⟩:=hsm h39;have hpm:=plainW_ok (zic hU w') hU o1 h39 hol (zq S0);have hou:=o1.outs;have hol1:x.outs.length<=1:=by
     have q:=o1.k3;have q4:=o1.k4;have q5:=o1.k5;have q6:=o1.k6;have q8:=o1.k8;have q9:=o1.k9;rcases(show x.kind=3\/x.kind=4\/x.kind=5\/x.kind=6\/x.kind=7\/x.kind=8\/x.kind=9 from by omega)with e|e|e|e|e|e|e
     ·have:=(q e).2;omega
     ·have:=(q4 e).2;omega
     ·have:=(q5 e).2.2;omega
     ·have:=(q6 e).2.2;omega
     ·obtain⟨_,_,_,_,t⟩:=o1.k7 e;omega
     ·have:=q8 e;omega
     ·have:=(q9 e).2;omega
    have hfs:=fun S2 (h:Mono1 (zq S0) S2)=>(⟨h.arrs.trans hS0.1,by have:=h.out;have:=hlt0;simp only[zq]at*;omega⟩:FitS u S2)
    generalize zoa u (evN u w') x la (zq S0)=q at*;obtain⟨b,S2⟩:=q;simp only at hc hz hpm;have hS2:=hfs S2 hpm.1;have hov1:=zrb u S2 (goH b) (T.set j v1);simp[za,ints]at hc;replace k10:=eqn k10;replace k11:=eqn k11;clear hch hlo hsm hL o0 o2 oc hkk d3 d4 hf0 hlt0 hcur hol hSS hfu hfs;cases b with
    |stop q=>
     simp at hov1 hc;clear hcont d2 hz hpm o1 hset1 hgt1 hin1 hou;simp[*,za,zh,ints,encW];exact⟨⟨0,[]⟩,⟨rfl,rfl⟩⟩
    |ok r=>
     simp at hov1 hc;simp only at d2 hcont ⊢;obtain⟨c1,c2,c3,c4⟩:=hcont _ _ _ rfl rfl;have hrl:=hpm.2 r rfl;clear hcont hpm
     match hx1:x.outs with
     | []=>
      rw[hx1]at hrl c3 d2;have hr0:r=[]:=yda hrl;subst hr0;clear hz o1 hset1 hgt1 hin1 hou hol1 hrl;simp only[setW]at d2 c3;rw[hx1]at hc;simp only[List.map_nil]at hc;simp[*,za,zh,ints,encW,setW];refine⟨⟨rest,v1,S2⟩,?_⟩;simp[*]
     | [o]=>
      rw[hx1]at hrl;obtain⟨mm,hmm⟩:=len1 hrl;subst hmm;have hzz:=hz mm rfl;subst hzz;obtain⟨i1,i2,y,i3⟩:=hin1 o hx1;have f1:=hset1 o z S2 none hS2 hx1 (by rw[<-hx1];exact hou);have f2:=hgt1 S2 none hS2;have hov2:=zrb u S2 none (T.set j (setW v1 x.outs [z]));simp at hov2;rw[hx1]at hov2 f1 c3 d2 hc;simp only[yR,List.map_nil]at hc;clear hz o1 hset1 hgt1 hin1 hou hol1 hrl;simp[*,za,zh,ints,encW,-getElem?_pos,yD];refine⟨⟨rest,setW v1 [o] [z],S2⟩,?_⟩;simp[*]
     |_::_::_=>rw[hx1]at hol1;simp at hol1
theorem rspecs{u:Unt}(hU:OkU u):∀w,SpecR u w
 |0=>rlist_of hU (fun w' h=>by cases h)
 |w+1=>rlist_of hU (fun w' h=>by cases h;exact rspecs hU w)
theorem rptrs_snoc(x:Arr):∀(d:List Arr) (b:Nat),zac b (d++[x])=zac b d++[.mslice (b+d.length) 0 x.size.toNat 1]
 | [],b=>by simp[zac]
 |y::d,b=>by
  simp only[yI,zac,rptrs_snoc x d,yZ];rw[show b+1+d.length=b+(d.length+1)from by omega]
set_option maxHeartbeats 4000000 in
theorem zmd(u:Unt)(hz:USz u)(hb:∀f∈u.flows,wtL f.body<1099511000000)(inp:List Int)(fu:Int)(hf:fu<=100000000000):zk E 13 [encUnt u,ints inp,.int .i64 fu] []=some (.ret (zge (zHa u inp fu)),[]):=by
 have hck:=rcheck_spec u hz hb;rw[<-check_eq]at hck;refine zc rfl rfl rfl (by simp[encUnt,ints]) ?_;unfold zHa;by_cases h0:(zJa u).1=0
 ·rw[if_pos h0];have hU:=zcf hz h0;have hS0:FitS u (run0 u inp fu):=by
   refine⟨?_,?_⟩
   ·simp[run0,List.map_map,yL]
   ·simp[run0];omega
  obtain⟨f,hf',hfm,hp',hfp⟩:=hU.main;have hpl:=zWc u zw [] hz.flows;have hpn:(((zZ u.flows zw).toNat:Nat):Int)=zZ u.flows zw:=Int.toNat_of_nonneg hp';obtain⟨z,hc,hzz⟩:=rcall_of hU (rspecs hU (run0 u inp fu).fuel) hf' (l:=[]) (T:=[]) hS0 (yg _) (by simp);rw[hpn]at hc;have hm:=(callW_ok (zic hU (run0 u inp fu).fuel) (hU.body f hfm) (l:=[]) (by simp) (run0 u inp fu)).1;have hmw:mainW u (run0 u inp fu)=zRc (evN u (run0 u inp fu).fuel) f [] (run0 u inp fu):=by unfold mainW;rw[hf']
  rw[hmw];clear hmw;generalize zRc (evN u (run0 u inp fu).fuel) f [] (run0 u inp fu)=q at*;obtain⟨a,S1⟩:=q;simp only at hc hm hzz;have hS1:=hS0.mono hm;have hov:=zrb u S1 (goH a) [];have hr4:∀h X,((stR u S1 h []).set 0 X)[0]? =some X:=by
   intro h X;rw[yo (by rw[stR_len hS1];unfold nbR;omega)]
  have hmx:(if fu<0 then 0 else fu)=max fu 0:=by split<;>omega
  generalize zJa u=ck at*;obtain⟨c0,c1⟩:=ck;simp only at h0;subst h0;simp[encUnt,arrs]at hck;simp[encUnt,arrs,zw]at hpl;simp only[zw]at hc;unfold stR at hc;simp[runR,run0,zQd,arrs,ints]at hc;simp[*,F13,encUnt,arrs,ints];refine zG u.arrays K13_0 B13_0 (fun d=>[(10,.int .i64 d.length)]) (fun d=> .arr 10 [.agg [.slice .plain 2 (u.arrays.map zga),flows u.flows,.slice .plain 1 (inp.map (PV.int .i64)),acc 1 (zac 1 d),.int .i64 0,.int .i64 0,.slice .fit 1 [],.int .i64 0,.int .i64 (max fu 0),.bool false]]::d.map (fun x=>intO (yf x.size.toNat 0))) (fun d=>True) (by have:=hz.arrs;omega) (by simp[zac]) ?_ ?_
  ·intros d x r s1 hl' hlt hget hget' hwr hp g1 g2 g3 g4;simp at g1 g3;have hsz:=hU.arrs x hl'.mem;have hsn:=rptrs_snoc x d 1;rw[show 1+d.length=d.length+1 from by omega]at hsn;have hdec:decide (d.length<u.arrays.length)=true:=decide_eq_true hlt;have hs1:(x.size<0)=False:=eqn (by omega);have hs2:(0<=x.size)=True:=eqp (by omega);have hs3:(x.size<=9223372036854775807)=True:=eqp (by omega);have hs4:(8*x.size<=281474976710656)=True:=eqp (by omega);have hrow:Obj.arr 1 (yf x.size.toNat (PV.int .i64 0))=intO (yf x.size.toNat 0):=by simp[intO]
   have hroom:((zac 1 d).length+1)*24<=zo:=by
    rw[rptrs_len];have:=hz.arrs;simp only[zo];omega
   have hao:acc 1 (zac 1 d++[.mslice (d.length+1) 0 x.size.toNat 1])= .slice .own 1 (zac 1 d++[.mslice (d.length+1) 0 x.size.toNat 1]):=acc_ne (by simp);have hio:isOwn (acc 1 (zac 1 d++[.mslice (d.length+1) 0 x.size.toNat 1]))=some (1,zac 1 d++[.mslice (d.length+1) 0 x.size.toNat 1]):=by
    rw[acc_ne (by simp)];rfl
   clear hl' hget' hlt hp hsz hU hS0 hm hr4 hck hS1 hc hov hpl hzz hf' hfm hp' hfp hpn;simp[*,zga]
   try rw[hao]
  ·intros s1 hp g1 g2 g3 g4;simp at g1 g3;have hdec:(u.arrays.map (fun x=>intO (yf x.size.toNat 0)))=List.map (intO ∘ fun a=>yf a.size.toNat 0) u.arrays:=rfl;rw[hdec]at g4;clear hdec hU hS0 hp hck hm hS1 hf' hfm hp' hfp hpn;cases a with
   |stop k=>
    simp at hc;simp[stR,runR,zQd,arrs,ints]at hov;clear hzz;simp[*,zge,runEnd,ints]
   |ok n=>
    replace hzz:=hzz n rfl;subst hzz;simp at hc;simp[stR,runR,zQd,arrs,ints]at hov;simp[*,zge,runEnd,ints]
 ·rw[if_neg h0];generalize zJa u=ck at*;obtain⟨c0,c1⟩:=ck;simp only at h0;simp[encUnt]at hck;replace h0:=eqn h0;simp[*,F13,encUnt,zge,ints]
def awK:Unt:=⟨[],[⟨zw,1,0,[1,1],[⟨1,0,2,[],[],[0],[],[]⟩,⟨4,3,0,[],[0,0],[1],[],[]⟩,⟨15,0,0,[],[1],[],[],[]⟩]⟩]⟩
def awV:Unt:=⟨[],[⟨zw,1,0,[1,1],[⟨1,0,2,[],[],[0],[],[]⟩,⟨1,0,4,[],[],[1],[],[]⟩,⟨15,0,0,[],[1],[],[],[]⟩]⟩]⟩
theorem two_22:two 3 2 2=(4,true):=by
 rw[two_eqC];decide+kernel
theorem awK_1:zT awK=awV:=by
 have h4:=two_22;simp[zT,awK,awV,zZe,zPa,zHc,zta,zsb,zod,getA,setA,madeK,numK,at0,zWb,h4,wrL,wrGo,wrN,sumW,valW,zn,zx,zzb,zhc,zb,zEc,Node.ends]
theorem awK_0:(zJa awK).1=0:=by decide+kernel
theorem awV_1:(zHa awV [] 3).status=1/\(zHa awV [] 3).code=4:=by decide+kernel
theorem awK_sz:USz awK:=⟨by decide,by decide,by decide+kernel,by decide+kernel⟩
theorem awV_sz:USz awV:=⟨by decide,by decide,by decide+kernel,by decide+kernel⟩
theorem nilU_sz:USz ⟨[],[]⟩:=⟨by decide,by decide,by simp,by simp⟩
theorem plain_true(l:List Node)(hl:l.length<1099511627776)(h:∀x∈l,x.kind<=4\/x.kind=15):zk E 48 [zh l] []=some (.ret (.bool true),[]):=by
 refine zc rfl rfl rfl (by simp[zh]) ?_;simp[F48,zh];refine zG l K48_0 B48_0 (fun d=>[(3,.int .i64 d.length)]) (fun _=>[]) (fun d=>True) (by omega) (by simp) ?_ ?_
 ·intros d x r s1 hl' hlt hget hget' hw1 hp h1 h2 h3 h4;simp at h1 h2 h3;have hx:=h x hl'.mem;have hdec:decide (d.length<l.length)=true:=decide_eq_true hlt;obtain⟨k,o,n,s,a,us,ps,ks⟩:=x;simp only at hx;clear hl' h;by_cases hk:(4:Int)<k
  ·have e1:((4:Int)<k)=True:=eqp hk;have e2:(k=15)=True:=eqp (by omega);clear hx hk;simp[*,za]
  ·have e1:((4:Int)<k)=False:=eqn hk;clear hx hk;simp[*,za]
 ·intros s1 hp h1 h2 h3 h4;simp at h1 h2 h3;clear h;simp[*]
set_option maxHeartbeats 2000000 in
theorem right_true(ars:List Arr)(f g:Flow)(hn:f.name=zw)(hlf:f.body.length<1099511627776)(hlg:g.body.length<1099511627776)(hf:∀x∈f.body,x.kind<=4\/x.kind=15)(hg:∀x∈g.body,x.kind≠3/\x.kind≠4):
  zk E 31 [encUnt ⟨ars,[f]⟩,encUnt ⟨ars,[g]⟩] []=some (.ret (.bool true),[]):=by
 refine zc rfl rfl rfl (by simp[encUnt]) ?_;have hp:=plain_true f.body hlf hf;obtain⟨fn,ft,fp,fts,fb⟩:=f;obtain⟨gn,gt,gp,gts,gb⟩:=g;simp only at hn hlf hlg hf hg hp;subst hn;simp[F31,encUnt,flows];refine zG [()] K31_1 B31_1 (fun d=>[(5,.int .i64 d.length)]) (fun _=>[]) (fun d=>True) (by simp) (by simp) ?_ ?_
 ·intros d x r s1 hl' hlt hget hget' hw1 hp' h1 h2 h3 h4;have hd:d.length=0:=by have:d.length<1:=hlt;omega
  have w1:zW .i64 1=1:=zm (by omega) (by omega);simp[hd]at h1 h2 h3;clear hl' hlt hget hget' hw1;simp[zh]at hp;simp[*,zf,zh,zw];refine zG gb K31_0 B31_0 (fun e=>[(7,.int .i64 e.length)]) (fun _=>[]) (fun e=>True) (by omega) (by simp) ?_ ?_
  ·intros e y r' s3 jl jlt jget jget' jw1 jp j1 j2 j3 j4;simp at j1 j2 j3;have jdec:decide (e.length<gb.length)=true:=decide_eq_true jlt;obtain⟨y3,y4⟩:=hg y jl.mem;obtain⟨k,o,n,s,a,us,ps,ks⟩:=y;simp only at y3 y4;have e3:(k=3)=False:=eqn y3;have e4:(k=4)=False:=eqn y4;clear jl hg hf y3 y4;simp[*,za,zw,zh]
  ·intros s3 jp j1 j2 j3 j4;simp at j1 j2 j3;clear hg hf;simp[*,zw,zh]
 ·intros s1 hp' h1 h2 h3 h4;simp at h1 h2 h3;clear hg hf;simp[*]
theorem unit12_spec(t:List Int)(l:List Node):zk E 30 [ints t,zh l] []=some (.ret (encUnt ⟨[],[⟨zw,1,0,t,l⟩]⟩),[]):=by
 refine zc rfl rfl rfl (by simp[ints,zh]) ?_;simp[F30,ints,zh,encUnt,arrs,flows,zf,zw]
set_option maxHeartbeats 4000000 in
theorem awake12_spec:zk E 15 [] []=some (.ret (.bool true),[]):=by
 refine zc rfl rfl rfl (by simp) ?_;have k1:=known_spec awK awK_sz (by decide+kernel);rw[awK_0,awK_1]at k1;have k2:=known_spec ⟨[],[]⟩ nilU_sz (by simp);have k0:(zJa ⟨[],[]⟩).1=1:=by decide+kernel
 rw[k0]at k2;have u1:=unit12_spec [1,1] [⟨1,0,2,[],[],[0],[],[]⟩,⟨4,3,0,[],[0,0],[1],[],[]⟩,⟨15,0,0,[],[1],[],[],[]⟩];have r1:=zmd awV awV_sz (by decide+kernel) [] 3 (by omega);have rt:=right_true [] ⟨zw,1,0,[1,1],[⟨1,0,2,[],[],[0],[],[]⟩,⟨4,3,0,[],[0,0],[1],[],[]⟩,⟨15,0,0,[],[1],[],[],[]⟩]⟩ ⟨zw,1,0,[1,1],[⟨1,0,2,[],[],[0],[],[]⟩,⟨1,0,4,[],[],[1],[],[]⟩,⟨15,0,0,[],[1],[],[],[]⟩]⟩ rfl (by decide) (by decide) (by decide) (by decide);obtain⟨a1,a2⟩:=awV_1;generalize zHa awV [] 3=m1 at*;obtain⟨s1,c1,o1,k1',f1⟩:=m1;simp only at a1 a2;subst a1 a2;simp[zge,ints,encUnt,awK,awV,arrs,flows,zf,zh,za,kids,zw]at k1 k2 r1 rt u1;simp[*,F15,ints,sealSt,sealBx,zFa,killAll]
def szS:List Node->Nat
 | []=>0
 |x::r=>szK x.kids+szS r
theorem szL_S:∀l:List Node,szL l=l.length+szS l
 | []=>rfl
 |x::r=>by rw[szL,szS,szL_S r,zNe,yZ];omega
theorem szS_app(a b:List Node):szS (a++b)=szS a+szS b:=by
 induction a with
 |nil=>simp[szS]
 |cons x r ih=>simp[szS,ih];omega
theorem szK_app(a b:List (List Node)):szK (a++b)=szK a+szK b:=by
 induction a with
 |nil=>simp[szK]
 |cons x r ih=>simp[szK,ih];omega
mutual
theorem szN_wt:∀x:Node,szN x<=wtN x
 |⟨k,o,n,s,a,us,ps,ks⟩=>by rw[szN,wtN];have:=szK_wt ks;omega
theorem szL_wt:∀l:List Node,szL l<=wtL l
 | []=>by rw[szL];omega
 |x::r=>by rw[szL,wtL];have:=szN_wt x;have:=szL_wt r;omega
theorem szK_wt:∀l:List (List Node),szK l<=wtK l
 | []=>by rw[szK];omega
 |x::r=>by rw[szK,wtK];have:=szL_wt x;have:=szK_wt r;omega
end
set_option maxHeartbeats 1000000 in
theorem size_spec:∀(w:Nat) (l:List Node),wtL l<=w->w<1099511000000->zk E 53 [zh l] []=some (.ret (.int .i64 (szL l)),[]):=by
 intro w
 induction w using ysa with
 |_ w IH=>
 intro l h hw;refine zc rfl rfl rfl (by simp[zh]) ?_;have hlen:=zlc l;have hsz:=szL_wt l;rw[szL_S]at hsz ⊢;simp[F53,zh];refine zG l K53_1 B53_1 (fun d=>[(3,.int .i64 ((l.length:Int)+(szS d:Int))),(4,.int .i64 d.length)]) (fun _=>[]) (fun d=>True) (by omega) (by simp[szS]) ?_ ?_
 ·intros d x r s1 hl' hlt hget hget' hw1 hp h1 h2 h3 h4;simp at h1 h2 h3;have hwx:=zHe hl'.mem;have hwe:=zlb x;have hs:szS l=szS d+szK x.kids+szS r:=by rw[hl'.eq,szS_app];simp only[szS];omega
  have hf:(szS (d++[x]):Int)=(szS d:Int)+(szK x.kids:Int):=by rw[szS_app];simp only[szS];omega
  have hkl:=len_wtK x.kids;have hk:∀k∈x.kids,zk E 53 [zh k] []=some (.ret (.int .i64 (szL k)),[]):=by
   intro k hk;have:=zld hk;exact IH (wtL k) (by omega) k (yg _) (by omega)
  have hkb:x.kids.length<2^62:=by omega
  have hdec:decide (d.length<l.length)=true:=decide_eq_true hlt;have hbase:((l.length:Int)+(szS d:Int))+(szK x.kids:Int)<1099511627776:=by omega
  generalize hA2:(l.length:Int)+(szS d:Int)=A at*;have hA0:0<=A:=by omega
  clear IH hl' hwx hwe h h2 hkl hlen hw hs hsz;simp[*,za,kids];refine zG x.kids K53_0 B53_0 (fun e=>[(3,.int .i64 (A+(szK e:Int))),(5,.int .i64 e.length)]) (fun _=>[]) (fun e=>True) hkb (by simp[szK, *]) ?_ ?_
  ·intros e y r' s3 jl jlt jget jget' jw1 jp j1 j2 j3 j4;simp at j1 j2 j3;have jdec:decide (e.length<x.kids.length)=true:=decide_eq_true jlt;have iy:=hk y jl.mem;have js:szK x.kids=szK e+szL y+szK r':=by rw[jl.eq,szK_app];simp only[szK];omega
   have jf:(szK (e++[y]):Int)=(szK e:Int)+(szL y:Int):=by rw[szK_app];simp only[szK];omega
   have v1:zW .i64 (A+(szK e:Int)+(szL y:Int))=A+(szK e:Int)+(szL y:Int):=zm (by omega) (by omega);clear jl hk js hbase hA0 hf hA2;simp[zh]at iy
   (simp[*,zh,za,kids])<;>(repeat' (first|((first|refine sP _ ?_ ?_|refine gP _ ?_ ?_|refine sN _ ?_ ?_|refine gN _ ?_ ?_)<;>intro hc<;>(first|replace hc:=eqn hc|replace hc:=eqp hc)<;>simp[*,zh,za,kids])|((first|refine sM _ ?_ ?_|refine gM _ ?_ ?_|refine sB _ ?_ ?_|refine gB _ ?_ ?_)<;>intro hc<;>simp[*,zh,za,kids])))
   all_goals omega
  ·intros s3 jp j1 j2 j3 j4;simp at j1 j2 j3;clear hk
   (simp[*,zh,za,kids])<;>(repeat' (first|((first|refine sP _ ?_ ?_|refine gP _ ?_ ?_|refine sN _ ?_ ?_|refine gN _ ?_ ?_)<;>intro hc<;>(first|replace hc:=eqn hc|replace hc:=eqp hc)<;>simp[*,zh,za,kids])|((first|refine sM _ ?_ ?_|refine gM _ ?_ ?_|refine sB _ ?_ ?_|refine gB _ ?_ ?_)<;>intro hc<;>simp[*,zh,za,kids])))
   all_goals omega
 ·intros s1 hp h1 h2 h3 h4;simp at h1 h2 h3;simp[*]
theorem goR_two{u:Unt}{f:Flow}{x:Node}{r:List Node}{seen:List Int}{w:Place}{deep:Int}{Z:Set1}(hd:deep<=100)(h:(zy u f x seen w deep Z).1=true)(hc:zb x=r.isEmpty):
  goR u f (x::r) seen w deep Z=goR u f r (seen++x.outs) w deep (zy u f x seen w deep Z).2:=by
 rw[goR,if_neg (by omega),if_pos h,if_pos hc]
def Ty12(l:List Int):Prop:=∀t∈l,t=1\/t=2
structure SeenOk(ts seen:List Int):Prop where
 zero:(0:Int)∈seen
 rng:∀x∈seen,0<=x/\x<ts.length
 has:∀t,t=1\/t=2->∃x∈seen,atA ts x.toNat=t
theorem some1_mem(ts:List Int)(t:Int):∀(l:List Int) (f:Bool) (k v:Int),some1 ts t l f k v∈l\/some1 ts t l f k v=v
 | [],f,k,v=> .inr rfl
 |x::r,f,k,v=>by
  rw[some1];split
  ·rcases some1_mem ts t r false (k-1) x with h|h
   ·exact .inl (yha _ h)
   ·rw[h];exact .inl (by simp)
  ·rcases some1_mem ts t r false k v with h|h
   ·exact .inl (yha _ h)
   ·exact .inr h
theorem some2_mem(ts:List Int)(t:Int):∀(l:List Int) (v:Int),some2 ts t l v∈l\/some2 ts t l v=v
 | [],v=> .inr rfl
 |x::r,v=>by
  rw[some2];split
  ·exact .inr rfl
  ·rcases some2_mem ts t r (if atA ts x.toNat=t then x else v)with h|h
   ·exact .inl (yha _ h)
   ·rw[h];split
    ·exact .inl (by simp)
    ·exact .inr rfl
theorem some2_ty(ts:List Int)(t:Int):∀(l:List Int) (v:Int),(atA ts v.toNat=t\/∃x∈l,atA ts x.toNat=t)->atA ts (some2 ts t l v).toNat=t
 | [],v,h=>by
  rcases h with h|⟨x,hx,_⟩
  ·exact h
  ·cases hx
 |x::r,v,h=>by
  rw[some2];split
  ·assumption
  ·rename_i hv;refine some2_ty ts t r _ ?_;rcases h with h|⟨y,hy,h⟩
   ·exact absurd h hv
   ·rcases yA.1 hy with rfl|hy
    ·rw[if_pos h];exact .inl h
    ·exact .inr ⟨y,hy,h⟩
theorem someV_ok{ts seen:List Int}(h:SeenOk ts seen){t:Int}(ht:t=1\/t=2)(k:Int):someV ts seen t k∈seen/\atA ts (someV ts seen t k).toNat=t:=by
 unfold someV;refine⟨?_,some2_ty ts t seen _ (.inr (h.has t ht))⟩;rcases some2_mem ts t seen (some1 ts t seen true k 0)with h1|h1
 ·exact h1
 ·rw[h1];rcases some1_mem ts t seen true k 0 with h2|h2
  ·exact h2
  ·rw[h2];exact h.zero
theorem at0_pre{ts F y:List Int}(hF:F=ts++y){v:Int}(h:0<=v/\v<ts.length):at0 F v=atA ts v.toNat:=by
 unfold at0 atA;rw[hF,yn (by omega)]
theorem useR_ok{ts F y seen:List Int}(hF:F=ts++y)(h:SeenOk ts seen){t:Int}(ht:t=1\/t=2)(k t':Int)(h':t'=0\/t'=t):useR F seen (someV ts seen t k) t'=true:=by
 obtain⟨h1,h2⟩:=someV_ok h ht k;have hr:=h.rng _ h1;have hl:ts.length<=F.length:=by rw[hF];simp
 unfold useR;rw[at0_pre hF hr,h2];simp only[ya,yw,decide_eq_true_eq,yAa];refine⟨hr.1,by omega,h1,?_⟩;rcases h' with h'|h'
 ·exact .inl h'
 ·exact .inr h'.symm
theorem zPc(L:List UInt8){ts F y seen:List Int}(hF:F=ts++y)(h:SeenOk ts seen):∀(l:List Int) (i:Nat),Ty12 l->zC F seen (zYa L ts seen l i) l=true
 | [],i,hl=>by simp[zC,zYa]
 |t::r,i,hl=>by
  have ih:=zPc L hF h r (i+1) (fun t ht=>hl t (yha _ ht));have hu:=useR_ok hF h (hl t (by simp)) (pk L i 8) t (.inr rfl);unfold zC at ih ⊢;simp only[ya,decide_eq_true_eq]at ih;simp only[zYa,yZ,List.zip_cons_cons,List.all_cons,hu,Bool.true_and,ih.1,decide_true,ih.2]
def ZOk(F:List Int)(n:Nat)(Z:Set1):Prop:=Z.length=F.length/\∀j:Nat,n<=j->(Z[j]?).getD false=false
theorem ZOk.mono{F:List Int}{n m:Nat}{Z:Set1}(h:ZOk F n Z)(hm:n<=m):ZOk F m Z:=⟨h.1,fun j hj=>h.2 j (by omega)⟩
theorem set1_ok{F:List Int}{n:Nat}{Z:Set1}(h:ZOk F n Z)(hn:n<F.length){t:Int}(ht:t=0\/at0 F n=t):zha F Z n t=(true,Z.set n true)/\ZOk F (n+1) (Z.set n true):=by
 have hz:=h.2 n (yg _);refine⟨?_,by simpa using h.1,fun j hj=>?_⟩
 ·unfold zha;have hv:valM F n t=true:=by
   simp only[valM,ya,yw,decide_eq_true_eq];exact⟨by omega,by omega,ht⟩
  rw[hv];have hb:atB Z n=false:=by simpa[atB]using hz
  rw[hb];simp
 ·rw[yx (by omega)];exact h.2 j (by omega)
theorem zeros_succ(k:Nat):zna (k+1)=zna k++[0]:=by simp[zna,List.replicate_succ']
theorem setsN_ok{F:List Int}{n:Nat}{Z:Set1}(h:ZOk F n Z):∀k,n+k<=F.length->(zD F Z (newV n k) (zna k)).1=true/\ZOk F (n+k) (zD F Z (newV n k) (zna k)).2
 |0,hk=>by simpa[zD,eqM,eqGo,newV,zna]using h
 |k+1,hk=>by
  obtain⟨i1,i2⟩:=setsN_ok h k (by omega);have hl:(newV n k).length=(zna k).length:=by simp[zob,zna]
  have e:zD F Z (newV n (k+1)) (zna (k+1))=(zha F (zD F Z (newV n k) (zna k)).2 (n+k:Nat) 0):=by
   unfold zD eqM at i1 i2 ⊢;rw[if_pos hl]at i1 i2;rw[if_pos (by simp[zob,zna]),if_pos hl,newV,zeros_succ,List.zip_append hl,zfd,if_pos i1];simp only[List.zip_cons_cons,List.zip_nil_right,eqGo];generalize zha F (eqGo (zha F) Z ((newV n k).zip (zna k))).snd ((n+k:Nat):Int) 0=q;obtain⟨b,q⟩:=q;cases b<;>rfl
  have s0:=set1_ok i2 (show n+k<F.length by omega) (t:=0) (Or.inl (Eq.refl (0:Int)));obtain⟨s1,s2⟩:=s0;rw[e,s1];exact⟨rfl,s2⟩
theorem set_one{F:List Int}{n:Nat}{Z:Set1}(h:ZOk F n Z)(hn:n<F.length){t:Int}(ht:at0 F n=t):(zD F Z [(n:Int)] [t]).1=true/\ZOk F (n+1) (zD F Z [(n:Int)] [t]).2:=by
 obtain⟨s1,s2⟩:=set1_ok h hn (t:=t) (.inr ht);have e:zD F Z [(n:Int)] [t]=(true,Z.set n true):=by simp[zD,eqM,eqGo,s1]
 rw[e];exact⟨rfl,s2⟩
theorem atA_pre(ts x:List Int){v:Int}(h:0<=v/\v<ts.length):atA (ts++x) v.toNat=atA ts v.toNat:=by
 unfold atA;rw[yn (by omega)]
theorem SeenOk.ext{ts seen:List Int}(h:SeenOk ts seen)(x os:List Int)(ho:∀v∈os,0<=v/\v<(ts++x).length):SeenOk (ts++x) (seen++os):=by
 refine⟨by simp[h.zero],fun v hv=>?_,fun t ht=>?_⟩
 ·rcases yh.1 hv with hv|hv
  ·have:=h.rng v hv;simp only[ym];omega
  ·exact ho v hv
 ·obtain⟨v,hv,e⟩:=h.has t ht;exact⟨v,by simp[hv],by rw[atA_pre ts x (h.rng v hv)];exact e⟩
structure RoundOk(u:Unt)(f:Flow):Prop where
 arr:zsc u.arrays [97]=true
 fl:∃g,u.flows[(zZ u.flows [102]).toNat]? =some g/\0<=zZ u.flows [102]/\pars g=[1,2]/\g.type=1
 ty:f.type=1
theorem at0_new{F ts y:List Int}{t:Int}(hF:F=ts++t::y):at0 F ts.length=t:=by
 unfold at0;rw[hF];simp
structure NodeR(u:Unt)(f:Flow)(x:Node)(seen:List Int)(w:Place)(deep:Int)(Z:Set1)(n:Nat):Prop where
 ok:(zy u f x seen w deep Z).1=true
 z:ZOk f.types n (zy u f x seen w deep Z).2
theorem nodeG_of{u:Unt}{f:Flow}{x:Node}{seen:List Int}{w:Place}{deep:Int}{Z:Set1}{n:Nat}{b:Bool}{Z':Set1}(h:zy u f x seen w deep Z=(b,Z'))(hb:b=true)(hz:ZOk f.types n Z'):NodeR u f x seen w deep Z n:=by
 subst hb;exact⟨by rw[h],by rw[h];exact hz⟩
theorem simple_R(L:List UInt8){u:Unt}{f:Flow}(hR:RoundOk u f){seen ts y:List Int}(h:SeenOk ts seen)(i:Nat)(hF:f.types=ts++(zL L seen ts i).2.2++y)(w:Place)(deep:Int){Z:Set1}(hZ:ZOk f.types ts.length Z):
  NodeR u f (zL L seen ts i).1 seen w deep Z (ts++(zL L seen ts i).2.2).length/\zb (zL L seen ts i).1=false/\(zL L seen ts i).1.leaves=false:=by
 have e1:=fun(y:List Int) (hF:f.types=ts++y) i=>zPc L hF h [1] i (by simp[Ty12])
 have e2:=fun(y:List Int) (hF:f.types=ts++y) i=>zPc L hF h [2] i (by simp[Ty12])
 have e3:=fun(y:List Int) (hF:f.types=ts++y) i=>zPc L hF h [1,1] i (by simp[Ty12])
 have e4:=fun(y:List Int) (hF:f.types=ts++y) i=>zPc L hF h [1,2] i (by simp[Ty12])
 obtain⟨g,hg1,hg2,hg3,hg4⟩:=hR.fl;have one:∀(t:Int) (y:List Int),f.types=ts++t::y->(zD f.types Z [(ts.length:Int)] [t]).1=true/\ZOk f.types (ts.length+1) (zD f.types Z [(ts.length:Int)] [t]).2:=by
  intro t y hF;exact set_one hZ (by rw[hF];simp) (at0_new hF)
 have nil0:zC f.types seen [] []=true:=by simp[zC]
 have mk:∀(x:Node) (t:Int),f.types=ts++[t]++y->zy u f x seen w deep Z=zD f.types Z [(ts.length:Int)] [t]->NodeR u f x seen w deep Z (ts++[t]).length:=by
  intro x t hF hx;have h1:=one t y (by rw[hF];simp);exact⟨by rw[hx];exact h1.1,by rw[hx,ym];exact h1.2⟩
 have mk0:∀(x:Node),zy u f x seen w deep Z=(true,Z)->NodeR u f x seen w deep Z (ts++[]).length:=by
  intro x hx;exact⟨by rw[hx],by rw[hx,yla];exact hZ⟩
 have h12:=pk_lt L i 12 (by omega);have h6:=pk_lt L (i+1) 6 (by omega);have h2:=pk_lt L (i+1) 2 (by omega);have h4:=pk_lt L (i+1) 4 (by omega);have h11:=pk_lt L (i+1) 11 (by omega);have hc:pk L i 12=0\/pk L i 12=1\/pk L i 12=2\/pk L i 12=3\/pk L i 12=4\/pk L i 12=5\/pk L i 12=6\/pk L i 12=7\/pk L i 12=8\/pk L i 12=9\/pk L i 12=10\/pk L i 12=11:=by omega
 have two:∀(op:Int) (j:Nat),1<=op/\op<=17->∀(y:List Int),f.types=ts++y->zC f.types seen (zYa L ts seen [1,1] j) [takes op,takes op]=true/\at0 f.types (at0 (zYa L ts seen [1,1] j) 0)=at0 f.types (at0 (zYa L ts seen [1,1] j) 1):=by
  intro op j hop y hF;have ht:takes op=0\/takes op=1:=by unfold takes;split<;>(try split)<;>omega
  have u1:=useR_ok hF h (t:=1) (.inl rfl) (pk L j 8) (takes op) ht;have u2:=useR_ok hF h (t:=1) (.inl rfl) (pk L (j+1) 8) (takes op) ht;have v1:=someV_ok h (t:=1) (.inl rfl) (pk L j 8);have v2:=someV_ok h (t:=1) (.inl rfl) (pk L (j+1) 8);have a1:=at0_pre hF (h.rng _ v1.1);have a2:=at0_pre hF (h.rng _ v2.1);rw[v1.2]at a1;rw[v2.2]at a2;refine⟨by simp[zC,zYa,u1,u2],?_⟩;simp only[zYa];show at0 f.types (at0 [_,_] 0)=at0 f.types (at0 [_,_] 1)
  simp only[at0,Int.toNat_zero,Int.toNat_one,yD,yO,yga]at a1 a2 ⊢;rw[a1,a2]
 have mk2:∀(op m:Int) (j:Nat),1<=op/\op<=17->ztb op=m->f.types=ts++[m]++y->NodeR u f (nd 4 op 0 [] (zYa L ts seen [1,1] j) [(ts.length:Int)]) seen w deep Z (ts++[m]).length:=by
  intro op m j hop hm hF;obtain⟨t1,t2⟩:=two op j hop ([m]++y) (by rw[hF];simp);have hi:isTwo op=true:=by simp[isTwo];omega
  refine mk _ m hF ?_;simp[zy,zca,zXa,zp,t1,t2,hi,hm]
 rcases hc with c|c|c|c|c|c|c|c|c|c|c|c
 ·simp only[zL,c]at hF ⊢;exact⟨mk _ _ hF (by simp[zy,zca,zXa,zp,nil0]),by simp[zb,Node.ends],by simp[Node.leaves]⟩
 ·simp only[zL,c]at hF ⊢;have hb:((pk L (i+1) 2:Nat):Int)=0\/((pk L (i+1) 2:Nat):Int)=1:=by omega
  refine⟨mk _ _ hF ?_,by simp[zb,Node.ends],by simp[Node.leaves]⟩;rcases hb with hb|hb<;>simp[zy,zca,zXa,zp,nil0,hb]
 ·simp only[zL,c]at hF ⊢;have e:=e1 ([1]++y) (by rw[hF];simp) (i+2);have hop:pk L (i+1) 4=0\/pk L (i+1) 4=1\/pk L (i+1) 4=2\/pk L (i+1) 4=3:=by omega
  refine⟨mk _ _ hF ?_,by simp[zb,Node.ends],by simp[Node.leaves]⟩;rcases hop with k|k|k|k<;>simp[zy,zca,zXa,zp,k,atA,isOne,takes,ztb,e]
 ·simp only[zL,c]at hF ⊢;have e:=e2 ([2]++y) (by rw[hF];simp) (i+1);exact⟨mk _ _ hF (by simp[zy,zca,zXa,zp,isOne,takes,ztb,e]),by simp[zb,Node.ends],by simp[Node.leaves]⟩
 ·simp only[zL,c]at hF ⊢;exact⟨mk2 _ _ _ (by omega) (by unfold ztb;rw[if_neg (by omega)]) hF,by simp[zb,Node.ends],by simp[Node.leaves]⟩
 ·simp only[zL,c]at hF ⊢;exact⟨mk2 _ _ _ (by omega) (by unfold ztb;rw[if_neg (by omega)]) hF,by simp[zb,Node.ends],by simp[Node.leaves]⟩
 ·simp only[zL,c]at hF ⊢;exact⟨mk2 _ _ _ (by omega) (by unfold ztb;rw[if_neg (by omega)]) hF,by simp[zb,Node.ends],by simp[Node.leaves]⟩
 ·simp only[zL,c]at hF ⊢;exact⟨mk2 _ _ _ (by omega) (by unfold ztb;rw[if_pos (by omega)]) hF,by simp[zb,Node.ends],by simp[Node.leaves]⟩
 ·simp only[zL,c]at hF ⊢;exact⟨mk2 _ _ _ (by omega) (by unfold ztb;rw[if_pos (by omega)]) hF,by simp[zb,Node.ends],by simp[Node.leaves]⟩
 ·simp only[zL,c]at hF ⊢;have e:=e1 ([1]++y) (by rw[hF];simp) (i+1);exact⟨mk _ _ hF (by simp[zy,zca,zXa,zp,hR.arr,e]),by simp[zb,Node.ends],by simp[Node.leaves]⟩
 ·simp only[zL,c]at hF ⊢;have e:=e3 y (by rw[hF];simp) (i+1);exact⟨mk0 _ (by simp[zy,zca,zXa,zp,hR.arr,e]),by simp[zb,Node.ends],by simp[Node.leaves]⟩
 ·have hop:pk L (i+1) 4=0\/pk L (i+1) 4=1\/pk L (i+1) 4=2\/pk L (i+1) 4=3:=by omega
  rcases hop with k|k|k|k<;>simp only[zL,c,k]at hF ⊢
  ·have e:=e4 ([1]++y) (by rw[hF];simp) (i+2);exact⟨mk _ _ hF (by simp[zy,zca,zXa,zp,hg1,hg2,hg3,hg4,e]),by simp[zb,Node.ends],by simp[Node.leaves]⟩
  ·exact⟨mk _ _ hF (by simp[zy,zca,zXa,zp]),by simp[zb,Node.ends],by simp[Node.leaves]⟩
  ·have e:=e1 y (by rw[hF];simp) (i+2);exact⟨mk0 _ (by simp[zy,zca,zXa,zp,e]),by simp[zb,Node.ends],by simp[Node.leaves]⟩
  ·have e:=e1 y (by rw[hF];simp) (i+2);exact⟨mk0 _ (by simp[zy,zca,zXa,zp,e]),by simp[zb,Node.ends],by simp[Node.leaves]⟩
structure At(p:HPl)(w:Place)(l:List Node):Prop where
 iff:w.inIf=p.iff
 loop:w.inLoop=p.loop
 y:zF l=true->w.yield=p.yield
 n:w.next=p.next
 l:zu l=true->w.left=p.left
structure PlTy(p:HPl):Prop where
 y:Ty12 p.yield
 n:Ty12 p.next
 l:Ty12 p.left
theorem end_R(L:List UInt8){u:Unt}{f:Flow}(hR:RoundOk u f){seen ts y:List Int}(h:SeenOk ts seen){p:HPl}(hp:PlTy p)(i:Nat)(hF:f.types=ts++y){w:Place}(deep:Int){Z:Set1}(hZ:ZOk f.types ts.length Z)(hw:At p w [endG L seen ts p i]):
  NodeR u f (endG L seen ts p i) seen w deep Z ts.length/\zb (endG L seen ts p i)=true:=by
 obtain⟨w1,w2,w3,w4,w5⟩:=hw;have e:endG L seen ts p i=nd (endL p (pk L i 6)).1 0 0 [] (zYa L ts seen (endL p (pk L i 6)).2 (i+1)) []:=rfl;rw[e]at w3 w5 ⊢;generalize pk L i 6=k at*;have ey:=zPc L hF h p.yield (i+1) hp.y;have en:=zPc L hF h p.next (i+1) hp.n;have el:=zPc L hF h p.left (i+1) hp.l;have e1:=zPc L hF h [1] (i+1) (by simp[Ty12]);have hty:=hR.ty;unfold endL at w3 w5 ⊢;by_cases c1:p.iff=true/\k<4
 ·simp only[c1,and_self,if_true]at w3 w5 ⊢;have:=w3 (by simp[zF]);refine⟨nodeG_of (b:=true) (Z':=Z) ?_ rfl hZ,by simp[zb,Node.ends]⟩;simp[zy,zca,zXa,zp,w1,c1.1,this,ey]
 ·simp only[c1,if_false]at w3 w5 ⊢;by_cases c2:p.loop=true/\k%2=0
  ·simp only[c2,and_self,if_true]at w3 w5 ⊢;refine⟨nodeG_of (b:=true) (Z':=Z) ?_ rfl hZ,by simp[zb,Node.ends]⟩;simp[zy,zca,zXa,zp,w2,c2.1,w4,en]
  ·simp only[c2,if_false]at w3 w5 ⊢;by_cases c3:p.loop=true
   ·simp only[c3,if_true]at w3 w5 ⊢;have:=w5 (by simp[zu,Node.leaves]);refine⟨nodeG_of (b:=true) (Z':=Z) ?_ rfl hZ,by simp[zb,Node.ends]⟩;simp[zy,zca,zXa,zp,w2,c3,this,el]
   ·simp only[c3,if_false]at w3 w5 ⊢;refine⟨nodeG_of (b:=true) (Z':=Z) ?_ rfl hZ,by simp[zb,Node.ends]⟩;simp[zy,zca,zXa,zp,hty,e1]
theorem runG_out(L:List UInt8)(rc:Option LG)(p:HPl):∀c out all i ts left,runG L rc p c out all i ts left={runG L rc p c [] all i ts left with n:=out++(runG L rc p c [] all i ts left).n}:=by
 intro c
 induction c with
 |zero=>intro out all i ts left;simp[runG,finG]
 |succ c ih=>
  intro out all i ts left;rw[runG,runG];split
  ·simp[finG]
  ·simp only;split
   ·simp
   ·rw[ih (out++_),ih ([]++_)];simp
def LGR(u:Unt)(f:Flow)(g:LG)(D:Int):Prop:=∀seen p i ts left w deep Z y,PlTy p->PlOk p->SeenOk ts seen->deep<=D->f.types=(g seen p i ts left).ts++y->ZOk f.types ts.length Z->At p w (g seen p i ts left).n→
 (goR u f (g seen p i ts left).n seen w deep Z).1=true/\ZOk f.types (g seen p i ts left).ts.length (goR u f (g seen p i ts left).n seen w deep Z).2/\(g seen p i ts left).n≠ []
theorem zIe(L:List UInt8)(i:Nat):Ty12 (zdb L i):=by
 have key:∀k,Ty12 (tyV L (i+1) k):=by
  intro k
  induction k with
  |zero=>simp[tyV,Ty12]
  |succ k ih=>
   intro t ht;simp only[tyV,yh,List.mem_singleton]at ht;rcases ht with ht|ht
   ·exact ih t ht
   ·have:=pk_lt L (i+1+k) 2 (by omega);omega
 exact key _
theorem typesM_new{F ts t y:List Int}(hF:F=ts++t++y):typesM F (newV ts.length t.length)=t:=by
 have key:∀k,k<=t.length->(newV ts.length k).map (at0 F)=t.take k:=by
  intro k
  induction k with
  |zero=>intro _;simp[newV]
  |succ k ih=>
   intro hk;obtain⟨a,ha⟩:∃a,t[k]? =some a:=⟨_,yd (by omega)⟩
   rw[newV,yDa,ih (by omega),List.take_add_one,ha];have e:at0 F ((ts.length+k:Nat):Int)=a:=by
    unfold at0;rw[hF,Int.toNat_natCast,yY,yq (by omega),Nat.add_sub_cancel_left,yn (by omega),ha];rfl
   rw[yR,List.map_nil,e];rfl
 unfold typesM;rw[if_pos,key _ (yg _),List.take_length];rw[yj];intro v hv;have:=zof _ _ _ hv;have hl:F.length=ts.length+t.length+y.length:=by rw[hF];simp[yFa]
 simp only[valM,ya,yw,decide_eq_true_eq];exact⟨by omega,by omega,.inl trivial⟩
theorem outed_R{u:Unt}{f:Flow}{n:Node}{i:Nat}{ts:List Int}{left:Nat}{t y:List Int}(ho:n.outs=[])(hF:f.types=(zBe n i ts left t).ts++y){Z1:Set1}(hZ:ZOk f.types ts.length Z1):
  (endR f.types (zBe n i ts left t).n (true,Z1)).1=true/\ZOk f.types (zBe n i ts left t).ts.length (endR f.types (zBe n i ts left t).n (true,Z1)).2:=by
 unfold zBe at hF ⊢;split
 ·rename_i hc;rw[if_pos hc]at hF;unfold endR;rw[if_pos (by simp[ho])];simp only[ho,yea];exact⟨rfl,hZ⟩
 ·rename_i hc;rw[if_neg hc]at hF;have hcc:zb {n with outs:=newV ts.length t.length}=zb n:=rfl;unfold endR;rw[if_pos (by simp[hcc,hc])];simp only[zob];have hl:ts.length+t.length<=f.types.length:=by rw[hF];simp
  have:=setsN_ok hZ t.length hl;rw[ym];exact this
theorem outed_n{n:Node}{i:Nat}{ts:List Int}{left:Nat}{t:List Int}(ho:n.outs=[]):∃us,(zBe n i ts left t).n={n with outs:=us}/\((zb n=true/\us=[]/\(zBe n i ts left t).ts=ts)\/(zb n=false/\us=newV ts.length t.length/\(zBe n i ts left t).ts=ts++t)):=by
 unfold zBe;split
 ·rename_i hc;refine⟨[],?_,.inl ⟨hc,rfl,rfl⟩⟩;cases n;simp only at ho;subst ho;rfl
 ·rename_i hc;exact⟨_,rfl,.inr ⟨by simpa using hc,rfl,rfl⟩⟩
theorem if_R(L:List UInt8){u:Unt}{f:Flow}{g:LG}{D:Int}(hg:LGR u f g D)(hgo:LGok g){all:List Int}{p:HPl}(hp:PlTy p)(hpo:PlOk p){i:Nat}{ts:List Int}{left:Nat}{w:Place}{deep:Int}{Z:Set1}{y:List Int}
  (h:SeenOk ts all) (hd:deep+1<=D) (hF:f.types=(ifG L g all p i ts left).ts++y) (hZ:ZOk f.types ts.length Z) (wl:w.inLoop=p.loop) (wn:w.next=p.next) (wv:(ifG L g all p i ts left).n.leaves=true->w.left=p.left):
  NodeR u f (ifG L g all p i ts left).n all w deep Z (ifG L g all p i ts left).ts.length:=by
 unfold ifG at hF wv ⊢;simp only at hF wv ⊢;have t12:=zIe L i;have tl:=zDc L i;generalize zdb L i=t at*;have hX:PlTy ⟨true,p.loop,t,p.next,p.left⟩:=⟨t12,hp.n,hp.l⟩
 have hXo:PlOk ⟨true,p.loop,t,p.next,p.left⟩:=⟨tl,hpo.n,hpo.l⟩
 have hA:=hg all ⟨true,p.loop,t,p.next,p.left⟩ (zCa L i+1) ts left;have hAo:=hgo all ⟨true,p.loop,t,p.next,p.left⟩ (zCa L i+1) ts left hXo;generalize g all ⟨true,p.loop,t,p.next,p.left⟩ (zCa L i+1) ts left=A at*;have hB:=hg all ⟨true,p.loop,t,p.next,p.left⟩ A.i A.ts A.left;have hBo:=hgo all ⟨true,p.loop,t,p.next,p.left⟩ A.i A.ts A.left hXo;generalize g all ⟨true,p.loop,t,p.next,p.left⟩ A.i A.ts A.left=B at*;obtain⟨xa,ha⟩:=hAo.t;obtain⟨xb,hb⟩:=hBo.t;have hends:=fun Z1 hZ1=>outed_R (u:=u) (f:=f) (n:=⟨10,0,0,[],zYa L ts all [2] (zCa L i),[],[],[A.n,B.n]⟩) (i:=B.i) (ts:=B.ts) (left:=B.left) (t:=t) (y:=y) rfl hF (Z1:=Z1) hZ1
 obtain⟨us,hn,hus⟩:=outed_n (n:=⟨10,0,0,[],zYa L ts all [2] (zCa L i),[],[],[A.n,B.n]⟩) (i:=B.i) (ts:=B.ts) (left:=B.left) (t:=t) rfl;generalize zBe ⟨10,0,0,[],zYa L ts all [2] (zCa L i),[],[],[A.n,B.n]⟩ B.i B.ts B.left t=r at*;have hBF:∃z,f.types=B.ts++z:=by
  rcases hus with⟨_,_,e⟩|⟨_,_,e⟩<;>rw[hF,e]
  ·exact⟨_,rfl⟩
  ·exact⟨t++y,by simp⟩
 obtain⟨z,hBF⟩:=hBF;have hAF:f.types=A.ts++(xb++z):=by rw[hBF,hb];simp
 have htF:f.types=ts++(xa++(xb++z)):=by rw[hAF,ha];simp
 have hSA:SeenOk A.ts all:=by have:=h.ext xa [] (by simp);rw[ha];simpa using this
 have hy:zF A.n=true\/zF B.n=true->typesM f.types us=t:=by
  intro hh;rcases hus with⟨c,_,_⟩|⟨_,e,e2⟩
  ·simp[zb]at c;rcases hh with hh|hh
   ·rw[hh]at c;simp at c
   ·rw[hh]at c;simp at c
  ·rw[e];exact typesM_new (y:=y) (by rw[hF,e2])
 have hl:zu A.n=true\/zu B.n=true->w.left=p.left:=by
  intro hh;refine wv ?_;rw[hn,zrc];rcases hh with hh|hh<;>simp[hh]
 obtain⟨a1,a2,a3⟩:=hA {w with inIf:=true,yield:=typesM f.types us} (deep+1) Z (xb++z) hX hXo h hd hAF hZ ⟨rfl,wl,fun e=>hy (.inl e),wn,fun e=>hl (.inl e)⟩;generalize hqa:goR u f A.n all {w with inIf:=true,yield:=typesM f.types us} (deep+1) Z=qa at*;obtain⟨b1,b2,b3⟩:=hB {w with inIf:=true,yield:=typesM f.types us} (deep+1) qa.2 z hX hXo hSA hd hBF a2 ⟨rfl,wl,fun e=>hy (.inr e),wn,fun e=>hl (.inr e)⟩;generalize hqb:goR u f B.n all {w with inIf:=true,yield:=typesM f.types us} (deep+1) qa.2=qb at*;have la:zNa A.n qa=(true,qa.2):=by unfold zNa;rw[if_pos a1];simp[a3]
 have lb:zNa B.n qb=(true,qb.2):=by unfold zNa;rw[if_pos b1];simp[b3]
 have hk:zH u f [A.n,B.n] all {w with inIf:=true,yield:=typesM f.types us} (deep+1) Z=(true,qb.2):=by
  rw[zH,hqa,la,if_pos rfl,zH,hqb,lb,if_pos rfl,zH]
 have he:=zPc L htF h [2] (zCa L i) (by simp[Ty12]);obtain⟨c1,c2⟩:=hends qb.2 b2;have hnode:zy u f r.n all w deep Z=endR f.types r.n (true,qb.2):=by
  rw[hn];rw[zy,if_neg (by simp[zca,zXa]),if_pos rfl,if_pos he,hk]
 exact⟨by rw[hnode];exact c1,by rw[hnode];exact c2⟩
theorem loop_R(L:List UInt8){u:Unt}{f:Flow}{g:LG}{D:Int}(hg:LGR u f g D)(hgo:LGok g){all:List Int}{i:Nat}{ts:List Int}{left:Nat}{w:Place}{deep:Int}{Z:Set1}{y:List Int}
  (h:SeenOk ts all) (hd:deep+1<=D) (hF:f.types=(loopG L g all i ts left).ts++y) (hZ:ZOk f.types ts.length Z):
  NodeR u f (loopG L g all i ts left).n all w deep Z (loopG L g all i ts left).ts.length:=by
 unfold loopG at hF ⊢;simp only at hF ⊢;have t12:=zIe L i;have tl:=zDc L i;generalize zdb L i=t at*;have o12:=zIe L (zCa L i);have ol:=zDc L (zCa L i);generalize zdb L (zCa L i)=o at*;generalize zCa L (zCa L i)=j at*;have hX:PlTy ⟨false,true,[],t,o⟩:=⟨by simp[Ty12],t12,o12⟩
 have hXo:PlOk ⟨false,true,[],t,o⟩:=⟨by simp,tl,ol⟩
 have hA:=hg (all++newV ts.length t.length) ⟨false,true,[],t,o⟩ (j+t.length) (ts++t) left;have hAo:=hgo (all++newV ts.length t.length) ⟨false,true,[],t,o⟩ (j+t.length) (ts++t) left hXo;generalize g (all++newV ts.length t.length) ⟨false,true,[],t,o⟩ (j+t.length) (ts++t) left=A at*;obtain⟨xa,ha⟩:=hAo.t;have hends:=fun Z1 hZ1=>outed_R (u:=u) (f:=f) (n:=⟨11,0,0,[],zYa L ts all t j,[],newV ts.length t.length,[A.n]⟩) (i:=A.i) (ts:=A.ts) (left:=A.left) (t:=o) (y:=y) rfl hF (Z1:=Z1) hZ1
 obtain⟨us,hn,hus⟩:=outed_n (n:=⟨11,0,0,[],zYa L ts all t j,[],newV ts.length t.length,[A.n]⟩) (i:=A.i) (ts:=A.ts) (left:=A.left) (t:=o) rfl;generalize zBe ⟨11,0,0,[],zYa L ts all t j,[],newV ts.length t.length,[A.n]⟩ A.i A.ts A.left o=r at*;have hAF:∃z,f.types=A.ts++z:=by
  rcases hus with⟨_,_,e⟩|⟨_,_,e⟩<;>rw[hF,e]
  ·exact⟨_,rfl⟩
  ·exact⟨o++y,by simp⟩
 obtain⟨z,hAF⟩:=hAF;have htF:f.types=ts++t++(xa++z):=by rw[hAF,ha];simp
 have htF2:f.types=ts++(t++(xa++z)):=by rw[htF];simp
 have hps:typesM f.types (newV ts.length t.length)=t:=typesM_new htF;have hSA:SeenOk (ts++t) (all++newV ts.length t.length):=h.ext t _ (fun v hv=>by
  have:=zof _ _ _ hv;simp only[ym];omega)
 have hl:zu A.n=true->typesM f.types us=o:=by
  intro hh;rcases hus with⟨c,_,_⟩|⟨_,e,e2⟩
  ·simp[zb]at c;rw[hh]at c;simp at c
  ·rw[e];exact typesM_new (y:=y) (by rw[hF,e2])
 have hle:ts.length+t.length<=f.types.length:=by rw[htF];simp[yFa]
 obtain⟨s1,s2⟩:=setsN_ok hZ t.length hle;obtain⟨a1,a2,a3⟩:=hA ⟨false,true,[],t,typesM f.types us⟩ (deep+1) (zD f.types Z (newV ts.length t.length) (zna t.length)).2 z hX hXo hSA hd hAF (by rw[ym];exact s2) ⟨rfl,rfl,fun _=>rfl,rfl,hl⟩;generalize hqa:goR u f A.n (all++newV ts.length t.length) ⟨false,true,[],t,typesM f.types us⟩ (deep+1) (zD f.types Z (newV ts.length t.length) (zna t.length)).2=qa at*;have la:zNa A.n qa=(true,qa.2):=by unfold zNa;rw[if_pos a1];simp[a3]
 have hk:zH u f [A.n] (all++newV ts.length t.length) ⟨false,true,[],t,typesM f.types us⟩ (deep+1) (zD f.types Z (newV ts.length t.length) (zna t.length)).2=(true,qa.2):=by
  rw[zH,hqa,la,if_pos rfl,zH]
 have he:=zPc L htF2 h t j t12;obtain⟨c1,c2⟩:=hends qa.2 a2;have hnode:zy u f r.n all w deep Z=endR f.types r.n (true,qa.2):=by
  rw[hn];rw[zy,if_neg (by simp[zca,zXa]),if_neg (show¬((11:Int)=10) by decide),if_pos rfl,hps,if_pos he,zob,if_pos s1,hk]
 exact⟨by rw[hnode];exact c1,by rw[hnode];exact c2⟩
theorem nodeG_R(L:List UInt8){u:Unt}{f:Flow}(hR:RoundOk u f){rc:Option LG}{D:Int}(hg:∀g,rc=some g->LGR u f g D/\LGok g){all:List Int}{p:HPl}(hp:PlTy p)(hpo:PlOk p){i:Nat}{ts:List Int}{left:Nat}{w:Place}{deep:Int}{Z:Set1}{y:List Int}
  (h:SeenOk ts all) (hd:deep+1<=D) (hF:f.types=(znf L rc all p i ts left).ts++y) (hZ:ZOk f.types ts.length Z) (wl:w.inLoop=p.loop) (wn:w.next=p.next) (wv:(znf L rc all p i ts left).n.leaves=true->w.left=p.left):
  NodeR u f (znf L rc all p i ts left).n all w deep Z (znf L rc all p i ts left).ts.length/\SeenOk (znf L rc all p i ts left).ts (all++(znf L rc all p i ts left).n.outs):=by
 have hok:=nodeG_ok L rc (fun g hg'=>(hg g hg').2) all p hpo i ts left;refine⟨?_,?_⟩
 ·have hs:=simple_ok L all ts i;have plain:f.types=ts++(zL L all ts i).2.2++y->NodeR u f (zL L all ts i).1 all w deep Z (ts++(zL L all ts i).2.2).length:=fun hF=>(simple_R L hR h i hF w deep hZ).1
  have hS2:SeenOk (ts++(zL L all ts i).2.2) all:=by have:=h.ext (zL L all ts i).2.2 [] (by simp);simpa using this
  have hZ2:ZOk f.types (ts++(zL L all ts i).2.2).length Z:=hZ.mono (by simp);unfold znf at hF wv ⊢;cases rc with
  |none=>exact plain hF
  |some g=>
   obtain⟨g1,g2⟩:=hg g rfl;simp only at hF wv ⊢;split
   ·rename_i hk;rw[if_pos hk]at hF wv;exact if_R L g1 g2 hp hpo hS2 hd hF hZ2 wl wn wv
   ·rename_i hk;rw[if_neg hk]at hF wv;split
    ·rename_i hk2;rw[if_pos hk2]at hF;exact loop_R L g1 g2 hS2 hd hF hZ2
    ·rename_i hk2;rw[if_neg hk2]at hF;exact plain hF
 ·obtain⟨x,hx⟩:=hok.t;have ho:=hok.o;rw[hx]at ho ⊢;exact h.ext x _ ho
theorem fin_R(L:List UInt8){u:Unt}{f:Flow}(hR:RoundOk u f){all ts y:List Int}(h:SeenOk ts all){p:HPl}(hp:PlTy p)(i left:Nat)(hF:f.types=ts++y){w:Place}{deep:Int}(hd:deep<=100){Z:Set1}(hZ:ZOk f.types ts.length Z)(hw:At p w (finG L p [] all i ts left).n):
  (goR u f (finG L p [] all i ts left).n all w deep Z).1=true/\ZOk f.types ts.length (goR u f (finG L p [] all i ts left).n all w deep Z).2:=by
 have e:(finG L p [] all i ts left).n=[endG L all ts p i]:=rfl;rw[e]at hw ⊢;obtain⟨h1,h2⟩:=end_R L hR h hp i hF deep hZ hw;rw[goR_two hd h1.ok (by rw[h2];rfl),goR];exact⟨rfl,h1.z⟩
theorem run_R(L:List UInt8){u:Unt}{f:Flow}(hR:RoundOk u f){rc:Option LG}{D:Int}(hg:∀g,rc=some g->LGR u f g D/\LGok g){p:HPl}(hp:PlTy p)(hpo:PlOk p):∀c all i ts left w deep Z y,
  SeenOk ts all->deep+1<=D->deep<=100->f.types=(runG L rc p c [] all i ts left).ts++y->ZOk f.types ts.length Z->At p w (runG L rc p c [] all i ts left).n→
  (goR u f (runG L rc p c [] all i ts left).n all w deep Z).1=true/\ZOk f.types (runG L rc p c [] all i ts left).ts.length (goR u f (runG L rc p c [] all i ts left).n all w deep Z).2:=by
 intro c
 induction c with
 |zero=>intro all i ts left w deep Z y h hd hd2 hF hZ hw;exact fin_R L hR h hp i left hF hd2 hZ hw
 |succ c ih=>
  intro all i ts left w deep Z y h hd hd2 hF hZ hw;rw[runG]at hF hw ⊢;by_cases h0:left=0
  ·rw[if_pos h0]at hF hw ⊢;exact fin_R L hR h hp i left hF hd2 hZ hw
  ·rw[if_neg h0]at hF hw ⊢;have hn:=fun y=>nodeG_R L hR hg hp hpo (i:=i) (left:=left-1) (w:=w) (deep:=deep) (Z:=Z) (y:=y) h hd
   simp only at hF hw ⊢;generalize znf L rc all p i ts (left-1)=r at*;by_cases hc:zb r.n=true
   ·rw[if_pos hc]at hF hw ⊢;simp only[yqa]at hF hw ⊢;obtain⟨n1,n2⟩:=hn y hF hZ hw.loop hw.n (fun e=>hw.l (by simp[zu,e]));rw[goR_two hd2 n1.ok (by rw[hc];rfl),goR];exact⟨rfl,n1.z⟩
   ·rw[if_neg hc]at hF hw ⊢;rw[runG_out]at hF hw ⊢;simp only[yqa,List.singleton_append]at hF hw ⊢;have htl:=(runG_ok L rc (fun g hg'=>(hg g hg').2) p hpo c [] (all++r.n.outs) r.i r.ts r.left).t;have hne:=runG_ne L rc p c [] (all++r.n.outs) r.i r.ts r.left;obtain⟨x,hx⟩:=htl;obtain⟨n1,n2⟩:=hn (x++y) (by rw[hF,hx];simp) hZ hw.loop hw.n (fun e=>hw.l (by simp[zu,e]));have:=ih (all++r.n.outs) r.i r.ts r.left w deep (zy u f r.n all w deep Z).2 y n2 hd hd2 hF n1.z ⟨hw.iff,hw.loop,fun e=>hw.y (by rw[yields_cons hne];exact e),hw.n,fun e=>hw.l (by simp[zu,e])⟩;rw[goR_two hd2 n1.ok (by
     have:(runG L rc p c [] (all++r.n.outs) r.i r.ts r.left).n.isEmpty=false:=by simpa using hne
     rw[this];simpa using hc)]
    exact this
theorem list_R(L:List UInt8){u:Unt}{f:Flow}(hR:RoundOk u f):∀d:Nat,LGR u f (zud L d) (99-d):=by
 intro d
 induction d with
 |zero=>
  intro seen p i ts left w deep Z y hp hpo h hd hF hZ hw;have hne:=listG_ne L 0 seen p i ts left;have:=run_R L hR (rc:=none) (D:=100) (by simp) hp hpo (pk L i 6) seen (i+1) ts left w deep Z y h (by omega) (by omega) hF hZ hw;exact⟨this.1,this.2,hne⟩
 |succ d ih=>
  intro seen p i ts left w deep Z y hp hpo h hd hF hZ hw;have hne:=listG_ne L (d+1) seen p i ts left;have:=run_R L hR (rc:=some (zud L d)) (D:=99-d) (by intro g hg;cases hg;exact⟨ih,listG_ok L d⟩) hp hpo (pk L i 6) seen (i+1) ts left w deep Z y h (by omega) (by omega) hF hZ hw;exact⟨this.1,this.2,hne⟩
theorem Ty12.app{a b:List Int}(ha:Ty12 a)(hb:Ty12 b):Ty12 (a++b):=fun t ht=>by
 rcases yh.1 ht with h|h
 ·exact ha t h
 ·exact hb t h
def LGt(g:LG):Prop:=∀seen p i ts left,Ty12 ts->Ty12 (g seen p i ts left).ts
theorem simple_t(L:List UInt8)(seen ts:List Int)(i:Nat):Ty12 (zL L seen ts i).2.2:=by
 unfold zL;split<;>try(intro t ht;simp at ht<;>omega)
 split<;>(intro t ht;simp at ht<;>omega)
theorem outed_t{n:Node}{i:Nat}{ts:List Int}{left:Nat}{t:List Int}(h:Ty12 ts)(ht:Ty12 t):Ty12 (zBe n i ts left t).ts:=by
 unfold zBe;split
 ·exact h
 ·exact h.app ht
theorem nodeG_t(L:List UInt8)(rc:Option LG)(hrc:∀g,rc=some g->LGt g)(all:List Int)(p:HPl)(i:Nat)(ts:List Int)(left:Nat)(h:Ty12 ts):Ty12 (znf L rc all p i ts left).ts:=by
 have hs:=h.app (simple_t L all ts i);unfold znf;cases rc with
 |none=>exact hs
 |some g=>
  have hg:=hrc g rfl;simp only;split
  ·unfold ifG;exact outed_t (hg _ _ _ _ _ (hg _ _ _ _ _ hs)) (zIe L _)
  ·split
   ·unfold loopG;exact outed_t (hg _ _ _ _ _ (hs.app (zIe L _))) (zIe L _)
   ·exact hs
theorem runG_t(L:List UInt8)(rc:Option LG)(hrc:∀g,rc=some g->LGt g)(p:HPl):∀c out all i ts left,Ty12 ts->Ty12 (runG L rc p c out all i ts left).ts:=by
 intro c
 induction c with
 |zero=>intro out all i ts left h;exact h
 |succ c ih=>
  intro out all i ts left h;have hn:=nodeG_t L rc hrc all p i ts (left-1) h;rw[runG];split
  ·exact h
  ·simp only;split
   ·exact hn
   ·exact ih _ _ _ _ _ hn
theorem listG_t(L:List UInt8):∀d,LGt (zud L d):=by
 intro d
 induction d with
 |zero=>intro seen p i ts left h;exact runG_t L none (by simp) p _ _ _ _ _ _ h
 |succ d ih=>intro seen p i ts left h;exact runG_t L (some (zud L d)) (by intro g hg;cases hg;exact ih) p _ _ _ _ _ _ h
theorem newV0:∀k,newV 0 k=zIa k
 |0=>by simp[newV,zIa]
 |k+1=>by rw[newV,newV0 k];simp[zIa,yRa]
theorem flow_R(L:List UInt8){u:Unt}(name:List UInt8)(params:List Int)(i:Nat)(hR:RoundOk u (zyd L name params i).n)(hp:Ty12 params)(hl:params.length<=8):zvb u (zyd L name params i).n=true:=by
 have hok:=zkd L params i;have hty:Ty12 (zDe L params i).ts:=listG_t L 3 _ _ _ _ _ (hp.app (by simp[Ty12]));have hF:(zyd L name params i).n.types=(zDe L params i).ts:=rfl;have hlist:=list_R L hR 3 (newV 0 params.length++[(params.length:Int),((params.length+1:Nat):Int)]) noPl i (params++[1,2]) 30 zQa 1;obtain⟨x,hx⟩:=hok.t;have hFx:(zyd L name params i).n.types=params++[1,2]++x:=by rw[hF,hx]
 have hts:=hok.tl;generalize hbody:(zyd L name params i).n=f at*;have hb:f.body=nd 1 0 3 [] [] [(params.length:Int)]::nd 2 0 1 [] [] [((params.length+1:Nat):Int)]::(zDe L params i).n:=by rw[<-hbody];rfl
 have hpar:f.params=params.length:=by rw[<-hbody];rfl
 unfold zvb;simp only[ym,yZ,yea]at hts;have h1:(decide (f.params<0)||decide (8<f.params)||decide ((f.types.length:Int)<f.params)||decide (20000<f.types.length)||f.types.any (fun t=> !tyOk t))=false:=by
  rw[hpar];simp only[yB,decide_eq_false_iff_not];refine⟨⟨⟨⟨by omega,by omega⟩,?_⟩,?_⟩,?_⟩
  ·rw[hFx];simp;omega
  ·rw[hF];omega
  ·rw[<-Bool.not_eq_true,List.any_eq_true]
   rintro⟨t,ht,h⟩
   rw[hF]at ht;rcases hty t ht with rfl|rfl<;>simp[tyOk]at h
 rw[h1];simp only[Bool.not_false,Bool.true_and];have hk:f.params.toNat=params.length:=by rw[hpar];omega
 rw[hk,hb];have z0:ZOk f.types params.length (zmc f params.length):=by
  refine⟨zVb f _ (by rw[hFx];simp<;>omega),fun j hj=>?_⟩;unfold zmc;rw[yq (by simp;exact hj)];simp only[List.length_replicate,List.getElem?_replicate];split<;>rfl
 have s1:=set_one (F:=f.types) (t:=1) z0 (by rw[hFx];simp<;>omega) (at0_new (y:=[2]++x) (by rw[hFx];simp));have s2:=set_one (F:=f.types) (n:=params.length+1) (t:=2) s1.2 (by rw[hFx];simp<;>omega) (by
  have:=at0_new (F:=f.types) (ts:=params++[1]) (t:=2) (y:=x) (by rw[hFx];simp);simpa using this)
 have n1:zy u f (nd 1 0 3 [] [] [(params.length:Int)]) (zIa params.length) zQa 1 (zmc f params.length)=zD f.types (zmc f params.length) [(params.length:Int)] [1]:=by
  simp[zy,zca,zXa,zp,zC]
 generalize zD f.types (zmc f params.length) [(params.length:Int)] [1]=q1 at*;have n2:zy u f (nd 2 0 1 [] [] [((params.length+1:Nat):Int)]) (zIa params.length++[(params.length:Int)]) zQa 1 q1.2=zD f.types q1.2 [((params.length+1:Nat):Int)] [2]:=by
  simp[zy,zca,zXa,zp,zC]
 generalize zD f.types q1.2 [((params.length+1:Nat):Int)] [2]=q2 at*;have hsn:SeenOk (params++[1,2]) (newV 0 params.length++[(params.length:Int),((params.length+1:Nat):Int)]):=by
  refine⟨?_,?_,?_⟩
  ·cases hp0:params.length with
   |zero=>simp
   |succ k=>
    rw[newV0];simp[zIa,yka,yya]
  ·intro y hy;simp only[yh,yA,yVa,or_false]at hy;simp only[ym,yZ,yea];rcases hy with hy|hy|hy
   ·have:=zof 0 _ y hy;omega
   ·omega
   ·omega
  ·intro t ht;rcases ht with rfl|rfl
   ·exact⟨(params.length:Int),by simp,by simp[atA]⟩
   ·exact⟨((params.length+1:Nat):Int),by simp,by simp[atA,yq]⟩
 obtain⟨g1,g2,g3⟩:=hlist q2.2 [] ⟨by simp[Ty12,noPl],by simp[Ty12,noPl],by simp[Ty12,noPl]⟩ noPl_ok hsn (by omega) (by rw[yla];exact hF) (by simpa using s2.2) ⟨rfl,rfl,fun _=>rfl,rfl,fun _=>rfl⟩;change (goR u f (zDe L params i).n _ zQa 1 q2.2).1=true at g1;change (zDe L params i).n≠ []at g3;have c1:zb (nd 1 0 3 [] [] [(params.length:Int)])=false:=by simp[zb,Node.ends]
 have c2:zb (nd 2 0 1 [] [] [((params.length+1:Nat):Int)])=false:=by simp[zb,Node.ends]
 unfold zIb;rw[goR_two (by omega) (by rw[n1];exact s1.1) (by rw[c1];rfl),n1];rw[goR_two (by omega) (by rw[n2];exact s2.1) (by rw[c2];symm;simpa using g3),n2];have e:zIa params.length++(nd 1 0 3 [] [] [(params.length:Int)]).outs++(nd 2 0 1 [] [] [((params.length+1:Nat):Int)]).outs=newV 0 params.length++[(params.length:Int),((params.length+1:Nat):Int)]:=by
  rw[newV0];simp
 rw[e];unfold zNa;rw[if_pos g1];simp
theorem made_round(L:List UInt8)(f:Flow)(hf:f.type=1):RoundOk (zjc L) f:=by
 refine⟨by simp[zjc,zsc],?_,hf⟩;refine⟨(zyd L [102] [1,2] (zyd L zw [] 0).i).n,?_,?_,?_,rfl⟩
 ·simp[zjc,zZ,idx,zFd,zw,List.findIdx?_cons]
 ·simp[zjc,zZ,idx,zFd,zw,List.findIdx?_cons]
 ·have hx:=(zkd L [1,2] (zDe L [] 0).i).t;obtain⟨x,hx⟩:=hx;simp[pars,zFd,hx]
theorem madeM_ok(L:List UInt8):zJa (zjc L)=(0,0):=by
 have f1:=flow_R L (u:=zjc L) zw [] 0 (made_round L _ rfl) (by simp[Ty12]) (by simp);have f2:=flow_R L (u:=zjc L) [102] [1,2] (zyd L zw [] 0).i (made_round L _ rfl) (by simp[Ty12]) (by simp);have hh:zcd (zjc L)=true:=by
  obtain⟨x1,h1⟩:=(zkd L [] 0).t;obtain⟨x2,h2⟩:=(zkd L [1,2] (zDe L [] 0).i).t;have a1:nameM [97]=true:=by decide+kernel
  have a2:nameM [102]=true:=by decide+kernel
  have a3:nameM [109,97,105,110]=true:=by decide+kernel
  simp[zcd,zjc,zCf,zqd,zzd,zWd,zFd,zZ,idx,zw,tyOk,a1,a2,a3,h2,List.findIdx?_cons]<;>omega
 rw[check_eq];unfold zXc;rw[rhead_eq,hh];have hn:(zjc L).flows.findIdx? (fun f=> !zvb (zjc L) f)=none:=by
  rw[yfa];intro f hf;simp only[zjc,yA,yVa,or_false]at hf;rcases hf with rfl|rfl
  ·rw[f1];rfl
  ·rw[f2];rfl
 rw[hn];rfl
theorem madeM_wt8(L:List UInt8):∀f∈(zjc L).flows,wtL f.body<10000:=by
 have h1:=zkd L [] 0;have h2:=zkd L [1,2] (zDe L [] 0).i;obtain⟨a1,a2,a3,a4⟩:=h1;obtain⟨b1,b2,b3,b4⟩:=h2;intro f hf;simp only[zjc,yA,yVa,or_false]at hf;rcases hf with rfl|rfl<;>simp[zFd,wtL,wtN,wtK]<;>omega
theorem known_ok{u:Unt}(hz:USz u)(hb:∀f∈u.flows,wtL f.body<100000000)(h:(zJa u).1=0):zk E 17 [encUnt u] []=some (.ret (.tup [encUnt (zT u),.int .i64 0]),[]):=by
 have k:=known_spec u hz hb;rw[h]at k;exact k
theorem sizeF_app(a b:List Flow):zLa (a++b)=zLa a+zLa b:=by
 induction a with
 |nil=>simp[zLa]
 |cons x r ih=>simp[zLa,ih];omega
theorem nodes11_spec(u:Unt)(hz:USz u)(hb:∀f∈u.flows,wtL f.body<1099511000000)(hs:zLa u.flows<1099511627776):zk E 35 [encUnt u] []=some (.ret (.int .i64 (zLa u.flows)),[]):=by
 refine zc rfl rfl rfl (by simp[encUnt]) ?_;obtain⟨ars,fs⟩:=u;obtain⟨z1,z2,z3,z4⟩:=hz;simp only at z1 z2 z3 z4 hb hs;clear z1 z3 z4;simp[F35,encUnt,arrs,flows];refine zG fs K35_0 B35_0 (fun d=>[(3,.int .i64 (zLa d)),(4,.int .i64 d.length)]) (fun _=>[]) (fun d=>True) (by omega) (by simp[zLa]) ?_ ?_
 ·intros d x r s1 hl' hlt hget hget' hw1 hp h1 h2 h3 h4;simp at h1 h2 h3;have hdec:decide (d.length<fs.length)=true:=decide_eq_true hlt;have hbx:=size_spec (wtL x.body) x.body (yg _) (hb x hl'.mem);have hsum:zLa fs=zLa d+szL x.body+zLa r:=by rw[hl'.eq,sizeF_app];simp only[zLa];omega
  have hf:(zLa (d++[x]):Int)=(zLa d:Int)+(szL x.body:Int):=by rw[sizeF_app];simp only[zLa];omega
  have v1:zW .i64 ((zLa d:Int)+(szL x.body:Int))=(zLa d:Int)+(szL x.body:Int):=zm (by omega) (by omega);obtain⟨fnm,fty,ps,tys,body⟩:=x;simp only at hbx hsum hf v1;simp[zh]at hbx;clear hl' hb hsum hs;simp[*,zf,zh,ints]
 ·intros s1 hp h1 h2 h3 h4;simp at h1 h2 h3;clear hb;simp[*]
theorem alike_spec(a b:Rn)(h1:b.status=a.status)(h2:b.code=a.code)(h3:b.out=a.out)(hb:b.out.length<1099511627776):zk E 52 [zge a,zge b] []=some (.ret (.bool true),[]):=by
 have ho:=sameOut_spec a.out a.out (by rw[<-h3];exact hb) (by rw[<-h3];exact hb);have e:outSame a.out a.out=true:=by simp[outSame]
 rw[e]at ho;simp[ints]at ho;refine zc rfl rfl rfl (by simp[zge]) ?_;clear hb;simp[*,F52,zge,ints]
theorem fol2_spec(a b:Rn)(h:Fol2 a b)(hb:b.out.length<1099511627776):zk E 34 [zge a,zge b] []=some (.ret (.bool true),[]):=by
 rcases h with⟨h0,x,hx⟩|⟨h0,h1,h2,h3⟩
 ·exact follows_spec a b h0 x hx hb
 ·have ha:=alike_spec a b h1 h2 h3 hb;have h0':=eqn h0;simp[zge,ints]at ha;refine zc rfl rfl rfl (by simp[zge]) ?_;clear hb h0 h1 h2 h3;simp[*,F34,zge,ints]
theorem quo4(k:Nat):(k:Int).tdiv 4=((k/4:Nat):Int):=rfl
set_option maxHeartbeats 2000000 in
theorem better_spec(u:Unt)(hz:USz u)(hb:∀f∈u.flows,wtL f.body<100000000)(hc:(zJa u).1=0)(inp:List Int)(k:Nat)(hk:k<=255)(hN:zLa u.flows<=1000000):
  zk E 18 [encUnt u,encUnt (zT u),ints inp,.int .i64 k] []=some (.ret (.bool true),[]):=by
 refine zc rfl rfl rfl (by simp[encUnt]) ?_;have hz1:=knownM_sz hz;have hw1:=knownM_wt hb;have hb':∀f∈u.flows,wtL f.body<1099511000000:=fun f hf=>by have:=hb f hf;omega
 have hb1':∀f∈(zT u).flows,wtL f.body<1099511000000:=fun f hf=>by have:=hw1 f hf;omega
 obtain⟨⟨f1,f2⟩,f3⟩:=better_law hz hc inp k hN hk;have hn:=nodes11_spec u hz hb' (by omega);have e4:((k/4:Nat):Int)<=255:=by omega
 have e5:k/4<=63:=by omega
 have e6:(k/4+1)*(zLa u.flows+1)<=64*1000001:=Nat.mul_le_mul (by omega) (by omega);have ra:=zmd u hz hb' inp k (by omega);have rb:=zmd (zT u) hz1 hb1' inp k (by omega);have rc:=zmd (zT u) hz1 hb1' inp ((k/4:Nat):Int) (by omega);have rd:=zmd u hz hb' inp (((k/4+1)*(zLa u.flows+1):Nat):Int) (by omega);have ob:=playM_out (zT u) inp k (by omega) hz1;have od:=playM_out u inp (((k/4+1)*(zLa u.flows+1):Nat):Int) (by omega) hz;have w1:zW .i64 ((k:Int).tdiv 4)=((k/4:Nat):Int):=by rw[quo4];exact zm (by omega) (by omega)
 have w1':zW .i64 ((k:Int)/4)=((k/4:Nat):Int):=by rw[show(k:Int)/4=((k/4:Nat):Int) by omega];exact zm (by omega) (by omega)
 have w2:zW .i64 (((k/4:Nat):Int)+1)=((k/4:Nat):Int)+1:=zm (by omega) (by omega);have w3:zW .i64 ((zLa u.flows:Int)+1)=(zLa u.flows:Int)+1:=zm (by omega) (by omega);have w4:(((k/4:Nat):Int)+1)*((zLa u.flows:Int)+1)=(((k/4+1)*(zLa u.flows+1):Nat):Int):=by push_cast;rfl
 have w5:zW .i64 ((((k/4:Nat):Int)+1)*((zLa u.flows:Int)+1))=(((k/4+1)*(zLa u.flows+1):Nat):Int):=by
  rw[w4];exact zm (by omega) (by omega)
 generalize hM:(((k/4+1)*(zLa u.flows+1):Nat):Int)=M at*;generalize hQ:((k/4:Nat):Int)=Q at*;have t1:=fol2_spec _ _ f1 ob;have t2:=fol2_spec _ _ f3 od;generalize zHa u inp k=ua at*;generalize zHa (zT u) inp k=vb at*;generalize zHa (zT u) inp Q=vc at*;generalize zHa u inp M=ud at*;generalize zT u=v at*;by_cases hs:ua.status=0
 ·have hs':=eqp hs;clear f1 f2 f3 ob od hz hb hb' hz1 hw1 hb1' hc hN e4 e5 e6 hM hQ w4 hs;simp[encUnt,ints,zge]at hn ra rb rc rd t1 t2;simp[*,F18,encUnt,zge,ints]
 ·have hs':=eqn hs;have c1:(ua.cost<vb.cost)=False:=eqn (by have:=(f2 hs).1;omega);have c2:(vb.fuel<ua.fuel)=False:=eqn (by have:=(f2 hs).2;omega);have c3:((vb.fuel:Int)<ua.fuel)=False:=eqn (by have:=(f2 hs).2;omega);clear f1 f2 f3 ob od hz hb hb' hz1 hw1 hb1' hc hN e4 e5 e6 hM hQ w4 hs;simp[encUnt,ints,zge]at hn ra rb rc rd t1 t2;simp[*,F18,encUnt,zge,ints]
theorem madeM_sizeF(L:List UInt8):zLa (zjc L).flows<=1000000:=by
 have h:=madeM_wt8 L;have e:zLa (zjc L).flows=((zjc L).flows.map (fun f=>szL f.body)).sum:=by
  generalize(zjc L).flows=l
  induction l with
  |nil=>rfl
  |cons x r ih=>simp[zLa,ih]
 have hl:(zjc L).flows.length=2:=by simp[zjc]
 match hf:(zjc L).flows,hl with
 | [a,b],_=>
  rw[hf]at h;have h1:=h a (by simp);have h2:=h b (by simp);have h3:=szL_wt a.body;have h4:=szL_wt b.body;simp only[zLa];omega
set_option maxHeartbeats 2000000 in
theorem knownDoes_spec(L:List UInt8)(inp:List Int)(fu:Int)(hL:L.length<=9223372036854775807)(hi:inp.length<=9223372036854775807)(hf:0<=fu/\fu<=255):
  zk E 6 [u8s L,ints inp,.int .u8 fu] []=some (.ret (.bool true),[]):=by
 obtain⟨k,rfl⟩:=Int.eq_ofNat_of_zero_le hf.1;refine zc rfl rfl rfl (by simp[u8s]) ?_;have ha:=awake12_spec;have hm:=made_spec L hL;have hz:=madeM_sz L;have hw:∀f∈(zjc L).flows,wtL f.body<100000000:=fun f hf=>by have:=madeM_wt8 L f hf;omega
 have hc:(zJa (zjc L)).1=0:=by rw[madeM_ok]
 have k1:=known_ok hz hw hc;have hin:=ins_spec inp hi;have h1:zW .i64 (k:Int)=(k:Int):=zm (by omega) (by omega);have hB:=better_spec (zjc L) hz hw hc (inp.take 10) k (by omega) (madeM_sizeF L);generalize inp.take 10=z at*;generalize zT (zjc L)=v at*;generalize zjc L=u at*;clear hz hw hc hL hi hf;simp[encUnt,ints,u8s]at hm k1 hin hB;simp[*,F6,u8s,ints]
end PE.U

namespace PE
open Go Go.RowKit
def Kept(w w':World):Prop:=w.keptBut w' (fun _=>False)/\∀k,k<w.heap.size->w'.heap[k]? =w.heap[k]?
theorem Kept.frame{w w':World}(h:Kept w w')(X:MemPlace->Prop):w.keptBut w' X:=World.keptBut_mono (fun p hp=>hp.elim) h.1
theorem kept_of_ext{w w':World}{G':Gh}{st':zd}(h:Ext (gh0 w) [] w G' st' w'):Kept w w':=
 ⟨by
  refine⟨h.os,h.output,fun i hi=>?_⟩;have hb:=(h.prot i (by simp[gh0,hi])).2.2;rw[hb];cases w.heap[i]? with
  |none=>rfl
  |some o=>cases o<;>first|exact⟨rfl,rfl,rfl,fun _ _=>rfl⟩|exact .inr ⟨rfl,rfl⟩|rfl,fun k hk=>(h.prot k (by simp[gh0,hk])).2.2⟩
theorem Kept.same{W w':World}(h:Kept W w'){p:MemPlace}(hp:p.block<W.heap.size):W.sameAt w' p:=by
 cases p with
 |cell b o=>exact World.cell?_of_block (w:=W) (h.2 b hp)
 |map b=>exact h.2 b hp
theorem Kept.trod{H:Type}{enc:TypeId×Value->H}{P:Program}{t:TypeId}(hl:laidOutB P=true)(hr:P.readableRec t=true)(hrow:t<P.types.size){W W':World}{v:Value}{d:DataW H}{ps:List MemPlace}
  (h:DataW.Trod enc P W 0 (fun _=>true) true t v d ps) (hb:Kept W W') (hlt:∀x∈ps,x.block<W.heap.size):
  DataW.Trod enc P W' 0 (fun b=>decide (b<W.heap.size)) true t v d ps:=
 WideElems.Trod_stays hl hr hrow h (fun x hx=>hb.same (hlt x hx)) (fun x hx=>by simpa using hlt x hx)
theorem walk_kept{P:Program}{T:Tabs}{E:Env}(hE:EnvOk P T E){f:Nat}{args:List PV}{margs:Array Value}{w:World}{st':zd}(hT:T.In (gh0 w) w)
  (h:zk E f args []=some (.ret (.bool true),st')) (hsz:margs.size=args.length)
  (hv:∀(j:Nat) c x,args[j]? =some c->margs[j]? =some x->VR ((gh0 w).im w) (fun _=>none) c x):
  Calls P f margs w fun e w'=>e= .returned (.bool true)/\Kept w w':=by
 obtain⟨n,hn⟩:=zSd.1 h;have hloc:zi (gh0 w).lc []=fun _=>none:=by funext l;simp[zi]
 refine((callF_good hE n _ _ _ _ _ hn (gh0 w) w margs rfl hT (gh0_sim w) hsz (by rw[hloc];exact hv)).2).mono ?_;intro e w' he;cases e with
 |returned mv=>
  obtain⟨G',q1,q2,q3⟩:=he;exact⟨by rw[VR.bool_inv q3],kept_of_ext q2⟩
 |panicked ch=>exact he.elim
 |outgrown=>exact he.elim
def IsRow(k:IntKind)(w:World)(a:Option Addr)(len cap:Nat)(zs:List Int):Prop:=
 (a=none/\len=0/\cap=0/\zs=[])∨
 ∃x,a=some x/\len<=cap/\cap<=maxLen/\zs.length=cap/\(∀i,i<zs.length->w.cell? (x.add i)=some (.int k (zs.getD i 0)))/\∀n∈zs,(Lit.int k n).wf=true
theorem row_vr{k:IntKind}{w:World}{a:Option Addr}{len cap:Nat}{zs:List Int}(h:IsRow k w a len cap zs):VR ((gh0 w).im w) (fun _=>none) (.slice .plain 1 ((zs.take len).map (PV.int k))) (.slice a len cap):=by
 rcases h with⟨rfl,rfl,rfl,rfl⟩|⟨x,rfl,hl,hm,hz,hcell,hwz⟩
 ·exact .slice0 _ _ _ _ (by simp) (by simp)
 ·by_cases h0:len=0
  ·subst h0;exact .slice0 _ _ _ _ (by simp) (by simp)
  ·obtain⟨b,off,spot⟩:=x;have hc:=hcell 0 (by omega);have hspot:spot=none:=by simpa[Addr.add]using World.cell?_spot hc
   subst hspot;have hlen:((zs.take len).map (PV.int k)).length=len:=by simp;omega
   have hget:∀(i:Nat) e,((zs.take len).map (PV.int k))[i]? =some e->i<len/\e= .int k (zs.getD i 0):=by
    intro i e he;rw[yk,yc]at he;obtain⟨n,hn,rfl⟩:=he;rw[yJ]at hn;split at hn
    ·rename_i hi;refine⟨hi,?_⟩;rw[List.getD_eq_getElem?_getD,hn];rfl
    ·cases hn
   have:=VR.slice (I:=(gh0 w).im w) (L:=fun _=>none) (k:= .plain) (sz:=1) (l:=(zs.take len).map (PV.int k)) (b:=b) (o:=off) (cap:=cap)
    (by simp) (by simp) (by rw[hlen];exact hl) (fun i _=> .int k (zs.getD i 0)) ?_ ?_ ?_
   ·rw[hlen]at this;exact this
   ·intro i e he;obtain⟨_,rfl⟩:=hget i e he;exact⟨rfl,rfl⟩
   ·intro i e j c he hc;obtain⟨hi,rfl⟩:=hget i e he;cases j with
    |zero=>
     refine⟨gh0_im ?_,rfl⟩;have:=hcell i (by omega);have e:(⟨b,off,none⟩:Addr).add i=⟨b,off+i*1+0,none⟩:=by
      unfold Addr.add;by_cases hi0:i=0<;>simp[hi0]
     rw[<-e];exact this
    |succ j=>simp[cellsOf]at hc
   ·intro i e j c he hc;obtain⟨hi,rfl⟩:=hget i e he;cases j with
    |zero=>simp[cellsOf]at hc;subst hc;exact .int _ _
    |succ j=>simp[cellsOf]at hc
theorem row_len{k:IntKind}{w:World}{a:Option Addr}{len cap:Nat}{zs:List Int}(h:IsRow k w a len cap zs):(zs.take len).length<=maxLen:=by
 rcases h with⟨rfl,rfl,rfl,rfl⟩|⟨x,rfl,hl,hm,hz,hcell,hwz⟩
 ·simp
 ·rw[List.length_take];omega
def bytesOf(zs:List Int):List UInt8:=zs.map fun n=>yPa n.toNat
theorem row_u8{w:World}{a:Option Addr}{len cap:Nat}{zs:List Int}(h:IsRow .u8 w a len cap zs):VR ((gh0 w).im w) (fun _=>none) (.slice .plain 1 ((bytesOf (zs.take len)).map fun b=> .int .u8 b.toNat)) (.slice a len cap):=by
 have hv:=row_vr h;have:(bytesOf (zs.take len)).map (fun b=>PV.int .u8 b.toNat)=(zs.take len).map (PV.int .u8):=by
  unfold bytesOf;rw[List.map_map];apply List.map_congr_left;intro n hn;have hwf:(Lit.int .u8 n).wf=true:=by
   rcases h with⟨rfl,rfl,rfl,rfl⟩|⟨x,rfl,hl,hm,hz,hcell,hwz⟩
   ·simp at hn
   ·exact hwz n (List.mem_of_mem_take hn)
  have hb:0<=n/\n<=255:=by
   simp only[Lit.wf,ya,decide_eq_true_eq]at hwf;exact hwf
  simp only[Function.comp_apply,PV.int.injEq,true_and];have:(yPa n.toNat).toNat=n.toNat:=by
   rw[UInt8.toNat_ofNat'];omega
  omega
 rw[this];exact hv
theorem bytes_len{w:World}{a:Option Addr}{len cap:Nat}{zs:List Int}(h:IsRow .u8 w a len cap zs):(bytesOf (zs.take len)).length<=maxLen:=by
 unfold bytesOf;rw[yV];exact row_len h
theorem str_vr(I:Im)(L:Loc){b:ByteArray}:VR I L (.str b.data.toList) (.string b):=VR.str b.data.toList
theorem str_len{b:ByteArray}(h:b.size<=maxLen):b.data.toList.length<=maxLen:=by
 rw[Array.length_toList];exact h
theorem maxLen_eq:maxLen=9223372036854775807:=by decide
def packT(P:Program)(e:TypeId)(l:List PV):PV:=match P.underlying e with
 |some (.struct _)=> .agg l
 |_=>l.headD .undef
def CellsT(P:Program):Nat->TypeId->List PV->Prop
 |0,_,_=>False
 |n+1,t,l=>match P.underlying t with
  |some (.int k)=>∃z,l=[.int k z]/\(Lit.int k z).wf=true
  |some .bool=>∃b,l=[.bool b]
  |some .string=>∃s:List UInt8,l=[.str s]/\s.length<=maxLen
  |some (.struct fs)=>l.length=P.cellsOf t/\∀f∈fs.toList,CellsT P n f.type ((l.drop f.offset).take (P.cellsOf f.type))
  |some (.slice e)=>∃es:List (List PV),l=[.slice .plain (P.cellsOf e) (es.map (packT P e))]/\es.length<=maxLen/\∀c∈es,CellsT P n e c
  |_=>False
def layB(P:Program):List Field->Nat->Nat->Bool
 | [],o,total=>o==total
 |f::r,o,total=>f.offset==o&&layB P r (o+P.cellsOf f.type) total
def plainB(P:Program)(S:List TypeId):Bool:=S.all fun t=>match P.underlying t with
 |some (.int _)=>P.cellsOf t==1
 |some .bool=>P.cellsOf t==1
 |some .string=>P.cellsOf t==1
 |some (.struct fs)=>fs.toList.all (fun f=>S.contains f.type)&&layB P fs.toList 0 (P.cellsOf t)
 |some (.slice e)=>S.contains e&&decide (0<P.cellsOf e)&&(P.cellsOf t==1)
 |_=>false
def R1(w:World)(c:PV)(v:Value):Prop:=VR ((gh0 w).im w) (fun _=>none) c v/\zAd c=true/\v.oneCell'=true
def Rs(w:World)(l:List PV)(cs:List Value):Prop:=l.length=cs.length/\∀(j:Nat) c v,l[j]? =some c->cs[j]? =some v->R1 w c v
theorem Rs.one{w:World}{c:PV}{v:Value}(h:R1 w c v):Rs w [c] [v]:=by
 refine⟨rfl,fun j c' v' hc hv=>?_⟩;cases j with
 |zero=>cases hc;cases hv;exact h
 |succ j=>simp at hc
theorem Rs.append{w:World}{l l':List PV}{cs cs':List Value}(h:Rs w l cs)(h':Rs w l' cs'):Rs w (l++l') (cs++cs'):=by
 refine⟨by simp[h.1,h'.1],fun j c v hc hv=>?_⟩;by_cases hj:j<l.length
 ·rw[yn hj]at hc;rw[yn (by rw[<-h.1];exact hj)]at hv;exact h.2 j c v hc hv
 ·rw[yq (by omega)]at hc;rw[yq (by rw[<-h.1];omega)]at hv;rw[<-h.1]at hv;exact h'.2 _ c v hc hv
theorem lay_join{P:Program}{w:World}{n:Nat}{cs:List Value}:∀(fs:List Field) (o total:Nat),layB P fs o total=true->total=cs.length→
  (∀f∈fs,∃l,Rs w l ((cs.drop f.offset).take (P.cellsOf f.type))/\CellsT P n f.type l)→
  ∃l,Rs w l (cs.drop o)/\∀f∈fs,o<=f.offset/\CellsT P n f.type ((l.drop (f.offset-o)).take (P.cellsOf f.type)):=by
 intro fs
 induction fs with
 |nil=>
  intro o total hl ht _;simp only[layB,beq_iff_eq]at hl;refine⟨[],⟨?_,fun j c v hc=>by simp at hc⟩,fun f hf=>by simp at hf⟩;simp;omega
 |cons f r ih=>
  intro o total hl ht hf;simp only[layB,ya,beq_iff_eq]at hl;obtain⟨ho,hl⟩:=hl;obtain⟨l1,h1,c1⟩:=hf f (by simp);obtain⟨l2,h2,c2⟩:=ih _ _ hl ht (fun g hg=>hf g (by simp[hg]));have hle:∀(fs:List Field) (o total:Nat),layB P fs o total=true->o<=total:=by
   intro fs
   induction fs with
   |nil=>intro o total h;simp only[layB,beq_iff_eq]at h;omega
   |cons g s ihs=>
    intro o total h;simp only[layB,ya,beq_iff_eq]at h;have:=ihs _ _ h.2;omega
  have hn:=hle _ _ _ hl;have hlen1:l1.length=P.cellsOf f.type:=by
   rw[h1.1,List.length_take,List.length_drop,ho];omega
  refine⟨l1++l2,?_,?_⟩
  ·have:cs.drop o=(cs.drop f.offset).take (P.cellsOf f.type)++cs.drop (o+P.cellsOf f.type):=by
    rw[ho,<-List.drop_drop,List.take_append_drop]
   rw[this];exact h1.append h2
  ·intro g hg;rcases yA.1 hg with rfl|hg
   ·refine⟨by omega,?_⟩;rw[ho,Nat.sub_self,List.drop_zero,List.take_append_of_le_length (by omega),<-hlen1,List.take_length];exact c1
   ·obtain⟨h3,h4⟩:=c2 g hg;refine⟨by omega,?_⟩;have:(l1++l2).drop (g.offset-o)=l2.drop (g.offset-(o+P.cellsOf f.type)):=by
     rw[List.drop_append,List.drop_of_length_le (by omega),yqa];congr 1;omega
    rw[this];exact h4
theorem cells_packed{P:Program}{n:Nat}{e:TypeId}{l:List PV}{w:World}{cs:List Value}(hr:Rs w l cs)(h:CellsT P n e l)(hsz:cs.length=P.cellsOf e):cellsOf (packT P e l)=l/\zJ (packT P e l)=true:=by
 cases n with
 |zero=>exact h.elim
 |succ n=>
  unfold CellsT at h;unfold packT;split at h
  ·rename_i hu;rw[hu];obtain⟨z,rfl,_⟩:=h;exact⟨rfl,rfl⟩
  ·rename_i hu;rw[hu];obtain⟨z,rfl⟩:=h;exact⟨rfl,rfl⟩
  ·rename_i hu;rw[hu];obtain⟨z,rfl,_⟩:=h;exact⟨rfl,rfl⟩
  ·rename_i hu;rw[hu];exact⟨rfl,rfl⟩
  ·rename_i hu;rw[hu];obtain⟨z,rfl,_⟩:=h;exact⟨rfl,rfl⟩
  ·exact h.elim
theorem cells?_get{w:World}{a:Addr}{n:Nat}{cs:List Value}(h:w.cells? 0 a n=some cs):cs.length=n/\∀(j:Nat) v,cs[j]? =some v->w.cell? (a.add j)=some v:=by
 unfold World.cells? at h;rw[if_pos (Nat.zero_le _)]at h;have hl:=mapM_some_length h;rw[List.length_range]at hl;refine⟨hl,fun j v hv=>?_⟩;have hj:j<n:=by rw[<-hl];exact(yb.1 hv).1
 have:=mapM_some_get h j j (by rw[List.getElem?_range hj]);rw[this,hv]
theorem add_add(a:Addr)(ha:a.spot=none)(x:Nat):a.add x=⟨a.block,a.off+x,none⟩:=by
 obtain⟨b,o,s⟩:=a;simp only at ha;subst ha;unfold Addr.add;by_cases h:x=0<;>simp[h]
theorem read_cells{P:Program}{S:List TypeId}(hp:plainB P S=true){H:Type}{enc:TypeId×Value->H}{w:World}{sp:Nat->Bool}:∀(n:Nat) (t:TypeId) (cs:List Value) (x:DataW H×List MemPlace),t∈S→
  DataW.trod enc P w 0 sp true n t cs=some x->∃l,Rs w l cs/\CellsT P n t l/\cs.length=P.cellsOf t:=by
 intro n
 induction n with
 |zero=>intro t cs x _ h;simp[DataW.trod]at h
 |succ n ih=>
  intro t cs x ht h;have hp':=yj.1 hp t ht;split at hp'
  ·rename_i k hu;obtain⟨z,rfl,_,hw⟩:=DataW.trod_int hu h;simp only[beq_iff_eq]at hp';exact⟨[.int k z],Rs.one ⟨.int _ _,rfl,rfl⟩,by unfold CellsT;rw[hu];exact⟨z,rfl,hw⟩,by simp[hp']⟩
  ·rename_i hu;obtain⟨z,rfl,_⟩:=DataW.trod_bool hu h;simp only[beq_iff_eq]at hp';exact⟨[.bool z],Rs.one ⟨.bool _,rfl,rfl⟩,by unfold CellsT;rw[hu];exact⟨z,rfl⟩,by simp[hp']⟩
  ·rename_i hu;obtain⟨s,rfl,_,hm⟩:=DataW.trod_string hu h;simp only[beq_iff_eq]at hp';exact⟨[.str s.data.toList],Rs.one ⟨str_vr _ _,rfl,rfl⟩,by unfold CellsT;rw[hu];exact⟨_,rfl,str_len hm⟩,by simp[hp']⟩
  ·rename_i fs hu;simp only[ya,yj,yAa]at hp';obtain⟨hS,hlay⟩:=hp';obtain⟨xs,m,hm,_,hlen,hxs,hget⟩:=DataW.trod_struct hu h;cases hm;obtain⟨l,hl,hc⟩:=lay_join (w:=w) (n:=n) (cs:=cs) fs.toList 0 _ hlay hlen.symm (by
    intro f hf;obtain⟨i,hi⟩:=yP hf;have hi':fs[i]? =some f:=by simpa using hi
    have hg:=hget i f hi';have hlt:i<xs.length:=by rw[hxs];simpa using(yb.1 hi).1
    rw[yd hlt]at hg;obtain⟨l,h1,h2,_⟩:=ih _ _ _ (hS f hf) hg;exact⟨l,h1,h2⟩)
   rw[List.drop_zero]at hl;refine⟨l,hl,?_,hlen⟩;unfold CellsT;rw[hu];exact⟨by rw[hl.1,hlen],fun f hf=>by have:=(hc f hf).2;rwa[Nat.sub_zero]at this⟩
  ·rename_i e hu;simp only[ya,yAa,decide_eq_true_eq,beq_iff_eq]at hp';obtain⟨⟨hS,hpos⟩,h1⟩:=hp';rcases DataW.trod_slice hu h with⟨rfl,_⟩|⟨a,len,cap,elems,rest,m,hm,rfl,_,_,hle,hcap,hel,hget,_,_⟩
   ·exact⟨[.slice .plain (P.cellsOf e) []],Rs.one ⟨.slice0 _ _ _ _ (by simp) (by simp),rfl,rfl⟩,by unfold CellsT;rw[hu];exact⟨[],rfl,by simp,by simp⟩,by simp[h1]⟩
   ·cases hm;have key:∀i,i<len->∃l:List PV,l.length=P.cellsOf e/\CellsT P n e l/\cellsOf (packT P e l)=l/\zJ (packT P e l)=true/\∀(j:Nat) c,l[j]? =some c->∃v,w.cell? ((a.add (i*P.cellsOf e)).add j)=some v/\R1 w c v:=by
     intro i hi;have hg:=hget i hi;have hlt:i<elems.length:=by omega
     rw[yd hlt,yN]at hg;obtain⟨cs',h2,h3⟩:=hg;obtain⟨l,h4,h5,h6⟩:=ih _ _ _ hS h3;obtain⟨h7,h8⟩:=cells?_get h2;obtain⟨h9,h10⟩:=cells_packed h4 h5 h6;refine⟨l,by rw[h4.1,h6],h5,h9,h10,fun j c hc=>?_⟩;have hj:j<cs'.length:=by rw[<-h4.1];exact(yb.1 hc).1
     exact⟨cs'[j],h8 j _ (yd hj),h4.2 j c _ hc (yd hj)⟩
    let g:Nat->List PV:=fun i=>if hi:i<len then(key i hi).choose else[]
    have hg:∀i,i<len->(g i).length=P.cellsOf e/\CellsT P n e (g i)/\cellsOf (packT P e (g i))=g i/\zJ (packT P e (g i))=true/\∀(j:Nat) c,(g i)[j]? =some c->∃v,w.cell? ((a.add (i*P.cellsOf e)).add j)=some v/\R1 w c v:=by
     intro i hi;have:=(key i hi).choose_spec;simp only[g,dif_pos hi];exact this
    have hel':∀(i:Nat) x,(((yaa len).map g).map (packT P e))[i]? =some x->i<len/\x=packT P e (g i):=by
     intro i x hx;rw[List.map_map,yk,yc]at hx;obtain⟨k,hk,rfl⟩:=hx;obtain⟨hk1,hk2⟩:=yb.1 hk;rw[List.length_range]at hk1;rw[List.getElem_range]at hk2;subst hk2;exact⟨hk1,rfl⟩
    refine⟨[.slice .plain (P.cellsOf e) (((yaa len).map g).map (packT P e))],Rs.one ⟨?_,rfl,rfl⟩,?_,by simp[h1]⟩
    ·by_cases h0:len=0
     ·subst h0;exact .slice0 _ _ _ _ (by simp) (by simp)
     ·obtain⟨q1,q2,q3,q4,q5⟩:=hg 0 (by omega);have hspot:a.spot=none:=by
       have hlt:0<(g 0).length:=by omega
       obtain⟨v,hv,_⟩:=q5 0 _ (yd hlt);have hsp:=World.cell?_spot hv;obtain⟨b,o,s⟩:=a;simpa[Addr.add]using hsp
      obtain⟨b,o,s⟩:=a;simp only at hspot;subst hspot;have hcell:∀(i:Nat) x (j:Nat) c,(((yaa len).map g).map (packT P e))[i]? =some x->(cellsOf x)[j]? =some c->∃v,(gh0 w).im w b (o+i*P.cellsOf e+j)=some v/\R1 w c v:=by
       intro i x j c hx hc;obtain⟨hi,rfl⟩:=hel' i x hx;obtain⟨r1,r2,r3,r4,r5⟩:=hg i hi;rw[r3]at hc;obtain⟨v,hv,hr⟩:=r5 j c hc;refine⟨v,gh0_im ?_,hr⟩;rw[add_add ⟨b,o,none⟩ rfl,add_add ⟨b,o+i*P.cellsOf e,none⟩ rfl]at hv;exact hv
      have hlen:(((yaa len).map g).map (packT P e)).length=len:=by simp
      have:=VR.slice (I:=(gh0 w).im w) (L:=fun _=>none) (k:= .plain) (sz:=P.cellsOf e) (l:=((yaa len).map g).map (packT P e)) (b:=b) (o:=o) (cap:=cap)
       (by simp) (by simp) (by rw[hlen];exact hle) (fun i j=>((gh0 w).im w b (o+i*P.cellsOf e+j)).getD (.bool false)) ?_ ?_ ?_
      ·rw[hlen]at this;exact this
      ·intro i x hx;obtain⟨hi,rfl⟩:=hel' i x hx;obtain⟨r1,r2,r3,r4,r5⟩:=hg i hi;exact⟨by rw[r3,r1],r4⟩
      ·intro i x j c hx hc;obtain⟨v,hv,hr⟩:=hcell i x j c hx hc;simp only[hv,yga];exact⟨trivial,hr.2.2⟩
      ·intro i x j c hx hc;obtain⟨v,hv,hr⟩:=hcell i x j c hx hc;simp only[hv,yga];exact hr.1
    ·unfold CellsT;rw[hu];refine⟨(yaa len).map g,rfl,by simp;omega,?_⟩;intro c hc;rw[yka]at hc;obtain⟨i,hi,rfl⟩:=hc;exact(hg i (yya.1 hi)).2.1
  ·cases hp'
theorem packT_struct{P:Program}{e:TypeId}{fs:Array Field}(hu:P.underlying e=some (.struct fs))(l:List PV):packT P e l= .agg l:=by
 unfold packT;rw[hu]
theorem le_max{n:Nat}(h:n<=maxLen):n<=9223372036854775807:=by rw[maxLen_eq]at h;exact h
theorem read_row{P:Program}{S:List TypeId}(hp:plainB P S=true){H:Type}{enc:TypeId×Value->H}{w:World}{sp:Nat->Bool}{t e:TypeId}(hu:P.underlying t=some (.slice e))(ht:t∈S){v:Value}{d:DataW H}{ps:List MemPlace}(h:DataW.Trod enc P w 0 sp true t v d ps){a:Option Addr}{len cap:Nat}(hv:v= .slice a len cap):
  ∃(n:Nat) (es:List (List PV)),VR ((gh0 w).im w) (fun _=>none) (.slice .plain (P.cellsOf e) (es.map (packT P e))) v/\es.length<=maxLen/\∀c∈es,CellsT P n e c:=by
 subst hv;obtain⟨n,hf⟩:=h;obtain⟨l,h1,h2,h3⟩:=read_cells hp n t _ _ ht hf;cases n with
 |zero=>exact h2.elim
 |succ n=>
  unfold CellsT at h2;rw[hu]at h2;obtain⟨es,rfl,hm,hc⟩:=h2;exact⟨n,es,(h1.2 0 _ _ rfl (by simp[Value.cells])).1,hm,hc⟩
end PE
