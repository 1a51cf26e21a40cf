/-
  Texts joined by program: A4L2, A4L3, A4F1, A4F2, A4F3, A4F4, A4F5, A4F6, A4F7, A4F8, A4F9, A4L4, A4L5, A4T1, A4T2, A4T3, A4T4, PfHand, A4F10, A4DN2, A4S1, A4F11, A4F23, A4Z4, PfEnd, PfRead.
-/
import Derived.Test.YthkagfbknifmmaaGreatDoorA04
import Derived.Lib.AtoiAll
import Derived.Lib.Bytealg
import Derived.Lib.IndexMore
import Derived.WalkKit
import Derived.ProofKit
import Derived.OpenShut
import Derived.ShutString
import Derived.ChangeOld
import Derived.Below
set_option linter.unusedVariables false
set_option linter.unusedSectionVars false
set_option linter.unusedSimpArgs false
open Bool renaming and_eq_true→ya,false_eq_true→yi,false_or→yI,not_eq_true'→yC,or_eq_false_iff→ywa,or_eq_true→yF,true_and→yca
open Eq renaming trans→yf
open List renaming all_eq_true→yr,contains_iff_mem→yNa,eq_nil_of_length_eq_zero→yy,find?_append→yDa,find?_cons→yra,find?_eq_none→yO,findIdx?_eq_none_iff→yPa,getElem?_append_left→yq,getElem?_append_right→yv,getElem?_drop→yN,getElem?_eq_getElem→yj,getElem?_eq_none→yfa,getElem?_eq_some_iff→yc,getElem?_map→yn,getElem?_take→yH,getElem_range→yqa,isPrefixOf→yga,length_append→ye,length_cons→yd,length_drop→yU,length_eq_one_iff→yM,length_map→yea,length_nil→yg,map_cons→yz,map_nil→yW,mem_append→yw,mem_cons→yia,mem_range→yta,mem_singleton→yJ,nil_append→yp,not_all_eq_any_not→yIa,range→yQ,takeWhile_cons→yT
open Nat renaming add_mul→yE,le_refl→yh,le_trans→yha,lt_or_ge→yA,lt_succ_self→yK,mul_le_mul_right→yo,pow_succ→yLa
open Option renaming bind_eq_some_iff→yaa,getD_some→yma,map_eq_some_iff→yb,map_some→yZ
open Or renaming inl→yOa,inr→yQa
open UInt8 renaming ofNat→yY
namespace PE.U
open Go PE
def twosT:List UInt8:=[60,60,32,62,62,32,60,61,32,62,61,32,61,61,32,33,61,32,38,38,32,124,124]
def onesT:List UInt8:=[40,41,123,125,91,93,44,59,61,60,62,43,45,42,47,37,38,124,94,126,33]
def pairsL:List (List UInt8):=[[60,60],[62,62],[60,61],[62,61],[61,61],[33,61],[38,38],[124,124]]
def onesQ:List (List UInt8):=[[40],[41],[123],[125],[91],[93],[44],[59],[61],[60],[62],[43],[45],[42],[47],[37],[38],[124],[94],[126],[33]]
theorem signsL_eq:signsL=[62,62,62]::(pairsL++onesQ):=by decide
theorem find_len{s:List UInt8}{k:Nat}(hk:k<=s.length):∀(l:List (List UInt8)),(∀x∈l,x.length=k)->l.find? (fun x=>x.isPrefixOf s)=if s.take k∈l then some (s.take k)else none
 | [],_=>rfl
 |x::r,h=>by
  have hx:x.length=k:=h x (by simp);rw[yra,find_len hk r (fun y hy=>h y (by simp[hy]))];have hp:=prefix_take x s;rw[hx]at hp;by_cases e:s.take k=x
  ·rw[hp];simp[hk,e]
  ·rw[hp];have:¬x=s.take k:=fun q=>e q.symm
   simp[e]
theorem find_short{s:List UInt8}:∀(l:List (List UInt8)),(∀x∈l,s.length<x.length)->l.find? (fun x=>x.isPrefixOf s)=none
 | [],_=>rfl
 |x::r,h=>by
  rw[yra,find_short r (fun y hy=>h y (by simp[hy])),prefix_take];have:=h x (by simp);have hn:¬x.length<=s.length:=by omega
  simp[hn]
theorem contains_cons(b:UInt8)(l sub:List UInt8):Lib.contains (b::l) sub=(sub.isPrefixOf (b::l)||Lib.contains l sub):=by
 have hg:=Lib.index_ge l sub;unfold Lib.contains;rw[Lib.index];cases h:sub.isPrefixOf (b::l)
 ·simp only[yi,if_false,yI];split
  ·rename_i e;simp only[beq_iff_eq]at e;rw[e]
   try rfl
  ·rename_i e;simp only[beq_iff_eq]at e;have e1:0<=Lib.index l sub:=by omega
   rw[decide_eq_true e1,decide_eq_true (by omega)]
 ·simp
theorem contains_nil(a:UInt8)(r:List UInt8):Lib.contains [] (a::r)=false:=by simp[Lib.contains,Lib.index]
theorem twos_pairs(a b:UInt8)(ha:¬a=32)(hb:¬b=32):Lib.contains twosT [a,b]=pairsL.contains [a,b]:=by
 have ha':(a==32)=false:=by simpa using ha
 have hb':(b==32)=false:=by simpa using hb
 unfold twosT pairsL;simp only[contains_cons,contains_nil,yga,ha',hb',Bool.and_true,Bool.and_false,Bool.false_and,Bool.or_false,yI,List.contains_cons,List.contains_nil,Bool.and_self];have hbq:∀x y:UInt8,(([a,b]:List UInt8)==[x,y])=(a==x&&b==y):=fun x y=>by
  rw[Bool.eq_iff_iff];simp
 simp only[hbq]
theorem index_mem(c:UInt8):∀l:List UInt8,(0<=Lib.indexByte l c)<->c∈l
 | []=>by simp[Lib.indexByte]
 |b::l=>by
  have hg:=Lib.indexByte_ge l c;rw[Lib.indexByte];by_cases h:b=c
  ·subst h;simp
  ·have h':(b==c)=false:=by simpa using h
   rw[h'];simp only[yi,if_false,yia];have ih:=index_mem c l;split
   ·rename_i e;simp only[beq_iff_eq]at e;rw[e]at ih;constructor
    ·intro q;omega
    ·rintro(q|q)
     ·exact absurd q.symm h
     ·have:=ih.2 q;omega
   ·rename_i e;simp only[beq_iff_eq]at e;constructor
    ·intro q;exact .inr (ih.1 (by omega))
    ·rintro(q|q)
     ·exact absurd q.symm h
     ·have:=ih.2 q;omega
theorem ones_mem(c:UInt8): [c]∈onesQ<->c∈onesT:=by
 unfold onesQ onesT;simp
def psign(s:List UInt8):List UInt8:=
 if[62,62,62].isPrefixOf s then[62,62,62]
 else match s with
  |a::b::r=>if¬a=32/\¬b=32/\Lib.contains twosT [a,b]=true then[a,b]else if 0<=Lib.indexByte onesT a then[a]else[]
  | [a]=>if 0<=Lib.indexByte onesT a then[a]else[]
  | []=>[]
theorem psign_eq(s:List UInt8)(hs:s≠ []):psign s=zsb s:=by
 unfold psign zsb;rw[signsL_eq,yra];cases h3: [62,62,62].isPrefixOf s
 ·simp only[yi,if_false];rw[yDa]
  match s,hs with
  | [a],_=>
   rw[find_short pairsL (by intro x hx;rw[show x.length=2 from(by decide:∀x∈pairsL,x.length=2) x hx];simp),find_len (k:=1) (by simp) onesQ (by decide)];simp only[List.take_succ_cons,List.take_zero,Option.none_or,ones_mem,index_mem];split<;>rfl
  |a::b::r,_=>
   rw[find_len (k:=2) (by simp) pairsL (by decide),find_len (k:=1) (by simp) onesQ (by decide)];simp only[List.take_succ_cons,List.take_zero,ones_mem,index_mem];by_cases hm: [a,b]∈pairsL
   ·have hab:¬a=32/\¬b=32:=by
     have hall:pairsL.all (fun x=>decide (¬(32:UInt8)∈x))=true:=by decide
     have:=yr.1 hall _ hm;simp at this;exact⟨fun e=>this.1 e.symm,fun e=>this.2 e.symm⟩
    rw[if_pos ⟨hab.1,hab.2,by rw[twos_pairs a b hab.1 hab.2];exact yNa.2 hm⟩];simp[hm]
   ·rw[if_neg]
    ·simp only[hm,if_false,Option.none_or];split<;>rfl
    ·rintro⟨h1,h2,h3⟩
     rw[twos_pairs a b h1 h2]at h3;exact hm (yNa.1 h3)
 ·simp
def valN(n:Nat)(s:List UInt8):Nat:=s.foldl (fun n b=>n*10+(b.toNat-48)) n
theorem valN_nil(n:Nat):valN n []=n:=rfl
theorem zSc(n:Nat)(b:UInt8)(r:List UInt8):valN n (b::r)=valN (n*10+(b.toNat-48)) r:=by
 unfold valN;rw[List.foldl_cons]
theorem valN_ge:∀(s:List UInt8) (n:Nat),n<=valN n s
 | [],n=>Nat.le_of_eq (valN_nil n).symm
 |b::r,n=>by
  have:=valN_ge r (n*10+(b.toNat-48));rw[zSc];omega
theorem zzc{b:UInt8}{r:List UInt8}:digs (b::r)=true<->(48<=b.toNat/\b.toNat<=57)/\digs r=true:=by
 unfold digs;rw[List.all_cons,ya];simp[znc];omega
theorem valGo_N:∀(s:List UInt8) (n:Nat),digs s=true->n<=9223372036854775807->zAc n s=if valN n s<=9223372036854775807 then some (valN n s:Int)else none
 | [],n,_,h=>by simp[zAc,valN_nil,h]
 |b::r,n,hd,h=>by
  obtain⟨hb,hr⟩:=zzc.1 hd;rw[zAc,zSc];have hc:((b.toNat:Int)-48)=((b.toNat-48:Nat):Int):=by omega
  rw[hc];have hge:=valN_ge r (n*10+(b.toNat-48));split
  ·rename_i hlt;rw[if_neg (by omega)]
  ·rename_i hlt;have e:(n:Int)*10+((b.toNat-48:Nat):Int)=((n*10+(b.toNat-48):Nat):Int):=by omega
   rw[e];exact valGo_N r _ hr (by omega)
theorem parse_N:∀(s:List UInt8) (n:Nat),digs s=true->n<18446744073709551616->Lib.parseUint10 n s=if valN n s<18446744073709551616 then .ok (valN n s)else .range
 | [],n,_,h=>by simp[Lib.parseUint10,valN_nil,h]
 |b::r,n,hd,h=>by
  obtain⟨hb,hr⟩:=zzc.1 hd;rw[Lib.parseUint10,if_pos hb,zSc];have hge:=valN_ge r (n*10+(b.toNat-48));split
  ·rw[if_neg (by omega)]
  split
  ·rw[if_neg (by omega)]
  ·exact parse_N r _ hr (by omega)
theorem parse_bad:∀(s:List UInt8) (n u:Nat),digs s=false->Lib.parseUint10 n s≠ .ok u
 | [],n,u,hd=>by cases hd
 |b::r,n,u,hd=>by
  rw[Lib.parseUint10];split
  ·rename_i hb;split
   ·exact fun e=>by cases e
   split
   ·exact fun e=>by cases e
   ·refine parse_bad r _ u ?_;cases hr:digs r
    ·rfl
    ·rw[zzc.2 ⟨hb,hr⟩]at hd;cases hd
  ·exact fun e=>by cases e
theorem digF_valN:∀(s:List UInt8) (n k:Nat),digs s=true->0<n->digF (k+s.length) (valN n s)=digF k n++s
 | [],n,k,_,_=>by simp[valN_nil]
 |b::r,n,k,hd,hn=>by
  obtain⟨hb,hr⟩:=zzc.1 hd;have ih:=digF_valN r (n*10+(b.toNat-48)) (k+1) hr (by omega);rw[zSc,yd,show k+(r.length+1)=k+1+r.length by omega,ih,digF,if_neg (by omega)];have e1:(n*10+(b.toNat-48))/10=n:=by omega
  have e2:(n*10+(b.toNat-48))%10=b.toNat-48:=by omega
  rw[e1,e2];have e3:yY (48+(b.toNat-48))=b:=by
   rw[show 48+(b.toNat-48)=b.toNat by omega];simp
  rw[e3];simp
theorem digF_fuel:∀(k j v:Nat),v<10^j->0<j->j<=k->digF k v=digF j v
 |0,j,v,_,h1,h2=>by omega
 |k+1,0,v,_,h1,_=>by omega
 |k+1,j+1,v,hv,_,hjk=>by
  rw[digF,digF];split
  ·rfl
  ·cases j with
   |zero=>simp at hv;omega
   |succ j=>rw[digF_fuel k (j+1) (v/10) (by rw[yLa]at hv;omega) (by omega) (by omega)]
theorem valN_lt:∀(s:List UInt8) (n j:Nat),digs s=true->n<10^j->valN n s<10^(j+s.length)
 | [],n,j,_,h=>by simpa[valN_nil]using h
 |b::r,n,j,hd,h=>by
  obtain⟨hb,hr⟩:=zzc.1 hd;rw[zSc,yd,show j+(r.length+1)=j+1+r.length by omega];exact valN_lt r _ (j+1) hr (by rw[yLa];omega)
theorem valN_ge10:∀(s:List UInt8) (n:Nat),digs s=true->n*10^s.length<=valN n s
 | [],n,_=>by simp[valN_nil]
 |b::r,n,hd=>by
  obtain⟨hb,hr⟩:=zzc.1 hd;have ih:=valN_ge10 r (n*10+(b.toNat-48)) hr;rw[zSc,yd,yLa];refine yha ?_ ih;rw[yE,Nat.mul_assoc,Nat.mul_comm (10^r.length) 10];omega
def pnumber(s:List UInt8):Bool:=match Lib.atoiAll s with
 | .ok v=>decide (Lib.itoa v=s)
 |_=>false
theorem pnumber_eq(b:UInt8)(r:List UInt8)(hb:¬b.toNat=43/\¬b.toNat=45):pnumber (b::r)=zud (b::r):=by
 have hat:Lib.atoiAll (b::r)=match Lib.parseUint10 0 (b::r)with
   | .«syntax» => .«syntax»
   | .range=> .range
   | .ok u=>if 9223372036854775808<=u then .range else .ok (u:Int):=by
  unfold Lib.atoiAll;simp only[hb.1,hb.2,or_self,if_false,false_and,not_false_eq_true,true_and];unfold Lib.parseMag;rfl
 unfold pnumber zud;rw[hat];cases hd:digs (b::r)
 ·cases hp:Lib.parseUint10 0 (b::r)with
  |ok u=>exact absurd hp (parse_bad _ _ _ hd)
  | «syntax» =>rfl
  |range=>rfl
 ·rw[parse_N _ 0 hd (by omega),yca];have hv:=valGo_N (b::r) 0 hd (by omega);unfold zwc;rw[show(0:Int)=((0:Nat):Int)from rfl,hv];by_cases h64:valN 0 (b::r)<18446744073709551616
  ·rw[if_pos h64];simp only;by_cases h63:valN 0 (b::r)<=9223372036854775807
   ·rw[if_neg (by omega),if_pos h63];simp only;rw[itoa_dec (valN 0 (b::r)) (by omega)];obtain⟨hb1,hr⟩:=zzc.1 hd;have hval:valN 0 (b::r)=valN (b.toNat-48) r:=by rw[zSc];simp
    by_cases h0:b.toNat=48
    ·have hb48:b=48:=by apply UInt8.toNat_inj.1;simpa using h0
     subst hb48;cases r with
     |nil=>decide
     |cons c q=>
      have hlt:1<((48:UInt8)::c::q).length/\((48:UInt8)::c::q).head? =some 48:=⟨by simp,rfl⟩
      rw[Bool.eq_iff_iff];simp only[decide_eq_true_eq];rw[if_pos (.inr hlt)];refine⟨fun e=>absurd e ?_,fun h=>absurd h (by decide)⟩;have hz:zla (valN 0 (48::c::q))≠48::c::q:=by
       intro e;by_cases hsm:valN 0 (48::c::q)<10
       ·rw[zla,digF,if_pos hsm]at e;have:=congrArg List.length e;simp at this
       ·exact lead_ne 19 (valN 0 (48::c::q)) (by omega) (Nat.lt_of_le_of_lt h63 (by decide)) (by rw[show digF (19+1) (valN 0 (48::c::q))=zla _ from rfl,e];rfl)
      exact hz
    ·have hpos:0<b.toNat-48:=by omega
     rw[Bool.eq_iff_iff];simp only[decide_eq_true_eq];rw[if_neg (by
      rintro(h|⟨_,h⟩)
      ·cases h
      ·exact h0 (by rw[Option.some.inj h];rfl))]
     have hge:=valN_ge10 r (b.toNat-48) hr;have hlen:r.length<=18:=by
      rcases yA 18 r.length with h|h
      ·have h1:10^19<=10^r.length:=Nat.pow_le_pow_right (by omega) h;have h2:1*10^r.length<=(b.toNat-48)*10^r.length:=yo _ hpos;rw[hval]at h63;omega
      ·exact h
     have e1:=digF_valN r (b.toNat-48) 1 hr hpos;have e2:digF 1 (b.toNat-48)=[b]:=by
      rw[digF,if_pos (by omega),show 48+(b.toNat-48)=b.toNat by omega];simp
     have e3:zla (valN 0 (b::r))=b::r:=by
      rw[hval];unfold zla;rw[digF_fuel 20 (1+r.length) _ (valN_lt r _ 1 hr (by omega)) (by omega) (by omega),e1,e2];rfl
     rw[e3];simp
   ·rw[if_pos (by omega),if_neg h63];rfl
  ·rw[if_neg h64,if_neg (by omega)];rfl
theorem hasPrefix_x(s p:List UInt8)(σ:ze):zk E 48 [.str s,.str p] σ=some (.ret (.bool (p.isPrefixOf s)),σ):=by
 rw[zEd (E:=E) (f:=48) (g:=pureX hasPrefixG) rfl];rfl
theorem indexByte_x(s:List UInt8)(c:Int)(σ:ze):zk E 50 [.str s,.int .u8 c] σ=some (.ret (.int .i64 (Lib.indexByte s c.toNat.toUInt8)),σ):=by
 rw[zEd (E:=E) (f:=50) (g:=pureX indexByteG) rfl];rfl
theorem contains_x(s p:List UInt8)(σ:ze)(h:s.length<4294967281):zk E 89 [.str s,.str p] σ=some (.ret (.bool (Lib.contains s p)),σ):=by
 rw[zEd (E:=E) (f:=89) (g:=pureX containsG) rfl];unfold pureX containsG;simp[h]
theorem cut_x(s p:List UInt8)(σ:ze)(h:s.length<4294967281):zk E 49 [.str s,.str p] σ=some (.ret (.tup [.str (Lib.cut s p).1,.str (Lib.cut s p).2.1,.bool (Lib.cut s p).2.2]),σ):=by
 rw[zEd (E:=E) (f:=49) (g:=pureX cutG) rfl];unfold pureX cutG;simp[h]
def encAtoi(s:List UInt8):PV:=match Lib.atoiAll s with
 | .ok v=> .tup [.int .i64 v,.nilif]
 | .«syntax» => .tup [.int .i64 0,.iface 126 .undef]
 | .range=> .tup [.int .i64 (Lib.atoiSat s),.iface 126 .undef]
theorem atoi_x(s:List UInt8)(σ:ze)(h:s.length<=281474976710656):zk E 58 [.str s] σ=some (.ret (encAtoi s),σ):=by
 rw[zEd (E:=E) (f:=58) (g:=pureX (atoiG 126)) rfl];unfold pureX atoiG encAtoi;simp only[if_pos h,yZ]
 all_goals(cases Lib.atoiAll s<;>rfl)
theorem itoa_x(n:Int)(σ:ze)(h0: -9223372036854775808<=n)(h1:n<=9223372036854775807):zk E 90 [.int .i64 n] σ=some (.ret (.str (Lib.itoa n)),σ):=by
 rw[zEd (E:=E) (f:=90) (g:=pureX itoaG) rfl];unfold pureX itoaG;simp only[if_pos (And.intro h0 h1),yZ]
@[simp] theorem rebuild_aggT(a l:List PV):zCa (.agg a) l= .agg l:=yf rfl rfl
theorem u8_nat(b:UInt8):((b.toNat:Int)).toNat.toUInt8=b:=by simp
theorem u8_ne(b c:UInt8):(decide ((b.toNat:Int)=c.toNat))=decide (b=c):=by
 rw[decide_eq_decide];constructor
 ·intro h;exact UInt8.toNat_inj.1 (by omega)
 ·rintro rfl;rfl
theorem psign_one(a:UInt8):psign [a]=if[62,62,62].isPrefixOf [a]then[62,62,62]else if 0<=Lib.indexByte onesT a then[a]else[]:=rfl
theorem psign_two(a b:UInt8)(r:List UInt8):psign (a::b::r)=if[62,62,62].isPrefixOf (a::b::r)then[62,62,62]else if¬a=32/\¬b=32/\Lib.contains twosT [a,b]=true then[a,b]else if 0<=Lib.indexByte onesT a then[a]else[]:=rfl
theorem psign_spec(s:List UInt8)(hs:s≠ [])(hl:s.length<1099511627776):zk E 52 [.str s] []=some (.ret (.str (zsb s)),[]):=by
 rw[<-psign_eq s hs];refine zc rfl rfl rfl (by simp) ?_;have h1:=hasPrefix_x s [62,62,62] []
 match s,hs with
 | [a],_=>
  rw[psign_one];have h3:=indexByte_x onesT a.toNat [];rw[u8_nat]at h3;obtain⟨i,hi⟩:∃i,Lib.indexByte onesT a=i:=⟨_,rfl⟩
  obtain⟨p,hp⟩:∃p,yga [62,62,62] [a]=p:=⟨_,rfl⟩
  rw[hi]at h3 ⊢;rw[hp]at h1 ⊢;unfold onesT at h3;clear hi hp
  (simp[*,F52])<;>(repeat' (first|((first|refine sP _ ?_ ?_|refine gP _ ?_ ?_|refine sN _ ?_ ?_|refine gN _ ?_ ?_)<;>intro hc<;>(first|replace hc:=eqn hc|replace hc:=eqp hc)<;>simp[*,F52])|((first|refine sM _ ?_ ?_|refine gM _ ?_ ?_|refine sB _ ?_ ?_|refine gB _ ?_ ?_)<;>intro hc<;>simp[*,F52])))
 |a::b::r,_=>
  rw[psign_two];have h3:=indexByte_x onesT a.toNat [];have h2:=contains_x twosT [a,b] [] (by decide);rw[u8_nat]at h3;obtain⟨i,hi⟩:∃i,Lib.indexByte onesT a=i:=⟨_,rfl⟩
  obtain⟨c,hc⟩:∃c,Lib.contains twosT [a,b]=c:=⟨_,rfl⟩
  obtain⟨p,hp⟩:∃p,yga [62,62,62] (a::b::r)=p:=⟨_,rfl⟩
  rw[hi]at h3 ⊢;rw[hp]at h1 ⊢;rw[hc]at h2 ⊢;unfold onesT at h3;unfold twosT at h2;clear hi hp hc;have ea:∀x:UInt8,((x.toNat:Int)=32)=(x=32):=fun x=>by
   have:=u8_ne x 32;rw[decide_eq_decide]at this;exact propext this
  have e2:(1:Int)<(r.length:Int)+1+1:=by omega
  simp only[yd]at hl;have ha:=ea a;have hb:=ea b
  (simp[*,F52])<;>(repeat' (first|((first|refine sP _ ?_ ?_|refine gP _ ?_ ?_|refine sN _ ?_ ?_|refine gN _ ?_ ?_)<;>intro hc<;>(first|replace hc:=eqn hc|replace hc:=eqp hc)<;>simp[*,F52])|((first|refine sM _ ?_ ?_|refine gM _ ?_ ?_|refine sB _ ?_ ?_|refine gB _ ?_ ?_)<;>intro hc<;>simp[*,F52])))
theorem pnumber_spec(b:UInt8)(r:List UInt8)(hb:¬b.toNat=43/\¬b.toNat=45)(hl:(b::r).length<1099511627776):zk E 55 [.str (b::r)] []=some (.ret (.bool (zud (b::r))),[]):=by
 rw[<-pnumber_eq b r hb];refine zc rfl rfl rfl (by simp) ?_;have h1:=atoi_x (b::r) [] (by omega);generalize b::r=s at*;unfold encAtoi at h1;unfold pnumber;cases ha:Lib.atoiAll s with
 |ok v=>
  rw[ha]at h1;simp only at h1;obtain⟨v0,v1⟩:=Lib.atoiAll_bounds ha;have h2:=itoa_x v [] v0 v1;clear ha
  (simp[*,F55])<;>(repeat' (first|((first|refine sP _ ?_ ?_|refine gP _ ?_ ?_|refine sN _ ?_ ?_|refine gN _ ?_ ?_)<;>intro hc<;>(first|replace hc:=eqn hc|replace hc:=eqp hc)<;>simp[*,F55])|((first|refine sM _ ?_ ?_|refine gM _ ?_ ?_|refine sB _ ?_ ?_|refine gB _ ?_ ?_)<;>intro hc<;>simp[*,F55])))
 | «syntax» =>
  rw[ha]at h1;simp only at h1;clear ha
  (simp[*,F55])<;>(repeat' (first|((first|refine sP _ ?_ ?_|refine gP _ ?_ ?_|refine sN _ ?_ ?_|refine gN _ ?_ ?_)<;>intro hc<;>(first|replace hc:=eqn hc|replace hc:=eqp hc)<;>simp[*,F55])|((first|refine sM _ ?_ ?_|refine gM _ ?_ ?_|refine sB _ ?_ ?_|refine gB _ ?_ ?_)<;>intro hc<;>simp[*,F55])))
 |range=>
  rw[ha]at h1;simp only at h1;clear ha
  (simp[*,F55])<;>(repeat' (first|((first|refine sP _ ?_ ?_|refine gP _ ?_ ?_|refine sN _ ?_ ?_|refine gN _ ?_ ?_)<;>intro hc<;>(first|replace hc:=eqn hc|replace hc:=eqp hc)<;>simp[*,F55])|((first|refine sM _ ?_ ?_|refine gM _ ?_ ?_|refine sB _ ?_ ?_|refine gB _ ?_ ?_)<;>intro hc<;>simp[*,F55])))
def sob(s:List UInt8)(line:Int):ze:=[.arr 2 [.agg [.str s,.int .i64 line]]]
def skipGo:Nat->List UInt8->Int->List UInt8×Int
 |0,s,line=>(s,line)
 |n+1,s,line=>if skips s then skipGo n (skip1 s line).1 (skip1 s line).2 else(s,line)
theorem skipGo_fuel:∀n m (s:List UInt8) line,s.length<=n->s.length<=m->skipGo n s line=skipGo m s line:=by
 intro n
 induction n with
 |zero=>
  intro m s line hn hm;have:s=[]:=yy (by omega);subst this;cases m<;>rfl
 |succ n ih=>
  intro m s line hn hm;cases m with
  |zero=>
   have:s=[]:=yy (by omega);subst this;rfl
  |succ m=>
   unfold skipGo;split
   ·rename_i h;have:=skip1_len h line;exact ih m _ _ (by omega) (by omega)
   ·rfl
def skipM(s:List UInt8)(line:Int):List UInt8×Int:=skipGo (s.length+1) s line
theorem skipM_stop{s:List UInt8}(h:skips s=false)(line:Int):skipM s line=(s,line):=by
 unfold skipM;simp[skipGo,h]
theorem skipM_step{s:List UInt8}(h:skips s=true)(line:Int):skipM s line=skipM (skip1 s line).1 (skip1 s line).2:=by
 have hl:=skip1_len h line;unfold skipM;rw[skipGo,if_pos h];exact skipGo_fuel _ _ _ _ (by omega) (by omega)
structure Os where
 a:Obj
 b:Obj
 c:Obj
def lft(T:List Tok)(p:PS):List PV:=(T.drop p.at').map zK
def qst(o:Os)(T:List Tok)(p:PS):ze:=[o.a,o.b,o.c,.arr 1 [.agg [.slice .plain 3 (lft T p)]]]
def wrongE(e:Int)(T:List Tok)(p:PS):PV:= .iface 51 (.agg [.int .i64 e,.int .i64 (tk T p.at').line])
def wrongV(T:List Tok)(p:PS):PV:=wrongE (if p.deep then 2 else 20) T p
def outQ(o:Os)(T:List Tok)(v:PV)(p:PS):CRes×ze:=if zf p then(.pan (wrongV T p),qst o T p)else(.ret v,qst o T p)
theorem zg{o:Os}{T:List Tok}{v:PV}{p:PS}(h:zf p=true):outQ o T v p=(.pan (wrongV T p),qst o T p):=if_pos h
theorem zn{o:Os}{T:List Tok}{v:PV}{p:PS}(h:zf p=false):outQ o T v p=(.ret v,qst o T p):=by unfold outQ;rw[if_neg (by rw[h];decide)]
theorem lft_0{T:List Tok}{p:PS}(h:p.at'<T.length):(lft T p)[0]? =some (zK (tk T p.at')):=by
 unfold lft;rw[yn,yN,Nat.add_zero,tk_get h];rfl
theorem lft_len{T:List Tok}{p:PS}(h:p.at'<T.length):1<=(lft T p).length:=by unfold lft;simp;omega
theorem lft_drop(T:List Tok)(p:PS):(lft T p).drop 1=lft T (adv p):=by unfold lft adv;rw[<-List.map_drop,List.drop_drop]
theorem zPc{p:PS}(h:zf p=false):p.bad=false/\p.deep=false:=by simpa[zf]using h
theorem zca(p:PS):zf (adv p)=zf p:=rfl
theorem zX{T:List Tok}{s:List UInt8}{p:PS}(h:zf p=true):zC T s p=p:=by
 obtain⟨a,b,d⟩:=p;unfold zC isF;rw[h];simp[zf]at h ⊢;cases d
 ·simp at h;simp[h]
 ·simp
theorem zdb{T:List Tok}{s:List UInt8}{p:PS}(h:zf p=true):isF T s p=false:=by unfold isF;rw[h];rfl
theorem text_over{T:List Tok}{k:Int}{p:PS}(h:zf p=true):zy T k p=([],p):=by unfold zy;rw[if_pos h]
section
variable {o:Os} {T:List Tok} {p:PS}
theorem fail_q(I:Inv1 T p)(e:Int):zk E 56 [.ptr 3 0 0,.int .i64 e] (qst o T p)=some (.pan (wrongE e T p),qst o T p):=by
 refine zc rfl rfl rfl (by simp) ?_;have h0:=lft_0 I.lt;unfold qst wrongE;generalize lft T p=l at*;simp[*,F56,zK]
theorem deep_q(I:Inv1 T p)(d:Int)(ho:zf p=false):zk E 111 [.ptr 3 0 0,.int .i64 d] (qst o T p)=some (outQ o T (.tup []) (deepF d p)):=by
 refine zc rfl rfl rfl (by simp) ?_;obtain⟨hb,hd⟩:=zPc ho;have hf:=fail_q (o:=o) I 2;by_cases h:100<d
 ·have e1:deepF d p={p with deep:=true}:=by unfold deepF;rw[if_pos h,hb];rfl
  rw[e1,zg (by simp[zf])];have e2:qst o T {p with deep:=true}=qst o T p:=rfl;have e3:wrongV T {p with deep:=true}=wrongE 2 T p:=rfl;rw[e2,e3];replace h:=eqp h;clear e1 e2 e3 hb hd ho;simp[*,F111]
 ·have e1:deepF d p=p:=by unfold deepF;rw[if_neg h]
  rw[e1,zn ho];replace h:=eqn h;clear e1 hb hd ho hf;simp[*,F111]
theorem is_q(I:Inv1 T p)(ho:zf p=false)(s:List UInt8):zk E 57 [.ptr 3 0 0,.str s] (qst o T p)=some (.ret (.bool (isF T s p)),qst o T p):=by
 refine zc rfl rfl rfl (by simp) ?_;have h0:=lft_0 I.lt;have e:isF T s p=(decide ((tk T p.at').kind=2)&&decide ((tk T p.at').text=s)):=by unfold isF;rw[ho];rfl
 rw[e];unfold qst;clear e;generalize lft T p=l at*;generalize tk T p.at'=t at*;obtain⟨k,x,ln⟩:=t;simp only[zK]at h0;by_cases hk:k=2
 ·subst hk;simp[*,F57]
 ·replace hk:=eqn hk;simp[*,F57]
theorem zVa(I:Inv1 T p)(ho:zf p=false)(s:List UInt8):zk E 31 [.ptr 3 0 0,.str s] (qst o T p)=some (.ret (.bool (isF T s p)),qst o T (if isF T s p then adv p else p)):=by
 refine zc rfl rfl rfl (by simp) ?_;have h1:=is_q (o:=o) I ho s;have hl:=lft_len I.lt;have hd:=lft_drop T p;cases c:isF T s p
 ·rw[c]at h1;clear c;simp[*,F31]
 ·rw[c]at h1;unfold qst at h1 ⊢;simp only[if_true];rw[<-hd];clear c hd;generalize lft T p=l at*;simp[*,F31]
def wantsF(T:List Tok)(l:List (List UInt8))(p:PS):PS:=l.foldl (fun p s=>zC T s p) p
theorem wants_over:∀(l:List (List UInt8)) {p:PS},zf p=true->wantsF T l p=p
 | [],p,h=>rfl
 |s::r,p,h=>by
  show wantsF T r (zC T s p)=p
  rw[zX h];exact wants_over r h
set_option maxHeartbeats 1000000 in
theorem want_q(I:Inv1 T p)(ho:zf p=false)(l:List (List UInt8))(hl:l.length<=1000):zk E 33 [.ptr 3 0 0,.slice .plain 1 (l.map PV.str)] (qst o T p)=some (outQ o T (.tup []) (wantsF T l p)):=by
 refine zc rfl rfl rfl (by simp) ?_;simp[F33];refine zmb K33_0 B33_0 (fun c:Nat×PS=>l.length-c.1) (fun c=>[(8,.int .i64 c.1)]) (fun _=>[]) (fun c=>qst o T c.2) (fun c=>c.1<=l.length/\Inv1 T c.2/\zf c.2=false/\wantsF T l p=wantsF T (l.drop c.1) c.2) (0,p) ⟨by simp,by simp,by simp,by simp,I,ho,by simp⟩ ?_
 rintro⟨k,q⟩ s1 ⟨hk,Iq,hq,he⟩ g1 g2 g3 g4 g5
 simp only at hk Iq hq he;simp at g1 g2 g3 g5;by_cases hkl:k<l.length
 ·obtain⟨x,hx⟩:∃x,l[k]? =some x:=⟨_,yj hkl⟩
  have hd:l.drop k=x::l.drop (k+1):=by
   rw[List.drop_eq_getElem_cons hkl];congr 1;exact(yc.1 hx).2
  rw[hd]at he;have he2:wantsF T l p=wantsF T (l.drop (k+1)) (zC T x q):=he;have t1:=zVa (o:=o) Iq hq x;have f1:=fail_q (o:=o) Iq 20;have kdec:((k:Int)<l.length)=True:=eqp (by omega);have hw:zra .i64 ((k:Int)+1)=(k:Int)+1:=zp (by omega) (by omega);cases c:isF T x q
  ·have hm:zC T x q={q with bad:=true}:=by unfold zC;rw[c,(zPc hq).2];rfl
   rw[he2,hm,wants_over _ (by simp[zf]),zg (by simp[zf])];have e2:qst o T {q with bad:=true}=qst o T q:=rfl;have e3:wrongV T {q with bad:=true}=wrongE 20 T q:=by unfold wrongV;rw[show PS.deep {q with bad:=true}=q.deep from rfl,(zPc hq).2];rfl
   rw[e2,e3];rw[c]at t1;have hx2:l[k]'hkl=x:=(yc.1 hx).2;clear hm e2 e3 he he2 hd c;simp[*]
  ·have hm:zC T x q=adv q:=by unfold zC;rw[c];rfl
   rw[c]at t1;rw[hm]at he2;have Ia:=Iq.adv _ c;have hx2:l[k]'hkl=x:=(yc.1 hx).2;replace he2:=Nonempty.intro (PLift.up he2);clear hm he hd c f1;simp[*];obtain⟨⟨he2⟩⟩:=he2;exact⟨k+1,by omega,rfl,adv q,rfl,by omega,Ia,by rw[zca];exact hq,he2⟩
 ·have hd:l.drop k=[]:=List.drop_eq_nil_of_le (by omega);rw[hd]at he;have he2:wantsF T l p=q:=he;rw[he2,zn hq];have kdec:((k:Int)<l.length)=False:=eqn (by omega);clear he he2 hd;simp[*]
theorem text_q(I:Inv1 T p)(ho:zf p=false)(k:Int):zk E 30 [.ptr 3 0 0,.int .i64 k] (qst o T p)=some (outQ o T (.str (zy T k p).1) (zy T k p).2):=by
 refine zc rfl rfl rfl (by simp) ?_;have h0:=lft_0 I.lt;have hl:=lft_len I.lt;have hd:=lft_drop T p;have f1:=fail_q (o:=o) I 20;by_cases hk:(tk T p.at').kind=k
 ·have e:zy T k p=((tk T p.at').text,adv p):=by unfold zy;rw[if_neg (by rw[ho];decide),if_pos hk];rfl
  rw[e,zn (by rw[zca];exact ho)];unfold qst;rw[<-hd];clear e f1 hd;generalize lft T p=l at*;generalize tk T p.at'=t at*;obtain⟨k',x,ln⟩:=t;simp only at hk;subst hk;simp only[zK]at h0;simp[*,F30]
 ·have e:zy T k p=([],{p with bad:=true}):=by unfold zy;rw[if_neg (by rw[ho];decide),if_neg hk]
  rw[e,zg (by simp[zf])];have e2:qst o T {p with bad:=true}=qst o T p:=rfl;have e3:wrongV T {p with bad:=true}=wrongE 20 T p:=by unfold wrongV;rw[show PS.deep {p with bad:=true}=p.deep from rfl,(zPc ho).2];rfl
  rw[e2,e3];clear e e2 e3 hd;unfold qst at f1 ⊢;generalize wrongE 20 T p=wv at*;generalize lft T p=l at*;generalize tk T p.at'=t at*;obtain⟨k',x,ln⟩:=t;simp only at hk;replace hk:=eqn hk;simp only[zK]at h0;simp[*,F30]
theorem typed_q(I:Inv1 T p)(ho:zf p=false):zk E 29 [.ptr 3 0 0] (qst o T p)=some (outQ o T (.int .i64 (zx T p).1) (zx T p).2):=by
 refine zc rfl rfl rfl (by simp) ?_;have t1:=zVa (o:=o) I ho [105,110,116];have w1:=want_q (o:=o) I ho [[98,111,111,108]] (by simp);unfold zx;cases c:isF T [105,110,116] p
 ·rw[c]at t1;simp only[yz,yW]at w1;have e:wantsF T [[98,111,111,108]] p=zC T [98,111,111,108] p:=rfl;rw[e]at w1;simp only[yi,if_false];cases hq:zf (zC T [98,111,111,108] p)
  ·rw[zn hq]at w1 ⊢;clear e hq c;simp[*,F29]
  ·rw[zg hq]at w1 ⊢;clear e hq c;simp[*,F29]
 ·rw[c]at t1;simp only[if_true];rw[zn (by exact ho)];have e:({p with at':=p.at'+1}:PS)=adv p:=rfl;rw[e];clear w1 e c;simp[*,F29]
end
theorem atoi_num(s:List UInt8)(h:zud s=true):Lib.atoiAll s= .ok (zwc s):=by
 cases s with
 |nil=>exact absurd h (by decide)
 |cons b r=>
  unfold zud at h;simp only[ya,decide_eq_true_eq]at h;obtain⟨hd,hv⟩:=h;obtain⟨hb,hr⟩:=zzc.1 hd;have hat:Lib.atoiAll (b::r)=match Lib.parseUint10 0 (b::r)with
    | .«syntax» => .«syntax»
    | .range=> .range
    | .ok u=>if 9223372036854775808<=u then .range else .ok (u:Int):=by
   have h1:¬b.toNat=43:=by omega
   have h2:¬b.toNat=45:=by omega
   unfold Lib.atoiAll;simp only[h1,h2,or_self,if_false,false_and,not_false_eq_true,true_and];unfold Lib.parseMag;rfl
  have hN:=valGo_N (b::r) 0 hd (by omega);unfold zwc at hv ⊢;rw[show(0:Int)=((0:Nat):Int)from rfl,hN]at hv ⊢;by_cases h63:valN 0 (b::r)<=9223372036854775807
  ·rw[if_pos h63]at hv ⊢;simp only at hv ⊢;rw[hat,parse_N _ 0 hd (by omega),if_pos (by omega)];simp only;rw[if_neg (by omega)];split at hv
   ·exact absurd hv (by decide)
   ·rename_i hc;rw[if_neg hc]
  ·rw[if_neg h63]at hv;simp at hv
def NumT(T:List Tok):Prop:=∀t∈T,t.kind=0->zud t.text=true
section
variable {o:Os} {T:List Tok} {p:PS}
theorem number_q(I:Inv1 T p)(hN:NumT T)(ho:zf p=false):zk E 32 [.ptr 3 0 0] (qst o T p)=some (outQ o T (.int .i64 (zwc (zy T 0 p).1)) (zy T 0 p).2):=by
 refine zc rfl rfl rfl (by simp) ?_;have t1:=text_q (o:=o) I ho 0;cases hq:zf (zy T 0 p).2
 ·rw[zn hq]at t1 ⊢;have hk:(tk T p.at').kind=0:=by
   by_cases hk:(tk T p.at').kind=0
   ·exact hk
   ·unfold zy at hq;rw[if_neg (by rw[ho];decide),if_neg hk]at hq;simp[zf]at hq
  have hx:(zy T 0 p).1=(tk T p.at').text:=by unfold zy;rw[if_neg (by rw[ho];decide),if_pos hk]
  have hm:tk T p.at'∈T:=by rw[<-tk_get' I.lt];exact List.getElem_mem I.lt
  have hn:=hN _ hm hk;have hlen:=(I.num _ hm hk).2;have a1:=atoi_x (zy T 0 p).1 [] (by rw[hx];omega);unfold encAtoi at a1;rw[atoi_num (zy T 0 p).1 (by rw[hx];exact hn)]at a1;simp only at a1;generalize zy T 0 p=q at*;obtain⟨s,p1⟩:=q;simp only at*;clear hx hk hm hn hlen hq;simp[*,F32]
 ·rw[zg hq]at t1 ⊢;clear hq;simp[*,F32]
theorem sgn_eq(op:Int):sgn op=zP op:=by
 unfold sgn zP;by_cases h0:op<1
 ·rw[if_pos (yOa h0)];by_cases h:op<0
  ·rw[if_pos h]
  ·rw[if_neg h];have:op=0:=by omega
   subst this;rfl
 ·by_cases h1:28<op
  ·rw[if_pos (yQa h1),if_neg (by omega),yfa (by simp[signList];omega)];rfl
  ·rw[if_neg (by omega),if_neg (by omega)];obtain⟨n,rfl⟩:∃n:Nat,op=((n+1:Nat):Int):=⟨op.toNat-1,by omega⟩
   have e:(((n+1:Nat):Int)-1).toNat=n:=by omega
   rw[e];rfl
theorem sign_q(op:Int)(σ:ze):zk E 163 [.int .i64 op] σ=some (.ret (.str (zP op)),σ):=by
 rw[<-sgn_eq];refine zc rfl rfl rfl (by simp) ?_
 (simp[*,F163,rowOf_spec])<;>(repeat' ((first|refine sP _ ?_ ?_|refine gP _ ?_ ?_|refine sN _ ?_ ?_|refine gN _ ?_ ?_|refine sM _ ?_ ?_|refine gM _ ?_ ?_|refine sB _ ?_ ?_|refine gB _ ?_ ?_)<;>intro hc<;>simp[*,F163,rowOf_spec]))
theorem level_q(op:Int)(σ:ze):zk E 148 [.int .i64 op] σ=some (.ret (.int .i64 (zI op)),σ):=by
 rw[<-lvl_eq];exact level_spec op σ
set_option maxHeartbeats 1000000 in
theorem operator_q(I:Inv1 T p)(ho:zf p=false)(L:Int):zk E 158 [.ptr 3 0 0,.int .i64 L] (qst o T p)=some (.ret (.int .i64 (opF T L p)),qst o T p):=by
 refine zc rfl rfl rfl (by simp) ?_;simp[F158];refine zsa (yQ 19) K158_0 B158_0 (fun d=>[(5,.int .i64 ((d.length+1:Nat):Int))]) (fun _=>qst o T p) (fun d=>∀i∈d,zNa T L p i=false) (by simp) (by simp) ?_ ?_
 ·intros d x r s1 hl' hlt hget hget' hw hp h1 h2 h3 h4;simp at h1 h3 hlt;have hx:x=d.length:=by rw[<-hget',yqa]
  subst hx;have e1:=level_q ((d.length+1:Nat):Int) [];have e2:=sign_q ((d.length+1:Nat):Int) [];have e3:=is_q (o:=o) I ho (zP ((d.length+1:Nat):Int));have hle:(d.length:Int)+1<=19:=by omega
  have hw2:zra .i64 ((d.length:Int)+1+1)=(d.length:Int)+1+1:=zp (by omega) (by omega);have hf:zNa T L p d.length=true->opF T L p=((d.length+1:Nat):Int):=by
   intro h;unfold opF;rw[hl'.eq,yDa];have:d.find? (zNa T L p)=none:=by rw[yO];intro y hy;simp[hp y hy]
   rw[this];simp[yra,h]
  have hop:zNa T L p d.length=(decide (zI ((d.length+1:Nat):Int)=L)&&isF T (zP ((d.length+1:Nat):Int)) p):=rfl;have hn:=fun(h:zNa T L p d.length=false)=>(fun i (hi:i∈d++[d.length])=>by
   rcases yw.1 hi with h'|h'
   ·exact hp i h'
   ·rw[yJ.1 h'];exact h:∀i∈d++[d.length],zNa T L p i=false)
  clear h2 hget hget' hl' hp;simp at e1 e2 e3 hop hf;by_cases hL:zI ((d.length:Int)+1)=L
  ·have hL':decide (zI ((d.length:Int)+1)=L)=true:=decide_eq_true hL;rw[hL',yca]at hop;replace hL:=eqp hL;cases hi:isF T (zP ((d.length:Int)+1)) p
   ·replace hn:=hn (hop.trans hi);rw[hi]at hop e3;clear hf hop;simp[*];grind
   ·replace hf:=hf (hop.trans hi);rw[hi]at hop e3;clear hn hop;simp[*]
  ·have hL':decide (zI ((d.length:Int)+1)=L)=false:=decide_eq_false hL;rw[hL',Bool.false_and]at hop;replace hL:=eqn hL;replace hn:=hn hop;clear hf hop;simp[*];grind
 ·intros s1 hp h1 h2 h3 h4;simp at h1 h3;have hf:opF T L p=0:=by
   unfold opF;have:(yQ 19).find? (zNa T L p)=none:=by rw[yO];intro y hy;simp[hp y hy]
   rw[this]
  clear h2 hp;simp[*]
end
theorem opF_over{T:List Tok}{L:Int}{p:PS}(h:zf p=true):opF T L p=0:=by
 unfold opF;have:(yQ 19).find? (zNa T L p)=none:=by
  rw[yO];intro y hy;simp[zNa,zdb h]
 rw[this]
theorem unF_over{T:List Tok}{p:PS}(h:zf p=true):unF T p=none:=by
 unfold unF;rw[yO];intro y hy;simp[zJa,zdb h]
theorem deepF_over{d:Int}{p:PS}(h:zf p=true):deepF d p=p:=by
 obtain⟨a,b,e⟩:=p;unfold deepF;split
 ·cases b
  ·simp[zf]at h;simp[h]
  ·rfl
 ·rfl
structure OverE(T:List Tok)(n:Nat):Prop where
 primary:∀d p v p',zV T n d p=some (v,p')->zf p=true->p'=p
 unary:∀d p v p',zFa T n d p=some (v,p')->zf p=true->p'=p
 expr:∀L d p v p',zda T n L d p=some (v,p')->zf p=true->p'=p
 args:∀d p v p',zMb T n d p=some (v,p')->zf p=true->p'=p
theorem overE(T:List Tok):∀n,OverE T n
 |0=>⟨fun _ _ _ _ h=>by simp[zV]at h,fun _ _ _ _ h=>by simp[zFa]at h,fun _ _ _ _ _ h=>by simp[zda]at h,fun _ _ _ _ h=>by simp[zMb]at h⟩
 |n+1=>by
  have ih:=overE T n;refine⟨fun d p v p' h ho=>?_,fun d p v p' h ho=>?_,fun L d p v p' h ho=>?_,fun d p v p' h ho=>?_⟩
  ·simp only[zV]at h;rw[if_pos ho]at h;cases h;rfl
  ·simp only[zFa]at h;rw[deepF_over ho,unF_over ho]at h;exact ih.primary _ _ _ _ h ho
  ·simp only[zda]at h;split at h
   ·exact ih.unary _ _ _ _ h ho
   ·split at h
    ·cases h
    ·rename_i q hq;obtain⟨a,p1⟩:=q;have e:=ih.expr _ _ _ _ _ hq ho;subst e;cases n with
     |zero=>simp[zB]at h
     |succ n=>
      simp only[zB]at h;rw[if_pos (opF_over ho)]at h;cases h;rfl
  ·simp only[zMb]at h;rw[if_neg (by rw[zdb ho];decide)]at h;split at h
   ·cases h
   ·rename_i q hq;cases h;cases n with
    |zero=>simp[zw]at hq
    |succ n=>
     simp only[zw,Bool.true_or,if_true]at hq;rw[if_pos ho]at hq;cases hq;exact zX ho
theorem isF_ne{T:List Tok}{s s':List UInt8}{p:PS}(h:isF T s p=true)(hne:s≠s'):isF T s' p=false:=by
 obtain⟨h1,h2,h3,h4⟩:=isF_kind h;unfold isF;rw[h2];simp[hne]
structure QSpec(o:Os)(T:List Tok)(n:Nat):Prop where
 primary:∀d p v p',zV T n d p=some (v,p')->Inv1 T p->zf p=false->0<=d->d+n<=1000000000->zk E 164 [.ptr 3 0 0,.int .i64 d] (qst o T p)=some (outQ o T (zA v) p')
 unary:∀d p v p',zFa T n d p=some (v,p')->Inv1 T p->zf p=false->0<=d->d+n<=1000000000->zk E 157 [.ptr 3 0 0,.int .i64 d] (qst o T p)=some (outQ o T (zA v) p')
 expr:∀L d p v p',zda T n L d p=some (v,p')->Inv1 T p->zf p=false->1<=L->L<=11->0<=d->d+n<=1000000000->zk E 144 [.ptr 3 0 0,.int .i64 L,.int .i64 d] (qst o T p)=some (outQ o T (zA v) p')
section
variable {o:Os} {T:List Tok}
theorem zRb{p:PS}(I:Inv1 T p)(ho:zf p=false)(s:List UInt8):zk E 33 [.ptr 3 0 0,.slice .plain 1 [.str s]] (qst o T p)=some (outQ o T (.tup []) (zC T s p)):=want_q I ho [s] (by simp)
theorem want2_q{p:PS}(I:Inv1 T p)(ho:zf p=false)(s t:List UInt8):zk E 33 [.ptr 3 0 0,.slice .plain 1 [.str s,.str t]] (qst o T p)=some (outQ o T (.tup []) (zC T t (zC T s p))):=want_q I ho [s,t] (by simp)
theorem index_q{n:Nat}(S:QSpec o T n){d:Int}{p p1:PS}{e:Expr}(h:zda T n 1 d p=some (e,p1))(I:Inv1 T p)(ho:zf p=false)(hd:0<=d)(hn:d+n<=1000000000):
  zk E 130 [.ptr 3 0 0,.int .i64 d] (qst o T p)=some (outQ o T (zA e) (zC T [93] p1)):=by
 refine zc rfl rfl rfl (by simp) ?_;have x1:=S.expr 1 d p e p1 h I ho (by omega) (by omega) hd hn;have I1:=((espec T n).expr 1 d p e p1 h I (by omega) (by omega) hd hn).2;rw[za]at x1 ⊢;simp only[zd]at x1 ⊢;clear h;cases hq:zf p1
 ·rw[zn hq]at x1;have w1:=zRb (o:=o) I1 hq [93];cases hm:zf (zC T [93] p1)
  ·rw[zn hm]at w1 ⊢;clear hm hq ho;simp[*,F130,zd]
  ·rw[zg hm]at w1 ⊢;clear hm hq ho;simp[*,F130,zd]
 ·rw[zg hq]at x1;rw[zX hq,zg hq];clear hq ho;simp[*,F130,zd]
theorem call1_q{n:Nat}(S:QSpec o T n){d:Int}{p p1:PS}{e:Expr}(h:zda T n 1 d p=some (e,p1))(I:Inv1 T p)(ho:zf p=false)(hd:0<=d)(hn:d+n<=1000000000):
  zk E 146 [.iptr [.ptr 3 0 0] 0,.iptr [.int .i64 d] 0] (qst o T p)=some (outQ o T (zA e) p1):=by
 refine zc rfl rfl rfl (by simp) ?_;have x1:=S.expr 1 d p e p1 h I ho (by omega) (by omega) hd hn;rw[za]at x1 ⊢;simp only[zd]at x1 ⊢;clear h;cases hq:zf p1
 ·rw[zn hq]at x1 ⊢;clear hq ho;simp[*,F146,zd]
 ·rw[zg hq]at x1 ⊢;clear hq ho;simp[*,F146,zd]
structure QS where
 m:Nat
 l:List Expr
 p:PS
set_option maxHeartbeats 2000000 in
theorem list_q{n:Nat}(S:∀k,k<=n->QSpec o T k){d:Int}{p p':PS}{v:List Expr}(h:zMb T (n+1) d p=some (v,p'))(I:Inv1 T p)(ho:zf p=false)(hd:0<=d)(hn:d+(n+1:Nat)<=1000000000):
  zk E 145 [.ptr 3 0 0,.fn 146 [] [.iptr [.ptr 3 0 0] 0,.iptr [.int .i64 d] 0]] (qst o T p)=some (outQ o T (zd v) p'):=by
 refine zc rfl rfl rfl (by simp) ?_;simp only[zMb]at h;have t1:=zVa (o:=o) I ho [41];cases c1:isF T [41] p
 case true=>
  rw[if_pos c1]at h;rw[c1]at t1;cases h;rw[zn (by rw[zca];exact ho)];clear c1;simp[*,F145,zd]
 rw[if_neg (by rw[c1];decide)]at h;rw[c1]at t1;split at h
 ·cases h
 rename_i q hq;obtain⟨l',p1⟩:=q;cases h;simp[*,F145,zd];have hstart:∃m,n=m+1/\(match zda T m 1 d p with|none=>none|some x=>zw T m d ([]++[x.1]) false x.2)=some (l',p1):=by
  cases n with
  |zero=>simp[zw]at hq
  |succ m=>
   simp only[zw,Bool.true_or,if_true]at hq;rw[if_neg (by rw[ho];decide)]at hq;exact⟨m,rfl,hq⟩
 obtain⟨m0,hm0,hs0⟩:=hstart;refine zmb K145_0 B145_0 (fun c:QS=>c.m) (fun c=>[(4,acc 5 (c.l.map zA))]) (fun c=>[]) (fun c=>qst o T c.p) (fun c=>c.m<n/\c.l.length+c.m<n/\zf c.p=false/\Inv1 T c.p/\(match zda T c.m 1 d c.p with|none=>none|some x=>zw T c.m d (c.l++[x.1]) false x.2)=some (l',p1)) ⟨m0,[],p⟩ ⟨by simp,by simp,by simp,by simp only;omega,by simp only[yg];omega,ho,I,hs0⟩ ?_
 rintro⟨m,l,p⟩ s1 ⟨hm,hlm,ho,I,hr⟩ g1 g2 g3 g4 g5
 simp only at hm hlm ho I hr;simp at g1 g3 g5;clear g2 g4 t1 hs0 hm0 c1 hq;have hroom:(l.length+1)*64<=zU:=by simp only[zU];omega
 split at hr
 ·cases hr
 rename_i x hx;obtain⟨e,p2⟩:=x;simp only at hr;have x1:=call1_q (S m (by omega)) hx I ho hd (by omega);have I2:=((espec T m).expr 1 d p e p2 hx I (by omega) (by omega) hd (by omega)).2;rw[za]at x1;simp only[zd]at x1;cases m with
 |zero=>simp[zw]at hr
 |succ m=>
  simp only[zw,yI]at hr;clear hx;cases hq2:zf p2
  ·rw[zn hq2]at x1;have t2:=zVa (o:=o) I2 hq2 [44];cases c2:isF T [44] p2
   ·rw[c2]at hr t2;simp only[yi,if_false]at hr t2;have hl1:=(Prod.mk.inj (Option.some.inj hr)).1;have hp1:=(Prod.mk.inj (Option.some.inj hr)).2;subst hl1;subst hp1;have w1:=zRb (o:=o) I2 hq2 [41];cases hm2:zf (zC T [41] p2)
    ·rw[zn hm2]at w1 ⊢;clear hm2 hq2 c2 ho;simp[*,zd,za]
    ·rw[zg hm2]at w1 ⊢;clear hm2 hq2 c2 ho;simp[*,zd,za]
   ·rw[c2]at hr t2;have Ia:=I2.adv _ c2;simp only[if_true,yi,if_false]at hr t2;rw[if_neg (by rw[zca,hq2];decide)]at hr;have hoa:zf (adv p2)=false:=by rw[zca];exact hq2
    replace hr:=Nonempty.intro (PLift.up hr);clear hq2 c2 ho;simp[*,zd,za];obtain⟨⟨hr⟩⟩:=hr;exact⟨⟨m,l++[e],adv p2⟩,by simp,by simp[za,zd,acc_ne],rfl,by simp only;omega,by simp;omega,hoa,Ia,hr⟩
  ·rw[zg hq2]at x1;rw[zdb hq2]at hr;simp only[yi,if_false]at hr;have hl1:=(Prod.mk.inj (Option.some.inj hr)).1;have hp1:=(Prod.mk.inj (Option.some.inj hr)).2;subst hl1;subst hp1;rw[zX hq2,zg hq2];clear hq2 ho;simp[*,zd,za]
theorem call_q{n:Nat}(S:∀k,k<=n->QSpec o T k){d:Int}{p p':PS}{v:List Expr}(nm:List UInt8)(h:zMb T (n+1) d p=some (v,p'))(I:Inv1 T p)(ho:zf p=false)(hd:0<=d)(hn:d+(n+1:Nat)<=1000000000):
  zk E 129 [.ptr 3 0 0,.str nm,.int .i64 d] (qst o T p)=some (outQ o T (zA ⟨7,0,0,nm,v⟩) p'):=by
 refine zc rfl rfl rfl (by simp) ?_;have x1:=list_q S h I ho hd hn;rw[za];simp only[zd]at x1 ⊢;clear h;cases hq:zf p'
 ·rw[zn hq]at x1 ⊢;clear hq ho;simp[*,F129,zd]
 ·rw[zg hq]at x1 ⊢;clear hq ho;simp[*,F129,zd]
end
def nameF(T:List Tok)(n:Nat)(d:Int)(p:PS):Option (Expr×PS):=
 if isF T [40] (zy T 1 p).2 then
  match zMb T n (d+1) (adv (zy T 1 p).2)with
  |none=>none
  |some q=>some (⟨7,0,0,(zy T 1 p).1,q.1⟩,q.2)
 else if isF T [91] (zy T 1 p).2 then
  match zda T n 1 (d+1) (adv (zy T 1 p).2)with
  |none=>none
  |some q=>some (⟨6,0,0,(zy T 1 p).1,[q.1]⟩,zC T [93] q.2)
 else some (⟨3,0,0,(zy T 1 p).1,[]⟩,(zy T 1 p).2)
section
variable {o:Os} {T:List Tok}
set_option maxHeartbeats 2000000 in
theorem named_q{n:Nat}(S:∀k,k<=n->QSpec o T k){d:Int}{p p':PS}{v:Expr}(h:nameF T n d p=some (v,p'))(I:Inv1 T p)(ho:zf p=false)(hd:0<=d)(hn:d+(n+1:Nat)<=1000000000):
  zk E 165 [.ptr 3 0 0,.int .i64 d] (qst o T p)=some (outQ o T (zA v) p'):=by
 refine zc rfl rfl rfl (by simp) ?_;have hw:zra .i64 (d+1)=d+1:=zp (by omega) (by omega);have x1:=text_q (o:=o) I ho 1;have I1:=I.text 1 (by decide);unfold nameF at h;generalize zy T 1 p=q at*;obtain⟨s,p1⟩:=q;simp only at h x1 I1;cases hq1:zf p1
 case true=>
  rw[zg hq1]at x1;rw[zdb hq1,zdb hq1]at h;simp only[yi,if_false]at h;have hv:=(Prod.mk.inj (Option.some.inj h)).1;have hp1:=(Prod.mk.inj (Option.some.inj h)).2;subst hv;subst hp1;rw[zg hq1];clear hq1 ho h;simp[*,F165]
 rw[zn hq1]at x1;have t1:=zVa (o:=o) I1 hq1 [40];cases c1:isF T [40] p1
 case true=>
  rw[c1]at t1 h;simp only[if_true]at h t1;have Ia:=I1.adv _ c1;split at h
  ·cases h
  rename_i r hr;obtain⟨l,p2⟩:=r;cases h;cases n with
  |zero=>simp[zMb]at hr
  |succ n=>
  have x2:=call_q (fun k hk=>S k (by omega)) s hr Ia (by rw[zca];exact hq1) (by omega) (by omega);rw[za]at x2 ⊢;simp only[zd]at x2 ⊢;clear hr c1 S;cases hq2:zf p2
  ·rw[zn hq2]at x2 ⊢;clear hq2 hq1 ho;simp[*,F165,zd]
  ·rw[zg hq2]at x2 ⊢;clear hq2 hq1 ho;simp[*,F165,zd]
 rw[c1]at t1 h;simp only[yi,if_false]at h t1;have t2:=zVa (o:=o) I1 hq1 [91];cases c2:isF T [91] p1
 case true=>
  rw[c2]at t2 h;simp only[if_true]at h t2;have Ia:=I1.adv _ c2;split at h
  ·cases h
  rename_i r hr;obtain⟨e,p2⟩:=r;cases h;have x2:=index_q (S n (yh n)) hr Ia (by rw[zca];exact hq1) (by omega) (by omega);rw[za]at x2 ⊢;simp only[zd]at x2 ⊢;clear hr c1 c2 S;cases hq2:zf (zC T [93] p2)
  ·rw[zn hq2]at x2 ⊢;clear hq2 hq1 ho;simp[*,F165,zd,za]
  ·rw[zg hq2]at x2 ⊢;clear hq2 hq1 ho;simp[*,F165,zd,za]
 rw[c2]at t2 h;simp only[yi,if_false]at h t2;cases h;rw[zn hq1,za];clear c1 c2 hq1 ho S;simp[*,F165,zd]
set_option maxHeartbeats 4000000 in
theorem primary_q{n:Nat}(hN:NumT T)(S:∀k,k<=n->QSpec o T k):∀d p v p',zV T (n+1) d p=some (v,p')->Inv1 T p->zf p=false->0<=d->d+(n+1:Nat)<=1000000000->zk E 164 [.ptr 3 0 0,.int .i64 d] (qst o T p)=some (outQ o T (zA v) p'):=by
 intro d p v p' h I ho hd hn;refine zc rfl rfl rfl (by simp) ?_;have hw:zra .i64 (d+1)=d+1:=zp (by omega) (by omega);simp only[zV]at h;rw[if_neg (by rw[ho];decide)]at h;have t1:=zVa (o:=o) I ho [40];cases c1:isF T [40] p
 case true=>
  rw[c1]at h t1;simp only[if_true]at h t1;have Ia:=I.adv _ c1;split at h
  ·cases h
  rename_i r hr;obtain⟨e,p2⟩:=r;cases h;have x2:=(S n (yh n)).expr 1 (d+1) _ e p2 hr Ia (by rw[zca];exact ho) (by omega) (by omega) (by omega) (by omega);have I2:=((espec T n).expr 1 (d+1) _ e p2 hr Ia (by omega) (by omega) (by omega) (by omega)).2;rw[za]at x2 ⊢;simp only[zd]at x2 ⊢;clear hr c1 S;cases hq2:zf p2
  ·rw[zn hq2]at x2;have w1:=zRb (o:=o) I2 hq2 [41];cases hm2:zf (zC T [41] p2)
   ·rw[zn hm2]at w1 ⊢;clear hm2 hq2 ho;simp[*,F164,zd]
   ·rw[zg hm2]at w1 ⊢;clear hm2 hq2 ho;simp[*,F164,zd]
  ·rw[zg hq2]at x2;rw[zX hq2,zg hq2];clear hq2 ho;simp[*,F164,zd]
 rw[c1]at h t1;simp only[yi,if_false]at h t1;have t2:=zVa (o:=o) I ho [114,101,97,100];have t3:=zVa (o:=o) I ho [116,114,117,101];have t4:=zVa (o:=o) I ho [102,97,108,115,101];cases c3:isF T [116,114,117,101] p
 case true=>
  rw[c3]at h t3;rw[isF_ne c3 (by decide)]at t2;simp only[if_true,yi,if_false]at h t2 t3;cases h;rw[zn (by rw[zca];exact ho),za];clear c1 c3 S t4 ho;simp[*,F164,zd]
 rw[c3]at h t3;simp only[yi,if_false]at h t3;cases c4:isF T [102,97,108,115,101] p
 case true=>
  rw[c4]at h t4;rw[isF_ne c4 (by decide)]at t2;simp only[if_true,yi,if_false]at h t2 t4;cases h;rw[zn (by rw[zca];exact ho),za];clear c1 c3 c4 S ho;simp[*,F164,zd]
 rw[c4]at h t4;simp only[yi,if_false]at h t4;cases c2:isF T [114,101,97,100] p
 case true=>
  rw[c2]at h t2;simp only[if_true]at h t2;cases h;have Ia:=I.adv _ c2;have w1:=want2_q (o:=o) Ia (by rw[zca];exact ho) [40] [41];rw[za];cases hm2:zf (zC T [41] (zC T [40] (adv p)))
  ·rw[zn hm2]at w1 ⊢;clear hm2 ho c1 c2 c3 c4 S t3 t4;simp[*,F164,zd]
  ·rw[zg hm2]at w1 ⊢;clear hm2 ho c1 c2 c3 c4 S t3 t4;simp[*,F164,zd]
 rw[c2]at h t2;simp only[yi,if_false]at h t2;have h0:=lft_0 I.lt;by_cases hk:(tk T p.at').kind=0
 ·rw[if_pos hk]at h;have n1:=number_q (o:=o) I hN ho;have hx:zy T 0 p=((tk T p.at').text,adv p):=by unfold zy;rw[if_neg (by rw[ho];decide),if_pos hk];rfl
  rw[hx,zn (by rw[zca];exact ho)]at n1;cases h;rw[zn (by rw[zca];exact ho),za];unfold qst at*;simp only at n1;generalize lft T p=l at*;generalize lft T (adv p)=l' at*;generalize tk T p.at'=t at*;obtain⟨k',x,ln⟩:=t;simp only at hk;subst hk;simp only[zK]at h0;clear ho c1 c2 c3 c4 S hx;simp[*,F164,zd]
 ·rw[if_neg hk]at h;have x1:=named_q (n:=n) S (v:=v) (p':=p') h I ho hd hn;rw[za]at x1 ⊢;simp only[zd]at x1 ⊢;have hk2:=eqn hk;clear c1 c2 c3 c4 S h hk;cases hq:zf p'
  ·rw[zn hq]at x1 ⊢;unfold qst at*;generalize lft T p=l at*;generalize lft T p'=l' at*;generalize tk T p.at'=t at*;obtain⟨k',x,ln⟩:=t;simp only at hk2;simp only[zK]at h0;clear hq ho;simp[*,F164,zd]
  ·rw[zg hq]at x1 ⊢;generalize wrongV T p'=wv at*;unfold qst at*;generalize lft T p=l at*;generalize lft T p'=l' at*;generalize tk T p.at'=t at*;obtain⟨k',x,ln⟩:=t;simp only at hk2;simp only[zK]at h0;clear hq ho;simp[*,F164,zd]
end
section
variable {o:Os} {T:List Tok}
set_option maxHeartbeats 4000000 in
theorem unary_q{n:Nat}(S:QSpec o T n):∀d p v p',zFa T (n+1) d p=some (v,p')->Inv1 T p->zf p=false->0<=d->d+(n+1:Nat)<=1000000000->zk E 157 [.ptr 3 0 0,.int .i64 d] (qst o T p)=some (outQ o T (zA v) p'):=by
 intro d p v p' h I ho hd hn;refine zc rfl rfl rfl (by simp) ?_;have hw:zra .i64 (d+1)=d+1:=zp (by omega) (by omega);simp only[zFa]at h;have d1:=deep_q (o:=o) I d ho;by_cases h100:100<d
 ·have e1:deepF d p={p with deep:=true}:=by unfold deepF;rw[if_pos h100,(zPc ho).1];rfl
  have hov:zf (deepF d p)=true:=by rw[e1];simp[zf]
  have hp:p'=deepF d p:=by
   rw[unF_over hov]at h;exact(overE T n).primary _ _ _ _ h hov
  subst hp;rw[zg hov]at d1 ⊢;clear e1 hov h;generalize deepF d p=p2 at*;simp[*,F157]
 have e1:deepF d p=p:=by unfold deepF;rw[if_neg h100]
 rw[e1,zn ho]at d1;rw[e1]at h;clear e1;simp[d1,F157];refine wp_eachB (yQ 9) K157_0 B157_0 (fun c=>[(5,.int .i64 ((c.length+20:Nat):Int))]) (fun _=>[(4,.cells [.int .i64 0,.int .i64 0,.int .i64 0,.str [],.slice .fit 5 []])]) (fun _=>qst o T p) (fun c=>∀i∈c,zJa T p i=false) (by simp) (by simp) ?_ ?_
 ·intros c x r s1 hl' hlt hget hget' hw1 hp g1 g2 g3 g3' g4;simp at g1 g3 g3' hlt;have hx:x=c.length:=by rw[<-hget',yqa]
  subst hx;have e2:=sign_q ((c.length+20:Nat):Int) [];have e3:=zVa (o:=o) I ho (zP ((c.length+20:Nat):Int));have hle:(c.length:Int)+20<=28:=by omega
  have hw2:zra .i64 ((c.length:Int)+20+1)=(c.length:Int)+1+20:=by rw[zp (by omega) (by omega)];omega
  have hf:zJa T p c.length=true->unF T p=some c.length:=by
   intro h;unfold unF;rw[hl'.eq,yDa];have:c.find? (zJa T p)=none:=by rw[yO];intro y hy;simp[hp y hy]
   rw[this];simp[yra,h]
  have hu:zJa T p c.length=isF T (zP ((c.length+20:Nat):Int)) p:=rfl;have hnx:=fun(h:zJa T p c.length=false)=>(fun i (hi:i∈c++[c.length])=>by
   rcases yw.1 hi with h'|h'
   ·exact hp i h'
   ·rw[yJ.1 h'];exact h:∀i∈c++[c.length],zJa T p i=false)
  clear g2 hget hget' hl' hp d1;cases hi:isF T (zP ((c.length+20:Nat):Int)) p
  ·replace hnx:=hnx (hu.trans hi);rw[hi]at e3;clear hf hu h ho;simp at e2 e3;simp[*];exact fun i hi=>hnx i (by simpa using hi)
  ·replace hf:=hf (hu.trans hi);have IA:=I.adv _ hi;have hoa:zf (adv p)=false:=by rw[zca];exact ho
   rw[hi]at e3;rw[hf]at h;simp only at h;clear hnx hu hf hi;by_cases h3:3<=c.length
   ·rw[if_pos h3]at h;have h23:((c.length:Int)+20<23)=False:=eqn (by omega);have w1:=zRb (o:=o) IA hoa [40];have IM:=IA.must [40];split at h
    ·cases h
    rename_i x hq;obtain⟨e,p2⟩:=x;have hv:=(Prod.mk.inj (Option.some.inj h)).1;have hp':=(Prod.mk.inj (Option.some.inj h)).2;subst hv;subst hp';rw[za];cases hm1:zf (zC T [40] (adv p))
    case true=>
     have e:=(overE T n).expr _ _ _ _ _ hq hm1;subst e;rw[zX hm1,zg hm1];rw[zg hm1]at w1;generalize zC T [40] (adv p)=p3 at*;clear hq hm1 ho hoa h;simp at e2 e3;simp[*,zd,za]
    rw[zn hm1]at w1;have x1:=S.expr 1 (d+1) _ e p2 hq IM hm1 (by omega) (by omega) (by omega) (by omega);have I2:=((espec T n).expr 1 (d+1) _ e p2 hq IM (by omega) (by omega) (by omega) (by omega)).2;generalize zC T [40] (adv p)=p3 at*;rw[za]at x1;simp only[zd]at x1 ⊢;clear hq hm1 ho hoa h;cases hq2:zf p2
    ·rw[zn hq2]at x1;have w2:=zRb (o:=o) I2 hq2 [41];cases hm2:zf (zC T [41] p2)
     ·rw[zn hm2]at w2 ⊢;clear hm2 hq2;simp at e2 e3;simp[*,zd,za]
     ·rw[zg hm2]at w2 ⊢;clear hm2 hq2;simp at e2 e3;simp[*,zd,za]
    ·rw[zg hq2]at x1;rw[zX hq2,zg hq2];clear hq2;simp at e2 e3;simp[*,zd,za]
   ·rw[if_neg h3]at h;have h23:((c.length:Int)+20<23)=True:=eqp (by omega);split at h
    ·cases h
    rename_i x hq;obtain⟨e,p2⟩:=x;have hv:=(Prod.mk.inj (Option.some.inj h)).1;have hp':=(Prod.mk.inj (Option.some.inj h)).2;subst hv;subst hp';have x1:=S.unary (d+1) _ e p2 hq IA hoa (by omega) (by omega);rw[za]at x1 ⊢;simp only[zd]at x1 ⊢;clear hq ho hoa h;cases hq2:zf p2
    ·rw[zn hq2]at x1 ⊢;clear hq2;simp at e2 e3;simp[*,zd,za]
    ·rw[zg hq2]at x1 ⊢;clear hq2;simp at e2 e3;simp[*,zd,za]
 ·intros s1 hp g1 g2 g3 g3' g4;simp at g1 g3 g3';have hf:unF T p=none:=by
   unfold unF;rw[yO];intro y hy;simp[hp y hy]
  rw[hf]at h;simp only at h;have x1:=S.primary _ _ _ _ h I ho hd (by omega);rw[za]at x1 ⊢;simp only[zd]at x1 ⊢;clear g2 hp hf h d1;cases hq2:zf p'
  ·rw[zn hq2]at x1 ⊢;clear hq2 ho;simp[*,zd]
  ·rw[zg hq2]at x1 ⊢;clear hq2 ho;simp[*,zd]
end
section
variable {o:Os} {T:List Tok}
set_option maxHeartbeats 4000000 in
theorem expr_q{n:Nat}(S:∀k,k<=n->QSpec o T k):∀L d p v p',zda T (n+1) L d p=some (v,p')->Inv1 T p->zf p=false->1<=L->L<=11->0<=d->d+(n+1:Nat)<=1000000000->zk E 144 [.ptr 3 0 0,.int .i64 L,.int .i64 d] (qst o T p)=some (outQ o T (zA v) p'):=by
 intro L d p v p' h I ho h1 h11 hd hn;refine zc rfl rfl rfl (by simp) ?_;have hw:zra .i64 (L+1)=L+1:=zp (by omega) (by omega);simp only[zda]at h;rw[za];by_cases hL:10<L
 ·rw[if_pos hL]at h;have x1:=(S n (by omega)).unary d p v p' h I ho hd (by omega);rw[za]at x1;simp only[zd]at x1 ⊢;replace hL:=eqp hL;clear h S;cases hq:zf p'
  ·rw[zn hq]at x1 ⊢;clear hq ho;simp[*,F144]
  ·rw[zg hq]at x1 ⊢;clear hq ho;simp[*,F144]
 rw[if_neg hL]at h;split at h
 ·cases h
 rename_i q hx;obtain⟨a,p1⟩:=q;simp only at h;have e1:=(S n (by omega)).expr (L+1) d p a p1 hx I ho (by omega) (by omega) hd (by omega);have I1:=((espec T n).expr (L+1) d p a p1 hx I (by omega) (by omega) hd (by omega)).2;rw[za]at e1;have hL2:L+1<=11:=by omega
 replace hL:=eqn hL;cases hq1:zf p1
 case true=>
  have hp:p1=p'/\a=v:=by
   cases n with
   |zero=>simp[zB]at h
   |succ n=>
    simp only[zB]at h;rw[if_pos (opF_over hq1)]at h;exact⟨(Prod.mk.inj (Option.some.inj h)).2,(Prod.mk.inj (Option.some.inj h)).1⟩
  obtain⟨rfl,rfl⟩:=hp;rw[zg hq1]at e1 ⊢;clear hx h S hq1 ho hL2;simp[*,F144]
 rw[zn hq1]at e1;have o1:=operator_q (o:=o) I1 hq1 L;simp only[zd]at e1 ⊢;simp[F144,hL,hw,e1,o1];refine zmb K144_0 B144_0 (fun c:LS=>c.m) (fun c=>[(8,.int .i64 (opF T L c.p))]) (fun c=>[(6,.cells [.int .i64 0,.int .i64 0,.int .i64 0,.str [],.slice .fit 5 []]),(7,.cells [.int .i64 c.a.kind,.int .i64 c.a.op,.int .i64 c.a.n,.str c.a.name,.slice .plain 5 (c.a.args.map zA)])]) (fun c=>qst o T c.p) (fun c=>c.m<=n/\zB T c.m L d c.a c.p=some (v,p')/\Inv1 T c.p/\zf c.p=false) ⟨n,a,p1⟩ ⟨by simp,by simp,by simp,yh _,h,I1,hq1⟩ ?_
 rintro⟨m,a,p⟩ s1 ⟨hm,hr,I,hop⟩ g1 g2 g3 g4 g5
 simp only at hm hr I hop;simp at g1 g3 g4 g5;clear g2 e1 hx h I1 o1 hq1 ho;cases m with
 |zero=>simp[zB]at hr
 |succ m=>
  simp only[zB]at hr;by_cases hne:opF T L p=0
  ·rw[if_pos hne]at hr;have hv:=(Prod.mk.inj (Option.some.inj hr)).1;have hp':=(Prod.mk.inj (Option.some.inj hr)).2;subst hv;subst hp';rw[zn hop];rw[hne]at g3;clear hop hne hr hL2;simp[*]
  ·rw[if_neg hne]at hr;obtain⟨s,hs⟩:=opF_pos hne;have Ia:=I.adv s hs;have hoa:zf (adv p)=false:=by rw[zca];exact hop
   have hl:=lft_len I.lt;have hdr:=lft_drop T p;split at hr
   ·cases hr
   rename_i q hq;obtain⟨b,p2⟩:=q;simp only at hr;have e2:=(S m (by omega)).expr (L+1) d _ b p2 hq Ia hoa (by omega) (by omega) hd (by omega);have I2:=((espec T m).expr (L+1) d _ b p2 hq Ia (by omega) (by omega) hd (by omega)).2;replace hne:=eqn hne;rw[za]at e2;simp only[zd]at e2;cases hq2:zf p2
   case true=>
    have hp:p2=p':=by
     cases m with
     |zero=>simp[zB]at hr
     |succ m=>
      simp only[zB]at hr;rw[if_pos (opF_over hq2)]at hr;exact(Prod.mk.inj (Option.some.inj hr)).2
    subst hp;rw[zg hq2]at e2 ⊢;generalize wrongV T p2=wv at*;unfold qst at*;rw[<-hdr,List.drop_one]at e2;clear hq hr hq2 hop hoa hs S hdr Ia hL2;generalize lft T p=l at*;generalize lft T p2=l2 at*;simp[*]
   rw[zn hq2]at e2;have o2:=operator_q (o:=o) I2 hq2 L;replace hr:=Nonempty.intro (PLift.up hr);unfold qst at*;rw[<-hdr,List.drop_one]at e2;clear hq hop hoa hs S hdr Ia hL2;generalize hl1:lft T p=l at*;generalize hl2:lft T p2=l2 at*;clear hl1;replace hl2:=Nonempty.intro (PLift.up hl2);replace hq2:=Nonempty.intro (PLift.up hq2);simp[*];obtain⟨⟨hr⟩⟩:=hr;obtain⟨⟨hl2⟩⟩:=hl2;obtain⟨⟨hq2⟩⟩:=hq2;exact⟨⟨m,⟨5,opF T L p,0,[],[a,b]⟩,p2⟩,yK m,rfl,⟨rfl,rfl,rfl,rfl,by simp[za,zd]⟩,hl2.symm,by simp only;omega,hr,I2,hq2⟩
end
theorem qspec_all(o:Os){T:List Tok}(hN:NumT T):∀n k,k<=n->QSpec o T k
 |0,k,h=>by
  have:k=0:=by omega
  subst this;exact⟨fun _ _ _ _ h=>by simp[zV]at h,fun _ _ _ _ h=>by simp[zFa]at h,fun _ _ _ _ _ h=>by simp[zda]at h⟩
 |n+1,k,h=>by
  have ih:=qspec_all o hN n;rcases yA k (n+1)with h1|h1
  ·exact ih k (by omega)
  ·have:k=n+1:=by omega
   subst this;exact⟨primary_q hN ih,unary_q (ih n (yh n)),expr_q ih⟩
theorem qspec(o:Os){T:List Tok}(hN:NumT T)(n:Nat):QSpec o T n:=qspec_all o hN n n (yh n)
section
variable {o:Os} {T:List Tok}
theorem expr1_q(hN:NumT T){n:Nat}{p p':PS}{v:Expr}(h:zda T n 1 1 p=some (v,p'))(I:Inv1 T p)(ho:zf p=false)(hn:n<=999999990):zk E 144 [.ptr 3 0 0,.int .i64 1,.int .i64 1] (qst o T p)=some (outQ o T (zA v) p'):=
 (qspec o hN n).expr 1 1 p v p' h I ho (by omega) (by omega) (by omega) (by omega)
theorem whole_q(hN:NumT T){n:Nat}{p p':PS}{v:Expr}(h:zda T n 1 1 p=some (v,p'))(I:Inv1 T p)(ho:zf p=false)(hn:n<=999999990):zk E 128 [.ptr 3 0 0] (qst o T p)=some (outQ o T (zd [v]) p'):=by
 refine zc rfl rfl rfl (by simp) ?_;have x1:=expr1_q (o:=o) hN h I ho hn;simp only[zd,yz,yW];rw[za]at x1 ⊢;simp only[zd]at x1 ⊢;clear h;cases hq:zf p'
 ·rw[zn hq]at x1 ⊢;clear hq ho;simp[*,F128,zd]
 ·rw[zg hq]at x1 ⊢;clear hq ho;simp[*,F128,zd]
theorem inside_q(hN:NumT T){n:Nat}{p p':PS}{v:Expr}(h:zTa T n p=some (v,p'))(I:Inv1 T p)(ho:zf p=false)(hn:n<=999999990):zk E 127 [.ptr 3 0 0] (qst o T p)=some (outQ o T (zd [v]) p'):=by
 refine zc rfl rfl rfl (by simp) ?_;have w1:=zRb (o:=o) I ho [40];have I1:=I.must [40];unfold zTa at h;split at h
 ·cases h
 rename_i q hq;obtain⟨e,p2⟩:=q;cases h;generalize zC T [40] p=p1 at*;cases hq1:zf p1
 case true=>
  have e2:=(overE T n).expr _ _ _ _ _ hq hq1;subst e2;rw[zX hq1,zg hq1];rw[zg hq1]at w1;clear hq hq1 ho;simp[*,F127]
 rw[zn hq1]at w1;have x1:=whole_q (o:=o) hN hq I1 hq1 hn;have I2:=(zPa hq I1 hn).2;simp only[zd,yz,yW]at x1 ⊢;rw[za]at x1 ⊢;simp only[zd]at x1 ⊢;clear hq;cases hq2:zf p2
 ·rw[zn hq2]at x1;have w2:=zRb (o:=o) I2 hq2 [41];cases hm:zf (zC T [41] p2)
  ·rw[zn hm]at w2 ⊢;clear hm hq2 hq1 ho;simp[*,F127]
  ·rw[zg hm]at w2 ⊢;clear hm hq2 hq1 ho;simp[*,F127]
 ·rw[zg hq2]at x1;rw[zX hq2,zg hq2];clear hq2 hq1 ho;simp[*,F127]
def simpleF(T:List Tok)(n:Nat)(p:PS):Option (Stmt×PS):=
 if isF T [105,110,116] p||isF T [98,111,111,108] p then
  match zda T n 1 1 (zC T [61] (zy T 1 (zx T p).2).2)with
  |none=>none
  |some q=>some (⟨1,(zx T p).1,(zy T 1 (zx T p).2).1,[q.1],[],[]⟩,q.2)
 else if isF T [98,114,101,97,107] p then some (⟨6,0,[],[],[],[]⟩,adv p)
 else if isF T [99,111,110,116,105,110,117,101] p then some (⟨7,0,[],[],[],[]⟩,adv p)
 else if isF T [114,101,116,117,114,110] p then
  match zda T n 1 1 (adv p)with
  |none=>none
  |some q=>some (⟨8,0,[],[q.1],[],[]⟩,q.2)
 else if isF T [112,114,105,110,116] p then
  match zTa T n (adv p)with
  |none=>none
  |some q=>some (⟨9,0,[],[q.1],[],[]⟩,q.2)
 else zAb T n p
theorem named_over{n:Nat}{p p':PS}{v:Stmt}(h:zAb T n p=some (v,p'))(ho:zf p=true):p'=p:=by
 unfold zAb at h;rw[text_over ho]at h;simp only[zdb ho,yi,if_false]at h;rw[zX ho]at h;split at h
 ·cases h
 ·rename_i q hq;obtain⟨e,p1⟩:=q;cases h;exact(overE T n).expr _ _ _ _ _ hq ho
set_option maxHeartbeats 8000000 in
theorem simple_q(hN:NumT T){n:Nat}{p p':PS}{v:Stmt}(h:simpleF T n p=some (v,p'))(I:Inv1 T p)(ho:zf p=false)(hn:n<=999999980):zk E 113 [.ptr 3 0 0] (qst o T p)=some (outQ o T (zDa v) p'):=by
 refine zc rfl rfl rfl (by simp) ?_;have i1:=is_q (o:=o) I ho [105,110,116];have i2:=is_q (o:=o) I ho [98,111,111,108];unfold simpleF at h;cases c0:(isF T [105,110,116] p||isF T [98,111,111,108] p)
 case true=>
  rw[if_pos c0]at h;have ty:=typed_q (o:=o) I ho;have I1:=I.typed;generalize zx T p=tt at*;obtain⟨t,p1⟩:=tt;simp only at h ty I1;have hc:∃a b,isF T [105,110,116] p=a/\isF T [98,111,111,108] p=b/\(a=true\/(a=false/\b=true)):=by
   refine⟨_,_,rfl,rfl,?_⟩;simp only[yF]at c0;cases e:isF T [105,110,116] p
   ·rw[e]at c0;simp at c0;exact .inr ⟨rfl,c0⟩
   ·exact .inl rfl
  obtain⟨a,b,ea,eb,hab⟩:=hc;rw[ea]at i1;rw[eb]at i2;clear c0 ea eb;rw[zb];cases hq1:zf p1
  case true=>
   rw[text_over hq1]at h;simp only at h;rw[zX hq1]at h;split at h
   ·cases h
   rename_i q hq;obtain⟨e,p4⟩:=q;have e4:=(overE T n).expr _ _ _ _ _ hq hq1;have hv:=(Prod.mk.inj (Option.some.inj h)).1;have hp':=(Prod.mk.inj (Option.some.inj h)).2;simp only at hp';subst hv;subst hp';subst e4;rw[zg hq1]at ty ⊢;clear hq hq1 ho h;rcases hab with rfl|⟨rfl,rfl⟩<;>simp[*,F113]
  rw[zn hq1]at ty;have tx:=text_q (o:=o) I1 hq1 1;have I2:=I1.text 1 (by decide);generalize zy T 1 p1=tt at*;obtain⟨s,p2⟩:=tt;simp only at h tx I2;cases hq2:zf p2
  case true=>
   rw[zX hq2]at h;split at h
   ·cases h
   rename_i q hq;obtain⟨e,p4⟩:=q;have e4:=(overE T n).expr _ _ _ _ _ hq hq2;have hv:=(Prod.mk.inj (Option.some.inj h)).1;have hp':=(Prod.mk.inj (Option.some.inj h)).2;simp only at hp';subst hv;subst hp';subst e4;rw[zg hq2]at tx ⊢;clear hq hq2 hq1 ho h;rcases hab with rfl|⟨rfl,rfl⟩<;>simp[*,F113]
  rw[zn hq2]at tx;have w1:=zRb (o:=o) I2 hq2 [61];have I3:=I2.must [61];generalize zC T [61] p2=p3 at*;split at h
  ·cases h
  rename_i q hq;obtain⟨e,p4⟩:=q;have hv:=(Prod.mk.inj (Option.some.inj h)).1;have hp':=(Prod.mk.inj (Option.some.inj h)).2;simp only at hp';subst hv;subst hp';cases hq3:zf p3
  case true=>
   have e4:=(overE T n).expr _ _ _ _ _ hq hq3;subst e4;rw[zg hq3]at w1 ⊢;clear hq hq3 hq2 hq1 ho h;rcases hab with rfl|⟨rfl,rfl⟩<;>simp[*,F113]
  rw[zn hq3]at w1;have x1:=whole_q (o:=o) hN hq I3 hq3 (by omega);simp only[zd,zl,yz,yW]at x1 ⊢;rw[za]at x1 ⊢;simp only[zd]at x1 ⊢;clear hq h;cases hq4:zf p4
  ·rw[zn hq4]at x1 ⊢;clear hq4 hq3 hq2 hq1 ho;rcases hab with rfl|⟨rfl,rfl⟩<;>simp[*,F113]
  ·rw[zg hq4]at x1 ⊢;clear hq4 hq3 hq2 hq1 ho;rcases hab with rfl|⟨rfl,rfl⟩<;>simp[*,F113]
 rw[if_neg (by rw[c0];decide)]at h;simp only[ywa]at c0;rw[c0.1]at i1;rw[c0.2]at i2;clear c0;have t1:=zVa (o:=o) I ho [98,114,101,97,107];cases c1:isF T [98,114,101,97,107] p
 case true=>
  rw[c1]at h t1;simp only[if_true]at h t1;cases h;rw[zn (by rw[zca];exact ho),zb];clear c1 ho;simp[*,F113,zd,zl]
 rw[c1]at h t1;simp only[yi,if_false]at h t1;have t2:=zVa (o:=o) I ho [99,111,110,116,105,110,117,101];cases c2:isF T [99,111,110,116,105,110,117,101] p
 case true=>
  rw[c2]at h t2;simp only[if_true]at h t2;cases h;rw[zn (by rw[zca];exact ho),zb];clear c1 c2 ho;simp[*,F113,zd,zl]
 rw[c2]at h t2;simp only[yi,if_false]at h t2;have t3:=zVa (o:=o) I ho [114,101,116,117,114,110];cases c3:isF T [114,101,116,117,114,110] p
 case true=>
  rw[c3]at h t3;simp only[if_true]at h t3;have Ia:=I.adv _ c3;split at h
  ·cases h
  rename_i q hq;obtain⟨e,p4⟩:=q;have hv:=(Prod.mk.inj (Option.some.inj h)).1;have hp':=(Prod.mk.inj (Option.some.inj h)).2;simp only at hp';subst hv;subst hp';have x1:=whole_q (o:=o) hN hq Ia (by rw[zca];exact ho) (by omega);rw[zb];simp only[zd,zl,yz,yW]at x1 ⊢;rw[za]at x1 ⊢;simp only[zd]at x1 ⊢;clear hq h c1 c2 c3;cases hq4:zf p4
  ·rw[zn hq4]at x1 ⊢;clear hq4 ho;simp[*,F113]
  ·rw[zg hq4]at x1 ⊢;clear hq4 ho;simp[*,F113]
 rw[c3]at h t3;simp only[yi,if_false]at h t3;have t4:=zVa (o:=o) I ho [112,114,105,110,116];cases c4:isF T [112,114,105,110,116] p
 case true=>
  rw[c4]at h t4;simp only[if_true]at h t4;have Ia:=I.adv _ c4;split at h
  ·cases h
  rename_i q hq;obtain⟨e,p4⟩:=q;have hv:=(Prod.mk.inj (Option.some.inj h)).1;have hp':=(Prod.mk.inj (Option.some.inj h)).2;simp only at hp';subst hv;subst hp';have x1:=inside_q (o:=o) hN hq Ia (by rw[zca];exact ho) (by omega);rw[zb];simp only[zd,zl,yz,yW]at x1 ⊢;rw[za]at x1 ⊢;simp only[zd]at x1 ⊢;clear hq h c1 c2 c3 c4;cases hq4:zf p4
  ·rw[zn hq4]at x1 ⊢;clear hq4 ho;simp[*,F113]
  ·rw[zg hq4]at x1 ⊢;clear hq4 ho;simp[*,F113]
 rw[c4]at h t4;simp only[yi,if_false]at h t4;clear c1 c2 c3 c4;unfold zAb at h;have tx:=text_q (o:=o) I ho 1;have I1:=I.text 1 (by decide);generalize zy T 1 p=tt at*;obtain⟨s,p1⟩:=tt;simp only at h tx I1;rw[zb];cases hq1:zf p1
 case true=>
  simp only[zdb hq1,yi,if_false]at h;rw[zX hq1]at h;split at h
  ·cases h
  rename_i q hq;obtain⟨e,p4⟩:=q;have e4:=(overE T n).expr _ _ _ _ _ hq hq1;have hv:=(Prod.mk.inj (Option.some.inj h)).1;have hp':=(Prod.mk.inj (Option.some.inj h)).2;simp only at hp';subst hv;subst hp';subst e4;rw[zg hq1]at tx ⊢;clear hq hq1 ho h;simp[*,F113]
 rw[zn hq1]at tx;have t5:=zVa (o:=o) I1 hq1 [40];cases c5:isF T [40] p1
 case true=>
  rw[c5]at h t5;simp only[if_true]at h t5;have Ia:=I1.adv _ c5;split at h
  ·cases h
  rename_i q hq;obtain⟨l,p4⟩:=q;have hv:=(Prod.mk.inj (Option.some.inj h)).1;have hp':=(Prod.mk.inj (Option.some.inj h)).2;simp only at hp';subst hv;subst hp';cases n with
  |zero=>simp[zMb]at hq
  |succ n=>
  have x1:=call_q (fun k hk=>qspec o hN k) s hq Ia (by rw[zca];exact hq1) (by omega) (by omega);simp only[zd,zl,yz,yW]at x1 ⊢;rw[za]at x1 ⊢;simp only[zd]at x1 ⊢;clear hq h c5;cases hq4:zf p4
  ·rw[zn hq4]at x1 ⊢;clear hq4 hq1 ho;simp[*,F113]
  ·rw[zg hq4]at x1 ⊢;clear hq4 hq1 ho;simp[*,F113]
 rw[c5]at h t5;simp only[yi,if_false]at h t5;have t6:=zVa (o:=o) I1 hq1 [91];cases c6:isF T [91] p1
 case true=>
  rw[c6]at h t6;simp only[if_true]at h t6;have Ia:=I1.adv _ c6;split at h
  ·cases h
  rename_i q hq;obtain⟨e,p2⟩:=q;simp only at h;have hx1:=index_q (qspec o hN n) hq Ia (by rw[zca];exact hq1) (by omega) (by omega);have I2:=(zPa hq Ia (by omega)).2.must [93];rw[za]at hx1;generalize zC T [93] p2=p3 at*;split at h
  ·cases h
  rename_i r hr;obtain⟨e2,p5⟩:=r;have hv:=(Prod.mk.inj (Option.some.inj h)).1;have hp':=(Prod.mk.inj (Option.some.inj h)).2;simp only at hp';subst hv;subst hp';simp only[zd,zl,yz,yW]at hx1 ⊢;rw[za,za];simp only[zd];clear hq h c5 c6;cases hq3:zf p3
  case true=>
   rw[zX hq3]at hr;have e4:=(overE T n).expr _ _ _ _ _ hr hq3;subst e4;rw[zg hq3]at hx1 ⊢;clear hr hq3 hq1 ho;simp[*,F113]
  rw[zn hq3]at hx1;have w1:=zRb (o:=o) I2 hq3 [61];have I3:=I2.must [61];generalize zC T [61] p3=p4 at*;cases hq4:zf p4
  case true=>
   have e4:=(overE T n).expr _ _ _ _ _ hr hq4;subst e4;rw[zg hq4]at w1 ⊢;clear hr hq4 hq3 hq1 ho;simp[*,F113]
  rw[zn hq4]at w1;have x1:=whole_q (o:=o) hN hr I3 hq4 (by omega);simp only[zd,yz,yW]at x1;rw[za]at x1;simp only[zd]at x1;clear hr;have hroom:(1+1)*64<=zU:=by simp only[zU];omega
  cases hq5:zf p5
  ·rw[zn hq5]at x1 ⊢;clear hq5 hq4 hq3 hq1 ho;simp[*,F113]
  ·rw[zg hq5]at x1 ⊢;clear hq5 hq4 hq3 hq1 ho;simp[*,F113]
 rw[c6]at h t6;simp only[yi,if_false]at h t6;have w1:=zRb (o:=o) I1 hq1 [61];have I3:=I1.must [61];generalize zC T [61] p1=p4 at*;split at h
 ·cases h
 rename_i r hr;obtain⟨e2,p5⟩:=r;have hv:=(Prod.mk.inj (Option.some.inj h)).1;have hp':=(Prod.mk.inj (Option.some.inj h)).2;simp only at hp';subst hv;subst hp';simp only[zd,zl,yz,yW];rw[za];simp only[zd];clear h c5 c6;cases hq4:zf p4
 case true=>
  have e4:=(overE T n).expr _ _ _ _ _ hr hq4;subst e4;rw[zg hq4]at w1 ⊢;clear hr hq4 hq1 ho;simp[*,F113]
 rw[zn hq4]at w1;have x1:=whole_q (o:=o) hN hr I3 hq4 (by omega);simp only[zd,yz,yW]at x1;rw[za]at x1;simp only[zd]at x1;clear hr;have hroom:(0+1)*64<=zU:=by simp only[zU];omega
 cases hq5:zf p5
 ·rw[zn hq5]at x1 ⊢;clear hq5 hq4 hq1 ho;simp[*,F113]
 ·rw[zg hq5]at x1 ⊢;clear hq5 hq4 hq1 ho;simp[*,F113]
end
theorem deepS_no{d:Int}{p:PS}(h:¬100<d):deepS d p=p:=by unfold deepS;rw[if_neg h]
theorem zsc{T:List Tok}{n:Nat}{d:Int}{l:List Stmt}{p p':PS}{v:List Stmt}(h:zW T n d l p=some (v,p'))(ho:zf p=true):v=l/\p'=p:=by
 cases n with
 |zero=>simp[zW]at h
 |succ n=>
  simp only[zW]at h;rw[if_pos ho]at h;exact⟨(Prod.mk.inj (Option.some.inj h)).1.symm,(Prod.mk.inj (Option.some.inj h)).2.symm⟩
theorem block_inv{T:List Tok}:∀(n:Nat) {d:Int} {l:List Stmt} {p p':PS} {v:List Stmt},zW T n d l p=some (v,p')->Inv1 T p->0<=d->d+n<=999999990->Inv1 T p'
 |0,d,l,p,p',v,h,_,_,_=>by simp[zW]at h
 |n+1,d,l,p,p',v,h,I,hd,hn=>by
  simp only[zW]at h;split at h
  ·cases h;exact I
  split at h
  ·rename_i c;cases h;exact I.adv _ c
  split at h
  ·cases h
  ·rename_i q hq;obtain⟨s,p1⟩:=q;exact block_inv n h ((sspec T n).stmt d p s p1 hq I hd (by omega)).2 hd (by omega)
def ifF(T:List Tok)(n:Nat)(d:Int)(p:PS):Option (Stmt×PS):=
 match zTa T n (adv p)with
 |none=>none
 |some q=>match zW T n (d+1) [] (zC T [123] q.2)with
  |none=>none
  |some r=>
   if isF T [101,108,115,101] r.2 then
    match zW T n (d+1) [] (zC T [123] (adv r.2))with
    |none=>none
    |some t=>some (⟨4,0,[],[q.1],r.1,t.1⟩,t.2)
   else some (⟨4,0,[],[q.1],r.1,[]⟩,r.2)
def whileF(T:List Tok)(n:Nat)(d:Int)(p:PS):Option (Stmt×PS):=
 match zTa T n (adv p)with
 |none=>none
 |some q=>match zW T n (d+1) [] (zC T [123] q.2)with
  |none=>none
  |some r=>some (⟨5,0,[],[q.1],r.1,[]⟩,r.2)
theorem stmtF_split{T:List Tok}{n:Nat}{d:Int}{p:PS}(hd:deepS d p=p):zgb T (n+1) d p=
  if isF T [105,102] p then ifF T n d p else if isF T [119,104,105,108,101] p then whileF T n d p else(simpleF T n p).map fun q=>(q.1,zC T [59] q.2):=by
 simp only[zgb,hd];unfold ifF whileF simpleF;cases c1:isF T [105,102] p
 ·cases c2:isF T [119,104,105,108,101] p
  ·simp only[yi,if_false];split
   ·split<;>(rename_i h;simp[h])
   split
   ·rfl
   split
   ·rfl
   split
   ·split<;>(rename_i h;simp[h])
   split
   ·split<;>(rename_i h;simp[h])
   ·split<;>(rename_i h;simp[h])
  ·rw[isF_ne c2 (by decide),isF_ne c2 (by decide)];simp only[Bool.or_self,yi,if_false,if_true];rfl
 ·rw[isF_ne c1 (by decide),isF_ne c1 (by decide)];simp only[Bool.or_self,yi,if_false,if_true];rfl
theorem stmt_over{T:List Tok}{n:Nat}{d:Int}{p p':PS}{v:Stmt}(h:zgb T n d p=some (v,p'))(ho:zf (deepS d p)=true):p'=deepS d p:=by
 cases n with
 |zero=>simp[zgb]at h
 |succ n=>
  simp only[zgb,zdb ho,Bool.or_false,yi,if_false]at h;split at h
  ·cases h
  ·rename_i q hq;obtain⟨s,p1⟩:=q;have e:=named_over hq ho;subst e;cases h;exact zX ho
theorem simple_inv{T:List Tok}{n:Nat}{p p':PS}{v:Stmt}(h:simpleF T n p=some (v,p'))(I:Inv1 T p)(hn:n<=999999980):Inv1 T p':=by
 unfold simpleF at h;split at h
 ·split at h
  ·cases h
  ·rename_i q hq;obtain⟨e,p1⟩:=q;cases h;exact(zPa hq (((I.typed).text 1 (by decide)).must _) (by omega)).2
 split at h
 ·rename_i c;cases h;exact I.adv _ c
 split at h
 ·rename_i c;cases h;exact I.adv _ c
 split at h
 ·rename_i c;split at h
  ·cases h
  ·rename_i q hq;obtain⟨e,p1⟩:=q;cases h;exact(zPa hq (I.adv _ c) (by omega)).2
 split at h
 ·rename_i c;split at h
  ·cases h
  ·rename_i q hq;obtain⟨e,p1⟩:=q;cases h;exact(zeb hq (I.adv _ c) (by omega)).2
 ·exact(named_spec h I (by omega)).2
structure TSpec(o:Os)(T:List Tok)(n:Nat):Prop where
 stmt:∀d p v p',zgb T n d p=some (v,p')->Inv1 T p->zf p=false->0<=d->d+n<=999999980->zk E 93 [.ptr 3 0 0,.int .i64 d] (qst o T p)=some (outQ o T (zDa v) p')
 block:∀d p v p',zW T n d [] (zC T [123] p)=some (v,p')->Inv1 T p->zf p=false->0<=d->d+n<=999999980->zk E 61 [.ptr 3 0 0,.int .i64 d] (qst o T p)=some (outQ o T (zl v) p')
section
variable {o:Os} {T:List Tok}
set_option maxHeartbeats 4000000 in
theorem block_q{n:Nat}(S:∀k,k<n->TSpec o T k):∀d p v p',zW T n d [] (zC T [123] p)=some (v,p')->Inv1 T p->zf p=false->0<=d->d+n<=999999980->zk E 61 [.ptr 3 0 0,.int .i64 d] (qst o T p)=some (outQ o T (zl v) p'):=by
 intro d p v p' h I ho hd hn;refine zc rfl rfl rfl (by simp) ?_;have w1:=zRb (o:=o) I ho [123];have I1:=I.must [123];generalize zC T [123] p=p1 at*;simp only[zl];cases hq1:zf p1
 case true=>
  obtain⟨rfl,rfl⟩:=zsc h hq1;rw[zg hq1]at w1 ⊢;clear h hq1 ho S;simp[*,F61]
 rw[zn hq1]at w1;simp[*,F61];refine zmb K61_0 B61_0 (fun c:BS=>c.m) (fun c=>[(4,acc 6 (c.l.map zDa))]) (fun c=>[]) (fun c=>qst o T c.p) (fun c=>c.m<=n/\c.l.length+c.m<=n/\zf c.p=false/\Inv1 T c.p/\zW T c.m d c.l c.p=some (v,p')) ⟨n,[],p1⟩ ⟨by simp,by simp,by simp,yh _,by simp,hq1,I1,h⟩ ?_
 rintro⟨m,l,q⟩ s1 ⟨hm,hlm,hoq,Iq,hr⟩ g1 g2 g3 g4 g5
 simp only at hm hlm hoq Iq hr;simp at g1 g3 g5;clear g2 g4 w1 h hq1 I1 ho I;have hroom:(l.length+1)*104<=zU:=by simp only[zU];omega
 cases m with
 |zero=>simp[zW]at hr
 |succ m=>
  simp only[zW]at hr;rw[if_neg (by rw[hoq];decide)]at hr;have t1:=zVa (o:=o) Iq hoq [125];cases c1:isF T [125] q
  ·rw[c1]at hr t1;simp only[yi,if_false]at hr t1;split at hr
   ·cases hr
   rename_i x hx;obtain⟨s,p2⟩:=x;simp only at hr;have x1:=(S m (by omega)).stmt d q s p2 hx Iq hoq hd (by omega);have I2:=((sspec T m).stmt d q s p2 hx Iq hd (by omega)).2;rw[zb]at x1;simp only[zd,zl]at x1;clear c1 hx S;cases hq2:zf p2
   ·rw[zn hq2]at x1;replace hr:=Nonempty.intro (PLift.up hr);replace hq2:=Nonempty.intro (PLift.up hq2);clear hoq;simp[*];obtain⟨⟨hr⟩⟩:=hr;obtain⟨⟨hq2⟩⟩:=hq2;exact⟨⟨m,l++[s],p2⟩,yK m,by simp[zb,zd,zl,acc_ne],rfl,by simp only;omega,by simp;omega,hq2,I2,hr⟩
   ·obtain⟨e1,e2⟩:=zsc hr hq2;subst e1;subst e2;rw[zg hq2]at x1 ⊢;clear hr hq2 hoq;simp[*]
  ·rw[c1]at hr t1;simp only[if_true]at hr t1;have hv:=(Prod.mk.inj (Option.some.inj hr)).1;have hp':=(Prod.mk.inj (Option.some.inj hr)).2;subst hv;subst hp';rw[zn (by rw[zca];exact hoq)];clear c1 hoq hr S;simp[*]
theorem open_no_q{d:Int}{p:PS}(I:Inv1 T p)(ho:zf p=false)(c1:isF T [105,102] p=false)(c2:isF T [119,104,105,108,101] p=false):
  zk E 112 [.ptr 3 0 0,.int .i64 d] (qst o T p)=some (.ret (.tup [.agg [.int .i64 0,.int .i64 0,.str [],.slice .plain 5 [],.slice .plain 6 [],.slice .plain 6 []],.bool false]),qst o T p):=by
 refine zc rfl rfl rfl (by simp) ?_;have t1:=zVa (o:=o) I ho [105,102];have t2:=zVa (o:=o) I ho [119,104,105,108,101];rw[c1]at t1;rw[c2]at t2;clear c1 c2 ho;simp[*,F112]
set_option maxHeartbeats 4000000 in
theorem open_while_q(hN:NumT T){n:Nat}(S:TSpec o T n){d:Int}{p p':PS}{v:Stmt}(c1:isF T [105,102] p=false)(c2:isF T [119,104,105,108,101] p=true)(h:whileF T n d p=some (v,p'))(I:Inv1 T p)(ho:zf p=false)(hd:0<=d)(hn:d+(n+1:Nat)<=999999980):
  zk E 112 [.ptr 3 0 0,.int .i64 d] (qst o T p)=some (outQ o T (.tup [zDa v,.bool true]) p'):=by
 refine zc rfl rfl rfl (by simp) ?_;have hw:zra .i64 (d+1)=d+1:=zp (by omega) (by omega);have t1:=zVa (o:=o) I ho [105,102];have t2:=zVa (o:=o) I ho [119,104,105,108,101];have Ia:=I.adv _ c2;rw[c1]at t1;rw[c2]at t2;unfold whileF at h;split at h
 ·cases h
 rename_i q hq;obtain⟨e,p1⟩:=q;simp only at h;split at h
 ·cases h
 rename_i r hr;obtain⟨b,p2⟩:=r;have hv:=(Prod.mk.inj (Option.some.inj h)).1;have hp':=(Prod.mk.inj (Option.some.inj h)).2;simp only at hp';subst hv;subst hp';have x1:=inside_q (o:=o) hN hq Ia (by rw[zca];exact ho) (by omega);have I1:=(zeb hq Ia (by omega)).2;rw[zb];simp only[zd,zl,yz,yW]at x1 ⊢;rw[za]at x1 ⊢;simp only[zd]at x1 ⊢;clear hq h c1 c2;cases hq1:zf p1
 case true=>
  rw[zX hq1]at hr;obtain⟨rfl,rfl⟩:=zsc hr hq1;rw[zg hq1]at x1 ⊢;clear hr hq1 ho;simp[*,F112]
 rw[zn hq1]at x1;have x2:=S.block (d+1) p1 b p2 hr I1 hq1 (by omega) (by omega);simp only[zl]at x2;clear hr;cases hq2:zf p2
 ·rw[zn hq2]at x2 ⊢;clear hq2 hq1 ho;simp[*,F112]
 ·rw[zg hq2]at x2 ⊢;clear hq2 hq1 ho;simp[*,F112]
set_option maxHeartbeats 4000000 in
theorem open_if_q(hN:NumT T){n:Nat}(S:TSpec o T n){d:Int}{p p':PS}{v:Stmt}(c1:isF T [105,102] p=true)(h:ifF T n d p=some (v,p'))(I:Inv1 T p)(ho:zf p=false)(hd:0<=d)(hn:d+(n+1:Nat)<=999999980):
  zk E 112 [.ptr 3 0 0,.int .i64 d] (qst o T p)=some (outQ o T (.tup [zDa v,.bool true]) p'):=by
 refine zc rfl rfl rfl (by simp) ?_;have hw:zra .i64 (d+1)=d+1:=zp (by omega) (by omega);have t1:=zVa (o:=o) I ho [105,102];have Ia:=I.adv _ c1;rw[c1]at t1;unfold ifF at h;split at h
 ·cases h
 rename_i q hq;obtain⟨e,p1⟩:=q;simp only at h;split at h
 ·cases h
 rename_i r hr;obtain⟨b,p2⟩:=r;simp only at h;have x1:=inside_q (o:=o) hN hq Ia (by rw[zca];exact ho) (by omega);have I1:=(zeb hq Ia (by omega)).2;rw[zb];simp only[zd,zl,yz,yW]at x1 ⊢;rw[za]at x1;simp only[zd]at x1 ⊢;clear hq c1;cases hq1:zf p1
 case true=>
  rw[zX hq1]at hr;obtain⟨rfl,rfl⟩:=zsc hr hq1;rw[zdb hq1]at h;simp only[yi,if_false]at h;have hv:=(Prod.mk.inj (Option.some.inj h)).1;have hp':=(Prod.mk.inj (Option.some.inj h)).2;subst hv;subst hp';rw[zg hq1]at x1 ⊢;clear hr hq1 ho h;simp[*,F112,za,zd]
 rw[zn hq1]at x1;have x2:=S.block (d+1) p1 b p2 hr I1 hq1 (by omega) (by omega);have I2:=block_inv n hr (I1.must _) (by omega) (by omega);simp only[zl]at x2;clear hr;cases hq2:zf p2
 case true=>
  rw[zdb hq2]at h;simp only[yi,if_false]at h;have hv:=(Prod.mk.inj (Option.some.inj h)).1;have hp':=(Prod.mk.inj (Option.some.inj h)).2;subst hv;subst hp';rw[zg hq2]at x2 ⊢;clear hq2 hq1 ho h;simp[*,F112,za,zd]
 rw[zn hq2]at x2;have t3:=zVa (o:=o) I2 hq2 [101,108,115,101];cases c3:isF T [101,108,115,101] p2
 ·rw[c3]at h t3;simp only[yi,if_false]at h t3;have hv:=(Prod.mk.inj (Option.some.inj h)).1;have hp':=(Prod.mk.inj (Option.some.inj h)).2;subst hv;subst hp';rw[zn hq2];clear c3 hq2 hq1 ho h;simp[*,F112,za,zd]
 ·rw[c3]at h t3;simp only[if_true]at h t3;have Ib:=I2.adv _ c3;split at h
  ·cases h
  rename_i t ht;obtain⟨b2,p3⟩:=t;have hv:=(Prod.mk.inj (Option.some.inj h)).1;have hp':=(Prod.mk.inj (Option.some.inj h)).2;simp only at hp';subst hv;subst hp';have x3:=S.block (d+1) (adv p2) b2 p3 ht Ib (by rw[zca];exact hq2) (by omega) (by omega);simp only[zl]at x3;clear ht c3 h;cases hq3:zf p3
  ·rw[zn hq3]at x3 ⊢;clear hq3 hq2 hq1 ho;simp[*,F112,za,zd]
  ·rw[zg hq3]at x3 ⊢;clear hq3 hq2 hq1 ho;simp[*,F112,za,zd]
set_option maxHeartbeats 4000000 in
theorem stmt_q(hN:NumT T){n:Nat}(S:TSpec o T n):∀d p v p',zgb T (n+1) d p=some (v,p')->Inv1 T p->zf p=false->0<=d->d+(n+1:Nat)<=999999980->zk E 93 [.ptr 3 0 0,.int .i64 d] (qst o T p)=some (outQ o T (zDa v) p'):=by
 intro d p v p' h I ho hd hn;refine zc rfl rfl rfl (by simp) ?_;have d1:=deep_q (o:=o) I d ho;by_cases h100:100<d
 ·have e1:deepF d p={p with deep:=true}:=by unfold deepF;rw[if_pos h100,(zPc ho).1];rfl
  have e2:deepS d p={p with deep:=true}:=by unfold deepS;rw[if_pos h100]
  have hov:zf (deepS d p)=true:=by rw[e2];simp[zf]
  have hp:p'=deepS d p:=stmt_over h hov;subst hp;rw[e1,<-e2,zg hov]at d1;rw[zg hov];clear e1 e2 hov h;generalize deepS d p=p2 at*;simp[*,F93]
 have e1:deepF d p=p:=by unfold deepF;rw[if_neg h100]
 rw[e1,zn ho]at d1;rw[stmtF_split (deepS_no h100)]at h;clear e1;rw[zb];cases c1:isF T [105,102] p
 case true=>
  rw[c1]at h;simp only[if_true]at h;have x1:=open_if_q (o:=o) hN S c1 h I ho hd hn;rw[zb]at x1;simp only[zd,zl]at x1 ⊢;clear h c1;cases hq:zf p'
  ·rw[zn hq]at x1 ⊢;clear hq ho;simp[*,F93]
  ·rw[zg hq]at x1 ⊢;clear hq ho;simp[*,F93]
 rw[c1]at h;simp only[yi,if_false]at h;cases c2:isF T [119,104,105,108,101] p
 case true=>
  rw[c2]at h;simp only[if_true]at h;have x1:=open_while_q (o:=o) hN S c1 c2 h I ho hd hn;rw[zb]at x1;simp only[zd,zl]at x1 ⊢;clear h c1 c2;cases hq:zf p'
  ·rw[zn hq]at x1 ⊢;clear hq ho;simp[*,F93]
  ·rw[zg hq]at x1 ⊢;clear hq ho;simp[*,F93]
 rw[c2]at h;simp only[yi,if_false,yb]at h;obtain⟨⟨s,p1⟩,hs,he⟩:=h;have hv:=(Prod.mk.inj he).1;have hp':=(Prod.mk.inj he).2;simp only at hv hp';subst hv;subst hp';have x0:=open_no_q (o:=o) (d:=d) I ho c1 c2;have x1:=simple_q (o:=o) hN hs I ho (by omega);have I1:Inv1 T p1:=simple_inv hs I (by omega);rw[zb]at x1;simp only[zd,zl]at x1 ⊢;clear hs c1 c2 he;cases hq:zf p1
 ·rw[zn hq]at x1;have w1:=zRb (o:=o) I1 hq [59];cases hm:zf (zC T [59] p1)
  ·rw[zn hm]at w1 ⊢;clear hm hq ho;simp[*,F93]
  ·rw[zg hm]at w1 ⊢;clear hm hq ho;simp[*,F93]
 ·rw[zg hq]at x1;rw[zX hq,zg hq];clear hq ho;simp[*,F93]
theorem tspec_all(o:Os)(hN:NumT T):∀n k,k<=n->TSpec o T k
 |0,k,h=>by
  have:k=0:=by omega
  subst this;exact⟨fun _ _ _ _ h=>by simp[zgb]at h,fun _ _ _ _ h=>by simp[zW]at h⟩
 |n+1,k,h=>by
  have ih:=tspec_all o hN n;rcases yA k (n+1)with h1|h1
  ·exact ih k (by omega)
  ·have:k=n+1:=by omega
   subst this;exact⟨stmt_q hN (ih n (yh n)),block_q (fun k hk=>ih k (by omega))⟩
theorem tspec(o:Os)(hN:NumT T)(n:Nat):TSpec o T n:=tspec_all o hN n n (yh n)
end
section
variable {o:Os} {T:List Tok}
def parF(T:List Tok)(p:PS):Par×PS:=(⟨(zy T 1 (zx T p).2).1,(zx T p).1⟩,(zy T 1 (zx T p).2).2)
theorem parF_inv{p:PS}(I:Inv1 T p):Inv1 T (parF T p).2:=I.typed.text 1 (by decide)
theorem par_q{p:PS}(I:Inv1 T p)(ho:zf p=false):zk E 60 [.iptr [.ptr 3 0 0] 0] (qst o T p)=some (outQ o T (encPar (parF T p).1) (parF T p).2):=by
 refine zc rfl rfl rfl (by simp) ?_;have ty:=typed_q (o:=o) I ho;have I1:=I.typed;unfold parF encPar;generalize zx T p=tt at*;obtain⟨t,p1⟩:=tt;simp only at ty I1 ⊢;cases hq1:zf p1
 case true=>
  rw[text_over hq1];simp only;rw[zg hq1]at ty ⊢;clear hq1 ho;simp[*,F60]
 rw[zn hq1]at ty;have tx:=text_q (o:=o) I1 hq1 1;generalize zy T 1 p1=tt at*;obtain⟨s,p2⟩:=tt;simp only at tx ⊢;cases hq2:zf p2
 ·rw[zn hq2]at tx ⊢;clear hq2 hq1 ho;simp[*,F60]
 ·rw[zg hq2]at tx ⊢;clear hq2 hq1 ho;simp[*,F60]
def parsF(T:List Tok)(n:Nat)(p:PS):Option (List Par×PS):=
 if isF T [41] p then some ([],adv p)else match zN T n [] true p with
  |none=>none
  |some r=>some (r.1,zC T [41] r.2)
theorem parsF_inv{n:Nat}{p p':PS}{v:List Par}(h:parsF T n p=some (v,p'))(I:Inv1 T p):Inv1 T p':=by
 unfold parsF at h;split at h
 ·rename_i c;cases h;exact I.adv _ c
 split at h
 ·cases h
 ·rename_i r hr;obtain⟨l,p1⟩:=r;cases h;exact(paramsF_inv _ _ _ _ _ _ hr I).must _
theorem parsF_over{n:Nat}{p p':PS}{v:List Par}(h:parsF T n p=some (v,p'))(ho:zf p=true):p'=p:=by
 unfold parsF at h;rw[if_neg (by rw[zdb ho];decide)]at h;cases n with
 |zero=>simp[zN]at h
 |succ n=>
  simp only[zN,Bool.true_or,if_true]at h;rw[if_pos ho]at h;cases h;exact zX ho
structure PPS where
 m:Nat
 l:List Par
 p:PS
set_option maxHeartbeats 2000000 in
theorem plist_q{n:Nat}{p p':PS}{v:List Par}(h:parsF T n p=some (v,p'))(I:Inv1 T p)(ho:zf p=false)(hn:n<=999999980):
  zk E 59 [.ptr 3 0 0,.fn 60 [] [.iptr [.ptr 3 0 0] 0]] (qst o T p)=some (outQ o T (parsV v) p'):=by
 refine zc rfl rfl rfl (by simp) ?_;unfold parsF at h;have t1:=zVa (o:=o) I ho [41];cases c1:isF T [41] p
 case true=>
  rw[if_pos c1]at h;rw[c1]at t1;cases h;rw[zn (by rw[zca];exact ho)];clear c1;simp[*,F59,parsV]
 rw[if_neg (by rw[c1];decide)]at h;rw[c1]at t1;split at h
 ·cases h
 rename_i q hq;obtain⟨l',p1⟩:=q;have hv:=(Prod.mk.inj (Option.some.inj h)).1;have hp':=(Prod.mk.inj (Option.some.inj h)).2;simp only at hv hp';subst hv;subst hp';simp[*,F59,parsV];have hstart:∃m,n=m+1/\zN T m ([]++[(parF T p).1]) false (parF T p).2=some (l',p1):=by
  cases n with
  |zero=>simp[zN]at hq
  |succ m=>
   simp only[zN,Bool.true_or,if_true]at hq;rw[if_neg (by rw[ho];decide)]at hq;exact⟨m,rfl,hq⟩
 obtain⟨m0,hm0,hs0⟩:=hstart;refine zmb K59_0 B59_0 (fun c:PPS=>c.m) (fun c=>[(4,acc 2 (c.l.map encPar))]) (fun c=>[]) (fun c=>qst o T c.p) (fun c=>c.m<n/\c.l.length+c.m<n/\zf c.p=false/\Inv1 T c.p/\zN T c.m (c.l++[(parF T c.p).1]) false (parF T c.p).2=some (l',p1)) ⟨m0,[],p⟩ ⟨by simp,by simp,by simp,by simp only;omega,by simp only[yg];omega,ho,I,hs0⟩ ?_
 rintro⟨m,l,p⟩ s1 ⟨hm,hlm,ho,I,hr⟩ g1 g2 g3 g4 g5
 simp only at hm hlm ho I hr;simp at g1 g3 g5;clear g2 g4 t1 hs0 hm0 c1 hq h;have hroom:(l.length+1)*24<=zU:=by simp only[zU];omega
 have x1:=par_q (o:=o) I ho;have I2:=parF_inv I;generalize parF T p=tt at*;obtain⟨e,p2⟩:=tt;simp only at hr x1 I2;obtain⟨enm,ety⟩:=e;simp only[encPar]at x1;cases m with
 |zero=>simp[zN]at hr
 |succ m=>
  simp only[zN,yI]at hr;cases hq2:zf p2
  ·rw[zn hq2]at x1;have t2:=zVa (o:=o) I2 hq2 [44];cases c2:isF T [44] p2
   ·rw[c2]at hr t2;simp only[yi,if_false]at hr t2;have hl1:=(Prod.mk.inj (Option.some.inj hr)).1;have hp1:=(Prod.mk.inj (Option.some.inj hr)).2;subst hl1;subst hp1;have w1:=zRb (o:=o) I2 hq2 [41];cases hm2:zf (zC T [41] p2)
    ·rw[zn hm2]at w1 ⊢;clear hm2 hq2 c2 ho hr;simp[*,encPar]
    ·rw[zg hm2]at w1 ⊢;clear hm2 hq2 c2 ho hr;simp[*,encPar]
   ·rw[c2]at hr t2;have Ia:=I2.adv _ c2;simp only[if_true,yi,if_false]at hr t2;rw[if_neg (by rw[zca,hq2];decide)]at hr;have hoa:zf (adv p2)=false:=by rw[zca];exact hq2
    replace hr:=Nonempty.intro (PLift.up hr);clear hq2 c2 ho;simp[*,encPar];obtain⟨⟨hr⟩⟩:=hr;exact⟨⟨m,l++[⟨enm,ety⟩],adv p2⟩,by simp,by simp[encPar,acc_ne],rfl,by simp only;omega,by simp;omega,hoa,Ia,hr⟩
  ·rw[zg hq2]at x1;rw[zdb hq2]at hr;simp only[yi,if_false]at hr;have hl1:=(Prod.mk.inj (Option.some.inj hr)).1;have hp1:=(Prod.mk.inj (Option.some.inj hr)).2;subst hl1;subst hp1;rw[zX hq2,zg hq2];clear hq2 ho hr;simp[*,encPar]
theorem functionF_eq(T:List Tok)(n:Nat)(t:Int)(s:List UInt8)(p:PS):zka T n t s p=match parsF T n (zC T [40] p)with
  |none=>none
  |some r=>match zW T n 1 [] (zC T [123] r.2)with
   |none=>none
   |some q=>some (⟨s,t,r.1,q.1⟩,q.2):=by
 unfold zka parsF;split
 ·rfl
 ·cases h:zN T n [] true (zC T [40] p)with
  |none=>rfl
  |some r=>rfl
theorem function_over{n:Nat}{t:Int}{s:List UInt8}{p p':PS}{v:Func}(h:zka T n t s p=some (v,p'))(ho:zf p=true):p'=p:=by
 rw[functionF_eq,zX ho]at h;split at h
 ·cases h
 rename_i r hr;obtain⟨l,p1⟩:=r;have e:=parsF_over hr ho;subst e;simp only at h;rw[zX ho]at h;split at h
 ·cases h
 rename_i q hq;obtain⟨b,p2⟩:=q;cases h;exact(zsc hq ho).2
set_option maxHeartbeats 2000000 in
theorem function_q(hN:NumT T){n:Nat}{t:Int}{s:List UInt8}{p p':PS}{v:Func}(h:zka T n t s p=some (v,p'))(I:Inv1 T p)(ho:zf p=false)(hn:n<=999999970):
  zk E 34 [.ptr 3 0 0,.int .i64 t,.str s] (qst o T p)=some (outQ o T (zQ v) p'):=by
 refine zc rfl rfl rfl (by simp) ?_;rw[functionF_eq]at h;have w1:=zRb (o:=o) I ho [40];have I1:=I.must [40];generalize zC T [40] p=p1 at*;split at h
 ·cases h
 rename_i r hr;obtain⟨l,p2⟩:=r;simp only at h;split at h
 ·cases h
 rename_i q hq;obtain⟨b,p3⟩:=q;have hv:=(Prod.mk.inj (Option.some.inj h)).1;have hp':=(Prod.mk.inj (Option.some.inj h)).2;simp only at hp';subst hv;subst hp';clear h;cases hq1:zf p1
 case true=>
  have e:=parsF_over hr hq1;subst e;rw[zX hq1]at hq;obtain⟨e1,e2⟩:=zsc hq hq1;subst e2;rw[zg hq1]at w1 ⊢;clear hr hq hq1 ho;simp[*,F34]
 rw[zn hq1]at w1;have x1:=plist_q (o:=o) hr I1 hq1 (by omega);have I2:=parsF_inv hr I1;simp only[parsV]at x1;cases hq2:zf p2
 case true=>
  rw[zX hq2]at hq;obtain⟨e1,e2⟩:=zsc hq hq2;subst e2;rw[zg hq2]at x1 ⊢;clear hr hq hq1 ho hq2;simp[*,F34]
 rw[zn hq2]at x1;have x2:=(tspec o hN n).block 1 p2 b p3 hq I2 hq2 (by omega) (by omega);simp only[zl]at x2;clear hr hq;cases hq3:zf p3
 ·rw[zn hq3]at x2 ⊢;clear hq1 ho hq2 hq3;simp[*,F34,zQ,parsV,zl]
 ·rw[zg hq3]at x2 ⊢;clear hq1 ho hq2 hq3;simp[*,F34,zQ,parsV,zl]
theorem prog_over{n:Nat}{ars:List PArr}{fs:List Func}{p p':PS}{v:Prog}(h:zCb T n ars fs p=some (v,p'))(ho:zf p=true):p'=p:=by
 cases n with
 |zero=>simp[zCb]at h
 |succ n=>
  simp only[zCb]at h;rw[if_pos ho]at h;exact(Prod.mk.inj (Option.some.inj h)).2.symm
set_option maxHeartbeats 8000000 in
theorem prog_q(hN:NumT T){n:Nat}{p p':PS}{v:Prog}(h:zCb T n [] [] p=some (v,p'))(I:Inv1 T p)(ho:zf p=false)(hn:n<=999999970):zk E 19 [.ptr 3 0 0] (qst o T p)=some (outQ o T (zua v) p'):=by
 refine zc rfl rfl rfl (by simp) ?_;simp[F19,zua,zHb,funcs];refine zmb K19_0 B19_0 (fun c:GS=>c.m) (fun c=>[]) (fun c=>[(2,.cells [acc 2 (c.ars.map zxa),acc 4 (c.fs.map zQ)])]) (fun c=>qst o T c.p) (fun c=>c.m<=n/\c.ars.length+c.m<=n/\c.fs.length+c.m<=n/\zCb T c.m c.ars c.fs c.p=some (v,p')/\Inv1 T c.p/\zf c.p=false) ⟨n,[],[],p⟩ ⟨by simp,by simp,by simp,yh _,by simp,by simp,h,I,ho⟩ ?_;clear h I ho
 rintro⟨m,ars,fs,p⟩ s1 ⟨hm,hla,hlf,hr,I,ho⟩ g1 g2 g3 g4 g5
 simp only at hm hla hlf hr I ho;simp at g1 g4 g5;clear g2 g3;cases m with
 |zero=>simp[zCb]at hr
 |succ m=>
  simp only[zCb]at hr;have hrm1:(ars.length+1)*24<=zU:=by simp only[zU];omega
  have hrm2:(fs.length+1)*72<=zU:=by simp only[zU];omega
  have h0:=lft_0 I.lt;rw[if_neg (by rw[ho];decide)]at hr;by_cases hk:(tk T p.at').kind=3
  ·rw[if_pos hk]at hr;have hv:=(Prod.mk.inj (Option.some.inj hr)).1;have hp':=(Prod.mk.inj (Option.some.inj hr)).2;subst hv;subst hp';rw[zn ho];unfold qst at*;clear hr ho;generalize lft T p=l at*;generalize tk T p.at'=t at*;obtain⟨k',x,ln⟩:=t;simp only at hk;subst hk;simp only[zK]at h0;simp[*,zHb,funcs]
  rw[if_neg hk]at hr;replace hk:=eqn hk;have ty:=typed_q (o:=o) I ho;have I1:=I.typed;generalize zx T p=tt at*;obtain⟨t,p1⟩:=tt;simp only at ty I1 hr;have hq0:∃l x ln k',qst o T p=[o.a,o.b,o.c,.arr 1 [.agg [.slice .plain 3 l]]]/\l[0]? =some (.agg [.int .i64 k',.str x,.int .i64 ln])/\(k'=3)=False:=by
   refine⟨lft T p,(tk T p.at').text,(tk T p.at').line,(tk T p.at').kind,rfl,h0,hk⟩
  obtain⟨l0,x0,ln0,k0,hq0,hl0,hk0⟩:=hq0;rw[hq0]at ty g5;clear h0 hk hq0;cases hq1:zf p1
  case true=>
   rw[text_over hq1]at hr;simp only[zdb hq1,yi,and_false,if_false]at hr;split at hr
   ·cases hr
   rename_i q hq;obtain⟨fn,p3⟩:=q;have e:=function_over hq hq1;subst e;have e2:=prog_over hr hq1;subst e2;rw[zg hq1]at ty ⊢;clear hr hq hq1 ho;simp[*]
  rw[zn hq1]at ty;have tx:=text_q (o:=o) I1 hq1 1;have I2:=I1.text 1 (by decide);generalize zy T 1 p1=tt at*;obtain⟨s,p2⟩:=tt;simp only at tx I2 hr;cases hq2:zf p2
  case true=>
   simp only[zdb hq2,yi,and_false,if_false]at hr;split at hr
   ·cases hr
   rename_i q hq;obtain⟨fn,p3⟩:=q;have e:=function_over hq hq2;subst e;have e2:=prog_over hr hq2;subst e2;rw[zg hq2]at tx ⊢;clear hr hq hq1 hq2 ho;simp[*]
  rw[zn hq2]at tx;have t2:=zVa (o:=o) I2 hq2 [91];by_cases hc:t=1/\fs=[]/\isF T [91] p2=true
  ·rw[if_pos hc]at hr;obtain⟨rfl,rfl,hc⟩:=hc;have IA:=I2.adv _ hc;rw[hc]at t2;simp only[if_true]at t2;have x1:=number_q (o:=o) IA hN (by rw[zca];exact hq2);have I3:=IA.text 0 (by decide);generalize zy T 0 (adv p2)=tt at*;obtain⟨x,p3⟩:=tt;simp only at x1 I3 hr;clear hc;cases hq3:zf p3
   case true=>
    rw[zX hq3,zX hq3]at hr;have e2:=prog_over hr hq3;subst e2;rw[zg hq3]at x1 ⊢;clear hr hq1 hq2 hq3 ho;simp[*]
   rw[zn hq3]at x1;have w1:=want2_q (o:=o) I3 hq3 [93] [59];have I4:=(I3.must [93]).must [59];generalize zC T [59] (zC T [93] p3)=p4 at*;cases hq4:zf p4
   case true=>
    have e2:=prog_over hr hq4;subst e2;rw[zg hq4]at w1 ⊢;clear hr hq1 hq2 hq3 hq4 ho;simp[*]
   rw[zn hq4]at w1;replace hr:=Nonempty.intro (PLift.up hr);replace hq4:=Nonempty.intro (PLift.up hq4);clear hq1 hq2 hq3 ho;simp[*];obtain⟨⟨hr⟩⟩:=hr;obtain⟨⟨hq4⟩⟩:=hq4;exact⟨⟨m,ars++[⟨s,zwc x⟩],[],p4⟩,yK m,by simp[zxa,acc_snoc],rfl,by simp only;omega,by simp only[ye,yd,yg];omega,by simp only[yg];omega,hr,I4,hq4⟩
  ·rw[if_neg hc]at hr;split at hr
   ·cases hr
   rename_i q hq;obtain⟨fn,p3⟩:=q;simp only at hr;have x1:=function_q (o:=o) hN hq I2 hq2 (by omega);have I3:=(function_spec hq I2 (by omega)).2;clear hq;simp only[zQ,parsV,zl]at x1;have hcase:(t=1)=False\/(t=1/\¬fs=[])\/(t=1/\fs=[]/\isF T [91] p2=false):=by
    by_cases h1:t=1
    ·by_cases h2:fs=[]
     ·refine .inr (.inr ⟨h1,h2,?_⟩);cases h3:isF T [91] p2
      ·rfl
      ·exact absurd ⟨h1,h2,h3⟩ hc
     ·exact .inr (.inl ⟨h1,h2⟩)
    ·exact .inl (eqn h1)
   clear hc;cases hq3:zf p3
   case true=>
    have e2:=prog_over hr hq3;subst e2;rw[zg hq3]at x1 ⊢;clear hr hq1 hq2 hq3 ho;rcases hcase with h1|⟨rfl,h2⟩|⟨rfl,rfl,h3⟩
    ·clear t2;simp[*]
    ·have hl2:(fs=[])=False:=eqn h2;clear t2 h2;simp[*]
    ·rw[h3]at t2;clear h3;simp[*]
   rw[zn hq3]at x1;replace hr:=Nonempty.intro (PLift.up hr);replace hq3:=Nonempty.intro (PLift.up hq3);clear hq1 hq2 ho;rcases hcase with h1|⟨rfl,h2⟩|⟨rfl,rfl,h3⟩
   ·clear t2;simp[*];obtain⟨⟨hr⟩⟩:=hr;obtain⟨⟨hq3⟩⟩:=hq3;exact⟨⟨m,ars,fs++[fn],p3⟩,yK m,⟨rfl,by simp[zQ,acc_snoc,parsV,zl]⟩,rfl,by simp only;omega,by simp only;omega,by simp only[ye,yd,yg];omega,hr,I3,hq3⟩
   ·have hl2:(fs=[])=False:=eqn h2;clear t2 h2;simp[*];obtain⟨⟨hr⟩⟩:=hr;obtain⟨⟨hq3⟩⟩:=hq3;exact⟨⟨m,ars,fs++[fn],p3⟩,yK m,⟨rfl,by simp[zQ,acc_snoc,parsV,zl]⟩,rfl,by simp only;omega,by simp only;omega,by simp only[ye,yd,yg];omega,hr,I3,hq3⟩
   ·rw[h3]at t2;have hr0:72<=zU:=by simp only[zU];omega
    have hr1:1*72<=zU:=by simp only[zU];omega
    clear h3;simp[*];obtain⟨⟨hr⟩⟩:=hr;obtain⟨⟨hq3⟩⟩:=hq3;exact⟨⟨m,ars,[fn],p3⟩,yK m,⟨rfl,by simp[zQ,parsV,zl]⟩,rfl,by simp only;omega,by simp only;omega,(by have:=hlf;simp only[yg,yd]at this ⊢;omega),by simpa using hr,I3,hq3⟩
end
theorem index_nl:∀s:List UInt8,Lib.index s [10]=if(10:UInt8)∈s then((s.takeWhile (· !=10)).length:Int)else-1
 | []=>by simp[Lib.index]
 |b::r=>by
  rw[Lib.index,index_nl r,yT];by_cases h:b=10
  ·subst h;simp
  ·have h1:¬(10:UInt8)=b:=fun e=>h e.symm
   by_cases hm:(10:UInt8)∈r
   ·simp[h,h1,hm,yga]
    try omega
   ·simp[h,h1,hm,yga]
theorem cut_nl(s:List UInt8):(Lib.cut s [10]).1=s.takeWhile (· !=10):=by
 unfold Lib.cut;rw[index_nl];by_cases hm:(10:UInt8)∈s
 ·rw[if_pos hm,if_pos (by omega)];simp only[Int.toNat_natCast];exact(takeWhile_eq_take _ s).symm
 ·rw[if_neg hm,if_neg (by decide)];simp only;symm;rw[zvc,yr];intro x hx;simp only[bne_iff_ne]
  rintro rfl;exact hm hx
theorem blank_ix(b:UInt8):(0<=Lib.indexByte [32,9,13] b)<->blank b=true:=by
 rw[index_mem];simp[blank,or_assoc]
theorem com_prefix(b:UInt8)(r:List UInt8): [47,47].isPrefixOf (b::r)=(decide (b=47)&&decide (r.head? =some 47)):=by
 cases r with
 |nil=>simp[yga]
 |cons c q=>
  have e:∀x:UInt8,(47==x)=decide (x=47):=fun x=>by
   rw[Bool.eq_iff_iff];simp[eq_comm (a:=(47:UInt8))]
  simp[yga,e]
set_option maxHeartbeats 1000000 in
theorem skip_spec(s:List UInt8)(line:Int)(hl:s.length<=100000)(h0:0<=line)(h1:line+s.length<=1000000):
  zk E 27 [.ptr 0 0 0] (sob s line)=some (.ret (.tup []),sob (skipM s line).1 (skipM s line).2):=by
 refine zc rfl rfl rfl (by simp) ?_;simp[F27];refine zmb K27_0 B27_0 (fun c:List UInt8×Int=>c.1.length) (fun _=>[]) (fun _=>[]) (fun c=>sob c.1 c.2) (fun c=>skipM c.1 c.2=skipM s line/\c.1.length<=100000/\0<=c.2/\c.2+c.1.length<=1000000) (s,line) ⟨by simp,by simp,rfl,rfl,hl,h0,h1⟩ ?_
 rintro⟨q,n⟩ s1 ⟨hq,hql,hn0,hn1⟩ g1 g2 g3 g4 g5
 simp only at hq hql hn0 hn1 g5;simp at g1;clear g2 g3 g4;unfold sob at g5 ⊢;cases q with
 |nil=>
  rw[skipM_stop (s:=[]) rfl n]at hq;rw[<-hq]
  (simp[*])<;>(repeat' (first|((first|refine sP _ ?_ ?_|refine gP _ ?_ ?_|refine sN _ ?_ ?_|refine gN _ ?_ ?_)<;>intro hc<;>(first|replace hc:=eqn hc|replace hc:=eqp hc)<;>simp[*])|((first|refine sM _ ?_ ?_|refine gM _ ?_ ?_|refine sB _ ?_ ?_|refine gB _ ?_ ?_)<;>intro hc<;>simp[*])))
 |cons b r=>
  have a1:=hasPrefix_x (b::r) [47,47] [];have a2:=cut_x (b::r) [10] [] (by omega);have a3:=indexByte_x [32,9,13] b.toNat [];rw[com_prefix]at a1;rw[cut_nl]at a2;rw[u8_nat]at a3;have hb:=blank_ix b;obtain⟨i,hi⟩:∃i,Lib.indexByte [32,9,13] b=i:=⟨_,rfl⟩
  rw[hi]at a3 hb;have w1:zra .i64 (n+1)=n+1:=zp (by omega) (by omega);have e10:((b.toNat:Int)=10)=(b=10):=by
   have:=u8_ne b 10;rw[decide_eq_decide]at this;exact propext this
  have e47:((b.toNat:Int)=47)=(b=47):=by
   have:=u8_ne b 47;rw[decide_eq_decide]at this;exact propext this
  by_cases hs:skips (b::r)=true
  ·rw[skipM_step hs n]at hq;have hlen:=skip1_len hs n;rw[skip1_cons]at hq hlen;rw[zyd]at hs;by_cases hc:b=47/\r.head? =some 47
   ·rw[decide_eq_true hc.1,decide_eq_true hc.2]at a1;have hne:¬b=10:=by rw[hc.1];decide
    have hnb:¬blank b=true:=by rw[hc.1];decide
    rw[if_neg hne,if_neg hnb,zwb]at hq hlen;have hle:((b::r).takeWhile (· !=10)).length<=(b::r).length:=(List.takeWhile_prefix _).length_le;generalize(b::r).takeWhile (· !=10)=tw at*;clear hi e10 e47 hc hne hnb hs hb w1
    try simp at a1
    generalize hqr:b::r=qr at*;have hne2:¬qr=[]:=by rw[<-hqr];simp
    clear hqr
    (simp[*])<;>(repeat' (first|((first|refine sP _ ?_ ?_|refine gP _ ?_ ?_|refine sN _ ?_ ?_|refine gN _ ?_ ?_)<;>intro hc<;>(first|replace hc:=eqn hc|replace hc:=eqp hc)<;>simp[*])|((first|refine sM _ ?_ ?_|refine gM _ ?_ ?_|refine sB _ ?_ ?_|refine gB _ ?_ ?_)<;>intro hc<;>simp[*])))
    simp only[yU]at hlen;exact⟨qr.drop tw.length,by rw[yU];omega,n,⟨rfl,rfl⟩,hq,by rw[yU];omega,hn0,by rw[yU];omega⟩
   ·have a1':(decide (b=47)&&decide (r.head? =some 47))=false:=by
     rw[Bool.eq_false_iff];intro h;simp at h;exact hc h
    rw[a1']at a1
    try simp at a1
    simp only[yd]at hql hn1;by_cases hn:b=10
    ·rw[if_pos hn]at hq hlen;clear hc hb hi e47 a2 a3 hs hlen;subst hn
     (simp[*])<;>(repeat' (first|((first|refine sP _ ?_ ?_|refine gP _ ?_ ?_|refine sN _ ?_ ?_|refine gN _ ?_ ?_)<;>intro hc<;>(first|replace hc:=eqn hc|replace hc:=eqp hc)<;>simp[*])|((first|refine sM _ ?_ ?_|refine gM _ ?_ ?_|refine sB _ ?_ ?_|refine gB _ ?_ ?_)<;>intro hc<;>simp[*])))
     exact⟨r,by omega,n+1,⟨rfl,rfl⟩,hq,by omega,by omega,by omega⟩
    ·rw[if_neg hn]at hq hlen;have hbl:blank b=true:=by
      rcases hs with h|h|h
      ·exact absurd h hn
      ·exact h
      ·exact absurd h hc
     rw[if_pos hbl]at hq hlen;have hi0:0<=i:=hb.2 hbl;clear hc hb hi e47 a2 hs hlen hbl
     try simp at a3
     (simp[*])<;>(repeat' (first|((first|refine sP _ ?_ ?_|refine gP _ ?_ ?_|refine sN _ ?_ ?_|refine gN _ ?_ ?_)<;>intro hc<;>(first|replace hc:=eqn hc|replace hc:=eqp hc)<;>simp[*])|((first|refine sM _ ?_ ?_|refine gM _ ?_ ?_|refine sB _ ?_ ?_|refine gB _ ?_ ?_)<;>intro hc<;>simp[*])))
     exact⟨r,by omega,n,⟨rfl,rfl⟩,hq,by omega,by omega,by omega⟩
  ·have hs':skips (b::r)=false:=by simpa using hs
   rw[skipM_stop hs' n]at hq;rw[zyd]at hs;simp only[not_or]at hs;obtain⟨k1,k2,k3⟩:=hs;have a1':(decide (b=47)&&decide (r.head? =some 47))=false:=by
    rw[Bool.eq_false_iff];intro h;simp at h;exact k3 h
   rw[a1']at a1;have hi0:¬0<=i:=fun h=>k2 (hb.1 h)
   have hi1:i<0:=by omega
   rw[<-hq];clear k3 hb hi e47 a2 a1' hq k2
   try simp at a1 a3
   (simp[*])<;>(repeat' (first|((first|refine sP _ ?_ ?_|refine gP _ ?_ ?_|refine sN _ ?_ ?_|refine gN _ ?_ ?_)<;>intro hc<;>(first|replace hc:=eqn hc|replace hc:=eqp hc)<;>simp[*])|((first|refine sM _ ?_ ?_|refine gM _ ?_ ?_|refine sB _ ?_ ?_|refine gB _ ?_ ?_)<;>intro hc<;>simp[*])))
theorem runM_nil:runM []=[]:=rfl
set_option maxHeartbeats 1000000 in
theorem next_spec(s:List UInt8)(line:Int)(hl:s.length<=100000)(hs:skips s=false):
  zk E 28 [.ptr 0 0 0] (sob s line)=some (.ret (.tup [zK (zYd s line).1,.bool (zYd s line).2]),sob (s.drop (zYd s line).1.text.length) line):=by
 refine zc rfl rfl rfl (by simp) ?_;have hrun:=run_spec s [];unfold sob;cases s with
 |nil=>
  rw[runM_nil]at hrun;have e:zYd [] line=(⟨3,[],line⟩,true):=rfl;rw[e]
  (simp[*,F28,zK])<;>(repeat' (first|((first|refine sP _ ?_ ?_|refine gP _ ?_ ?_|refine sN _ ?_ ?_|refine gN _ ?_ ?_)<;>intro hc<;>(first|replace hc:=eqn hc|replace hc:=eqp hc)<;>simp[*,F28,zK])|((first|refine sM _ ?_ ?_|refine gM _ ?_ ?_|refine sB _ ?_ ?_|refine gB _ ?_ ?_)<;>intro hc<;>simp[*,F28,zK])))
 |cons b r=>
  have hsg:=psign_spec (b::r) (by simp) (by omega);have hlet:=zKb b.toNat [];have hw:=word_spec (runM (b::r)) [];have hnm:=zId (runM (b::r)) [];have hne:¬b::r=[]:=by simp
  have h0:(b::r)[0]? =some b:=rfl;rw[nextM_cons];by_cases he:runM (b::r)=[]
  ·rw[if_pos he];rw[he]at hrun;have hle:=sign_len (b::r);clear hlet hw hnm he h0;generalize zsb (b::r)=g at*;generalize b::r=q at*;have hle':(g.length:Int)<=q.length:=by omega
   by_cases hg:g=[]
   ·subst hg
    (simp[*,F28,zK])<;>(repeat' (first|((first|refine sP _ ?_ ?_|refine gP _ ?_ ?_|refine sN _ ?_ ?_|refine gN _ ?_ ?_)<;>intro hc<;>(first|replace hc:=eqn hc|replace hc:=eqp hc)<;>simp[*,F28,zK])|((first|refine sM _ ?_ ?_|refine gM _ ?_ ?_|refine sB _ ?_ ?_|refine gB _ ?_ ?_)<;>intro hc<;>simp[*,F28,zK])))
   ·(simp[*,F28,zK])<;>(repeat' (first|((first|refine sP _ ?_ ?_|refine gP _ ?_ ?_|refine sN _ ?_ ?_|refine gN _ ?_ ?_)<;>intro hc<;>(first|replace hc:=eqn hc|replace hc:=eqp hc)<;>simp[*,F28,zK])|((first|refine sM _ ?_ ?_|refine gM _ ?_ ?_|refine sB _ ?_ ?_|refine gB _ ?_ ?_)<;>intro hc<;>simp[*,F28,zK])))
  ·rw[if_neg he];have hle:(runM (b::r)).length<=(b::r).length:=(List.takeWhile_prefix _).length_le;have hnum:¬zlb b.toNat=true->zk E 55 [.str (runM (b::r))] []=some (.ret (.bool (zud (runM (b::r)))),[]):=by
    intro hb;unfold runM at he hle ⊢;rw[yT]at he hle ⊢;by_cases hn:zq b=true
    ·rw[if_pos hn]at hle ⊢;have hd:znc b.toNat=true:=by
      simp only[zq,yF]at hn;rcases hn with h|h
      ·exact absurd h hb
      ·exact h
     have hd2:48<=b.toNat/\b.toNat<=57:=by
      simp[znc]at hd;omega
     exact pnumber_spec b _ (by omega) (by omega)
    ·rw[if_neg hn]at he;exact absurd rfl he
   clear hsg;generalize runM (b::r)=w at*;generalize b::r=q at*;have hle':(w.length:Int)<=q.length:=by omega
   unfold tokBad zBb;cases hwd:wordM w
   ·rw[hwd]at hw;cases hlb:zlb b.toNat
    ·have hnum:=hnum (by rw[hlb];decide);rw[hlb]at hlet
     (simp[*,F28,zK])<;>(repeat' (first|((first|refine sP _ ?_ ?_|refine gP _ ?_ ?_|refine sN _ ?_ ?_|refine gN _ ?_ ?_)<;>intro hc<;>(first|replace hc:=eqn hc|replace hc:=eqp hc)<;>simp[*,F28,zK])|((first|refine sM _ ?_ ?_|refine gM _ ?_ ?_|refine sB _ ?_ ?_|refine gB _ ?_ ?_)<;>intro hc<;>simp[*,F28,zK])))
    ·clear hnum;rw[hlb]at hlet
     (simp[*,F28,zK])<;>(repeat' (first|((first|refine sP _ ?_ ?_|refine gP _ ?_ ?_|refine sN _ ?_ ?_|refine gN _ ?_ ?_)<;>intro hc<;>(first|replace hc:=eqn hc|replace hc:=eqp hc)<;>simp[*,F28,zK])|((first|refine sM _ ?_ ?_|refine gM _ ?_ ?_|refine sB _ ?_ ?_|refine gB _ ?_ ?_)<;>intro hc<;>simp[*,F28,zK])))
   ·rw[hwd]at hw;clear hnum
    (simp[*,F28,zK])<;>(repeat' (first|((first|refine sP _ ?_ ?_|refine gP _ ?_ ?_|refine sN _ ?_ ?_|refine gN _ ?_ ?_)<;>intro hc<;>(first|replace hc:=eqn hc|replace hc:=eqp hc)<;>simp[*,F28,zK])|((first|refine sM _ ?_ ?_|refine gM _ ?_ ?_|refine sB _ ?_ ?_|refine gB _ ?_ ?_)<;>intro hc<;>simp[*,F28,zK])))
theorem skipM_facts:∀k (q:List UInt8) (n:Int),q.length<=k->skips (skipM q n).1=false/\(∀ac,tokL q n ac=tokL (skipM q n).1 (skipM q n).2 ac)/\(skipM q n).1.length<=q.length/\n<=(skipM q n).2/\(skipM q n).2+(skipM q n).1.length<=n+q.length:=by
 intro k
 induction k with
 |zero=>
  intro q n h;have:q=[]:=yy (by omega);subst this;rw[skipM_stop (s:=[]) rfl n];exact⟨rfl,fun _=>rfl,yh _,Int.le_refl _,Int.le_refl _⟩
 |succ k ih=>
  intro q n h;cases hs:skips q
  ·rw[skipM_stop hs n];exact⟨hs,fun _=>rfl,yh _,Int.le_refl _,Int.le_refl _⟩
  ·have hl:=skip1_len hs n;have hn:n<=(skip1 q n).2/\(skip1 q n).2<=n+1:=by
    cases q with
    |nil=>cases hs
    |cons b r=>
     rw[skip1_cons];split
     ·simp only;omega
     ·split<;>simp only<;>omega
   rw[skipM_step hs n];obtain⟨i1,i2,i3,i4,i5⟩:=ih (skip1 q n).1 (skip1 q n).2 (by omega);exact⟨i1,fun ac=>(skip1_tok hs n ac).trans (i2 ac),by omega,by omega,by omega⟩
theorem nextM_line(s:List UInt8)(n:Int):(zYd s n).1.line=n:=by
 unfold zYd;split
 ·rfl
 ·split<;>rfl
theorem nextM_pos{s:List UInt8}{n:Int}(h:(zYd s n).2=true)(h3:¬(zYd s n).1.kind=3):(s.drop (zYd s n).1.text.length).length<s.length:=by
 unfold zYd at h h3 ⊢;by_cases hs:s=[]
 ·rw[if_pos hs]at h3;exact absurd rfl h3
 ·rw[if_neg hs]at h ⊢;have hp:0<s.length:=List.length_pos_iff.2 hs;rw[yU];by_cases hr:runM s=[]
  ·rw[if_pos hr]at h ⊢;simp only[decide_eq_true_eq]at h;have:=List.length_pos_iff.2 h;simp only;omega
  ·rw[if_neg hr];have:=List.length_pos_iff.2 hr;simp only;omega
set_option maxHeartbeats 2000000 in
theorem ptokens_spec(s:List UInt8):zk E 17 [.str s] []=some (.ret (.tup (encTokR (zr s))),[]):=by
 refine zc rfl rfl rfl (by simp) ?_;by_cases hlong:100000<s.length
 ·have e:zr s=([],2,0):=by unfold zr;rw[if_pos hlong]
  have hlong':(100000:Int)<s.length:=by omega
  simp[F17,hlong',e,encTokR,toks]
 have e0:zr s=zZa (s.length+1) s 1 []:=by unfold zr;rw[if_neg hlong]
 have hlong':¬(100000:Int)<s.length:=by omega
 simp[F17,hlong',encTokR,toks];refine zmb K17_0 B17_0 (fun c:List UInt8×Int×List Tok=>c.1.length) (fun c=>[(2,acc 3 (c.2.2.map zK))]) (fun _=>[]) (fun c=>sob c.1 c.2.1) (fun c=>zr s=tokL c.1 c.2.1 c.2.2/\0<=c.2.1/\c.2.1+c.1.length<=200000/\c.2.2.length+c.1.length<=100000) (s,1,[]) ⟨by simp,by simp,rfl,e0,Int.le_of_lt Int.one_pos,by simp only;omega,by simp;omega⟩ ?_
 rintro⟨q,n,ac⟩ s1 ⟨hq,hn0,hn1,hac⟩ g1 g2 g3 g4 g5
 simp only at hq hn0 hn1 hac g5;simp at g1 g3;clear g2 g4 e0 hlong hlong';obtain⟨f1,f2,f3,f4,f5⟩:=skipM_facts _ q n (yh _);have a1:=skip_spec q n (by omega) hn0 (by omega);rw[f2 ac]at hq;obtain⟨⟨q',n'⟩,hqn⟩:∃c,skipM q n=c:=⟨_,rfl⟩
 rw[hqn]at f1 f3 f4 f5 a1 hq;clear hqn f2;simp only at f1 f3 f4 f5 a1 hq;have a2:=next_spec q' n' (by omega) f1;rw[next_tok f1 n' ac]at hq;have hline:=nextM_line q' n';have hpos:= @nextM_pos q' n';obtain⟨⟨t,ok⟩,htk⟩:∃c,zYd q' n'=c:=⟨_,rfl⟩
 rw[htk]at a2 hq hline hpos;clear htk f1;obtain⟨k,w,l⟩:=t;simp only at a2 hq hline hpos;subst hline;unfold sob at a1 a2 g5;cases ok
 ·rw[if_pos rfl]at hq;rw[hq];clear hpos hq
  (simp[*,zK])<;>(repeat' (first|((first|refine sP _ ?_ ?_|refine gP _ ?_ ?_|refine sN _ ?_ ?_|refine gN _ ?_ ?_)<;>intro hc<;>(first|replace hc:=eqn hc|replace hc:=eqp hc)<;>simp[*,zK])|((first|refine sM _ ?_ ?_|refine gM _ ?_ ?_|refine sB _ ?_ ?_|refine gB _ ?_ ?_)<;>intro hc<;>simp[*,zK])))
 ·rw[if_neg (by decide)]at hq;have q4:(ac.length+1)*32<=zU:=by simp only[zU];omega
  by_cases hk:k=3
  ·rw[if_pos hk]at hq;rw[hq];clear hpos hq;subst hk
   (simp[*,zK])<;>(repeat' (first|((first|refine sP _ ?_ ?_|refine gP _ ?_ ?_|refine sN _ ?_ ?_|refine gN _ ?_ ?_)<;>intro hc<;>(first|replace hc:=eqn hc|replace hc:=eqp hc)<;>simp[*,zK])|((first|refine sM _ ?_ ?_|refine gM _ ?_ ?_|refine sB _ ?_ ?_|refine gB _ ?_ ?_)<;>intro hc<;>simp[*,zK])))
  ·rw[if_neg hk]at hq;have hpos:=hpos rfl hk
   (simp[*,zK])<;>(repeat' (first|((first|refine sP _ ?_ ?_|refine gP _ ?_ ?_|refine sN _ ?_ ?_|refine gN _ ?_ ?_)<;>intro hc<;>(first|replace hc:=eqn hc|replace hc:=eqp hc)<;>simp[*,zK])|((first|refine sM _ ?_ ?_|refine gM _ ?_ ?_|refine sB _ ?_ ?_|refine gB _ ?_ ?_)<;>intro hc<;>simp[*,zK])))
   exact⟨q'.drop w.length,by omega,l,ac++[⟨k,w,l⟩],by simp[zK],rfl,rfl,by omega,by omega,by rw[ye,List.length_singleton];omega⟩
def idx{α:Type}(p:α->Bool)(l:List α):Int:=match l.findIdx? p with
 |some i=>(i:Int)
 |none=> -1
theorem idx_hit{α:Type}{p:α->Bool}{l d:List α}{x:α}{r:List α}(h:Split l d x r)(hd:∀y∈d,p y=false)(hx:p x=true):idx p l=d.length:=by
 have:l.findIdx? p=some d.length:=by
  rw[h.eq,List.findIdx?_append];have:d.findIdx? p=none:=by rw[yPa];exact hd
  rw[this];simp[List.findIdx?_cons,hx]
 simp[idx,this]
theorem idx_none{α:Type}{p:α->Bool}{l:List α}(hd:∀y∈l,p y=false):idx p l= -1:=by
 have:l.findIdx? p=none:=by rw[yPa];exact hd
 simp[idx,this]
theorem idx_ge{α:Type}(p:α->Bool)(l:List α):decide (0<=idx p l)=l.any p:=by
 unfold idx;cases h:l.findIdx? p with
 |none=>
  rw[yPa]at h;simp;exact h
 |some i=>
  have:(l.findIdx? p).isSome=true:=by rw[h];rfl
  rw[List.findIdx?_isSome]at this;simp[this]
theorem indexFuncFunc(l:List (Func))(p:Func->Bool)(k:Nat)(first caps:List PV)(σ:ze)(hl:l.length<1099511627776)(hf:∀x∈l,zk E k (first++[zQ x]++caps) σ=some (.ret (.bool (p x)),σ)):
  zk E 63 [.slice .plain 4 (l.map (zQ)),.fn k first caps] σ=some (.ret (.int .i64 (idx p l)),σ):=by
 refine zc rfl rfl rfl (by simp) ?_;simp[F63];refine zsa l K63_0 B63_0 (fun d=>[(8,.int .i64 d.length)]) (fun _=>σ) (fun d=>∀y∈d,p y=false) (by omega) (by simp) ?_ ?_
 ·intros d x r s hl' hlt hget hget' hw hp h1 h2 h3 h4;have hfx:=hf x hl'.mem;simp[zQ]at h1 h3 hfx;clear h2 hf;cases hx:p x
  ·(simp[*,zQ])<;>(repeat' ((first|refine sP _ ?_ ?_|refine gP _ ?_ ?_|refine sN _ ?_ ?_|refine gN _ ?_ ?_|refine sM _ ?_ ?_|refine gM _ ?_ ?_|refine sB _ ?_ ?_|refine gB _ ?_ ?_)<;>intro hc<;>simp[*,zQ]))
   all_goals grind
  ·have:=idx_hit hl' hp hx
   (simp[*,zQ])<;>(repeat' ((first|refine sP _ ?_ ?_|refine gP _ ?_ ?_|refine sN _ ?_ ?_|refine gN _ ?_ ?_|refine sM _ ?_ ?_|refine gM _ ?_ ?_|refine sB _ ?_ ?_|refine gB _ ?_ ?_)<;>intro hc<;>simp[*,zQ]))
 ·intros s hp h1 h2 h3 h4;have:=idx_none hp;simp at h1 h3
  (simp[*,zQ])<;>(repeat' ((first|refine sP _ ?_ ?_|refine gP _ ?_ ?_|refine sN _ ?_ ?_|refine gN _ ?_ ?_|refine sM _ ?_ ?_|refine gM _ ?_ ?_|refine sB _ ?_ ?_|refine gB _ ?_ ?_)<;>intro hc<;>simp[*,zQ]))
theorem containsFuncFunc(l:List (Func))(p:Func->Bool)(k:Nat)(first caps:List PV)(σ:ze)(hl:l.length<1099511627776)(hc:(first.map stripA)=first/\(caps.map stripA)=caps)(hf:∀x∈l,zk E k (first++[zQ x]++caps) σ=some (.ret (.bool (p x)),σ)):
  zk E 38 [.slice .plain 4 (l.map (zQ)),.fn k first caps] σ=some (.ret (.bool (l.any p)),σ):=by
 refine zc rfl rfl rfl (by simp) ?_;have h:=indexFuncFunc l p k first caps σ hl hf;have h2:=idx_ge p l;clear hf
 (simp[*,F38])<;>(repeat' ((first|refine sP _ ?_ ?_|refine gP _ ?_ ?_|refine sN _ ?_ ?_|refine gN _ ?_ ?_|refine sM _ ?_ ?_|refine gM _ ?_ ?_|refine sB _ ?_ ?_|refine gB _ ?_ ?_)<;>intro hc<;>simp[*,F38]))
theorem indexFuncPArr(l:List (PArr))(p:PArr->Bool)(k:Nat)(first caps:List PV)(σ:ze)(hl:l.length<1099511627776)(hf:∀x∈l,zk E k (first++[zxa x]++caps) σ=some (.ret (.bool (p x)),σ)):
  zk E 62 [.slice .plain 2 (l.map (zxa)),.fn k first caps] σ=some (.ret (.int .i64 (idx p l)),σ):=by
 refine zc rfl rfl rfl (by simp) ?_;simp[F62];refine zsa l K62_0 B62_0 (fun d=>[(8,.int .i64 d.length)]) (fun _=>σ) (fun d=>∀y∈d,p y=false) (by omega) (by simp) ?_ ?_
 ·intros d x r s hl' hlt hget hget' hw hp h1 h2 h3 h4;have hfx:=hf x hl'.mem;simp[zxa]at h1 h3 hfx;clear h2 hf;cases hx:p x
  ·(simp[*,zxa])<;>(repeat' ((first|refine sP _ ?_ ?_|refine gP _ ?_ ?_|refine sN _ ?_ ?_|refine gN _ ?_ ?_|refine sM _ ?_ ?_|refine gM _ ?_ ?_|refine sB _ ?_ ?_|refine gB _ ?_ ?_)<;>intro hc<;>simp[*,zxa]))
   all_goals grind
  ·have:=idx_hit hl' hp hx
   (simp[*,zxa])<;>(repeat' ((first|refine sP _ ?_ ?_|refine gP _ ?_ ?_|refine sN _ ?_ ?_|refine gN _ ?_ ?_|refine sM _ ?_ ?_|refine gM _ ?_ ?_|refine sB _ ?_ ?_|refine gB _ ?_ ?_)<;>intro hc<;>simp[*,zxa]))
 ·intros s hp h1 h2 h3 h4;have:=idx_none hp;simp at h1 h3
  (simp[*,zxa])<;>(repeat' ((first|refine sP _ ?_ ?_|refine gP _ ?_ ?_|refine sN _ ?_ ?_|refine gN _ ?_ ?_|refine sM _ ?_ ?_|refine gM _ ?_ ?_|refine sB _ ?_ ?_|refine gB _ ?_ ?_)<;>intro hc<;>simp[*,zxa]))
theorem containsFuncPArr(l:List (PArr))(p:PArr->Bool)(k:Nat)(first caps:List PV)(σ:ze)(hl:l.length<1099511627776)(hc:(first.map stripA)=first/\(caps.map stripA)=caps)(hf:∀x∈l,zk E k (first++[zxa x]++caps) σ=some (.ret (.bool (p x)),σ)):
  zk E 37 [.slice .plain 2 (l.map (zxa)),.fn k first caps] σ=some (.ret (.bool (l.any p)),σ):=by
 refine zc rfl rfl rfl (by simp) ?_;have h:=indexFuncPArr l p k first caps σ hl hf;have h2:=idx_ge p l;clear hf
 (simp[*,F37])<;>(repeat' ((first|refine sP _ ?_ ?_|refine gP _ ?_ ?_|refine sN _ ?_ ?_|refine gN _ ?_ ?_|refine sM _ ?_ ?_|refine gM _ ?_ ?_|refine sB _ ?_ ?_|refine gB _ ?_ ?_)<;>intro hc<;>simp[*,F37]))
theorem indexFuncExpr(l:List (Expr))(p:Expr->Bool)(k:Nat)(first caps:List PV)(σ:ze)(hl:l.length<1099511627776)(hf:∀x∈l,zk E k (first++[zA x]++caps) σ=some (.ret (.bool (p x)),σ)):
  zk E 131 [.slice .plain 5 (l.map (zA)),.fn k first caps] σ=some (.ret (.int .i64 (idx p l)),σ):=by
 refine zc rfl rfl rfl (by simp) ?_;simp[F131];refine zsa l K131_0 B131_0 (fun d=>[(8,.int .i64 d.length)]) (fun _=>σ) (fun d=>∀y∈d,p y=false) (by omega) (by simp) ?_ ?_
 ·intros d x r s hl' hlt hget hget' hw hp h1 h2 h3 h4;have hfx:=hf x hl'.mem;simp[za]at h1 h3 hfx;clear h2 hf;cases hx:p x
  ·(simp[*,za])<;>(repeat' ((first|refine sP _ ?_ ?_|refine gP _ ?_ ?_|refine sN _ ?_ ?_|refine gN _ ?_ ?_|refine sM _ ?_ ?_|refine gM _ ?_ ?_|refine sB _ ?_ ?_|refine gB _ ?_ ?_)<;>intro hc<;>simp[*,za]))
   all_goals grind
  ·have:=idx_hit hl' hp hx
   (simp[*,za])<;>(repeat' ((first|refine sP _ ?_ ?_|refine gP _ ?_ ?_|refine sN _ ?_ ?_|refine gN _ ?_ ?_|refine sM _ ?_ ?_|refine gM _ ?_ ?_|refine sB _ ?_ ?_|refine gB _ ?_ ?_)<;>intro hc<;>simp[*,za]))
 ·intros s hp h1 h2 h3 h4;have:=idx_none hp;simp at h1 h3
  (simp[*,za])<;>(repeat' ((first|refine sP _ ?_ ?_|refine gP _ ?_ ?_|refine sN _ ?_ ?_|refine gN _ ?_ ?_|refine sM _ ?_ ?_|refine gM _ ?_ ?_|refine sB _ ?_ ?_|refine gB _ ?_ ?_)<;>intro hc<;>simp[*,za]))
theorem containsFuncExpr(l:List (Expr))(p:Expr->Bool)(k:Nat)(first caps:List PV)(σ:ze)(hl:l.length<1099511627776)(hc:(first.map stripA)=first/\(caps.map stripA)=caps)(hf:∀x∈l,zk E k (first++[zA x]++caps) σ=some (.ret (.bool (p x)),σ)):
  zk E 116 [.slice .plain 5 (l.map (zA)),.fn k first caps] σ=some (.ret (.bool (l.any p)),σ):=by
 refine zc rfl rfl rfl (by simp) ?_;have h:=indexFuncExpr l p k first caps σ hl hf;have h2:=idx_ge p l;clear hf
 (simp[*,F116])<;>(repeat' ((first|refine sP _ ?_ ?_|refine gP _ ?_ ?_|refine sN _ ?_ ?_|refine gN _ ?_ ?_|refine sM _ ?_ ?_|refine gM _ ?_ ?_|refine sB _ ?_ ?_|refine gB _ ?_ ?_)<;>intro hc<;>simp[*,F116]))
theorem indexFuncStmt(l:List (Stmt))(p:Stmt->Bool)(k:Nat)(first caps:List PV)(σ:ze)(hl:l.length<1099511627776)(hf:∀x∈l,zk E k (first++[zDa x]++caps) σ=some (.ret (.bool (p x)),σ)):
  zk E 114 [.slice .plain 6 (l.map (zDa)),.fn k first caps] σ=some (.ret (.int .i64 (idx p l)),σ):=by
 refine zc rfl rfl rfl (by simp) ?_;simp[F114];refine zsa l K114_0 B114_0 (fun d=>[(8,.int .i64 d.length)]) (fun _=>σ) (fun d=>∀y∈d,p y=false) (by omega) (by simp) ?_ ?_
 ·intros d x r s hl' hlt hget hget' hw hp h1 h2 h3 h4;have hfx:=hf x hl'.mem;simp[zb]at h1 h3 hfx;clear h2 hf;cases hx:p x
  ·(simp[*,zb])<;>(repeat' ((first|refine sP _ ?_ ?_|refine gP _ ?_ ?_|refine sN _ ?_ ?_|refine gN _ ?_ ?_|refine sM _ ?_ ?_|refine gM _ ?_ ?_|refine sB _ ?_ ?_|refine gB _ ?_ ?_)<;>intro hc<;>simp[*,zb]))
   all_goals grind
  ·have:=idx_hit hl' hp hx
   (simp[*,zb])<;>(repeat' ((first|refine sP _ ?_ ?_|refine gP _ ?_ ?_|refine sN _ ?_ ?_|refine gN _ ?_ ?_|refine sM _ ?_ ?_|refine gM _ ?_ ?_|refine sB _ ?_ ?_|refine gB _ ?_ ?_)<;>intro hc<;>simp[*,zb]))
 ·intros s hp h1 h2 h3 h4;have:=idx_none hp;simp at h1 h3
  (simp[*,zb])<;>(repeat' ((first|refine sP _ ?_ ?_|refine gP _ ?_ ?_|refine sN _ ?_ ?_|refine gN _ ?_ ?_|refine sM _ ?_ ?_|refine gM _ ?_ ?_|refine sB _ ?_ ?_|refine gB _ ?_ ?_)<;>intro hc<;>simp[*,zb]))
theorem containsFuncStmt(l:List (Stmt))(p:Stmt->Bool)(k:Nat)(first caps:List PV)(σ:ze)(hl:l.length<1099511627776)(hc:(first.map stripA)=first/\(caps.map stripA)=caps)(hf:∀x∈l,zk E k (first++[zDa x]++caps) σ=some (.ret (.bool (p x)),σ)):
  zk E 95 [.slice .plain 6 (l.map (zDa)),.fn k first caps] σ=some (.ret (.bool (l.any p)),σ):=by
 refine zc rfl rfl rfl (by simp) ?_;have h:=indexFuncStmt l p k first caps σ hl hf;have h2:=idx_ge p l;clear hf
 (simp[*,F95])<;>(repeat' ((first|refine sP _ ?_ ?_|refine gP _ ?_ ?_|refine sN _ ?_ ?_|refine gN _ ?_ ?_|refine sM _ ?_ ?_|refine gM _ ?_ ?_|refine sB _ ?_ ?_|refine gB _ ?_ ?_)<;>intro hc<;>simp[*,F95]))
theorem indexFuncPar(l:List (Par))(p:Par->Bool)(k:Nat)(first caps:List PV)(σ:ze)(hl:l.length<1099511627776)(hf:∀x∈l,zk E k (first++[encPar x]++caps) σ=some (.ret (.bool (p x)),σ)):
  zk E 94 [.slice .plain 2 (l.map (encPar)),.fn k first caps] σ=some (.ret (.int .i64 (idx p l)),σ):=by
 refine zc rfl rfl rfl (by simp) ?_;simp[F94];refine zsa l K94_0 B94_0 (fun d=>[(8,.int .i64 d.length)]) (fun _=>σ) (fun d=>∀y∈d,p y=false) (by omega) (by simp) ?_ ?_
 ·intros d x r s hl' hlt hget hget' hw hp h1 h2 h3 h4;have hfx:=hf x hl'.mem;simp[encPar]at h1 h3 hfx;clear h2 hf;cases hx:p x
  ·(simp[*,encPar])<;>(repeat' ((first|refine sP _ ?_ ?_|refine gP _ ?_ ?_|refine sN _ ?_ ?_|refine gN _ ?_ ?_|refine sM _ ?_ ?_|refine gM _ ?_ ?_|refine sB _ ?_ ?_|refine gB _ ?_ ?_)<;>intro hc<;>simp[*,encPar]))
   all_goals grind
  ·have:=idx_hit hl' hp hx
   (simp[*,encPar])<;>(repeat' ((first|refine sP _ ?_ ?_|refine gP _ ?_ ?_|refine sN _ ?_ ?_|refine gN _ ?_ ?_|refine sM _ ?_ ?_|refine gM _ ?_ ?_|refine sB _ ?_ ?_|refine gB _ ?_ ?_)<;>intro hc<;>simp[*,encPar]))
 ·intros s hp h1 h2 h3 h4;have:=idx_none hp;simp at h1 h3
  (simp[*,encPar])<;>(repeat' ((first|refine sP _ ?_ ?_|refine gP _ ?_ ?_|refine sN _ ?_ ?_|refine gN _ ?_ ?_|refine sM _ ?_ ?_|refine gM _ ?_ ?_|refine sB _ ?_ ?_|refine gB _ ?_ ?_)<;>intro hc<;>simp[*,encPar]))
theorem containsFuncPar(l:List (Par))(p:Par->Bool)(k:Nat)(first caps:List PV)(σ:ze)(hl:l.length<1099511627776)(hc:(first.map stripA)=first/\(caps.map stripA)=caps)(hf:∀x∈l,zk E k (first++[encPar x]++caps) σ=some (.ret (.bool (p x)),σ)):
  zk E 66 [.slice .plain 2 (l.map (encPar)),.fn k first caps] σ=some (.ret (.bool (l.any p)),σ):=by
 refine zc rfl rfl rfl (by simp) ?_;have h:=indexFuncPar l p k first caps σ hl hf;have h2:=idx_ge p l;clear hf
 (simp[*,F66])<;>(repeat' ((first|refine sP _ ?_ ?_|refine gP _ ?_ ?_|refine sN _ ?_ ?_|refine gN _ ?_ ?_|refine sM _ ?_ ?_|refine gM _ ?_ ?_|refine sB _ ?_ ?_|refine gB _ ?_ ?_)<;>intro hc<;>simp[*,F66]))
theorem tblank_spec(k o n:Int)(s:List UInt8)(a:List Expr):zk E 147 [.agg [.int .i64 k,.int .i64 o,.int .i64 n,.str s,zd a]] []=some (.ret (.bool (decide (o=0)&&(decide (n=0)&&(decide (s=[])&&decide (a=[]))))),[]):=by
 refine zc rfl rfl rfl (by simp) ?_;have hl:((a.length:Int)=0)=(a=[]):=by simp
 (simp[*,F147,zd])<;>(repeat' ((first|refine sP _ ?_ ?_|refine gP _ ?_ ?_|refine sN _ ?_ ?_|refine gN _ ?_ ?_|refine sM _ ?_ ?_|refine gM _ ?_ ?_|refine sB _ ?_ ?_|refine gB _ ?_ ?_)<;>intro hc<;>simp[*,F147,zd]))
def ownT(k o n:Int)(s:List UInt8)(a:Nat):Int×Bool:=
 if k=1 then(0,decide (0<=n)&&(decide (o=0)&&decide (s=[])))
 else if k=2 then(0,(decide (n=0)||decide (n=1))&&(decide (o=0)&&decide (s=[])))
 else if k=4 then(1,oneR o&&(decide (n=0)&&decide (s=[])))
 else if k=5 then(2,decide (0<zI o)&&(decide (n=0)&&decide (s=[])))
 else if k=8 then(0,decide (o=0)&&(decide (n=0)&&decide (s=[])))
 else if k=3 then(0,zXa s&&(decide (o=0)&&decide (n=0)))
 else if k=6 then(1,zXa s&&(decide (o=0)&&decide (n=0)))
 else if k=7 then(a,(zXa s&&(decide (o=0)&&decide (n=0)))&&decide (a<=8))
 else(0,false)
set_option maxHeartbeats 4000000 in
theorem town_spec(e:Expr):zk E 132 [zA e] []=some (.ret (.tup [.int .i64 (ownT e.kind e.op e.n e.name e.args.length).1,.bool (ownT e.kind e.op e.n e.name e.args.length).2]),[]):=by
 obtain⟨k,o,n,s,a⟩:=e;have hn:=zId s [];have hlv:=level_spec o [];rw[lvl_eq]at hlv;have hb:∀k o n s,zk E 147 [.agg [.int .i64 k,.int .i64 o,.int .i64 n,.str s,.slice .plain 5 []]] []=some (.ret (.bool (decide (o=0)&&(decide (n=0)&&decide (s=[])))),[]):=by
  intro k o n s;have:=tblank_spec k o n s [];simpa[zd]using this
 refine zc rfl rfl rfl (by simp[za]) ?_;simp only;unfold ownT;by_cases k1:k=1
 ·replace k1:=eqp k1
  (simp[*,F132,za,zd])<;>(repeat' (first|((first|refine sP _ ?_ ?_|refine gP _ ?_ ?_|refine sN _ ?_ ?_|refine gN _ ?_ ?_)<;>intro hc<;>(first|replace hc:=eqn hc|replace hc:=eqp hc)<;>simp[*,F132,za,zd])|((first|refine sM _ ?_ ?_|refine gM _ ?_ ?_|refine sB _ ?_ ?_|refine gB _ ?_ ?_)<;>intro hc<;>simp[*,F132,za,zd])))
 replace k1:=eqn k1;by_cases k2:k=2
 ·replace k2:=eqp k2
  (simp[*,F132,za,zd])<;>(repeat' (first|((first|refine sP _ ?_ ?_|refine gP _ ?_ ?_|refine sN _ ?_ ?_|refine gN _ ?_ ?_)<;>intro hc<;>(first|replace hc:=eqn hc|replace hc:=eqp hc)<;>simp[*,F132,za,zd])|((first|refine sM _ ?_ ?_|refine gM _ ?_ ?_|refine sB _ ?_ ?_|refine gB _ ?_ ?_)<;>intro hc<;>simp[*,F132,za,zd])))
 replace k2:=eqn k2;by_cases k4:k=4
 ·replace k4:=eqp k4
  (simp[*,F132,za,zd,oneR])<;>(repeat' (first|((first|refine sP _ ?_ ?_|refine gP _ ?_ ?_|refine sN _ ?_ ?_|refine gN _ ?_ ?_)<;>intro hc<;>(first|replace hc:=eqn hc|replace hc:=eqp hc)<;>simp[*,F132,za,zd,oneR])|((first|refine sM _ ?_ ?_|refine gM _ ?_ ?_|refine sB _ ?_ ?_|refine gB _ ?_ ?_)<;>intro hc<;>simp[*,F132,za,zd,oneR])))
 replace k4:=eqn k4;by_cases k5:k=5
 ·replace k5:=eqp k5
  (simp[*,F132,za,zd])<;>(repeat' (first|((first|refine sP _ ?_ ?_|refine gP _ ?_ ?_|refine sN _ ?_ ?_|refine gN _ ?_ ?_)<;>intro hc<;>(first|replace hc:=eqn hc|replace hc:=eqp hc)<;>simp[*,F132,za,zd])|((first|refine sM _ ?_ ?_|refine gM _ ?_ ?_|refine sB _ ?_ ?_|refine gB _ ?_ ?_)<;>intro hc<;>simp[*,F132,za,zd])))
 replace k5:=eqn k5;by_cases k8:k=8
 ·replace k8:=eqp k8
  (simp[*,F132,za,zd])<;>(repeat' (first|((first|refine sP _ ?_ ?_|refine gP _ ?_ ?_|refine sN _ ?_ ?_|refine gN _ ?_ ?_)<;>intro hc<;>(first|replace hc:=eqn hc|replace hc:=eqp hc)<;>simp[*,F132,za,zd])|((first|refine sM _ ?_ ?_|refine gM _ ?_ ?_|refine sB _ ?_ ?_|refine gB _ ?_ ?_)<;>intro hc<;>simp[*,F132,za,zd])))
 replace k8:=eqn k8;by_cases k3:k=3
 ·replace k3:=eqp k3
  (simp[*,F132,za,zd])<;>(repeat' (first|((first|refine sP _ ?_ ?_|refine gP _ ?_ ?_|refine sN _ ?_ ?_|refine gN _ ?_ ?_)<;>intro hc<;>(first|replace hc:=eqn hc|replace hc:=eqp hc)<;>simp[*,F132,za,zd])|((first|refine sM _ ?_ ?_|refine gM _ ?_ ?_|refine sB _ ?_ ?_|refine gB _ ?_ ?_)<;>intro hc<;>simp[*,F132,za,zd])))
 replace k3:=eqn k3;by_cases k6:k=6
 ·replace k6:=eqp k6
  (simp[*,F132,za,zd])<;>(repeat' (first|((first|refine sP _ ?_ ?_|refine gP _ ?_ ?_|refine sN _ ?_ ?_|refine gN _ ?_ ?_)<;>intro hc<;>(first|replace hc:=eqn hc|replace hc:=eqp hc)<;>simp[*,F132,za,zd])|((first|refine sM _ ?_ ?_|refine gM _ ?_ ?_|refine sB _ ?_ ?_|refine gB _ ?_ ?_)<;>intro hc<;>simp[*,F132,za,zd])))
 replace k6:=eqn k6;by_cases k7:k=7
 ·replace k7:=eqp k7
  (simp[*,F132,za,zd])<;>(repeat' (first|((first|refine sP _ ?_ ?_|refine gP _ ?_ ?_|refine sN _ ?_ ?_|refine gN _ ?_ ?_)<;>intro hc<;>(first|replace hc:=eqn hc|replace hc:=eqp hc)<;>simp[*,F132,za,zd])|((first|refine sM _ ?_ ?_|refine gM _ ?_ ?_|refine sB _ ?_ ?_|refine gB _ ?_ ?_)<;>intro hc<;>simp[*,F132,za,zd])))
  all_goals(try omega)
 replace k7:=eqn k7
 (simp[*,F132,za,zd])<;>(repeat' (first|((first|refine sP _ ?_ ?_|refine gP _ ?_ ?_|refine sN _ ?_ ?_|refine gN _ ?_ ?_)<;>intro hc<;>(first|replace hc:=eqn hc|replace hc:=eqp hc)<;>simp[*,F132,za,zd])|((first|refine sM _ ?_ ?_|refine gM _ ?_ ?_|refine sB _ ?_ ?_|refine gB _ ?_ ?_)<;>intro hc<;>simp[*,F132,za,zd])))
theorem own_kind(k o n:Int)(s:List UInt8)(a:Nat):((ownT k o n s a).2&&decide ((a:Int)=(ownT k o n s a).1))=kindR k o n s a:=by
 rw[Bool.eq_iff_iff];unfold ownT kindR;by_cases k1:k=1
 ·subst k1;simp;grind
 by_cases k2:k=2
 ·subst k2;simp;grind
 by_cases k4:k=4
 ·subst k4;simp;grind
 by_cases k5:k=5
 ·subst k5;simp;grind
 by_cases k8:k=8
 ·subst k8;simp;grind
 by_cases k3:k=3
 ·subst k3;simp;grind
 by_cases k6:k=6
 ·subst k6;simp;grind
 by_cases k7:k=7
 ·subst k7;simp;grind
 simp[*]
theorem exprsR_all(l:List Expr)(m:Int):zdc l m=l.all fun x=>decide (2<=m)&&zCc x (m-1):=by
 induction l with
 |nil=>rfl
 |cons x r ih=>simp[zdc,ih]
set_option maxHeartbeats 4000000 in
theorem texpr_spec':∀w (e:Expr) (m:Int),wtE e<=w->w<1099511000000->m<=1000000->zk E 118 [zA e,.int .i64 m] []=some (.ret (.bool (decide (0<m)&&zCc e m)),[])
 |0,e,m,h,_,_=>by rw[wtE_eq]at h;omega
 |w+1,e,m,h,hw,hm=>by
  refine zc rfl rfl rfl (by simp[za]) ?_;have hlen:=len_wtEs e.args;rw[wtE_eq]at h;have ho:=town_spec e;have hk:=own_kind e.kind e.op e.n e.name e.args.length;have hR:=exprR_eq e m;rw[<-hk]at hR;generalize ownT e.kind e.op e.n e.name e.args.length=q at*;obtain⟨n,ok⟩:=q;simp only at ho hk hR;clear hk;by_cases h0:0<m
  ·have hcl:∀x∈e.args,zk E 133 ([]++[zA x]++[.iptr [.int .i64 m] 0]) []=some (.ret (.bool (!(decide (0<m-1)&&zCc x (m-1)))),[]):=by
    intro x hx;have hwx:=wtE_mem hx;have ih:=texpr_spec' w x (m-1) (by omega) (by omega) (by omega);have hwm:zra .i64 (m-1)=m-1:=zp (by omega) (by omega);refine zc rfl rfl rfl (by simp[za]) ?_;rw[za]at ih;clear hR ho h hlen hwx hx;simp[zd]at ih
    (simp[*,F133,za,zd])<;>(repeat' ((first|refine sP _ ?_ ?_|refine gP _ ?_ ?_|refine sN _ ?_ ?_|refine gN _ ?_ ?_|refine sM _ ?_ ?_|refine gM _ ?_ ?_|refine sB _ ?_ ?_|refine gB _ ?_ ?_)<;>intro hc<;>simp[*,F133,za,zd]))
   have hc:=containsFuncExpr e.args (fun x=> !(decide (0<m-1)&&zCc x (m-1))) 133 [] [.iptr [.int .i64 m] 0] [] (by omega) (by simp) hcl;have hany:(!(e.args.any fun x=> !(decide (0<m-1)&&zCc x (m-1))))=zdc e.args m:=by
    have h2:decide (0<m-1)=decide (2<=m):=by rw[decide_eq_decide];omega
    rw[exprsR_all,List.not_any_eq_all_not,h2];simp
   generalize(e.args.any fun x=> !(decide (0<m-1)&&zCc x (m-1)))=b at*;rw[<-hany]at hR;clear hcl h hlen hany;rw[za]at ho;simp[zd]at ho hc;generalize hal:e.args.length=al at*
   (simp[*,F118,za,zd])<;>(repeat' (first|((first|refine sP _ ?_ ?_|refine gP _ ?_ ?_|refine sN _ ?_ ?_|refine gN _ ?_ ?_)<;>intro hc<;>(first|replace hc:=eqn hc|replace hc:=eqp hc)<;>simp[*,F118,za,zd])|((first|refine sM _ ?_ ?_|refine gM _ ?_ ?_|refine sB _ ?_ ?_|refine gB _ ?_ ?_)<;>intro hc<;>simp[*,F118,za,zd])))
  ·clear hlen h;rw[za]at ho;simp[zd]at ho
   (simp[*,F118,za,zd])<;>(repeat' (first|((first|refine sP _ ?_ ?_|refine gP _ ?_ ?_|refine sN _ ?_ ?_|refine gN _ ?_ ?_)<;>intro hc<;>(first|replace hc:=eqn hc|replace hc:=eqp hc)<;>simp[*,F118,za,zd])|((first|refine sM _ ?_ ?_|refine gM _ ?_ ?_|refine sB _ ?_ ?_|refine gB _ ?_ ?_)<;>intro hc<;>simp[*,F118,za,zd])))
theorem texpr_spec(e:Expr)(m:Int)(h:wtE e<1099510000000)(hm:m<=1000000):zk E 118 [zA e,.int .i64 m] []=some (.ret (.bool (decide (0<m)&&zCc e m)),[]):=texpr_spec' (wtE e) e m (yh _) (by omega) hm
def zFb(t n:Bool)(a:Int)(th o:Bool):PV:= .agg [.bool t,.bool n,.int .i64 a,.bool th,.bool o]
def shapesL:List (PV×PV):=[(.int .i64 1,zFb true true 1 false false),(.int .i64 2,zFb false true 1 false false),(.int .i64 3,zFb false true 2 false false),(.int .i64 4,zFb false false 1 true true),(.int .i64 5,zFb false false 1 true false),
 (.int .i64 6,zFb false false 0 false false),(.int .i64 7,zFb false false 0 false false),(.int .i64 8,zFb false false 1 false false),(.int .i64 9,zFb false false 1 false false),(.int .i64 10,zFb false false 1 false false)]
set_option maxHeartbeats 1000000 in
theorem shapes_spec(σ:ze):zk E 115 [] σ=some (.ret (.mp σ.length),σ++[.mp shapesL]):=by
 refine zc rfl rfl rfl (by simp) ?_;simp[F115,shapesL,zFb]
theorem shapes_find(k:Int):zqb false (.int .i64 k) shapesL=some (if 1<=k/\k<=10 then some (zFb (zna k).1 (zna k).2.1 (zna k).2.2.1 (zna k).2.2.2.1 (zna k).2.2.2.2)else none):=by
 by_cases h:1<=k/\k<=10
 ·have:k=1\/k=2\/k=3\/k=4\/k=5\/k=6\/k=7\/k=8\/k=9\/k=10:=by omega
  rcases this with h|h|h|h|h|h|h|h|h|h<;>subst h<;>simp[shapesL,zna,zFb]
 ·have h1:¬k=1:=by omega
  have h2:¬k=2:=by omega
  have h3:¬k=3:=by omega
  have h4:¬k=4:=by omega
  have h5:¬k=5:=by omega
  have h6:¬k=6:=by omega
  have h7:¬k=7:=by omega
  have h8:¬k=8:=by omega
  have h9:¬k=9:=by omega
  have h10:¬k=10:=by omega
  rw[if_neg h];simp[shapesL, *]
theorem tisType_spec(t:Int)(σ:ze):zk E 65 [.int .i64 t] σ=some (.ret (.bool (decide (t=1)||decide (t=2))),σ):=by
 refine zc rfl rfl rfl (by simp) ?_
 (simp[*,F65])<;>(repeat' ((first|refine sP _ ?_ ?_|refine gP _ ?_ ?_|refine sN _ ?_ ?_|refine gN _ ?_ ?_|refine sM _ ?_ ?_|refine gM _ ?_ ?_|refine sB _ ?_ ?_|refine gB _ ?_ ?_)<;>intro hc<;>simp[*,F65]))
theorem argsR_all(l:List Expr)(st:ze)(h:wtEs l<1099509000000):zk E 116 [zd l,.fn 117 [] []] st=some (.ret (.bool (!argsR l)),st):=by
 have hlen:=len_wtEs l;have hcl:∀x∈l,zk E 117 ([]++[zA x]++[]) st=some (.ret (.bool (!zCc x 100)),st):=by
  intro x hx;have hwx:=wtE_mem hx;have ih:=texpr_spec x 100 (by omega) (by omega);rw[za]at ih;refine zc rfl rfl rfl (by simp[za]) ?_;simp[zd]at ih
  (simp[*,F117,za,zd])<;>(repeat' ((first|refine sP _ ?_ ?_|refine gP _ ?_ ?_|refine sN _ ?_ ?_|refine gN _ ?_ ?_|refine sM _ ?_ ?_|refine gM _ ?_ ?_|refine sB _ ?_ ?_|refine gB _ ?_ ?_)<;>intro hc<;>simp[*,F117,za,zd]))
 have hc:=containsFuncExpr l (fun x=> !zCc x 100) 117 [] [] st (by omega) (by simp) hcl;have:(l.any fun x=> !zCc x 100)= !argsR l:=by
  unfold argsR;rw[yIa]
 rw[this]at hc;exact hc
set_option maxHeartbeats 16000000 in
theorem tstmt_of(s:Stmt)(m:Int)(hm:m<=1000000)(hw:wtS s<1099509000000)
  (h1:∀m',m'<=1000000->zk E 67 [zl s.thn,.int .i64 m'] []=some (.ret (.bool (zoa s.thn m')),[]))
  (h2:∀m',m'<=1000000->zk E 67 [zl s.els,.int .i64 m'] []=some (.ret (.bool (zoa s.els m')),[])):
  zk E 97 [zDa s,.int .i64 m] []=some (.ret (.bool (zTc s m)),[]):=by
 refine zc rfl rfl rfl (by simp[zb]) ?_;have hs:=shapes_spec [];have hf:=shapes_find s.kind;have ht:=tisType_spec s.type;have hn:=zId s.name;have ha:=argsR_all s.args [.mp shapesL] (by rw[wtS_eq]at hw;omega);rw[wtS_eq]at hw;have hla:=len_wtEs s.args;have hlt:=len_wtSs s.thn;have hle:=len_wtSs s.els;rw[stmtR_eq];unfold headR;have hk:(1<=s.kind/\s.kind<=10)\/(zna s.kind).2.2.1= -1:=by
  by_cases h:1<=s.kind/\s.kind<=10
  ·exact yOa h
  ·right;unfold zna
   repeat' (first|rw[if_neg (by omega)]|rfl)
 by_cases hin:1<=s.kind/\s.kind<=10
 case neg=>
  rw[if_neg hin]at hf;have hneg:(zna s.kind).2.2.1= -1:=by rcases hk with h|h;exact absurd h hin;exact h
  have hne:¬(s.args.length:Int)= -1:=by omega
  have hR:(decide (¬(s.args.length:Int)=(zna s.kind).2.2.1))=true:=by rw[hneg];simp[hne]
  rw[hR];clear hk h1 h2 hR hneg hne hla hlt hle hw ht hn ha hin;simp[*,F97,zb,zd,zl]
 rw[if_pos hin]at hf;have hd:(s.kind=10)->∃e r,s.args=e::r\/¬(s.args.length:Int)=(zna s.kind).2.2.1:=by
  intro hk;rcases he:s.args with _|⟨e,r⟩
  ·refine⟨⟨0,0,0,[],[]⟩,[],yQa ?_⟩;rw[hk];simp[zna]
  ·exact⟨e,r,yOa rfl⟩
 clear hk hin;generalize zna s.kind=q at*;obtain⟨t,nm,n,th,ot⟩:=q;simp only at hf ⊢;have h1':=h1 (m-1) (by omega);have h2':=h2 (m-1) (by omega);clear h1 h2;by_cases hm1:m<1
 ·replace hm1:=eqp hm1;clear h1' h2' ht hn ha hd hla hlt hle hw;simp[*,F97,zb,zd,zl,zFb]
 have hwm:zra .i64 (m-1)=m-1:=zp (by omega) (by omega);replace hm1:=eqn hm1;by_cases hlen:(s.args.length:Int)=n
 case neg=>
  replace hlen:=eqn hlen;clear h1' h2' ht hn ha hd hla hlt hle hw;simp[*,F97,zb,zd,zl,zFb]
 replace hd:(s.kind=10)->∃e r,s.args=e::r:=by
  intro hk;obtain⟨e,r,h|h⟩:=hd hk
  ·exact⟨e,r,h⟩
  ·exact absurd hlen h
 replace hlen:=eqp hlen;have g1:(0<s.thn.length)=¬(s.thn=[]):=by
  rcases s.thn with _|⟨x,r⟩<;>simp
 have g2:(0<s.els.length)=¬(s.els=[]):=by
  rcases s.els with _|⟨x,r⟩<;>simp
 have i1:s.thn.isEmpty=decide (s.thn=[]):=by
  rcases s.thn with _|⟨x,r⟩<;>rfl
 have i2:s.els.isEmpty=decide (s.els=[]):=by
  rcases s.els with _|⟨x,r⟩<;>rfl
 clear hla hlt hle hw;have ht0:(s.type=0)=True->(decide (s.type=1)||decide (s.type=2))=false:=by intro h;rw[of_eq_true h];decide
 generalize(decide (s.type=1)||decide (s.type=2))=tt at*;have hn0:(s.name=[])=True->zXa s.name=false:=by intro h;rw[of_eq_true h];decide
 by_cases hk:s.kind=10
 ·obtain⟨e,r,hel⟩:=hd hk;have hD:doR s.kind s.args=decide (e.kind=7):=by rw[hel];unfold doR;simp[hk]
  have hget:s.args[0]? =some e:=by rw[hel];rfl
  clear hd hel;replace hk:=eqp hk;rw[hD];clear hD;simp[zd,zl]at ha h1' h2'
  (simp[*,F97,zb,zd,zl,zFb,za])<;>(repeat' (first|((first|refine sP _ ?_ ?_|refine gP _ ?_ ?_|refine sN _ ?_ ?_|refine gN _ ?_ ?_)<;>intro hc<;>(first|replace hc:=eqn hc|replace hc:=eqp hc)<;>simp[*,F97,zb,zd,zl,zFb,za])|((first|refine sM _ ?_ ?_|refine gM _ ?_ ?_|refine sB _ ?_ ?_|refine gB _ ?_ ?_)<;>intro hc<;>simp[*,F97,zb,zd,zl,zFb,za])))
  all_goals(intros;first|exact hn0 (by assumption)|exact ht0 (by assumption)|exact⟨ht0 (by assumption),hn0 (by assumption)⟩)
 ·clear hd;replace hk:=eqn hk;have hD:doR s.kind s.args=true:=by unfold doR;simp[hk]
  simp[zd,zl]at ha h1' h2'
  (simp[*,F97,zb,zd,zl,zFb])<;>(repeat' (first|((first|refine sP _ ?_ ?_|refine gP _ ?_ ?_|refine sN _ ?_ ?_|refine gN _ ?_ ?_)<;>intro hc<;>(first|replace hc:=eqn hc|replace hc:=eqp hc)<;>simp[*,F97,zb,zd,zl,zFb])|((first|refine sM _ ?_ ?_|refine gM _ ?_ ?_|refine sB _ ?_ ?_|refine gB _ ?_ ?_)<;>intro hc<;>simp[*,F97,zb,zd,zl,zFb])))
  all_goals(intros;first|exact hn0 (by assumption)|exact ht0 (by assumption)|exact⟨ht0 (by assumption),hn0 (by assumption)⟩)
theorem tstmts_spec':∀w (l:List Stmt) (m:Int),wtSs l<=w->w<1099508500000->m<=1000000->zk E 67 [zl l,.int .i64 m] []=some (.ret (.bool (zoa l m)),[])
 |0,l,m,h,hw,hm=>by
  have hl:l=[]:=by
   have:=len_wtSs l;exact yy (by omega)
  subst hl;refine zc rfl rfl rfl (by simp[zl]) ?_;have hc:=containsFuncStmt [] (fun _=>true) 96 [] [.iptr [.int .i64 m] 0] [] (by simp) (by simp) (by simp);simp at hc;simp[*,F67,zl,zoa]
 |w+1,l,m,h,hw,hm=>by
  have hlen:=len_wtSs l;refine zc rfl rfl rfl (by simp[zl]) ?_;have hcl:∀x∈l,zk E 96 ([]++[zDa x]++[.iptr [.int .i64 m] 0]) []=some (.ret (.bool (!zTc x m)),[]):=by
   intro x hx;have hwx:=wtS_mem hx;have hwe:=wtS_eq x;have ih:=tstmt_of x m hm (by omega) (fun m' hm'=>tstmts_spec' w x.thn m' (by omega) (by omega) hm') (fun m' hm'=>tstmts_spec' w x.els m' (by omega) (by omega) hm');rw[zb]at ih;clear hwe hwx hx h hlen;refine zc rfl rfl rfl (by simp[zb]) ?_;simp[zd,zl]at ih
   (simp[*,F96,zb,zd,zl])<;>(repeat' ((first|refine sP _ ?_ ?_|refine gP _ ?_ ?_|refine sN _ ?_ ?_|refine gN _ ?_ ?_|refine sM _ ?_ ?_|refine gM _ ?_ ?_|refine sB _ ?_ ?_|refine gB _ ?_ ?_)<;>intro hc<;>simp[*,F96,zb,zd,zl]))
  have hc:=containsFuncStmt l (fun x=> !zTc x m) 96 [] [.iptr [.int .i64 m] 0] [] (by omega) (by simp) hcl;have hR:(l.any fun x=> !zTc x m)= !zoa l m:=by
   clear hcl hc h hlen
   induction l with
   |nil=>rfl
   |cons x r ih=>simp[zoa,ih]
  rw[hR]at hc;clear hcl hR;simp[*,F67,zl]
theorem tstmts_spec(l:List Stmt)(m:Int)(h:wtSs l<1099508000000)(hm:m<=1000000):zk E 67 [zl l,.int .i64 m] []=some (.ret (.bool (zoa l m)),[]):=tstmts_spec' (wtSs l) l m (yh _) (by omega) hm
theorem tparam_spec(p:Par)(σ:ze):zk E 64 [encPar p] σ=some (.ret (.bool (!parR p)),σ):=by
 refine zc rfl rfl rfl (by simp[encPar]) ?_;have hn:=zId p.name;have ht:=tisType_spec p.type;unfold parR;generalize(decide (p.type=1)||decide (p.type=2))=tt at*
 (simp[*,F64,encPar])<;>(repeat' ((first|refine sP _ ?_ ?_|refine gP _ ?_ ?_|refine sN _ ?_ ?_|refine gN _ ?_ ?_|refine sM _ ?_ ?_|refine gM _ ?_ ?_|refine sB _ ?_ ?_|refine gB _ ?_ ?_)<;>intro hc<;>simp[*,F64,encPar]))
theorem tarr_spec(a:PArr)(σ:ze):zk E 35 [zxa a] σ=some (.ret (.bool (!arrR a)),σ):=by
 refine zc rfl rfl rfl (by simp[zxa]) ?_;have hn:=zId a.name;unfold arrR
 (simp[*,F35,zxa])<;>(repeat' ((first|refine sP _ ?_ ?_|refine gP _ ?_ ?_|refine sN _ ?_ ?_|refine gN _ ?_ ?_|refine sM _ ?_ ?_|refine gM _ ?_ ?_|refine sB _ ?_ ?_|refine gB _ ?_ ?_)<;>intro hc<;>simp[*,F35,zxa]))
 all_goals(try grind)
theorem tfunc_spec(f:Func)(h:wtSs f.body<1099508000000/\f.params.length<1099509000000):zk E 40 [zQ f] []=some (.ret (.bool (funcR f)),[]):=by
 refine zc rfl rfl rfl (by simp[zQ]) ?_;have hn:=zId f.name;have ht:=tisType_spec f.type;have hc:=containsFuncPar f.params (fun p=> !parR p) 64 [] [] [] (by omega) (by simp) (fun x _=>by simpa using tparam_spec x []);have hs:=tstmts_spec f.body 100 h.1 (by omega);have hp:(f.params.any fun p=> !parR p)= !f.params.all parR:=by rw[yIa]
 rw[hp]at hc;unfold funcR;have h8:decide (f.params.length<=8)=decide ((f.params.length:Int)<=8):=by rw[decide_eq_decide];omega
 rw[h8];generalize(decide (f.type=1)||decide (f.type=2))=tt at*;generalize f.params.all parR=pp at*;clear h hp h8;simp[zl]at hs hc
 (simp[*,F40,zQ,parsV,zl])<;>(repeat' (first|((first|refine sP _ ?_ ?_|refine gP _ ?_ ?_|refine sN _ ?_ ?_|refine gN _ ?_ ?_)<;>intro hc<;>(first|replace hc:=eqn hc|replace hc:=eqp hc)<;>simp[*,F40,zQ,parsV,zl])|((first|refine sM _ ?_ ?_|refine gM _ ?_ ?_|refine sB _ ?_ ?_|refine gB _ ?_ ?_)<;>intro hc<;>simp[*,F40,zQ,parsV,zl])))
theorem tright_spec(p:Prog)(hz:PSz p):zk E 20 [zua p] []=some (.ret (.bool (zjc p)),[]):=by
 obtain⟨z1,z2,z3⟩:=hz;refine zc rfl rfl rfl (by simp[zua]) ?_;have ha:=containsFuncPArr p.arrays (fun a=> !arrR a) 35 [] [] [] (by omega) (by simp) (fun x _=>by simpa using tarr_spec x []);have hcl:∀x∈p.funcs,zk E 39 ([]++[zQ x]++[]) []=some (.ret (.bool (!funcR x)),[]):=by
  intro x hx;have:=tfunc_spec x (z3 x hx);refine zc rfl rfl rfl (by simp[zQ]) ?_;simp[zQ,parsV,zl]at this;clear ha
  (simp[*,F39,zQ,parsV,zl])<;>(repeat' ((first|refine sP _ ?_ ?_|refine gP _ ?_ ?_|refine sN _ ?_ ?_|refine gN _ ?_ ?_|refine sM _ ?_ ?_|refine gM _ ?_ ?_|refine sB _ ?_ ?_|refine gB _ ?_ ?_)<;>intro hc<;>simp[*,F39,zQ,parsV,zl]))
 have hf:=containsFuncFunc p.funcs (fun x=> !funcR x) 39 [] [] [] (by omega) (by simp) hcl;have e1:(p.arrays.any fun p=> !arrR p)= !p.arrays.all arrR:=by rw[yIa]
 have e2:(p.funcs.any fun p=> !funcR p)= !p.funcs.all funcR:=by rw[yIa]
 rw[e1]at ha;rw[e2]at hf;unfold zjc;generalize p.arrays.all arrR=x at*;generalize p.funcs.all funcR=y at*;clear e1 e2 hcl z1 z2 z3
 (simp[*,F20,zua,zHb,funcs])<;>(repeat' ((first|refine sP _ ?_ ?_|refine gP _ ?_ ?_|refine sN _ ?_ ?_|refine gN _ ?_ ?_|refine sM _ ?_ ?_|refine gM _ ?_ ?_|refine sB _ ?_ ?_|refine gB _ ?_ ?_)<;>intro hc<;>simp[*,F20,zua,zHb,funcs]))
end PE.U

namespace PE
open Go
def hendQ(H:HFn)(n:Nat)(fr:Fr)(R:CRes->ze->Prop):Ex->St->Prop
 | .normal,s=>PC (zDb H n fr s.st) R
 | .ret,s=>PC (zDb H n fr s.st) R
 |_,_=>False
def hrestQ(K:PV×ze->Prop):Ex->St->Prop
 | .normal,s=>K (.nilif,s.st)
 | .ret,s=>K (.nilif,s.st)
 | .pan (.iface t v),s=>K (.iface t v,s.st)
 |_,_=>False
noncomputable def hpreQ(E:Env)(H:HFn)(n:Nat)(R:CRes->ze->Prop):Ex->St->Prop
 | .normal,s1=>(zo s1.fr H.caps).all zG=true/\zpa (exec (zk E) H.rest {s1 with fr:=upd s1.fr H.d (.fn H.k [] (zo s1.fr H.caps))}) (hrestQ fun q=>zpa (exec (zk E) H.code (handSt H (zo s1.fr H.caps) q)) (hendQ H n s1.fr R))
 | .ret,s1=>PC (zDb H n s1.fr s1.st) R
 |_,_=>False
section
variable (n:Nat) (R:CRes->ze->Prop) (s:St) (K:PV×ze->Prop) (E:Env) (H:HFn) (fr:Fr)
@[simp] theorem hendQ_normal:hendQ H n fr R .normal s=PC (zDb H n fr s.st) R:=yf rfl rfl
@[simp] theorem hrestQ_ret:hrestQ K .ret s=K (.nilif,s.st):=yf rfl rfl
@[simp] theorem hrestQ_pan(t:Nat)(v:PV):hrestQ K (.pan (.iface t v)) s=K (.iface t v,s.st):=yf rfl rfl
@[simp] theorem hpreQ_normal:hpreQ E H n R .normal s=((zo s.fr H.caps).all zG=true/\zpa (exec (zk E) H.rest {s with fr:=upd s.fr H.d (.fn H.k [] (zo s.fr H.caps))}) (hrestQ fun q=>zpa (exec (zk E) H.code (handSt H (zo s.fr H.caps) q)) (hendQ H n s.fr R))):=yf rfl rfl
@[simp] theorem hpreQ_ret:hpreQ E H n R .ret s=PC (zDb H n s.fr s.st) R:=yf rfl rfl
@[simp] theorem handSt_eq(cv:List PV)(q:PV×ze):handSt H cv q={fr:=upd (upd (frOf cv 0) H.r1 q.1) H.r2 q.1,bx:=fun _=> .no,st:=q.2}:=yf rfl rfl
end
theorem hand_wp{E:Env}{f:Nat}{H:HFn}{args:List PV}{st:ze}{R:CRes->ze->Prop}(hx:E.ext f=none)(hh:E.hand f=some H)(hl:args.length=H.nargs)(hv:args.all zG=true)
  (h:zpa (exec (zk E) H.pre {fr:=frOf args 0,bx:=fun _=> .no,st:=st}) (hpreQ E H st.length R)):PC (zk E f args st) R:=by
 rw[holds_iff]at h;obtain⟨e1,s1,h1,h2⟩:=h;cases e1<;>try exact h2.elim
 case ret=>
  rw[hpreQ_ret,PC_iff]at h2;obtain⟨r,st',q1,q2⟩:=h2;have:zk E f args st=some (r,st'):=by
   refine pcall_hand hx hh ?_;unfold handF;rw[if_pos ⟨hl,hv⟩,h1];exact q1
  rw[this];exact q2
 rw[hpreQ_normal]at h2;obtain⟨h3,h4⟩:=h2;rw[holds_iff]at h4;obtain⟨e2,s2,h5,h6⟩:=h4;have hq:∃q,thrown (some (e2,s2))=some q/\zpa (exec (zk E) H.code (handSt H (zo s1.fr H.caps) q)) (hendQ H st.length s1.fr R):=by
  cases e2 with
  |normal=>exact⟨_,rfl,h6⟩
  |ret=>exact⟨_,rfl,h6⟩
  |exit i=>exact h6.elim
  |pan v=>cases v<;>first|exact⟨_,rfl,h6⟩|exact h6.elim
 obtain⟨q,hq1,hq2⟩:=hq;rw[holds_iff]at hq2;obtain⟨e3,s3,h7,h8⟩:=hq2;have hr:PC (handEnd H st.length s1.fr (some (e3,s3))) R:=by
  cases e3 with
  |normal=>exact h8
  |ret=>exact h8
  |exit i=>exact h8.elim
  |pan v=>exact h8.elim
 rw[PC_iff]at hr;obtain⟨r,st',hr1,hr2⟩:=hr;have:zk E f args st=some (r,st'):=by
  refine pcall_hand hx hh ?_;unfold handF;rw[if_pos ⟨hl,hv⟩,h1];simp only;rw[if_pos h3,h5,hq1];simp only;rw[h7,hr1]
 rw[this];exact hr2
end PE

namespace PE.U
open Go PE
@[simp] theorem rebuild_intG(k:IntKind)(n:Int)(v:PV):zCa (.int k n) [v]=v:=yf rfl rfl
@[simp] theorem isAggV_aggG(cs:List PV):isAggV (.agg cs)=true:=yf rfl rfl
theorem tokGo_num:∀n (q:List UInt8) line acc,NumT acc->NumT (zZa n q line acc).1:=by
 intro n
 induction n with
 |zero=>intro q line acc h;exact h
 |succ n ih=>
  intro q line acc ha;cases q with
  |nil=>
   intro t ht hk;simp only[zZa]at ht;rcases yw.1 ht with h|h
   ·exact ha t h hk
   ·rw[yJ.1 h]at hk;exact absurd hk (by simp)
  |cons b r=>
   simp only[zZa];split
   ·exact ih _ _ _ ha
   split
   ·exact ih _ _ _ ha
   split
   ·exact ih _ _ _ ha
   split
   ·split
    ·intro t ht;simp at ht
    ·rename_i c2;refine ih _ _ _ ?_;intro t ht hk;rcases yw.1 ht with h|h
     ·exact ha t h hk
     ·rw[yJ.1 h]at hk ⊢;simp only at hk ⊢;simp only[tokBad,hk,yF,ya,decide_eq_true_eq,yC,not_or,not_and,Bool.not_eq_false]at c2;exact c2.2 trivial
   split
   ·intro t ht;simp at ht
   ·refine ih _ _ _ ?_;intro t ht hk;rcases yw.1 ht with h|h
    ·exact ha t h hk
    ·rw[yJ.1 h]at hk;exact absurd hk (by simp)
theorem tokens_num(s:List UInt8):NumT (zr s).1:=by
 unfold zr;split
 ·intro t ht;simp at ht
 ·exact tokGo_num _ _ _ _ (fun t ht=>by simp at ht)
set_option maxHeartbeats 8000000 in
theorem zVc(s:List UInt8):zk E 11 [.str s] []=some (.ret (zfc (zea s)),[]):=by
 have ht:=ptokens_spec s;suffices h:PC (zk E 11 [.str s] []) (isR (.ret (zfc (zea s)),[])) by
  rw[PC_iff]at h;obtain⟨r,st,e,h1,h2⟩:=h;rw[e,h1,h2]
 refine hand_wp rfl rfl rfl rfl ?_;by_cases h0:(zr s).2.1=0
 ·obtain⟨v,p',e,I',hz⟩:=parse_run s h0;have I:=tokens_inv s h0;have hN:=tokens_num s;have hf:fuel (zr s).1<=6400164:=by have:=tokens_count s h0;unfold fuel;omega
  have hr:=tright_spec v hz;have hm:zea s=if p'.deep then(⟨[],[]⟩,2,(tk (zr s).1 p'.at').line)else if p'.bad then(⟨[],[]⟩,20,(tk (zr s).1 p'.at').line)else if zjc v then(v,0,0)else(⟨[],[]⟩,2,0):=by
   unfold zea;rw[if_pos h0,e]
  have hp:=prog_q (o:=⟨.arr 2 [.agg [.slice .fit 2 [],.slice .fit 4 []]],.arr 1 [.int .i64 0],.arr 1 [.int .i64 (zr s).2.2]⟩) hN e I rfl (by omega);rw[hm];clear hm e hz I hf hN;generalize zr s=tt at*;obtain⟨T,e0,ln⟩:=tt;simp only at h0 hp ht I' ⊢;subst h0;clear I';have hl0:lft T ⟨0,false,false⟩=T.map zK:=rfl;obtain⟨pa,pb,pd⟩:=p';obtain⟨ars,fs⟩:=v;unfold outQ qst wrongV wrongE at hp;rw[hl0]at hp;generalize lft T ⟨pa,pb,pd⟩=l2 at*;generalize(tk T pa).line=ln2 at*;simp[encTokR,toks,zua,zHb,funcs,zf]at ht hp hr;cases pd
  ·cases pb
   ·simp at hp;cases hR:zjc ⟨ars,fs⟩
    ·rw[hR]at hr;clear hl0 hR;simp[*,H11,zfc,zua,zHb,funcs,zDb,pinFr,ze.wf]
    ·rw[hR]at hr;clear hl0 hR;simp[*,H11,zfc,zua,zHb,funcs,zDb,pinFr,ze.wf]
   ·simp at hp;clear hr hl0;simp[*,H11,zfc,zua,zHb,funcs,zDb,pinFr,ze.wf]
  ·simp at hp;clear hr hl0;simp[*,H11,zfc,zua,zHb,funcs,zDb,pinFr,ze.wf]
 ·have hm:zea s=(⟨[],[]⟩,(zr s).2.1,(zr s).2.2):=by unfold zea;rw[if_neg h0]
  rw[hm];clear hm;generalize zr s=tt at*;obtain⟨T,e0,ln⟩:=tt;simp only at h0 ht;simp[encTokR,toks]at ht;replace h0:=eqn h0;simp[*,H11,zfc,zua,zHb,funcs,zDb,pinFr,ze.wf]
def u8s(l:List UInt8):PV:= .slice .plain 1 (l.map fun b=> .int .u8 b.toNat)
section
variable (l:List UInt8)
@[simp high] theorem isVar_u8s:zG (u8s l)=true:=yf rfl rfl
@[simp high] theorem bl_u8(n:Nat):zZ n (l.map fun b=>PV.int .u8 b.toNat)=true:=ztc _ _ _ (fun _=>rfl)
end
theorem remNat(a b:Nat):remK (a:Int) (b:Int)=((a%b:Nat):Int):=by rw[remK_eq];rfl
def pc(P:List (List UInt8))(b:UInt8):List UInt8:=P[b.toNat%P.length]?.getD []
def pq(P:List (List UInt8))(l:List UInt8)(i:Nat):List UInt8:=(l.take i).flatMap (pc P)
theorem pc_get{P:List (List UInt8)}(hP:0<P.length)(b:UInt8):P[b.toNat%P.length]? =some (pc P b):=by
 unfold pc;have h:=Nat.mod_lt b.toNat hP;rw[yj h];rfl
theorem pc_len{P:List (List UInt8)}(hm:∀x∈P,x.length<=40)(b:UInt8):(pc P b).length<=40:=by
 unfold pc;cases h:P[b.toNat%P.length]? with
 |none=>simp
 |some x=>exact hm x (List.mem_of_getElem? h)
theorem pq_all{P:List (List UInt8)}(hm:∀x∈P,x.length<=40)(l:List UInt8):(l.flatMap (pc P)).length<=40*l.length:=by
 induction l with
 |nil=>simp
 |cons b r ih=>
  have:=pc_len hm b;rw[List.flatMap_cons,ye,yd];omega
theorem pq_len{P:List (List UInt8)}(hm:∀x∈P,x.length<=40)(l:List UInt8)(i:Nat):(pq P l i).length<=40*i:=by
 have h1:=pq_all hm (l.take i);have h2:(l.take i).length<=i:=by rw[List.length_take];omega
 unfold pq;omega
theorem pq_succ(P:List (List UInt8))(l:List UInt8)(i:Nat)(h:i<l.length):pq P l (i+1)=pq P l i++pc P l[i]:=by
 unfold pq;rw[List.take_add_one,yj h,Option.toList_some,List.flatMap_append,List.flatMap_singleton]
theorem pq_end(P:List (List UInt8))(l:List UInt8)(i:Nat)(h:l.length<=i)(h2:i<=14):pq P l 14=pq P l i:=by
 unfold pq;rw[List.take_of_length_le h,List.take_of_length_le (by omega)]
set_option maxHeartbeats 2000000 in
theorem sameEs_self:∀(w:Nat) (l:List Expr),wtEs l<=w->w<1099511000000->zk E 41 [zd l,zd l] []=some (.ret (.bool true),[]):=by
 intro w
 induction w using Nat.strongRecOn with
 |_ w IH=>
 intro l h hw;refine zc rfl rfl rfl (by simp[zd]) ?_;have hlen:=len_wtEs l;simp[F41,zd];refine zsa l K41_0 B41_0 (fun d=>[(5,.int .i64 d.length)]) (fun _=>[]) (fun d=>True) (by omega) (by simp) ?_ ?_
 ·intros d x r s1 hl' hlt hget hget' hw1 hp h1 h2 h3 h4;simp at h1 h2 h3;have hwx:=wtE_mem hl'.mem;have hwe:=wtE_eq x;have ih:=IH (wtEs x.args) (by omega) x.args (yh _) (by omega);have hdec:decide (d.length<l.length)=true:=decide_eq_true hlt;clear IH hl' hwx hwe h h2;simp[zd]at ih;simp[*,za,zd]
 ·intros s1 hp h1 h2 h3 h4;simp at h1 h2 h3;simp[*]
set_option maxHeartbeats 2000000 in
theorem sameSs_self:∀(w:Nat) (l:List Stmt),wtSs l<=w->w<1099511000000->zk E 21 [zl l,zl l] []=some (.ret (.bool true),[]):=by
 intro w
 induction w using Nat.strongRecOn with
 |_ w IH=>
 intro l h hw;refine zc rfl rfl rfl (by simp[zl]) ?_;have hlen:=len_wtSs l;simp[F21,zl];refine zsa l K21_0 B21_0 (fun d=>[(5,.int .i64 d.length)]) (fun _=>[]) (fun d=>True) (by omega) (by simp) ?_ ?_
 ·intros d x r s1 hl' hlt hget hget' hw1 hp h1 h2 h3 h4;simp at h1 h2 h3;have hwx:=wtS_mem hl'.mem;have hwe:=wtS_eq x;have ih1:=IH (wtSs x.thn) (by omega) x.thn (yh _) (by omega);have ih2:=IH (wtSs x.els) (by omega) x.els (yh _) (by omega);have ie:=sameEs_self (wtEs x.args) x.args (yh _) (by omega);have hdec:decide (d.length<l.length)=true:=decide_eq_true hlt;clear IH hl' hwx hwe h h2;simp[zd,zl]at ih1 ih2 ie;simp[*,zb,zd,zl]
 ·intros s1 hp h1 h2 h3 h4;simp at h1 h2 h3;simp[*]
set_option maxHeartbeats 4000000 in
theorem same03_self(p:Prog)(hz:PSz p):zk E 12 [zua p,zua p] []=some (.ret (.bool true),[]):=by
 refine zc rfl rfl rfl (by simp[zua]) ?_;obtain⟨ars,fs⟩:=p;obtain⟨z1,z2,z3⟩:=hz;simp only at z1 z2 z3;simp[F12,zua,zHb,funcs];refine zsa ars K12_0 B12_0 (fun d=>[(5,.int .i64 d.length)]) (fun _=>[]) (fun d=>True) (by omega) (by simp) ?_ ?_
 ·intros d x r s1 hl' hlt hget hget' hw1 hp h1 h2 h3 h4;simp at h1 h2 h3;have hdec:decide (d.length<ars.length)=true:=decide_eq_true hlt;clear hl' z3;obtain⟨nm,sz⟩:=x;simp[*,zxa]
 ·intros s1 hp h1 h2 h3 h4;simp at h1 h2 h3;simp[*];refine zsa fs K12_2 B12_2 (fun d=>[(6,.int .i64 d.length)]) (fun _=>[]) (fun d=>True) (by omega) (by simp) ?_ ?_
  ·intros d x r s2 hl' hlt hget hget' hw1 kp k1 k2 k3 k4;simp at k1 k2 k3;have hzx:=z3 x hl'.mem;have hdec:decide (d.length<fs.length)=true:=decide_eq_true hlt;obtain⟨fnm,fty,ps,body⟩:=x;simp only at hzx;have ib:=sameSs_self (wtSs body) body (yh _) (by omega);simp[zl]at ib;clear hl' z3;simp[*,zQ,parsV,zl];refine zsa ps K12_1 B12_1 (fun e=>[(9,.int .i64 e.length)]) (fun _=>[]) (fun e=>True) (by omega) (by simp) ?_ ?_
   ·intros e y r' s3 jl jlt jget jget' jw1 jp j1 j2 j3 j4;simp at j1 j2 j3;have jdec:decide (e.length<ps.length)=true:=decide_eq_true jlt;obtain⟨ynm,yty⟩:=y;clear jl hzx;simp[*,encPar]
   ·intros s3 jp j1 j2 j3 j4;simp at j1 j2 j3;simp[*]
  ·intros s2 kp k1 k2 k3 k4;simp at k1 k2 k3;simp[*]
theorem parse_psz(s:List UInt8):PSz (zea s).1:=by
 have h0:PSz ⟨[],[]⟩:=⟨by simp,by simp,by simp⟩
 unfold zea;split
 ·rename_i h;obtain⟨v,p',e,I',hz⟩:=parse_run s h;rw[e];simp only;split
  ·exact h0
  split
  ·exact h0
  split
  ·exact hz
  ·exact h0
 ·exact h0
theorem pieces_spec(P:List (List UInt8))(hP:0<P.length)(hPl:P.length<1000)(hm:∀x∈P,x.length<=40)(l:List UInt8)(hl:l.length<=9223372036854775807):
  zk E 9 [u8s l,.slice .plain 1 (P.map PV.str)] []=some (.ret (.str (pq P l 14)),[]):=by
 refine zc rfl rfl rfl (by simp) ?_;simp[*,F9,u8s];refine zmb K9_0 B9_0 (fun i:Nat=>14-i) (fun i=>[(5,.str (pq P l i)),(6,.int .i64 i)]) (fun _=>[]) (fun _=>[]) (fun i=>i<=14/\i<=l.length) 0 (by simp[pq]) ?_
 rintro i s1 ⟨hi,hil⟩ h1 h2 h3 h4 h5
 simp at h1 h3 h5;clear h2 h4;have hlen:=pq_len hm l i;by_cases hc:i<l.length/\i<14
 ·obtain⟨c1,c2⟩:=hc;have g1:=pc_get hP l[i];have g2:=pc_len hm l[i];have g3:=Nat.mod_lt l[i].toNat hP;have hrem:remK (l[i].toNat:Int) (P.length:Int)=((l[i].toNat%P.length:Nat):Int):=remNat _ _;have htk:=pq_succ P l i c1;have hget:l[i]? =some l[i]:=yj c1;generalize hb:l[i]=b at*;generalize hk:b.toNat%P.length=k at*;generalize pc P b=t at*;have hne:¬(P.length=0):=by omega
  have hne':¬((P.length:Int)=0):=by omega
  have k1:((i:Int)<l.length)=True:=eqp (by omega);have k2:((i:Int)<14)=True:=eqp (by omega);have k3:((k:Int)<P.length)=True:=eqp (by omega);have hw:zra .i64 ((i:Int)+1)=(i:Int)+1:=zp (by omega) (by omega);have hnil:¬P=[]:=by intro h;rw[h]at hP;exact absurd hP (by decide)
  have m1:(pq P l i).length+t.length<=9223372036854775807:=by omega
  generalize pq P l i=q at*;have g4:P[k]'g3=t:=by rw[yj g3]at g1;exact Option.some.inj g1
  clear hk c1 hb;simp[*];exact⟨i+1,by omega,⟨by rw[htk],by omega⟩,by omega,by have:=of_eq_true k1;omega⟩
 ·have e:pq P l 14=pq P l i:=by
   by_cases h14:i=14
   ·rw[h14]
   ·exact pq_end P l i (by omega) hi
  rw[e];clear e;generalize pq P l i=q at*;by_cases k1:(i:Int)<l.length
  ·have k2:¬(i:Int)<14:=by omega
   (simp[*])<;>(repeat' (first|((first|refine sP _ ?_ ?_|refine gP _ ?_ ?_|refine sN _ ?_ ?_|refine gN _ ?_ ?_)<;>intro hc<;>(first|replace hc:=eqn hc|replace hc:=eqp hc)<;>simp[*])|((first|refine sM _ ?_ ?_|refine gM _ ?_ ?_|refine sB _ ?_ ?_|refine gB _ ?_ ?_)<;>intro hc<;>simp[*])))
  ·(simp[*])<;>(repeat' (first|((first|refine sP _ ?_ ?_|refine gP _ ?_ ?_|refine sN _ ?_ ?_|refine gN _ ?_ ?_)<;>intro hc<;>(first|replace hc:=eqn hc|replace hc:=eqp hc)<;>simp[*])|((first|refine sM _ ?_ ?_|refine gM _ ?_ ?_|refine sB _ ?_ ?_|refine gB _ ?_ ?_)<;>intro hc<;>simp[*])))
theorem aI{cf:zH}{s0 s:St}{r:List GOp}{Q:Ex->St->Prop}{a:_}{b:_}{o:_}{x:_}{c:Prop}[Decidable c](hc:c)(h:after cf s0 r Q (doOp a b o s (some x))):after cf s0 r Q (doOp a b o s (if c then some x else none)):=by rw[if_pos hc];exact h
def aw41:List UInt8:=[105,110,116,32,109,97,105,110,40,41,32,123,32,114,101,116,117,114,110,32,49,32,43,32,50,32,42,32,51,59,32,125]
def aw42:List UInt8:=[105,110,116,32,109,97,105,110,40,41,32,123,10]
set_option maxRecDepth 100000 in
theorem aw41_ok:(zea aw41).2.1=0/\(zea aw41).1.funcs.length=1/\((zea aw41).1.funcs.map fun f=>f.body.length)=[1]:=by decide+kernel
set_option maxRecDepth 100000 in
theorem aw42_ok:(zea aw42).2.1=20/\(zea aw42).2.2=2:=by decide+kernel
set_option maxHeartbeats 1000000 in
theorem awake04_spec:zk E 8 [] []=some (.ret (.bool true),[]):=by
 refine zc rfl rfl rfl (by simp) ?_;have p1:=zVc aw41;have p2:=zVc aw42;obtain⟨a1,a2,a3⟩:=aw41_ok;obtain⟨b1,b2⟩:=aw42_ok;generalize zea aw41=q1 at*;generalize zea aw42=q2 at*;obtain⟨⟨ar1,fs1⟩,e1,n1⟩:=q1;obtain⟨⟨ar2,fs2⟩,e2,n2⟩:=q2;simp only at a1 a2 a3 b1 b2;subst a1;subst b1;subst b2;obtain⟨f1,rfl⟩:∃f,fs1=[f]:=yM.1 a2;obtain⟨fnm,fty,ps,body⟩:=f1;simp only[yz,yW,List.cons.injEq,and_true]at a3;obtain⟨s1,rfl⟩:∃s,body=[s]:=yM.1 a3;simp[zfc,zua,aw41,aw42,zHb,funcs,zQ,parsV,zl]at p1 p2;clear a2 a3;simp[*,F8,zHb,funcs,zQ,parsV,zl]
def lines04:List (List UInt8):=[[105,110,116,32,97,91,52,93,59,10],[105,110,116,32,109,97,105,110,40,41,32,123,10],[98,111,111,108,32,102,40,105,110,116,32,120,44,32,98,111,111,108,32,121,41,32,123,10],[125,10],[120,32,61,32,49,32,43,32,50,32,42,32,51,32,45,32,52,59,10],[105,110,116,32,120,32,61,32,114,101,97,100,40,41,59,10],[97,91,120,93,32,61,32,45,97,91,48,93,59,10],[105,102,32,40,120,32,60,32,50,32,124,124,32,33,121,32,38,38,32,116,114,117,101,41,32,123,10],[125,32,101,108,115,101,32,123,10],[119,104,105,108,101,32,40,120,32,33,61,32,48,41,32,123,10],[114,101,116,117,114,110,32,102,40,49,44,32,120,32,61,61,32,50,41,59,10],[112,114,105,110,116,40,40,49,32,45,32,40,50,32,45,32,51,41,41,32,60,60,32,52,32,62,62,62,32,49,41,59,10],[102,40,117,56,40,120,41,44,32,102,97,108,115,101,41,59,10],[98,114,101,97,107,59,10],[99,111,110,116,105,110,117,101,59,10],[47,47,32,97,10],[98,111,111,108,32,98,32,61,32,126,40,120,41,32,61,61,32,45,32,45,49,59,10],[120,32,61,32,97,91,49,93,32,38,32,50,32,124,32,51,32,94,32,52,59,10]]
theorem lines04_spec:zk E 10 [] []=some (.ret (.slice .plain 1 (lines04.map PV.str)),[]):=by
 refine zc rfl rfl rfl (by simp) ?_;simp[F10,lines04]
theorem pq04_len(P:List (List UInt8))(hm:∀x∈P,x.length<=40)(l:List UInt8):(pq P l 14).length<=560:=pq_len hm l 14
def comT(s:List UInt8):List UInt8:=[9,47,47,32,120,10]++(s++[10,32,47,47,32,121])
theorem comT_tok(s:List UInt8):tokS (comT s)=tokS s:=by
 have e1:comT s=[9,47,47,32,120]++10::(s++10:: [32,47,47,32,121]):=by simp[comT]
 have a1:tokS [9,47,47,32,120]=some []:=by decide
 have a2:tokS [32,47,47,32,121]=some []:=by decide
 rw[e1,tokS_nl,tokS_nl,a1,a2];cases tokS s<;>simp
theorem comT_parse{s:List UInt8}(h:(zea s).2.1=0)(hl:s.length<=500):zea (comT s)=zea s:=
 parse_same h (by simp[comT];omega) (comT_tok s)
theorem parse_line{s:List UInt8}(h:(zea s).2.1=0):(zea s).2.2=0:=by
 unfold zea at h ⊢;split
 ·rename_i h0;rw[if_pos h0]at h;split at h
  ·rfl
  ·rename_i q hq
   (try rw[hq])
   (try simp only at h)
   (try simp only)
   split at h
   ·simp at h
   ·rename_i c1;rw[if_neg c1];split at h
    ·simp at h
    ·rename_i c2;rw[if_neg c2];split at h
     ·rename_i c3;rw[if_pos c3]
     ·simp at h
 ·rename_i h0;rw[if_neg h0]at h;exact absurd h h0
theorem parse_none{s:List UInt8}(h:¬(zea s).2.1=0):(zea s).1=⟨[],[]⟩:=by
 unfold zea at h ⊢;split
 ·rename_i h0;rw[if_pos h0]at h;split at h
  ·rfl
  ·rename_i q hq
   (try rw[hq])
   (try simp only at h)
   (try simp only)
   split at h
   ·rename_i c1;rw[if_pos c1]
   ·rename_i c1;rw[if_neg c1];split at h
    ·rename_i c2;rw[if_pos c2]
    ·rename_i c2;rw[if_neg c2];split at h
     ·simp at h
     ·rename_i c3;rw[if_neg c3]
 ·rfl
theorem psz_nil:PSz ⟨[],[]⟩:=⟨by simp,by simp,by simp⟩
set_option maxHeartbeats 4000000 in
theorem parseAgain_spec(raw l:List UInt8)(pick:Bool)(hraw:raw.length<=9223372036854775807)(hl:l.length<=9223372036854775807):
  zk E 3 [.str raw,u8s l,.bool pick] []=some (.ret (.bool true),[]):=by
 refine zc rfl rfl rfl (by simp) ?_;have a0:=awake04_spec;have p0:=pieces_spec lines04 (by decide) (by decide) (by decide) l hl;have hlen:=pq04_len lines04 (by decide) l;have p1:=lines04_spec;generalize hs:(if pick then pq lines04 l 14 else raw)=s;have hsl:s.length<=9223372036854775807:=by rw[<-hs];split<;>omega
 have q1:=zVc s;by_cases h0:(zea s).2.1=0
 ·have hn:=parse_line h0;by_cases hc:s.length<=500
  ·obtain⟨f1,f2,f3⟩:=parse_fits h0 hc;have hz:=parse_psz s;have q2:=print_spec (zea s).1 hz f1 f2 f3;have e2:=parse_print f1 f2 f3;have e3:=comT_parse h0 hc;have q3:=zVc (zXb (zea s).1);rw[e2]at q3;have q4:=zVc (comT s);rw[e3]at q4;have q5:=same03_self _ hz;have m1:s.length<=1000:=by omega
   have hgt:(500<s.length)=False:=eqn (by omega);have hgt2:((500:Int)<s.length)=False:=eqn (by omega);generalize zXb (zea s).1=t at*;generalize zea s=r at*;obtain⟨⟨ar1,fs1⟩,e1,n1⟩:=r;simp only at h0 hn q1 q2 q3 q4 q5;subst h0;subst hn;simp[zfc,zua,zHb,funcs]at q1 q2 q3 q4 q5;simp[comT]at q4;clear f1 f2 f3 hz e2 e3 hraw hl hlen hc;simp only[u8s]at p0 ⊢;cases pick
   ·simp at hs;subst hs
    (simp[*,F3,zHb,funcs])<;>(repeat' (refine aI (by omega) ?_<;>simp[*,F3,zHb,funcs]))<;>(try omega)
   ·simp at hs;rw[hs]at p0;clear hs
    (simp[*,F3,zHb,funcs])<;>(repeat' (refine aI (by omega) ?_<;>simp[*,F3,zHb,funcs]))<;>(try omega)
  ·have hgt:(500<s.length)=True:=eqp (by omega);have hgt2:((500:Int)<s.length)=True:=eqp (by omega);generalize zea s=r at*;obtain⟨⟨ar1,fs1⟩,e1,n1⟩:=r;simp only at h0 hn q1;subst h0;subst hn;simp[zfc,zua,zHb,funcs]at q1;clear hraw hl hlen hc;simp only[u8s]at p0 ⊢;cases pick
   ·simp at hs;subst hs
    (simp[*,F3,zHb,funcs])<;>(repeat' (refine aI (by omega) ?_<;>simp[*,F3,zHb,funcs]))<;>(try omega)
   ·simp at hs;rw[hs]at p0;clear hs
    (simp[*,F3,zHb,funcs])<;>(repeat' (refine aI (by omega) ?_<;>simp[*,F3,zHb,funcs]))<;>(try omega)
 ·have hn:=parse_none h0;have q5:=same03_self _ psz_nil;have h0':=eqn h0;generalize zea s=r at*;obtain⟨pr,e1,n1⟩:=r;simp only at h0 h0' hn q1;subst hn;simp[zfc,zua,zHb,funcs]at q1 q5;clear hraw hl hlen h0;simp only[u8s]at p0 ⊢;cases pick
  ·simp at hs;subst hs
   (simp[*,F3,zHb,funcs])<;>(repeat' (refine aI (by omega) ?_<;>simp[*,F3,zHb,funcs]))<;>(try omega)
  ·simp at hs;rw[hs]at p0;clear hs
   (simp[*,F3,zHb,funcs])<;>(repeat' (refine aI (by omega) ?_<;>simp[*,F3,zHb,funcs]))<;>(try omega)
end PE.U

namespace PE.U
open Go PE Go.Proofs
theorem cells_of{w:World}{b:Nat}{v:Value}(h:w.cell? ⟨b,0,none⟩=some v):∃cs e fr,w.heap[b]? =some (.cells cs e fr)/\cs[0]? =some v/\b<w.heap.size:=by
 unfold World.cell? at h;simp only at h;split at h
 ·rename_i cs e fr hc;refine⟨cs,e,fr,hc,by simpa using h,?_⟩;rcases yA b w.heap.size with h'|h'
  ·exact h'
  ·rw[Array.getElem?_eq_none h']at hc;cases hc
 ·cases h
theorem start_tab{w:World}(hm:∃m,w.cell? ⟨0,0,none⟩=some (.int .i64 m))(hs:∃ev,w.cell? ⟨1,0,none⟩=some ev/\(ev= .nilIface\/∃te pe,ev= .iface te pe))(hr:∃ev,w.cell? ⟨2,0,none⟩=some ev/\(ev= .nilIface\/∃te pe,ev= .iface te pe))
  (h:Lib.TabIs Tryz.prog w "internal/strconv.uint64pow10" .u64 Lib.pow10Tab):∃c0 c1 c2,TabsOk c0 c1 c2/\(tabs c0 c1 c2).In (gh0 w) w:=by
 obtain⟨m,hm⟩:=hm;obtain⟨es,hs,hs2⟩:=hs;obtain⟨er,hr,hr2⟩:=hr;obtain⟨c0,t0,f0,a0,b0,l0⟩:=cells_of hm;obtain⟨c1,t1,f1,a1,b1,l1⟩:=cells_of hs;obtain⟨c2,t2,f2,a2,b2,l2⟩:=cells_of hr;have hg:Tryz.prog.globalNamed "internal/strconv.uint64pow10" =some 3:=by kernel_rfl
 unfold Lib.TabIs World.var? at h;rw[hg]at h;simp only[Option.bind_some]at h;refine⟨c0,c1,c2,⟨⟨m,b0⟩,⟨es,b1,hs2⟩,⟨er,b2,hr2⟩⟩,?_⟩;intro x hx;rw[show tabs c0 c1 c2=[(0,c0),(1,c1),(2,c2),(3,tab10)]from rfl]at hx;simp only[yia,List.not_mem_nil,or_false]at hx;rcases hx with rfl|rfl|rfl|rfl
 ·exact⟨by simp[gh0,l0],t0,f0,a0⟩
 ·exact⟨by simp[gh0,l1],t1,f1,a1⟩
 ·exact⟨by simp[gh0,l2],t2,f2,a2⟩
 ·split at h
  ·rename_i cs e fr hc;have hcs:cs=tab10:=Option.some.inj h;subst hcs;refine⟨?_,e,fr,hc⟩;have hlt:3<w.heap.size:=by
    rcases yA 3 w.heap.size with h'|h'
    ·exact h'
    ·rw[Array.getElem?_eq_none h']at hc;cases hc
   simp[gh0,hlt]
  ·cases h
end PE.U

namespace PE
open Go Go.RowKit
def Kept(w w':World):Prop:=w.keptBut w' (fun _=>False)/\∀k,k<w.heap.size->w'.heap[k]? =w.heap[k]?
theorem Kept.frame{w w':World}(h:Kept w w')(X:MemPlace->Prop):w.keptBut w' X:=World.keptBut_mono (fun p hp=>hp.elim) h.1
theorem kept_of_ext{w w':World}{G':Gh}{st':ze}(h:Ext (gh0 w) [] w G' st' w'):Kept w w':=
 ⟨by
  refine⟨h.os,h.output,fun i hi=>?_⟩;have hb:=(h.prot i (by simp[gh0,hi])).2.2;rw[hb];cases w.heap[i]? with
  |none=>rfl
  |some o=>cases o<;>first|exact⟨rfl,rfl,rfl,fun _ _=>rfl⟩|exact .inr ⟨rfl,rfl⟩|rfl,fun k hk=>(h.prot k (by simp[gh0,hk])).2.2⟩
theorem Kept.same{W w':World}(h:Kept W w'){p:MemPlace}(hp:p.block<W.heap.size):W.sameAt w' p:=by
 cases p with
 |cell b o=>exact World.cell?_of_block (w:=W) (h.2 b hp)
 |map b=>exact h.2 b hp
theorem Kept.trod{H:Type}{enc:TypeId×Value->H}{P:Program}{t:TypeId}(hl:laidOutB P=true)(hr:P.readableRec t=true)(hrow:t<P.types.size){W W':World}{v:Value}{d:DataW H}{ps:List MemPlace}
  (h:DataW.Trod enc P W 0 (fun _=>true) true t v d ps) (hb:Kept W W') (hlt:∀x∈ps,x.block<W.heap.size):
  DataW.Trod enc P W' 0 (fun b=>decide (b<W.heap.size)) true t v d ps:=
 WideElems.Trod_stays hl hr hrow h (fun x hx=>hb.same (hlt x hx)) (fun x hx=>by simpa using hlt x hx)
theorem walk_kept{P:Program}{T:Tabs}{E:Env}(hE:EnvOk P T E){f:Nat}{args:List PV}{margs:Array Value}{w:World}{st':ze}(hT:T.In (gh0 w) w)
  (h:zk E f args []=some (.ret (.bool true),st')) (hsz:margs.size=args.length)
  (hv:∀(j:Nat) c x,args[j]? =some c->margs[j]? =some x->VR ((gh0 w).im w) (fun _=>none) c x):
  Calls P f margs w fun e w'=>e= .returned (.bool true)/\Kept w w':=by
 obtain⟨n,hn⟩:=zYb.1 h;have hloc:zi (gh0 w).lc []=fun _=>none:=by funext l;simp[zi]
 refine((callF_good hE n _ _ _ _ _ hn (gh0 w) w margs rfl hT (gh0_sim w) hsz (by rw[hloc];exact hv)).2).mono ?_;intro e w' he;cases e with
 |returned mv=>
  obtain⟨G',q1,q2,q3⟩:=he;exact⟨by rw[VR.bool_inv q3],kept_of_ext q2⟩
 |panicked ch=>exact he.elim
 |outgrown=>exact he.elim
def IsRow(k:IntKind)(w:World)(a:Option Addr)(len cap:Nat)(zs:List Int):Prop:=
 (a=none/\len=0/\cap=0/\zs=[])∨
 ∃x,a=some x/\len<=cap/\cap<=maxLen/\zs.length=cap/\(∀i,i<zs.length->w.cell? (x.add i)=some (.int k (zs.getD i 0)))/\∀n∈zs,(Lit.int k n).wf=true
theorem row_vr{k:IntKind}{w:World}{a:Option Addr}{len cap:Nat}{zs:List Int}(h:IsRow k w a len cap zs):VR ((gh0 w).im w) (fun _=>none) (.slice .plain 1 ((zs.take len).map (PV.int k))) (.slice a len cap):=by
 rcases h with⟨rfl,rfl,rfl,rfl⟩|⟨x,rfl,hl,hm,hz,hcell,hwz⟩
 ·exact .slice0 _ _ _ _ (by simp) (by simp)
 ·by_cases h0:len=0
  ·subst h0;exact .slice0 _ _ _ _ (by simp) (by simp)
  ·obtain⟨b,off,spot⟩:=x;have hc:=hcell 0 (by omega);have hspot:spot=none:=by simpa[Addr.add]using World.cell?_spot hc
   subst hspot;have hlen:((zs.take len).map (PV.int k)).length=len:=by simp;omega
   have hget:∀(i:Nat) e,((zs.take len).map (PV.int k))[i]? =some e->i<len/\e= .int k (zs.getD i 0):=by
    intro i e he;rw[yn,yb]at he;obtain⟨n,hn,rfl⟩:=he;rw[yH]at hn;split at hn
    ·rename_i hi;refine⟨hi,?_⟩;rw[List.getD_eq_getElem?_getD,hn];rfl
    ·cases hn
   have:=VR.slice (I:=(gh0 w).im w) (L:=fun _=>none) (k:= .plain) (sz:=1) (l:=(zs.take len).map (PV.int k)) (b:=b) (o:=off) (cap:=cap)
    (by simp) (by simp) (by rw[hlen];exact hl) (fun i _=> .int k (zs.getD i 0)) ?_ ?_ ?_
   ·rw[hlen]at this;exact this
   ·intro i e he;obtain⟨_,rfl⟩:=hget i e he;exact⟨rfl,rfl⟩
   ·intro i e j c he hc;obtain⟨hi,rfl⟩:=hget i e he;cases j with
    |zero=>
     refine⟨gh0_im ?_,rfl⟩;have:=hcell i (by omega);have e:(⟨b,off,none⟩:Addr).add i=⟨b,off+i*1+0,none⟩:=by
      unfold Addr.add;by_cases hi0:i=0<;>simp[hi0]
     rw[<-e];exact this
    |succ j=>simp[cellsOf]at hc
   ·intro i e j c he hc;obtain⟨hi,rfl⟩:=hget i e he;cases j with
    |zero=>simp[cellsOf]at hc;subst hc;exact .int _ _
    |succ j=>simp[cellsOf]at hc
theorem row_len{k:IntKind}{w:World}{a:Option Addr}{len cap:Nat}{zs:List Int}(h:IsRow k w a len cap zs):(zs.take len).length<=maxLen:=by
 rcases h with⟨rfl,rfl,rfl,rfl⟩|⟨x,rfl,hl,hm,hz,hcell,hwz⟩
 ·simp
 ·rw[List.length_take];omega
def bytesOf(zs:List Int):List UInt8:=zs.map fun n=>yY n.toNat
theorem row_u8{w:World}{a:Option Addr}{len cap:Nat}{zs:List Int}(h:IsRow .u8 w a len cap zs):VR ((gh0 w).im w) (fun _=>none) (.slice .plain 1 ((bytesOf (zs.take len)).map fun b=> .int .u8 b.toNat)) (.slice a len cap):=by
 have hv:=row_vr h;have:(bytesOf (zs.take len)).map (fun b=>PV.int .u8 b.toNat)=(zs.take len).map (PV.int .u8):=by
  unfold bytesOf;rw[List.map_map];apply List.map_congr_left;intro n hn;have hwf:(Lit.int .u8 n).wf=true:=by
   rcases h with⟨rfl,rfl,rfl,rfl⟩|⟨x,rfl,hl,hm,hz,hcell,hwz⟩
   ·simp at hn
   ·exact hwz n (List.mem_of_mem_take hn)
  have hb:0<=n/\n<=255:=by
   simp only[Lit.wf,ya,decide_eq_true_eq]at hwf;exact hwf
  simp only[Function.comp_apply,PV.int.injEq,true_and];have:(yY n.toNat).toNat=n.toNat:=by
   rw[UInt8.toNat_ofNat'];omega
  omega
 rw[this];exact hv
theorem bytes_len{w:World}{a:Option Addr}{len cap:Nat}{zs:List Int}(h:IsRow .u8 w a len cap zs):(bytesOf (zs.take len)).length<=maxLen:=by
 unfold bytesOf;rw[yea];exact row_len h
theorem str_vr(I:Im)(L:Loc){b:ByteArray}:VR I L (.str b.data.toList) (.string b):=VR.str b.data.toList
theorem str_len{b:ByteArray}(h:b.size<=maxLen):b.data.toList.length<=maxLen:=by
 rw[Array.length_toList];exact h
theorem maxLen_eq:maxLen=9223372036854775807:=by decide
def packT(P:Program)(e:TypeId)(l:List PV):PV:=match P.underlying e with
 |some (.struct _)=> .agg l
 |_=>l.headD .undef
def CellsT(P:Program):Nat->TypeId->List PV->Prop
 |0,_,_=>False
 |n+1,t,l=>match P.underlying t with
  |some (.int k)=>∃z,l=[.int k z]/\(Lit.int k z).wf=true
  |some .bool=>∃b,l=[.bool b]
  |some .string=>∃s:List UInt8,l=[.str s]/\s.length<=maxLen
  |some (.struct fs)=>l.length=P.cellsOf t/\∀f∈fs.toList,CellsT P n f.type ((l.drop f.offset).take (P.cellsOf f.type))
  |some (.slice e)=>∃es:List (List PV),l=[.slice .plain (P.cellsOf e) (es.map (packT P e))]/\es.length<=maxLen/\∀c∈es,CellsT P n e c
  |_=>False
def layB(P:Program):List Field->Nat->Nat->Bool
 | [],o,total=>o==total
 |f::r,o,total=>f.offset==o&&layB P r (o+P.cellsOf f.type) total
def plainB(P:Program)(S:List TypeId):Bool:=S.all fun t=>match P.underlying t with
 |some (.int _)=>P.cellsOf t==1
 |some .bool=>P.cellsOf t==1
 |some .string=>P.cellsOf t==1
 |some (.struct fs)=>fs.toList.all (fun f=>S.contains f.type)&&layB P fs.toList 0 (P.cellsOf t)
 |some (.slice e)=>S.contains e&&decide (0<P.cellsOf e)&&(P.cellsOf t==1)
 |_=>false
def R1(w:World)(c:PV)(v:Value):Prop:=VR ((gh0 w).im w) (fun _=>none) c v/\zlc c=true/\v.oneCell'=true
def Rs(w:World)(l:List PV)(cs:List Value):Prop:=l.length=cs.length/\∀(j:Nat) c v,l[j]? =some c->cs[j]? =some v->R1 w c v
theorem Rs.one{w:World}{c:PV}{v:Value}(h:R1 w c v):Rs w [c] [v]:=by
 refine⟨rfl,fun j c' v' hc hv=>?_⟩;cases j with
 |zero=>cases hc;cases hv;exact h
 |succ j=>simp at hc
theorem Rs.append{w:World}{l l':List PV}{cs cs':List Value}(h:Rs w l cs)(h':Rs w l' cs'):Rs w (l++l') (cs++cs'):=by
 refine⟨by simp[h.1,h'.1],fun j c v hc hv=>?_⟩;by_cases hj:j<l.length
 ·rw[yq hj]at hc;rw[yq (by rw[<-h.1];exact hj)]at hv;exact h.2 j c v hc hv
 ·rw[yv (by omega)]at hc;rw[yv (by rw[<-h.1];omega)]at hv;rw[<-h.1]at hv;exact h'.2 _ c v hc hv
theorem lay_join{P:Program}{w:World}{n:Nat}{cs:List Value}:∀(fs:List Field) (o total:Nat),layB P fs o total=true->total=cs.length→
  (∀f∈fs,∃l,Rs w l ((cs.drop f.offset).take (P.cellsOf f.type))/\CellsT P n f.type l)→
  ∃l,Rs w l (cs.drop o)/\∀f∈fs,o<=f.offset/\CellsT P n f.type ((l.drop (f.offset-o)).take (P.cellsOf f.type)):=by
 intro fs
 induction fs with
 |nil=>
  intro o total hl ht _;simp only[layB,beq_iff_eq]at hl;refine⟨[],⟨?_,fun j c v hc=>by simp at hc⟩,fun f hf=>by simp at hf⟩;simp;omega
 |cons f r ih=>
  intro o total hl ht hf;simp only[layB,ya,beq_iff_eq]at hl;obtain⟨ho,hl⟩:=hl;obtain⟨l1,h1,c1⟩:=hf f (by simp);obtain⟨l2,h2,c2⟩:=ih _ _ hl ht (fun g hg=>hf g (by simp[hg]));have hle:∀(fs:List Field) (o total:Nat),layB P fs o total=true->o<=total:=by
   intro fs
   induction fs with
   |nil=>intro o total h;simp only[layB,beq_iff_eq]at h;omega
   |cons g s ihs=>
    intro o total h;simp only[layB,ya,beq_iff_eq]at h;have:=ihs _ _ h.2;omega
  have hn:=hle _ _ _ hl;have hlen1:l1.length=P.cellsOf f.type:=by
   rw[h1.1,List.length_take,yU,ho];omega
  refine⟨l1++l2,?_,?_⟩
  ·have:cs.drop o=(cs.drop f.offset).take (P.cellsOf f.type)++cs.drop (o+P.cellsOf f.type):=by
    rw[ho,<-List.drop_drop,List.take_append_drop]
   rw[this];exact h1.append h2
  ·intro g hg;rcases yia.1 hg with rfl|hg
   ·refine⟨by omega,?_⟩;rw[ho,Nat.sub_self,List.drop_zero,List.take_append_of_le_length (by omega),<-hlen1,List.take_length];exact c1
   ·obtain⟨h3,h4⟩:=c2 g hg;refine⟨by omega,?_⟩;have:(l1++l2).drop (g.offset-o)=l2.drop (g.offset-(o+P.cellsOf f.type)):=by
     rw[List.drop_append,List.drop_of_length_le (by omega),yp];congr 1;omega
    rw[this];exact h4
theorem cells_packed{P:Program}{n:Nat}{e:TypeId}{l:List PV}{w:World}{cs:List Value}(hr:Rs w l cs)(h:CellsT P n e l)(hsz:cs.length=P.cellsOf e):cellsOf (packT P e l)=l/\zG (packT P e l)=true:=by
 cases n with
 |zero=>exact h.elim
 |succ n=>
  unfold CellsT at h;unfold packT;split at h
  ·rename_i hu;rw[hu];obtain⟨z,rfl,_⟩:=h;exact⟨rfl,rfl⟩
  ·rename_i hu;rw[hu];obtain⟨z,rfl⟩:=h;exact⟨rfl,rfl⟩
  ·rename_i hu;rw[hu];obtain⟨z,rfl,_⟩:=h;exact⟨rfl,rfl⟩
  ·rename_i hu;rw[hu];exact⟨rfl,rfl⟩
  ·rename_i hu;rw[hu];obtain⟨z,rfl,_⟩:=h;exact⟨rfl,rfl⟩
  ·exact h.elim
theorem cells?_get{w:World}{a:Addr}{n:Nat}{cs:List Value}(h:w.cells? 0 a n=some cs):cs.length=n/\∀(j:Nat) v,cs[j]? =some v->w.cell? (a.add j)=some v:=by
 unfold World.cells? at h;rw[if_pos (Nat.zero_le _)]at h;have hl:=mapM_some_length h;rw[List.length_range]at hl;refine⟨hl,fun j v hv=>?_⟩;have hj:j<n:=by rw[<-hl];exact(yc.1 hv).1
 have:=mapM_some_get h j j (by rw[List.getElem?_range hj]);rw[this,hv]
theorem add_add(a:Addr)(ha:a.spot=none)(x:Nat):a.add x=⟨a.block,a.off+x,none⟩:=by
 obtain⟨b,o,s⟩:=a;simp only at ha;subst ha;unfold Addr.add;by_cases h:x=0<;>simp[h]
theorem read_cells{P:Program}{S:List TypeId}(hp:plainB P S=true){H:Type}{enc:TypeId×Value->H}{w:World}{sp:Nat->Bool}:∀(n:Nat) (t:TypeId) (cs:List Value) (x:DataW H×List MemPlace),t∈S→
  DataW.trod enc P w 0 sp true n t cs=some x->∃l,Rs w l cs/\CellsT P n t l/\cs.length=P.cellsOf t:=by
 intro n
 induction n with
 |zero=>intro t cs x _ h;simp[DataW.trod]at h
 |succ n ih=>
  intro t cs x ht h;have hp':=yr.1 hp t ht;split at hp'
  ·rename_i k hu;obtain⟨z,rfl,_,hw⟩:=DataW.trod_int hu h;simp only[beq_iff_eq]at hp';exact⟨[.int k z],Rs.one ⟨.int _ _,rfl,rfl⟩,by unfold CellsT;rw[hu];exact⟨z,rfl,hw⟩,by simp[hp']⟩
  ·rename_i hu;obtain⟨z,rfl,_⟩:=DataW.trod_bool hu h;simp only[beq_iff_eq]at hp';exact⟨[.bool z],Rs.one ⟨.bool _,rfl,rfl⟩,by unfold CellsT;rw[hu];exact⟨z,rfl⟩,by simp[hp']⟩
  ·rename_i hu;obtain⟨s,rfl,_,hm⟩:=DataW.trod_string hu h;simp only[beq_iff_eq]at hp';exact⟨[.str s.data.toList],Rs.one ⟨str_vr _ _,rfl,rfl⟩,by unfold CellsT;rw[hu];exact⟨_,rfl,str_len hm⟩,by simp[hp']⟩
  ·rename_i fs hu;simp only[ya,yr,yNa]at hp';obtain⟨hS,hlay⟩:=hp';obtain⟨xs,m,hm,_,hlen,hxs,hget⟩:=DataW.trod_struct hu h;cases hm;obtain⟨l,hl,hc⟩:=lay_join (w:=w) (n:=n) (cs:=cs) fs.toList 0 _ hlay hlen.symm (by
    intro f hf;obtain⟨i,hi⟩:=List.getElem?_of_mem hf;have hi':fs[i]? =some f:=by simpa using hi
    have hg:=hget i f hi';have hlt:i<xs.length:=by rw[hxs];simpa using(yc.1 hi).1
    rw[yj hlt]at hg;obtain⟨l,h1,h2,_⟩:=ih _ _ _ (hS f hf) hg;exact⟨l,h1,h2⟩)
   rw[List.drop_zero]at hl;refine⟨l,hl,?_,hlen⟩;unfold CellsT;rw[hu];exact⟨by rw[hl.1,hlen],fun f hf=>by have:=(hc f hf).2;rwa[Nat.sub_zero]at this⟩
  ·rename_i e hu;simp only[ya,yNa,decide_eq_true_eq,beq_iff_eq]at hp';obtain⟨⟨hS,hpos⟩,h1⟩:=hp';rcases DataW.trod_slice hu h with⟨rfl,_⟩|⟨a,len,cap,elems,rest,m,hm,rfl,_,_,hle,hcap,hel,hget,_,_⟩
   ·exact⟨[.slice .plain (P.cellsOf e) []],Rs.one ⟨.slice0 _ _ _ _ (by simp) (by simp),rfl,rfl⟩,by unfold CellsT;rw[hu];exact⟨[],rfl,by simp,by simp⟩,by simp[h1]⟩
   ·cases hm;have key:∀i,i<len->∃l:List PV,l.length=P.cellsOf e/\CellsT P n e l/\cellsOf (packT P e l)=l/\zG (packT P e l)=true/\∀(j:Nat) c,l[j]? =some c->∃v,w.cell? ((a.add (i*P.cellsOf e)).add j)=some v/\R1 w c v:=by
     intro i hi;have hg:=hget i hi;have hlt:i<elems.length:=by omega
     rw[yj hlt,yaa]at hg;obtain⟨cs',h2,h3⟩:=hg;obtain⟨l,h4,h5,h6⟩:=ih _ _ _ hS h3;obtain⟨h7,h8⟩:=cells?_get h2;obtain⟨h9,h10⟩:=cells_packed h4 h5 h6;refine⟨l,by rw[h4.1,h6],h5,h9,h10,fun j c hc=>?_⟩;have hj:j<cs'.length:=by rw[<-h4.1];exact(yc.1 hc).1
     exact⟨cs'[j],h8 j _ (yj hj),h4.2 j c _ hc (yj hj)⟩
    let g:Nat->List PV:=fun i=>if hi:i<len then(key i hi).choose else[]
    have hg:∀i,i<len->(g i).length=P.cellsOf e/\CellsT P n e (g i)/\cellsOf (packT P e (g i))=g i/\zG (packT P e (g i))=true/\∀(j:Nat) c,(g i)[j]? =some c->∃v,w.cell? ((a.add (i*P.cellsOf e)).add j)=some v/\R1 w c v:=by
     intro i hi;have:=(key i hi).choose_spec;simp only[g,dif_pos hi];exact this
    have hel':∀(i:Nat) x,(((yQ len).map g).map (packT P e))[i]? =some x->i<len/\x=packT P e (g i):=by
     intro i x hx;rw[List.map_map,yn,yb]at hx;obtain⟨k,hk,rfl⟩:=hx;obtain⟨hk1,hk2⟩:=yc.1 hk;rw[List.length_range]at hk1;rw[yqa]at hk2;subst hk2;exact⟨hk1,rfl⟩
    refine⟨[.slice .plain (P.cellsOf e) (((yQ len).map g).map (packT P e))],Rs.one ⟨?_,rfl,rfl⟩,?_,by simp[h1]⟩
    ·by_cases h0:len=0
     ·subst h0;exact .slice0 _ _ _ _ (by simp) (by simp)
     ·obtain⟨q1,q2,q3,q4,q5⟩:=hg 0 (by omega);have hspot:a.spot=none:=by
       have hlt:0<(g 0).length:=by omega
       obtain⟨v,hv,_⟩:=q5 0 _ (yj hlt);have hsp:=World.cell?_spot hv;obtain⟨b,o,s⟩:=a;simpa[Addr.add]using hsp
      obtain⟨b,o,s⟩:=a;simp only at hspot;subst hspot;have hcell:∀(i:Nat) x (j:Nat) c,(((yQ len).map g).map (packT P e))[i]? =some x->(cellsOf x)[j]? =some c->∃v,(gh0 w).im w b (o+i*P.cellsOf e+j)=some v/\R1 w c v:=by
       intro i x j c hx hc;obtain⟨hi,rfl⟩:=hel' i x hx;obtain⟨r1,r2,r3,r4,r5⟩:=hg i hi;rw[r3]at hc;obtain⟨v,hv,hr⟩:=r5 j c hc;refine⟨v,gh0_im ?_,hr⟩;rw[add_add ⟨b,o,none⟩ rfl,add_add ⟨b,o+i*P.cellsOf e,none⟩ rfl]at hv;exact hv
      have hlen:(((yQ len).map g).map (packT P e)).length=len:=by simp
      have:=VR.slice (I:=(gh0 w).im w) (L:=fun _=>none) (k:= .plain) (sz:=P.cellsOf e) (l:=((yQ len).map g).map (packT P e)) (b:=b) (o:=o) (cap:=cap)
       (by simp) (by simp) (by rw[hlen];exact hle) (fun i j=>((gh0 w).im w b (o+i*P.cellsOf e+j)).getD (.bool false)) ?_ ?_ ?_
      ·rw[hlen]at this;exact this
      ·intro i x hx;obtain⟨hi,rfl⟩:=hel' i x hx;obtain⟨r1,r2,r3,r4,r5⟩:=hg i hi;exact⟨by rw[r3,r1],r4⟩
      ·intro i x j c hx hc;obtain⟨v,hv,hr⟩:=hcell i x j c hx hc;simp only[hv,yma];exact⟨trivial,hr.2.2⟩
      ·intro i x j c hx hc;obtain⟨v,hv,hr⟩:=hcell i x j c hx hc;simp only[hv,yma];exact hr.1
    ·unfold CellsT;rw[hu];refine⟨(yQ len).map g,rfl,by simp;omega,?_⟩;intro c hc;rw[List.mem_map]at hc;obtain⟨i,hi,rfl⟩:=hc;exact(hg i (yta.1 hi)).2.1
  ·cases hp'
theorem packT_struct{P:Program}{e:TypeId}{fs:Array Field}(hu:P.underlying e=some (.struct fs))(l:List PV):packT P e l= .agg l:=by
 unfold packT;rw[hu]
theorem le_max{n:Nat}(h:n<=maxLen):n<=9223372036854775807:=by rw[maxLen_eq]at h;exact h
theorem read_row{P:Program}{S:List TypeId}(hp:plainB P S=true){H:Type}{enc:TypeId×Value->H}{w:World}{sp:Nat->Bool}{t e:TypeId}(hu:P.underlying t=some (.slice e))(ht:t∈S){v:Value}{d:DataW H}{ps:List MemPlace}(h:DataW.Trod enc P w 0 sp true t v d ps){a:Option Addr}{len cap:Nat}(hv:v= .slice a len cap):
  ∃(n:Nat) (es:List (List PV)),VR ((gh0 w).im w) (fun _=>none) (.slice .plain (P.cellsOf e) (es.map (packT P e))) v/\es.length<=maxLen/\∀c∈es,CellsT P n e c:=by
 subst hv;obtain⟨n,hf⟩:=h;obtain⟨l,h1,h2,h3⟩:=read_cells hp n t _ _ ht hf;cases n with
 |zero=>exact h2.elim
 |succ n=>
  unfold CellsT at h2;rw[hu]at h2;obtain⟨es,rfl,hm,hc⟩:=h2;exact⟨n,es,(h1.2 0 _ _ rfl (by simp[Value.cells])).1,hm,hc⟩
end PE
