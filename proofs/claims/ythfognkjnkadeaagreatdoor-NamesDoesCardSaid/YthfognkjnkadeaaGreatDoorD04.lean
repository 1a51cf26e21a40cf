/-
  Texts joined by program: AKP1, AKD1, AKP2, AKP3, AKP4, AKP5, AKP6, AKP7, AKP8, AKP9, AKP10, AKP11, AKP12, AKP13, AKP14, AKP15, AKP16, AKP17, AKM1, AKM2, AKM3, AKN1, AKN2a, AKN2, AKN3, AKT1, AKT0r, AKP18, AKP19, AKP20, AKT2, AKT3, AKT4, AKT5, AKT6, AKT7, AKT8, AKT9, AKR1.
-/
import Derived.Test.YthfognkjnkadeaaGreatDoorD03
import Derived.Lib.ItoaNum
set_option linter.unusedVariables false
set_option linter.unusedSectionVars false
set_option linter.unusedSimpArgs false
open Bool renaming and_eq_true→yb,false_or→yQ,not_eq_true'→yH,or_eq_false_iff→yna,or_eq_true→yS,true_and→yka
open Eq renaming trans→ye
open List renaming all_append→yY,all_cons→yea,all_eq_true→yq,append_assoc→yR,cons_append→yT,eq_nil_of_length_eq_zero→yA,find?_append→ybb,find?_cons→yjb,find?_eq_none→yma,findIdx?_eq_none_iff→yfb,getElem?_append_left→yf,getElem?_append_right→yh,getElem?_eq_none→yP,getElem?_eq_some_iff→ya,getElem?_set_ne→yk,getElem?_set_self→yl,length→yV,length_append→yi,length_cons→yj,length_drop→yra,length_eq_one_iff→yF,length_map→yu,length_nil→yn,length_pos_iff→yva,length_singleton→yC,map_append→yda,map_cons→yp,map_nil→yxa,mem_append→yx,mem_cons→yw,mem_of_getElem?→yga,mem_singleton→yL,not_all_eq_any_not→yYa,range→yI,set_append_right→yqa,set_getElem_self→yRa,takeWhile_cons→yDa,takeWhile_prefix→yQa,take_length→yGa,take_of_length_le→yy
open Nat renaming le_refl→yd,lt_or_ge→yB,lt_succ_self→yha,strongRecOn→yFa
open Option renaming isSome_iff_exists→yW
open Or renaming inl→yTa,inr→yZa
open UInt8 renaming ofNat→yG,toNat_inj→yOa
namespace PE.U
open Go PE
def zfe:Int->List UInt8->Option Int
 |n,[]=>some n
 |n,b::r=>if(9223372036854775807-((b.toNat:Int)-48))/10<n then none else zfe (n*10+((b.toNat:Int)-48)) r
def zie(s:List UInt8):Int:=match zfe 0 s with
 |none=> -1
 |some n=>if s=[]\/(1<s.length/\s.head? =some 48)then-1 else n
def digs(s:List UInt8):Bool:=s.all fun b=>zcc b.toNat
theorem zje:∀(a b:List UInt8) (n:Int),zfe n (a++b)=(zfe n a).bind fun m=>zfe m b
 | [],b,n=>by simp[zfe]
 |x::a,b,n=>by
  simp only[yT,zfe];split
  ·simp
  ·exact zje a b _
theorem valGo_range:∀(s:List UInt8) (n m:Int),digs s=true->0<=n->n<=9223372036854775807->zfe n s=some m->0<=m/\m<=9223372036854775807
 | [],n,m,_,h0,h1,h=>by simp[zfe]at h;omega
 |b::r,n,m,hd,h0,h1,h=>by
  simp only[zfe]at h;simp only[digs,yea,yb]at hd;split at h
  ·cases h
  ·rename_i hc;have:48<=(b.toNat:Int)/\(b.toNat:Int)<=57:=by simpa[zcc]using hd.1
   exact valGo_range r _ m hd.2 (by omega) (by omega) h
theorem value_spec'(s:List UInt8)(σ:zc)(hs:digs s=true)(hl:s.length<1099511627776):zi E 59 [.str s] σ=some (.ret (.int .i64 (zie s)),σ):=by
 refine zd rfl rfl rfl (by simp) ?_;simp[F59];refine zG s K59_0 B59_0 (fun d=>[(4,.int .i64 d.length),(3,.int .i64 ((zfe 0 d).getD 0))]) (fun _=>σ) (fun d=>(zfe 0 d).isSome=true) (by omega) (by simp[zfe]) ?_ ?_
 ·intros d x r s1 hl' hlt hget hget' hw hp h1 h2 h3 h4;simp at h1 h3;obtain⟨n,hn⟩:=yW.1 hp;have hdd:digs d=true:=by
   have:=hl'.eq;rw[this]at hs;simp only[digs,yY,yb]at hs;exact hs.1
  have hdx:zcc x.toNat=true:=by
   have:=hl'.eq;rw[this]at hs;simp only[digs,yY,yea,yb]at hs;exact hs.2.1
  have hx:48<=(x.toNat:Int)/\(x.toNat:Int)<=57:=by simpa[zcc]using hdx
  obtain⟨n0,n1⟩:=valGo_range d 0 n hdd (by omega) (by omega) hn;have w1:zC .i64 ((x.toNat:Int)-48)=(x.toNat:Int)-48:=zj (by omega) (by omega);have w2:zC .i64 (9223372036854775807-((x.toNat:Int)-48))=9223372036854775807-((x.toNat:Int)-48):=zj (by omega) (by omega);have w3:(9223372036854775807-((x.toNat:Int)-48)).tdiv 10=(9223372036854775807-((x.toNat:Int)-48))/10:=Int.tdiv_eq_ediv_of_nonneg (by omega);have w4:zC .i64 ((9223372036854775807-((x.toNat:Int)-48))/10)=(9223372036854775807-((x.toNat:Int)-48))/10:=zj (by omega) (by omega);have e1:zfe 0 (d++[x])=if(9223372036854775807-((x.toNat:Int)-48))/10<n then none else some (n*10+((x.toNat:Int)-48)):=by
   rw[zje,hn];simp only[Option.bind_some,zfe]
  rw[hn]at h3;simp at h3;clear h2 hp hs;by_cases hc:(9223372036854775807-((x.toNat:Int)-48))/10<n
  ·have hv:zie s= -1:=by
    unfold zie;have:zfe 0 s=none:=by
     rw[hl'.eq,show d++x::r=(d++[x])++r by simp,zje,e1,if_pos hc];rfl
    rw[this]
   rw[if_pos hc]at e1
   (simp[*])<;>(repeat' (first|((first|refine sP _ ?_ ?_|refine gP _ ?_ ?_|refine sN _ ?_ ?_|refine gN _ ?_ ?_)<;>intro hc<;>(first|replace hc:=eqn hc|replace hc:=eqp hc)<;>simp[*])|((first|refine sM _ ?_ ?_|refine gM _ ?_ ?_|refine sB _ ?_ ?_|refine gB _ ?_ ?_)<;>intro hc<;>simp[*])))
  ·rw[if_neg hc]at e1;have w5:zC .i64 (n*10)=n*10:=zj (by omega) (by omega);have w6:zC .i64 (n*10+((x.toNat:Int)-48))=n*10+((x.toNat:Int)-48):=zj (by omega) (by omega)
   (simp[*])<;>(repeat' (first|((first|refine sP _ ?_ ?_|refine gP _ ?_ ?_|refine sN _ ?_ ?_|refine gN _ ?_ ?_)<;>intro hc<;>(first|replace hc:=eqn hc|replace hc:=eqp hc)<;>simp[*])|((first|refine sM _ ?_ ?_|refine gM _ ?_ ?_|refine sB _ ?_ ?_|refine gB _ ?_ ?_)<;>intro hc<;>simp[*])))
 ·intros s1 hp h1 h2 h3 h4;simp at h1 h3;obtain⟨n,hn⟩:=yW.1 hp;have hv:zie s=if s=[]\/(1<s.length/\s.head? =some 48)then-1 else n:=by unfold zie;rw[hn]
  rw[hn]at h3;simp at h3;clear h2 hp hs hn;by_cases he:s=[]
  ·subst he;(simp[*])<;>(repeat' (first|((first|refine sP _ ?_ ?_|refine gP _ ?_ ?_|refine sN _ ?_ ?_|refine gN _ ?_ ?_)<;>intro hc<;>(first|replace hc:=eqn hc|replace hc:=eqp hc)<;>simp[*])|((first|refine sM _ ?_ ?_|refine gM _ ?_ ?_|refine sB _ ?_ ?_|refine gB _ ?_ ?_)<;>intro hc<;>simp[*])))
  ·obtain⟨b,r,rfl⟩:=List.exists_cons_of_ne_nil he;simp at hv;have hbb:((b.toNat:Int)=48)=(b=48):=by
    apply propext;constructor
    ·intro h;apply yOa.1;simpa using(by omega:b.toNat=48)
    ·rintro rfl;rfl
   by_cases h1l:0<r.length
   ·have h1l':(1:Int)<(r.length:Int)+1:=by omega
    by_cases hb:b=48
    ·subst hb;(simp[*])<;>(repeat' (first|((first|refine sP _ ?_ ?_|refine gP _ ?_ ?_|refine sN _ ?_ ?_|refine gN _ ?_ ?_)<;>intro hc<;>(first|replace hc:=eqn hc|replace hc:=eqp hc)<;>simp[*])|((first|refine sM _ ?_ ?_|refine gM _ ?_ ?_|refine sB _ ?_ ?_|refine gB _ ?_ ?_)<;>intro hc<;>simp[*])))
    ·(simp[*])<;>(repeat' (first|((first|refine sP _ ?_ ?_|refine gP _ ?_ ?_|refine sN _ ?_ ?_|refine gN _ ?_ ?_)<;>intro hc<;>(first|replace hc:=eqn hc|replace hc:=eqp hc)<;>simp[*])|((first|refine sM _ ?_ ?_|refine gM _ ?_ ?_|refine sB _ ?_ ?_|refine gB _ ?_ ?_)<;>intro hc<;>simp[*])))
   ·have h1l':¬(1:Int)<(r.length:Int)+1:=by omega
    (simp[*])<;>(repeat' (first|((first|refine sP _ ?_ ?_|refine gP _ ?_ ?_|refine sN _ ?_ ?_|refine gN _ ?_ ?_)<;>intro hc<;>(first|replace hc:=eqn hc|replace hc:=eqp hc)<;>simp[*])|((first|refine sM _ ?_ ?_|refine gM _ ?_ ?_|refine sB _ ?_ ?_|refine gB _ ?_ ?_)<;>intro hc<;>simp[*])))
def zCe(s:List UInt8):Bool:=digs s&&decide (0<=zie s)
theorem number_spec(s:List UInt8)(hl:s.length<1099511627776):zi E 61 [.str s] []=some (.ret (.bool (zCe s)),[]):=by
 refine zd rfl rfl rfl (by simp) ?_;simp[F61];refine zG s K61_0 B61_0 (fun d=>[(3,.int .i64 d.length)]) (fun _=>[]) (fun d=>digs d=true) (by omega) (by simp[digs]) ?_ ?_
 ·intros d x r s1 hl' hlt hget hget' hw hp h1 h2 h3 h4;simp at h1 h3;clear h2;have hd:=zBb x.toNat [];have hn:zcc x.toNat=false->zCe s=false:=fun h=>by
   unfold zCe digs;rw[hl'.eq];simp[h]
  have hdd:digs (d++[x])=zcc x.toNat:=by simp only[digs]at hp ⊢;rw[yY,hp];simp
  cases hx:zcc x.toNat
  ·have hn:=hn hx;rw[hx]at hdd
   (simp[*])<;>(repeat' (first|((first|refine sP _ ?_ ?_|refine gP _ ?_ ?_|refine sN _ ?_ ?_|refine gN _ ?_ ?_)<;>intro hc<;>(first|replace hc:=eqn hc|replace hc:=eqp hc)<;>simp[*])|((first|refine sM _ ?_ ?_|refine gM _ ?_ ?_|refine sB _ ?_ ?_|refine gB _ ?_ ?_)<;>intro hc<;>simp[*])))
  ·clear hn;rw[hx]at hdd
   (simp[*])<;>(repeat' (first|((first|refine sP _ ?_ ?_|refine gP _ ?_ ?_|refine sN _ ?_ ?_|refine gN _ ?_ ?_)<;>intro hc<;>(first|replace hc:=eqn hc|replace hc:=eqp hc)<;>simp[*])|((first|refine sM _ ?_ ?_|refine gM _ ?_ ?_|refine sB _ ?_ ?_|refine gB _ ?_ ?_)<;>intro hc<;>simp[*])))
 ·intros s1 hp h1 h2 h3 h4;simp at h1 h3;have hv:=value_spec' s [] hp hl;have hn:zCe s=decide (0<=zie s):=by unfold zCe;rw[hp];rfl
  clear h2 hp
  (simp[*])<;>(repeat' (first|((first|refine sP _ ?_ ?_|refine gP _ ?_ ?_|refine sN _ ?_ ?_|refine gN _ ?_ ?_)<;>intro hc<;>(first|replace hc:=eqn hc|replace hc:=eqp hc)<;>simp[*])|((first|refine sM _ ?_ ?_|refine gM _ ?_ ?_|refine sB _ ?_ ?_|refine gB _ ?_ ?_)<;>intro hc<;>simp[*])))
def signsL:List (List UInt8):=[[62,62,62],[60,60],[62,62],[60,61],[62,61],[61,61],[33,61],[38,38],[124,124],[40],[41],[123],[125],[91],[93],[44],[59],[61],[60],[62],[43],[45],[42],[47],[37],[38],[124],[94],[126],[33]]
def zHe(s:List UInt8):List UInt8:=(signsL.find? fun x=>x.isPrefixOf s).getD []
theorem prefix_take(x s:List UInt8):x.isPrefixOf s=(decide (x.length<=s.length)&&decide (s.take x.length=x)):=by
 rw[Bool.eq_iff_iff];simp only[List.isPrefixOf_iff_prefix,yb,decide_eq_true_eq];constructor
 ·intro h;exact⟨h.length_le,(List.prefix_iff_eq_take.1 h).symm⟩
 ·rintro⟨_,h⟩;rw[<-h];exact List.take_prefix _ _
theorem sign_spec(s:List UInt8)(hl:s.length<1099511627776):zi E 62 [.str s] []=some (.ret (.str (zHe s)),[]):=by
 refine zd rfl rfl rfl (by simp) ?_;simp[F62];refine zG signsL K62_0 B62_0 (fun d=>[(4,.int .i64 d.length)]) (fun _=>[]) (fun d=>∀x∈d,x.isPrefixOf s=false) (by decide) (by simp) ?_ ?_
 ·intros d x r s1 hl' hlt hget hget' hw hp h1 h2 h3 h4;have hl3: [PV.str [62,62,62],PV.str [60,60],PV.str [62,62],PV.str [60,61],PV.str [62,61],PV.str [61,61],PV.str [33,61],PV.str [38,38],PV.str [124,124],PV.str [40],PV.str [41],PV.str [123],PV.str [125],PV.str [91],PV.str [93],PV.str [44],PV.str [59],PV.str [61],PV.str [60],PV.str [62],PV.str [43],PV.str [45],PV.str [42],PV.str [47],PV.str [37],PV.str [38],PV.str [124],PV.str [94],PV.str [126],PV.str [33]]=signsL.map PV.str:=rfl;simp[hl3]at h1 h3;clear h2;have hlen:d.length<30:=hlt;have hl30:(signsL.map PV.str).length=30:=rfl;have hpre:=prefix_take x s;have hxl:x.length<=3:=by
   have:∀y∈signsL,y.length<=3:=by decide
   exact this x hl'.mem
  have hf:x.isPrefixOf s=true->zHe s=x:=by
   intro h;unfold zHe;rw[hl'.eq,ybb];have:d.find? (fun x=>x.isPrefixOf s)=none:=by rw[yma];intro y hy;simp[hp y hy]
   rw[this];simp[yjb,h]
  cases hx:x.isPrefixOf s
  ·rw[hx]at hpre;by_cases hle:x.length<=s.length
   ·have hne:¬s.take x.length=x:=by
     intro h;simp[hle,h]at hpre
    clear hf hpre hl3
    (simp[*])<;>(repeat' (first|((first|refine sP _ ?_ ?_|refine gP _ ?_ ?_|refine sN _ ?_ ?_|refine gN _ ?_ ?_)<;>intro hc<;>(first|replace hc:=eqn hc|replace hc:=eqp hc)<;>simp[*])|((first|refine sM _ ?_ ?_|refine gM _ ?_ ?_|refine sB _ ?_ ?_|refine gB _ ?_ ?_)<;>intro hc<;>simp[*])))
    all_goals(try refine⟨rfl,?_⟩)
    all_goals(try grind)
   ·clear hf hpre hl3
    (simp[*])<;>(repeat' (first|((first|refine sP _ ?_ ?_|refine gP _ ?_ ?_|refine sN _ ?_ ?_|refine gN _ ?_ ?_)<;>intro hc<;>(first|replace hc:=eqn hc|replace hc:=eqp hc)<;>simp[*])|((first|refine sM _ ?_ ?_|refine gM _ ?_ ?_|refine sB _ ?_ ?_|refine gB _ ?_ ?_)<;>intro hc<;>simp[*])))
    all_goals(try refine⟨rfl,?_⟩)
    all_goals(try grind)
  ·rw[hx]at hpre;have hf:=hf hx;have hpre':=hpre.symm;simp only[yb,decide_eq_true_eq]at hpre';obtain⟨p1,p2⟩:=hpre';clear hl3 hpre
   (simp[*])<;>(repeat' (first|((first|refine sP _ ?_ ?_|refine gP _ ?_ ?_|refine sN _ ?_ ?_|refine gN _ ?_ ?_)<;>intro hc<;>(first|replace hc:=eqn hc|replace hc:=eqp hc)<;>simp[*])|((first|refine sM _ ?_ ?_|refine gM _ ?_ ?_|refine sB _ ?_ ?_|refine gB _ ?_ ?_)<;>intro hc<;>simp[*])))
   all_goals(try grind)
 ·intros s1 hp h1 h2 h3 h4;have hl3: [PV.str [62,62,62],PV.str [60,60],PV.str [62,62],PV.str [60,61],PV.str [62,61],PV.str [61,61],PV.str [33,61],PV.str [38,38],PV.str [124,124],PV.str [40],PV.str [41],PV.str [123],PV.str [125],PV.str [91],PV.str [93],PV.str [44],PV.str [59],PV.str [61],PV.str [60],PV.str [62],PV.str [43],PV.str [45],PV.str [42],PV.str [47],PV.str [37],PV.str [38],PV.str [124],PV.str [94],PV.str [126],PV.str [33]]=signsL.map PV.str:=rfl;simp[hl3]at h1 h3;have hf:zHe s=[]:=by
   unfold zHe;have:signsL.find? (fun x=>x.isPrefixOf s)=none:=by rw[yma];intro y hy;simp[hp y hy]
   rw[this];rfl
  have hl30:(signsL.map PV.str).length=30:=rfl;have hl30':(signsL.length:Int)=30:=rfl;clear h2 hp hl3
  (simp[*])<;>(repeat' (first|((first|refine sP _ ?_ ?_|refine gP _ ?_ ?_|refine sN _ ?_ ?_|refine gN _ ?_ ?_)<;>intro hc<;>(first|replace hc:=eqn hc|replace hc:=eqp hc)<;>simp[*])|((first|refine sM _ ?_ ?_|refine gM _ ?_ ?_|refine sB _ ?_ ?_|refine gB _ ?_ ?_)<;>intro hc<;>simp[*])))
theorem lead_ne:∀(k m:Nat),0<m->m<10^(k+1)->(digF (k+1) m).head? ≠some 48:=by
  intro k
  induction k with
  |zero=>
   intro m hm hm2;unfold digF;rw[if_pos (by simpa using hm2)];intro e;have:=congrArg UInt8.toNat (Option.some.inj e);rw[UInt8.toNat_ofNat']at this;simp at hm2 this;omega
  |succ k ih=>
   intro m hm hm2;unfold digF;split
   ·rename_i hm10;intro e;have:=congrArg UInt8.toNat (Option.some.inj e);rw[UInt8.toNat_ofNat']at this;simp at this;omega
   ·rename_i hm10;have h1:=ih (m/10) (by omega) (by rw[Nat.pow_succ]at hm2;omega);have h2:=digF_ne k (m/10);cases hq:digF (k+1) (m/10)with
    |nil=>exact absurd hq h2
    |cons b r=>rw[hq]at h1;simpa using h1
theorem valGo_dig:∀(k n:Nat),n<10^k->n<=9223372036854775807->0<k->zfe 0 (digF k n)=some (n:Int)
 |0,n,h,_,hk=>by omega
 |k+1,n,h,hn,_=>by
  have byte:∀a,a<10->(((yG (48+a)).toNat:Nat):Int)-48=a:=by
   intro a ha;rw[UInt8.toNat_ofNat'];omega
  unfold digF;split
  ·rename_i h10;simp only[zfe,byte n h10];rw[if_neg (by omega)];simp
  ·rename_i h10;cases k with
   |zero=>simp at h;omega
   |succ k=>
    rw[zje,valGo_dig (k+1) (n/10) (by rw[Nat.pow_succ]at h;omega) (by omega) (by omega)];simp only[Option.bind_some,zfe,byte _ (Nat.mod_lt n (by omega:0<10))];rw[if_neg (by omega)];congr 1;omega
theorem value_dig{n:Nat}(h:n<=9223372036854775807):zie (zwa n)=n:=by
 unfold zie zwa;rw[valGo_dig 20 n (by omega) h (by omega)];simp only;rw[if_neg]
 rintro(h1|⟨h1,h2⟩)
 ·exact digF_ne 19 n h1
 ·by_cases h10:n<10
  ·rw[show digF 20 n=[yG (48+n)] by rw[digF,if_pos h10]]at h1;simp at h1
  ·exact lead_ne 19 n (by omega) (by omega) h2
theorem digs_dig(n:Nat):digs (zwa n)=true:=by
 unfold digs;rw[yq];intro b hb;have:=digF_dig 20 n b hb;simp[zcc];omega
theorem dec_dig:∀(k n:Nat),n<10^(k+1)->Lib.decDigits n=digF (k+1) n
 |0,n,h=>by rw[Lib.decDigits,digF];simp at h;simp[h]
 |k+1,n,h=>by
  rw[Lib.decDigits,digF];split
  ·rfl
  ·rw[dec_dig k (n/10) (by rw[Nat.pow_succ]at h;omega)]
theorem itoa_dig(c:Nat)(h:c<10^20):Lib.itoa c=zwa c:=by
 have h0:¬((c:Int)<0):=by omega
 unfold Lib.itoa zwa;rw[if_neg h0,Int.toNat_natCast,dec_dig 19 c h]
def tokKind(w:List UInt8)(b:UInt8):Int:=if wordM w then 2 else if zTa b.toNat then 1 else 0
def tokBad(w:List UInt8)(b:UInt8):Bool:=(decide (tokKind w b=1)&& !zGb w)||(decide (tokKind w b=0)&& !zCe w)
def blank(b:UInt8):Bool:=b==32||b==9||b==13
def zEb:Nat->List UInt8->Int->List Tok->List Tok×Int×Int
 |0,_,_,acc=>(acc,0,0)
 |_+1,[],line,acc=>(acc++[⟨3,[],line⟩],0,0)
 |n+1,b::r,line,acc=>
  if b=10 then zEb n r (line+1) acc
  else if blank b then zEb n r line acc
  else if b=47/\r.head? =some 47 then zEb n ((b::r).dropWhile (· !=10)) line acc
  else if zF b then
   if tokBad ((b::r).takeWhile zF) b then([],20,line)
   else zEb n ((b::r).drop ((b::r).takeWhile zF).length) line (acc++[⟨tokKind ((b::r).takeWhile zF) b,(b::r).takeWhile zF,line⟩])
  else if zHe (b::r)=[]then([],20,line)
  else zEb n ((b::r).drop (zHe (b::r)).length) line (acc++[⟨2,zHe (b::r),line⟩])
def zO(s:List UInt8):List Tok×Int×Int:=if 100000<s.length then([],2,0)else zEb (s.length+1) s 1 []
example:zO [105,110,116,32,120,61,49,59,10]=([⟨2,[105,110,116],1⟩,⟨1,[120],1⟩,⟨2,[61],1⟩,⟨0,[49],1⟩,⟨2,[59],1⟩,⟨3,[],2⟩],0,0):=by decide
theorem sign_len(s:List UInt8):(zHe s).length<=s.length:=by
 unfold zHe;cases h:signsL.find? (fun x=>x.isPrefixOf s)with
 |none=>simp
 |some x=>
  have:=List.find?_some h;simp only[List.isPrefixOf_iff_prefix]at this;simpa using this.length_le
theorem zcb{s:List UInt8}{i:Nat}(h:i<s.length):s.drop i=s[i]::s.drop (i+1):=List.drop_eq_getElem_cons h
theorem takeWhile_all(p:UInt8->Bool)(l:List UInt8)(j:Nat)(h:j<(l.takeWhile p).length)(h':j<l.length):p l[j]=true:=by
 have h1:(l.takeWhile p)[j]=l[j]:=by
  have:=yQa (l:=l) (p:=p);exact this.getElem h
 rw[<-h1];exact(yq.1 (List.all_takeWhile (l:=l) (p:=p))) _ (List.getElem_mem h)
theorem zAe(p:UInt8->Bool):∀(l:List UInt8) (h:(l.takeWhile p).length<l.length),p (l[(l.takeWhile p).length])=false
 | [],h=>by simp at h
 |b::r,h=>by
  cases hp:p b
  ·have e:(b::r).takeWhile p=[]:=by simp[hp]
   simp only[e];simpa using hp
  ·have e:(b::r).takeWhile p=b::r.takeWhile p:=by simp[hp]
   simp only[e,yj,List.getElem_cons_succ];exact zAe p r (by rw[e]at h;simpa using h)
theorem zed(p:UInt8->Bool)(l:List UInt8):l.dropWhile p=l.drop (l.takeWhile p).length:=by
 induction l with
 |nil=>rfl
 |cons b r ih=>
  cases hp:p b<;>simp[hp,ih]
theorem takeWhile_eq_take(p:UInt8->Bool)(l:List UInt8):l.takeWhile p=l.take (l.takeWhile p).length:=by
 induction l with
 |nil=>rfl
 |cons b r ih=>
  cases hp:p b
  ·simp[hp]
  ·simp only[yDa,hp,if_true,yj,List.take_succ_cons];rw[<-ih]
def zNb(s:List UInt8)(at':Nat):Nat:=((s.drop at').takeWhile zF).length
theorem runLen_le(s:List UInt8)(i:Nat)(h:i<=s.length):i+zNb s i<=s.length:=by
 unfold zNb;have:=(yQa (l:=s.drop i) (p:=zF)).length_le;simp at this;omega
theorem runLen_in(s:List UInt8)(i j:Nat)(h:j<zNb s i)(h':i+j<s.length):zF (s[i+j])=true:=by
 have:=takeWhile_all zF (s.drop i) j h (by simp;omega);simpa using this
theorem runLen_end(s:List UInt8)(i:Nat)(h:i+zNb s i<s.length):zF (s[i+zNb s i])=false:=by
 unfold zNb at h ⊢;have:=zAe zF (s.drop i) (by simp;omega);simpa using this
def comLen(s:List UInt8)(i:Nat):Nat:=((s.drop i).takeWhile (· !=10)).length
theorem comLen_le(s:List UInt8)(i:Nat)(h:i<=s.length):i+comLen s i<=s.length:=by
 unfold comLen;have:=(yQa (l:=s.drop i) (p:=(· !=10))).length_le;simp at this;omega
theorem comLen_in(s:List UInt8)(i j:Nat)(h:j<comLen s i)(h':i+j<s.length):¬s[i+j]=10:=by
 have:=takeWhile_all (· !=10) (s.drop i) j h (by simp;omega);simpa using this
theorem comLen_end(s:List UInt8)(i:Nat)(h:i+comLen s i<s.length):s[i+comLen s i]=10:=by
 unfold comLen at h ⊢;have:=zAe (· !=10) (s.drop i) (by simp;omega);simpa using this
structure TS where
 at':Nat
 line:Nat
 acc:List Tok
def OnRoad(s:List UInt8)(c:TS):Prop:=c.at'<=s.length/\c.line<=c.at'+1/\c.acc.length<=c.at'/\∃n,s.length-c.at'<n/\zEb (s.length+1) s 1 []=zEb n (s.drop c.at') c.line c.acc
theorem getD_idx{s:List UInt8}{i:Nat}(h:i<s.length):s[i]? =some s[i]:=by simp[h]
abbrev encTokR(r:List Tok×Int×Int):List PV:=[toks r.1,.int .i64 r.2.1,.int .i64 r.2.2]
theorem road_nl{s:List UInt8}{i line:Nat}{ac:List Tok}(h:OnRoad s ⟨i,line,ac⟩)(hi:i<s.length)(hb:(s[i].toNat:Int)=10):OnRoad s ⟨i+1,line+1,ac⟩:=by
 obtain⟨h1,h2,h3,n,h4,h5⟩:=h;simp only at h1 h2 h3 h4 h5;obtain⟨n,rfl⟩:∃m,n=m+1:=⟨n-1,by omega⟩
 have hb':s[i]=10:=yOa.1 (by simp;omega);refine⟨by simp only;omega,by simp only;omega,by simp only;omega,n,by simp only;omega,?_⟩;rw[h5,zcb hi];simp[zEb,hb']
theorem road_blank{s:List UInt8}{i line:Nat}{ac:List Tok}(h:OnRoad s ⟨i,line,ac⟩)(hi:i<s.length)(hb:blank s[i]=true):OnRoad s ⟨i+1,line,ac⟩:=by
 obtain⟨h1,h2,h3,n,h4,h5⟩:=h;simp only at h1 h2 h3 h4 h5;obtain⟨n,rfl⟩:∃m,n=m+1:=⟨n-1,by omega⟩
 have hb':¬s[i]=10:=by intro h;rw[h]at hb;exact absurd hb (by decide)
 refine⟨by simp only;omega,by simp only;omega,by simp only;omega,n,by simp only;omega,?_⟩;rw[h5,zcb hi];simp[zEb,hb',hb]
theorem road_com{s:List UInt8}{i line:Nat}{ac:List Tok}(h:OnRoad s ⟨i,line,ac⟩)(hi:i<s.length)(hb:(s[i].toNat:Int)=47)(hi2:i+1<s.length)(hb2:(s[i+1].toNat:Int)=47):OnRoad s ⟨i+comLen s i,line,ac⟩/\0<comLen s i:=by
 obtain⟨h1,h2,h3,n,h4,h5⟩:=h;simp only at h1 h2 h3 h4 h5;obtain⟨n,rfl⟩:∃m,n=m+1:=⟨n-1,by omega⟩
 have hb':s[i]=47:=yOa.1 (by simp;omega);have hb2':s[i+1]=47:=yOa.1 (by simp;omega);have hpos:0<comLen s i:=by
  unfold comLen;rw[zcb hi,yDa];simp[hb']
 have hle:=comLen_le s i h1;refine⟨⟨by simp only;omega,by simp only;omega,by simp only;omega,n,by simp only;omega,?_⟩,hpos⟩;have e:(s[i]::s.drop (i+1)).dropWhile (· !=10)=s.drop (i+comLen s i):=by
  rw[<-zcb hi,zed,List.drop_drop];rfl
 have hh:(s.drop (i+1)).head? =some 47:=by rw[zcb hi2,hb2'];rfl
 rw[h5,zcb hi];simp only[zEb];rw[if_neg (by rw[hb'];decide),if_neg (by rw[hb'];decide),if_pos ⟨hb',hh⟩,e]
structure Plain(s:List UInt8)(i:Nat)(hi:i<s.length):Prop where
 nl:¬(s[i].toNat:Int)=10
 blank:blank s[i]=false
 com:¬(s[i]=47/\(s.drop (i+1)).head? =some 47)
theorem road_name{s:List UInt8}{i line:Nat}{ac:List Tok}(h:OnRoad s ⟨i,line,ac⟩)(hi:i<s.length)(hp:Plain s i hi)(hn:zF s[i]=true):
  (tokBad ((s.take (i+zNb s i)).drop i) s[i]=true->zEb (s.length+1) s 1 []=([],20,(line:Int)))∧
  (tokBad ((s.take (i+zNb s i)).drop i) s[i]=false->OnRoad s ⟨i+zNb s i,line,ac++[⟨tokKind ((s.take (i+zNb s i)).drop i) s[i],(s.take (i+zNb s i)).drop i,line⟩]⟩):=by
 obtain⟨h1,h2,h3,n,h4,h5⟩:=h;simp only at h1 h2 h3 h4 h5;obtain⟨n,rfl⟩:∃m,n=m+1:=⟨n-1,by omega⟩
 have hnl:¬s[i]=10:=by intro h;exact hp.nl (by rw[h];rfl)
 have hpos:0<zNb s i:=by
  unfold zNb;rw[zcb hi,yDa];simp[hn]
 have hle:=runLen_le s i h1;have e:(s[i]::s.drop (i+1)).takeWhile zF=(s.take (i+zNb s i)).drop i:=by
  rw[<-zcb hi,takeWhile_eq_take];rw[List.drop_take];congr 1;unfold zNb;omega
 have el:((s.take (i+zNb s i)).drop i).length=zNb s i:=by simp;omega
 have hs:∀k:Nat,zEb (k+1) (s[i]::s.drop (i+1)) line ac=if tokBad ((s.take (i+zNb s i)).drop i) s[i]then([],20,(line:Int))else zEb k (s.drop (i+zNb s i)) line (ac++[⟨tokKind ((s.take (i+zNb s i)).drop i) s[i],(s.take (i+zNb s i)).drop i,line⟩]):=by
  intro k;simp only[zEb];rw[if_neg hnl,if_neg (by rw[hp.blank];decide),if_neg hp.com,if_pos hn,e,el];rw[<-zcb hi,List.drop_drop]
 refine⟨fun hb=>by rw[h5,zcb hi,hs,if_pos hb],fun hb=>⟨by simp only;omega,by simp only;omega,by simp only[yi,yj,yn];omega,n,by simp only;omega,?_⟩⟩;rw[h5,zcb hi,hs,if_neg (by rw[hb];decide)]
theorem road_sign{s:List UInt8}{i line:Nat}{ac:List Tok}(h:OnRoad s ⟨i,line,ac⟩)(hi:i<s.length)(hp:Plain s i hi)(hn:zF s[i]=false):
  (zHe (s.drop i)=[]->zEb (s.length+1) s 1 []=([],20,(line:Int)))∧
  (¬zHe (s.drop i)=[]->OnRoad s ⟨i+(zHe (s.drop i)).length,line,ac++[⟨2,zHe (s.drop i),line⟩]⟩):=by
 obtain⟨h1,h2,h3,n,h4,h5⟩:=h;simp only at h1 h2 h3 h4 h5;obtain⟨n,rfl⟩:∃m,n=m+1:=⟨n-1,by omega⟩
 have hnl:¬s[i]=10:=by intro h;exact hp.nl (by rw[h];rfl)
 have hle:=sign_len (s.drop i);rw[yra]at hle;have hs:∀k:Nat,zEb (k+1) (s.drop i) line ac=if zHe (s.drop i)=[]then([],20,(line:Int))else zEb k (s.drop (i+(zHe (s.drop i)).length)) line (ac++[⟨2,zHe (s.drop i),line⟩]):=by
  intro k;rw[<-List.drop_drop];rw[zcb hi];simp only[zEb];rw[if_neg hnl,if_neg (by rw[hp.blank];decide),if_neg hp.com,if_neg (by rw[hn];decide)]
 refine⟨fun hb=>by rw[h5,hs,if_pos hb],fun hb=>?_⟩;have hpos:0<(zHe (s.drop i)).length:=yva.2 hb;refine⟨by simp only;omega,by simp only;omega,by simp only[yi,yj,yn];omega,n,by simp only;omega,?_⟩;rw[h5,hs,if_neg hb]
theorem ub_eq(b:UInt8)(n:Nat)(h:n<256):(b==yG n)=decide ((b.toNat:Int)=n):=by
 rw[Bool.eq_iff_iff];simp only[beq_iff_eq,decide_eq_true_eq];constructor
 ·rintro rfl;simp;omega
 ·intro h2;apply yOa.1;simp;omega
theorem blank_eq(b:UInt8):blank b=(decide ((b.toNat:Int)=32)||(decide ((b.toNat:Int)=9)||decide ((b.toNat:Int)=13))):=by
 unfold blank;rw[show(32:UInt8)=yG 32 from rfl,show(9:UInt8)=yG 9 from rfl,show(13:UInt8)=yG 13 from rfl,ub_eq _ _ (by omega),ub_eq _ _ (by omega),ub_eq _ _ (by omega),Bool.or_assoc];rfl
theorem run_zero{s:List UInt8}{i:Nat}(hi:i<s.length):zNb s i=0<->zF s[i]=false:=by
 unfold zNb;rw[zcb hi,yDa];cases zF s[i]<;>simp
set_option maxHeartbeats 4000000 in
set_option maxRecDepth 3000 in
theorem tokens_spec(s:List UInt8):zi E 33 [.str s] []=some (.ret (.tup (encTokR (zO s))),[]):=by
 refine zd rfl rfl rfl (by simp) ?_;by_cases hlong:100000<s.length
 ·have e:zO s=([],2,0):=by unfold zO;rw[if_pos hlong]
  have hlong':(100000:Int)<s.length:=by omega
  simp[F33,hlong',e,encTokR,toks]
 have e0:zO s=zEb (s.length+1) s 1 []:=by unfold zO;rw[if_neg hlong]
 have hlong':¬(100000:Int)<s.length:=by omega
 simp[F33,hlong',encTokR,toks];refine zha K33_2 B33_2 (fun c:TS=>s.length-c.at') (fun c=>[(7,.int .i64 c.at'),(6,.int .i64 c.line),(5,acc 3 (c.acc.map zA))]) (fun _=>[]) (fun _=>[]) (OnRoad s) ⟨0,1,[]⟩ ⟨?_,?_,?_,?_⟩ ?_
 ·simp
 ·simp
 ·simp
 ·exact⟨by simp,by simp,by simp,s.length+1,by simp,by simp⟩
 rintro⟨i,line,ac⟩ s1 ⟨hi,hline,hac,n,hn,hg⟩ h1 h2 h3 _ h4
 simp at hi hline hac hn hg h1 h3;have w0:zC .i64 ((i:Int)+1)=(i:Int)+1:=zj (by omega) (by omega);have w1:zC .i64 ((line:Int)+1)=(line:Int)+1:=zj (by omega) (by omega);have hroad:OnRoad s ⟨i,line,ac⟩:=⟨hi,hline,hac,n,hn,hg⟩
 obtain⟨n,rfl⟩:∃m,n=m+1:=⟨n-1,by omega⟩
 by_cases hend:¬i<s.length
 ·have he:i=s.length:=by omega
  subst he;have e1:zO s=(ac++[⟨3,[],line⟩],0,0):=by rw[e0,hg];simp[zEb]
  have q4:(ac.length+1)*32<=zo:=by simp only[zo];omega
  clear hg e0 hroad
  (simp[*,zA])<;>(repeat' (first|((first|refine sP _ ?_ ?_|refine gP _ ?_ ?_|refine sN _ ?_ ?_|refine gN _ ?_ ?_)<;>intro hc<;>(first|replace hc:=eqn hc|replace hc:=eqp hc)<;>simp[*,zA])|((first|refine sM _ ?_ ?_|refine gM _ ?_ ?_|refine sB _ ?_ ?_|refine gB _ ?_ ?_)<;>intro hc<;>simp[*,zA])))
 have hend:=Decidable.of_not_not hend;have hi2:(i:Int)<s.length:=by omega
 have hgi:=getD_idx hend;clear hg hn;have hget:s[i]? =some s[i]:=by simp[hend]
 have hrun:∀(s2:St) (Q:Ex->St->Prop),(∀t∈K33_0,s2.fr t=s2.fr t)->True:=fun _ _ _=>trivial
 clear hrun;have hrl:=runLen_le s i hi;have hri:=runLen_in s i;have hre:=runLen_end s i;generalize hk:zNb s i=k at*;simp[h1,h3,h4,hend];refine zG (yI k) K33_0 B33_0 (fun d=>[(9,.int .i64 d.length)]) (fun _=>[]) (fun d=>True) (by simp;omega) (by simp;try exact h4) ?_ ?_
 ·intros d x r s3 hl' hlt hget2 hget' hw hp h1' h2' h3' h4';simp at h1' h3' hlt;simp at h2';clear hget2 hget' hl';have hq:i+d.length<s.length:=by omega
  have hcb:=hri d.length hlt hq;have hgc:s[i+d.length]? =some s[i+d.length]:=by simp[hq]
  generalize s[i+d.length]=c at hcb hgc;have l1:=zPa c.toNat [];have l2:=zBb c.toNat [];have wi:zC .i64 ((i:Int)+d.length)=((i+d.length:Nat):Int):=zj (by omega) (by omega);clear h1 h2 h3 e0 hgi hget hre hri hroad;generalize i+d.length=q at*;have hgc':s[q]'hq=c:=by simpa[hq]using hgc
  simp only[zF,yS]at hcb;cases hx:zTa c.toNat
  ·have hy:zcc c.toNat=true:=by simpa[hx]using hcb
   clear hcb
   (simp[*])<;>(repeat' (first|((first|refine sP _ ?_ ?_|refine gP _ ?_ ?_|refine sN _ ?_ ?_|refine gN _ ?_ ?_)<;>intro hc<;>(first|replace hc:=eqn hc|replace hc:=eqp hc)<;>simp[*])|((first|refine sM _ ?_ ?_|refine gM _ ?_ ?_|refine sB _ ?_ ?_|refine gB _ ?_ ?_)<;>intro hc<;>simp[*])))
   all_goals(try grind)
  ·clear hcb
   (simp[*])<;>(repeat' (first|((first|refine sP _ ?_ ?_|refine gP _ ?_ ?_|refine sN _ ?_ ?_|refine gN _ ?_ ?_)<;>intro hc<;>(first|replace hc:=eqn hc|replace hc:=eqp hc)<;>simp[*])|((first|refine sM _ ?_ ?_|refine gM _ ?_ ?_|refine sB _ ?_ ?_|refine gB _ ?_ ?_)<;>intro hc<;>simp[*])))
   all_goals(try grind)
 ·intros s3 hp h1' h2' h3' h4';simp at h1' h2' h3';clear h1 h2 h3 hri hp;have wk:∃q:Nat,q=i+k/\zC .i64 ((i:Int)+k)=(q:Int)/\(q=s.length\/∃c,∃h:q<s.length,s[q]'h=c/\s[q]? =some c/\zTa c.toNat=false/\zcc c.toNat=false):=by
   refine⟨i+k,rfl,zj (by omega) (by omega),?_⟩;by_cases h:i+k<s.length
   ·have:=hre h;simp only[zF,yna]at this;exact yZa ⟨s[i+k],h,rfl,by simp[h],this.1,this.2⟩
   ·exact yTa (by omega)
  obtain⟨q,hq,wk,hstop⟩:=wk;clear hre;have hz:=run_zero hend;rw[hk]at hz;have b10:=fun h=>road_nl hroad hend h
  have bbl:=fun h=>road_blank hroad hend h
  have bcom:=fun h=>road_com hroad hend h
  have bname:=fun hp h=>road_name hroad hend hp h
  have bsign:=fun hp h=>road_sign hroad hend hp h
  rw[hk]at bname;have hle:=comLen_le s i hi;have hci:=comLen_in s i;have hce:=comLen_end s i;generalize hbb:s[i]=b at*;have l1:=zPa b.toNat [];have hbl:blank b=(decide ((b.toNat:Int)=32)||(decide ((b.toNat:Int)=9)||decide ((b.toNat:Int)=13))):=blank_eq b;by_cases c10:(b.toNat:Int)=10
  ·have r:=b10 c10;clear b10 bbl bcom bname bsign hz hroad e0 hle hci hce hq hbl;replace c10:=eqp c10;rcases hstop with hst|⟨c,hst,g1,g2,g3,g4⟩
   ·(simp[*])<;>(repeat' (first|((first|refine sP _ ?_ ?_|refine gP _ ?_ ?_|refine sN _ ?_ ?_|refine gN _ ?_ ?_)<;>intro hc<;>(first|replace hc:=eqn hc|replace hc:=eqp hc)<;>simp[*])|((first|refine sM _ ?_ ?_|refine gM _ ?_ ?_|refine sB _ ?_ ?_|refine gB _ ?_ ?_)<;>intro hc<;>simp[*])))
    all_goals exact⟨⟨i+1,line+1,ac⟩,by simp only;omega,⟨by simp,by simp,rfl⟩,r⟩
   ·have l2:=zPa c.toNat [];have l3:=zBb c.toNat []
    (simp[*])<;>(repeat' (first|((first|refine sP _ ?_ ?_|refine gP _ ?_ ?_|refine sN _ ?_ ?_|refine gN _ ?_ ?_)<;>intro hc<;>(first|replace hc:=eqn hc|replace hc:=eqp hc)<;>simp[*])|((first|refine sM _ ?_ ?_|refine gM _ ?_ ?_|refine sB _ ?_ ?_|refine gB _ ?_ ?_)<;>intro hc<;>simp[*])))
    all_goals exact⟨⟨i+1,line+1,ac⟩,by simp only;omega,⟨by simp,by simp,rfl⟩,r⟩
  replace c10:=eqn c10;cases hcb:blank b
  ·rw[hcb]at hbl;replace hbl:=hbl.symm;simp only[yna,decide_eq_false_iff_not]at hbl;obtain⟨c1,c2,c3⟩:=hbl;have hpl:¬(b=47/\(s.drop (i+1)).head? =some 47)->Plain s i hend:=fun h=>⟨by rw[hbb];simpa using c10,by rw[hbb];exact hcb,by rw[hbb];exact h⟩
   replace c1:=eqn c1;replace c2:=eqn c2;replace c3:=eqn c3;have w1':zC .i64 ((i:Int)+1)=((i+1:Nat):Int):=by rw[w0];simp
   by_cases hcom:(b.toNat:Int)=47/\∃h:i+1<s.length,(s[i+1].toNat:Int)=47
   ·obtain⟨c4,hj,c5⟩:=hcom;obtain⟨r,hpos⟩:=bcom c4 hj c5;clear b10 bbl bcom bname bsign hz hroad e0 hq hpl hcb;replace c4:=eqp c4;have gj:s[i+1]? =some s[i+1]:=by simp[hj]
    have gj':s[i+1]'hj=s[i+1]:=rfl;generalize hm:comLen s i=m at*;generalize hbj:s[i+1]=bj at*;have hj':(i:Int)+1<s.length:=by omega
    have tj:((i:Int)+1).toNat=i+1:=by omega
    have nj:(0:Int)<=(i:Int)+1:=by omega
    replace c5:=eqp c5;clear w1';rcases hstop with hst|⟨c,hst,g1,g2,g3,g4⟩
    ·(simp[*])<;>(repeat' (first|((first|refine sP _ ?_ ?_|refine gP _ ?_ ?_|refine sN _ ?_ ?_|refine gN _ ?_ ?_)<;>intro hc<;>(first|replace hc:=eqn hc|replace hc:=eqp hc)<;>simp[*])|((first|refine sM _ ?_ ?_|refine gM _ ?_ ?_|refine sB _ ?_ ?_|refine gB _ ?_ ?_)<;>intro hc<;>simp[*])))
     refine zG (yI m) K33_1 B33_1 (fun d=>[(7,.int .i64 ((i+d.length:Nat):Int))]) (fun _=>[]) (fun _=>True) (by simp;omega) (by simp) ?_ ?_
     ·intros d x r' s4 hl' hlt hget2 hget' hw hp h1'' h2'' h3'' h4'';simp at h1'' h3'' hlt;have hq2:i+d.length<s.length:=by omega
      have hcb:=hci d.length hlt hq2;have hgc:s[i+d.length]? =some s[i+d.length]:=by simp[hq2]
      have hcb':¬(s[i+d.length].toNat:Int)=10:=fun h=>hcb (yOa.1 (by simp;omega))
      have wi:zC .i64 ((i:Int)+d.length+1)=((i:Int)+d.length)+1:=zj (by omega) (by omega);have a0:(0:Int)<=(i:Int)+d.length:=by omega
      have a1:((i:Int)+d.length).toNat=i+d.length:=by omega
      have a2:(i:Int)+d.length<s.length:=by omega
      have a3:(i:Int)+(d.length+1)=(i:Int)+d.length+1:=by omega
      obtain⟨c2,hgc'⟩:∃c2,s[i+d.length]'hq2=c2:=⟨_,rfl⟩
      rw[hgc']at hcb hgc hcb';replace hcb':=eqn hcb';clear hci hce hget2 hget' hl' hbb hgi hget gj gj' h2'' hcb;simp[*]
     ·intros s4 hp h1'' h2'' h3'' h4'';simp at h1'' h3'';have a0:(0:Int)<=(i:Int)+m:=by omega
      have a1:((i:Int)+m).toNat=i+m:=by omega
      clear hci hbb hgi hget gj gj' h2'';by_cases hmm:i+m<s.length
      ·have hcb:=hce hmm;have hgc:s[i+m]? =some s[i+m]:=by simp[hmm]
       have a2:(i:Int)+m<s.length:=by omega
       rw[hcb]at hgc;clear hce;simp[*];exact⟨⟨i+m,line,ac⟩,by simp only;omega,⟨by simp,by simp,rfl⟩,r⟩
      ·have a2:¬(i:Int)+m<s.length:=by omega
       clear hce;simp[*];exact⟨⟨i+m,line,ac⟩,by simp only;omega,⟨by simp,by simp,rfl⟩,r⟩
    ·have l2:=zPa c.toNat [];have l3:=zBb c.toNat []
     (simp[*])<;>(repeat' (first|((first|refine sP _ ?_ ?_|refine gP _ ?_ ?_|refine sN _ ?_ ?_|refine gN _ ?_ ?_)<;>intro hc<;>(first|replace hc:=eqn hc|replace hc:=eqp hc)<;>simp[*])|((first|refine sM _ ?_ ?_|refine gM _ ?_ ?_|refine sB _ ?_ ?_|refine gB _ ?_ ?_)<;>intro hc<;>simp[*])))
     refine zG (yI m) K33_1 B33_1 (fun d=>[(7,.int .i64 ((i+d.length:Nat):Int))]) (fun _=>[]) (fun _=>True) (by simp;omega) (by simp) ?_ ?_
     ·intros d x r' s4 hl' hlt hget2 hget' hw hp h1'' h2'' h3'' h4'';simp at h1'' h3'' hlt;have hq2:i+d.length<s.length:=by omega
      have hcb:=hci d.length hlt hq2;have hgc:s[i+d.length]? =some s[i+d.length]:=by simp[hq2]
      have hcb':¬(s[i+d.length].toNat:Int)=10:=fun h=>hcb (yOa.1 (by simp;omega))
      have wi:zC .i64 ((i:Int)+d.length+1)=((i:Int)+d.length)+1:=zj (by omega) (by omega);have a0:(0:Int)<=(i:Int)+d.length:=by omega
      have a1:((i:Int)+d.length).toNat=i+d.length:=by omega
      have a2:(i:Int)+d.length<s.length:=by omega
      have a3:(i:Int)+(d.length+1)=(i:Int)+d.length+1:=by omega
      obtain⟨c2,hgc'⟩:∃c2,s[i+d.length]'hq2=c2:=⟨_,rfl⟩
      rw[hgc']at hcb hgc hcb';replace hcb':=eqn hcb';clear hci hce hget2 hget' hl' hbb hgi hget gj gj' h2'' hcb;simp[*]
     ·intros s4 hp h1'' h2'' h3'' h4'';simp at h1'' h3'';have a0:(0:Int)<=(i:Int)+m:=by omega
      have a1:((i:Int)+m).toNat=i+m:=by omega
      clear hci hbb hgi hget gj gj' h2'';by_cases hmm:i+m<s.length
      ·have hcb:=hce hmm;have hgc:s[i+m]? =some s[i+m]:=by simp[hmm]
       have a2:(i:Int)+m<s.length:=by omega
       rw[hcb]at hgc;clear hce;simp[*];exact⟨⟨i+m,line,ac⟩,by simp only;omega,⟨by simp,by simp,rfl⟩,r⟩
      ·have a2:¬(i:Int)+m<s.length:=by omega
       clear hce;simp[*];exact⟨⟨i+m,line,ac⟩,by simp only;omega,⟨by simp,by simp,rfl⟩,r⟩
   ·clear bcom hci hce hle;replace hpl:=hpl (by
     rintro⟨h1,h2⟩
     apply hcom;refine⟨by rw[h1];rfl,?_⟩;by_cases hj:i+1<s.length
     ·refine⟨hj,?_⟩;rw[zcb hj]at h2;simp at h2;have h3:s[i+1]=47:=by
       have:s[i+1]? =some s[i+1]:=by simp[hj]
       rw[this]at h2;simpa using h2
      rw[h3];rfl
     ·rw[List.drop_eq_nil_of_le (by omega)]at h2;simp at h2)
    have q4:(ac.length+1)*32<=zo:=by simp only[zo];omega
    cases hnb:zF b
    ·obtain⟨s0,s1⟩:=bsign hpl hnb;have hk0:k=0:=hz.2 hnb;have hs:=sign_spec (s.drop i) (by simp;omega);have hsl:=sign_len (s.drop i);simp at hsl;generalize hsg:zHe (s.drop i)=sg at*;have hcc:(¬(b.toNat:Int)=47)\/((b.toNat:Int)=47/\(i+1=s.length\/∃h:i+1<s.length,¬(s[i+1].toNat:Int)=47)):=by
      by_cases c4:(b.toNat:Int)=47
      ·right;refine⟨c4,?_⟩;by_cases hj:i+1<s.length
       ·exact yZa ⟨hj,fun h=>hcom ⟨c4,hj,h⟩⟩
       ·exact yTa (by omega)
      ·exact yTa c4
     have he:sg=[]->zO s=([],20,(line:Int)):=fun h=>by rw[e0];exact s0 h
     have hnb':=hnb;clear b10 bbl bname bsign hz hcb hcom hpl hroad s0 hnb e0 hk hrl hsg;subst hk0;have hwi:zC .i64 ((i:Int)+sg.length)=((i+sg.length:Nat):Int):=zj (by omega) (by omega);have hii:i<=s.length:=hi;generalize hq2:i+sg.length=q2 at*;have wi0:zC .i64 (i:Int)=i:=zj (by omega) (by omega);have l3:=zBb b.toNat [];simp only[zF,yna]at hnb';obtain⟨g3,g4⟩:=hnb';clear hq hstop wk;rcases hcc with c4|⟨c4,hj|⟨hj,c5⟩⟩
     ·replace c4:=eqn c4;by_cases hsn:sg=[]
      ·replace he:=he hsn;subst hsn;clear s1
       (simp[*])<;>(repeat' (first|((first|refine sP _ ?_ ?_|refine gP _ ?_ ?_|refine sN _ ?_ ?_|refine gN _ ?_ ?_)<;>intro hc<;>(first|replace hc:=eqn hc|replace hc:=eqp hc)<;>simp[*])|((first|refine sM _ ?_ ?_|refine gM _ ?_ ?_|refine sB _ ?_ ?_|refine gB _ ?_ ?_)<;>intro hc<;>simp[*])))
      ·replace s1:=s1 hsn;have hpos:0<sg.length:=yva.2 hsn;replace hsn:=eqn hsn;clear he
       (simp[*,zA])<;>(repeat' (first|((first|refine sP _ ?_ ?_|refine gP _ ?_ ?_|refine sN _ ?_ ?_|refine gN _ ?_ ?_)<;>intro hc<;>(first|replace hc:=eqn hc|replace hc:=eqp hc)<;>simp[*,zA])|((first|refine sM _ ?_ ?_|refine gM _ ?_ ?_|refine sB _ ?_ ?_|refine gB _ ?_ ?_)<;>intro hc<;>simp[*,zA])))
       all_goals exact⟨⟨q2,line,ac++[⟨2,sg,line⟩]⟩,by simp only;omega,⟨by first|rfl|omega|(simp only;omega),by simp,by simp[zA]⟩,s1⟩
     ·replace c4:=eqp c4;have hj1:¬(i:Int)+1<s.length:=by omega
      by_cases hsn:sg=[]
      ·replace he:=he hsn;subst hsn;clear s1
       (simp[*])<;>(repeat' (first|((first|refine sP _ ?_ ?_|refine gP _ ?_ ?_|refine sN _ ?_ ?_|refine gN _ ?_ ?_)<;>intro hc<;>(first|replace hc:=eqn hc|replace hc:=eqp hc)<;>simp[*])|((first|refine sM _ ?_ ?_|refine gM _ ?_ ?_|refine sB _ ?_ ?_|refine gB _ ?_ ?_)<;>intro hc<;>simp[*])))
      ·replace s1:=s1 hsn;have hpos:0<sg.length:=yva.2 hsn;replace hsn:=eqn hsn;clear he
       (simp[*,zA])<;>(repeat' (first|((first|refine sP _ ?_ ?_|refine gP _ ?_ ?_|refine sN _ ?_ ?_|refine gN _ ?_ ?_)<;>intro hc<;>(first|replace hc:=eqn hc|replace hc:=eqp hc)<;>simp[*,zA])|((first|refine sM _ ?_ ?_|refine gM _ ?_ ?_|refine sB _ ?_ ?_|refine gB _ ?_ ?_)<;>intro hc<;>simp[*,zA])))
       all_goals exact⟨⟨q2,line,ac++[⟨2,sg,line⟩]⟩,by simp only;omega,⟨by first|rfl|omega|(simp only;omega),by simp,by simp[zA]⟩,s1⟩
     ·replace c4:=eqp c4;have hj1:(i:Int)+1<s.length:=by omega
      have tj:((i:Int)+1).toNat=i+1:=by omega
      have nj:(0:Int)<=(i:Int)+1:=by omega
      obtain⟨bj,gj'⟩:∃bj,s[i+1]'hj=bj:=⟨_,rfl⟩
      rw[gj']at c5;replace c5:=eqn c5;clear w1';by_cases hsn:sg=[]
      ·replace he:=he hsn;subst hsn;clear s1
       (simp[*])<;>(repeat' (first|((first|refine sP _ ?_ ?_|refine gP _ ?_ ?_|refine sN _ ?_ ?_|refine gN _ ?_ ?_)<;>intro hc<;>(first|replace hc:=eqn hc|replace hc:=eqp hc)<;>simp[*])|((first|refine sM _ ?_ ?_|refine gM _ ?_ ?_|refine sB _ ?_ ?_|refine gB _ ?_ ?_)<;>intro hc<;>simp[*])))
      ·replace s1:=s1 hsn;have hpos:0<sg.length:=yva.2 hsn;replace hsn:=eqn hsn;clear he
       (simp[*,zA])<;>(repeat' (first|((first|refine sP _ ?_ ?_|refine gP _ ?_ ?_|refine sN _ ?_ ?_|refine gN _ ?_ ?_)<;>intro hc<;>(first|replace hc:=eqn hc|replace hc:=eqp hc)<;>simp[*,zA])|((first|refine sM _ ?_ ?_|refine gM _ ?_ ?_|refine sB _ ?_ ?_|refine gB _ ?_ ?_)<;>intro hc<;>simp[*,zA])))
       all_goals exact⟨⟨q2,line,ac++[⟨2,sg,line⟩]⟩,by simp only;omega,⟨by first|rfl|omega|(simp only;omega),by simp,by simp[zA]⟩,s1⟩
    ·obtain⟨s0,s1⟩:=bname hpl hnb;have hk0:0<k:=by
      rcases Nat.eq_zero_or_pos k with h|h
      ·rw[hz.1 h]at hnb;cases hnb
      ·exact h
     have c4:¬(b.toNat:Int)=47:=by
      intro h;have:b=47:=yOa.1 (by simp;omega);rw[this]at hnb;exact absurd hnb (by decide)
     rw[<-hq]at s0 s1;have hqi:i<=q:=by omega
     have hqs:q<=s.length:=by omega
     have hwl:((s.take q).drop i).length=k:=by simp;omega
     have hqk:i<q:=by omega
     clear hz hcom hpl hroad b10 bbl bname bsign hcb hk hrl;have hw1:=rword_spec ((s.take q).drop i) [];have hw2:=zGd ((s.take q).drop i) [];have hw3:=number_spec ((s.take q).drop i) (by simp;omega);have he:tokBad ((s.take q).drop i) b=true->zO s=([],20,(line:Int)):=fun h=>by rw[e0];exact s0 h
     clear s0 e0;have ww:zC .i64 ((i:Int)+k)=q:=wk;have hki:i+k=q:=hq.symm;clear hq;generalize hww:(s.take q).drop i=w at*;replace c4:=eqn c4;have hnbb:zF b=(zTa b.toNat||zcc b.toNat):=rfl;rw[hnb]at hnbb;replace hnbb:=hnbb.symm;have hkn:tokKind w b=if wordM w then 2 else if zTa b.toNat then 1 else 0:=rfl
     have hbn:tokBad w b=((decide (tokKind w b=1)&& !zGb w)||(decide (tokKind w b=0)&& !zCe w)):=rfl;rcases hstop with hst|⟨c,hst,g1,g2,g3,g4⟩
     ·rw[hst,yGa]at hww;cases f1:wordM w
      ·cases f2:zTa b.toNat
       ·rw[f1,f2]at hkn;simp at hkn;rw[hkn]at hbn s1;cases f3:zCe w
        ·rw[f3]at hbn;simp at hbn;replace he:=he hbn;clear s1 hkn hnbb hbn
         (simp[*])<;>(repeat' (first|((first|refine sP _ ?_ ?_|refine gP _ ?_ ?_|refine sN _ ?_ ?_|refine gN _ ?_ ?_)<;>intro hc<;>(first|replace hc:=eqn hc|replace hc:=eqp hc)<;>simp[*])|((first|refine sM _ ?_ ?_|refine gM _ ?_ ?_|refine sB _ ?_ ?_|refine gB _ ?_ ?_)<;>intro hc<;>simp[*])))
        ·rw[f3]at hbn;simp at hbn;replace s1:=s1 hbn;clear he hkn hnbb hbn
         (simp[*,zA])<;>(repeat' (first|((first|refine sP _ ?_ ?_|refine gP _ ?_ ?_|refine sN _ ?_ ?_|refine gN _ ?_ ?_)<;>intro hc<;>(first|replace hc:=eqn hc|replace hc:=eqp hc)<;>simp[*,zA])|((first|refine sM _ ?_ ?_|refine gM _ ?_ ?_|refine sB _ ?_ ?_|refine gB _ ?_ ?_)<;>intro hc<;>simp[*,zA])))
         all_goals exact⟨⟨q,line,ac++[⟨0,w,line⟩]⟩,by simp only;omega,⟨by first|rfl|omega|(simp only;omega),by simp,by simp[zA]⟩,s1⟩
       ·rw[f1,f2]at hkn;simp at hkn;rw[hkn]at hbn s1;cases f3:zGb w
        ·rw[f3]at hbn;simp at hbn;replace he:=he hbn;clear s1 hkn hnbb hbn
         (simp[*])<;>(repeat' (first|((first|refine sP _ ?_ ?_|refine gP _ ?_ ?_|refine sN _ ?_ ?_|refine gN _ ?_ ?_)<;>intro hc<;>(first|replace hc:=eqn hc|replace hc:=eqp hc)<;>simp[*])|((first|refine sM _ ?_ ?_|refine gM _ ?_ ?_|refine sB _ ?_ ?_|refine gB _ ?_ ?_)<;>intro hc<;>simp[*])))
        ·rw[f3]at hbn;simp at hbn;replace s1:=s1 hbn;clear he hkn hnbb hbn
         (simp[*,zA])<;>(repeat' (first|((first|refine sP _ ?_ ?_|refine gP _ ?_ ?_|refine sN _ ?_ ?_|refine gN _ ?_ ?_)<;>intro hc<;>(first|replace hc:=eqn hc|replace hc:=eqp hc)<;>simp[*,zA])|((first|refine sM _ ?_ ?_|refine gM _ ?_ ?_|refine sB _ ?_ ?_|refine gB _ ?_ ?_)<;>intro hc<;>simp[*,zA])))
         all_goals exact⟨⟨q,line,ac++[⟨1,w,line⟩]⟩,by simp only;omega,⟨by first|rfl|omega|(simp only;omega),by simp,by simp[zA]⟩,s1⟩
      ·rw[f1]at hkn;simp at hkn;rw[hkn]at hbn s1;simp at hbn;replace s1:=s1 hbn;clear he hkn hnbb hbn;cases f2:zTa b.toNat
       ·(simp[*,zA])<;>(repeat' (first|((first|refine sP _ ?_ ?_|refine gP _ ?_ ?_|refine sN _ ?_ ?_|refine gN _ ?_ ?_)<;>intro hc<;>(first|replace hc:=eqn hc|replace hc:=eqp hc)<;>simp[*,zA])|((first|refine sM _ ?_ ?_|refine gM _ ?_ ?_|refine sB _ ?_ ?_|refine gB _ ?_ ?_)<;>intro hc<;>simp[*,zA])))
        all_goals exact⟨⟨q,line,ac++[⟨2,w,line⟩]⟩,by simp only;omega,⟨by first|rfl|omega|(simp only;omega),by simp,by simp[zA]⟩,s1⟩
       ·(simp[*,zA])<;>(repeat' (first|((first|refine sP _ ?_ ?_|refine gP _ ?_ ?_|refine sN _ ?_ ?_|refine gN _ ?_ ?_)<;>intro hc<;>(first|replace hc:=eqn hc|replace hc:=eqp hc)<;>simp[*,zA])|((first|refine sM _ ?_ ?_|refine gM _ ?_ ?_|refine sB _ ?_ ?_|refine gB _ ?_ ?_)<;>intro hc<;>simp[*,zA])))
        all_goals exact⟨⟨q,line,ac++[⟨2,w,line⟩]⟩,by simp only;omega,⟨by first|rfl|omega|(simp only;omega),by simp,by simp[zA]⟩,s1⟩
     ·have l2:=zPa c.toNat [];have l3:=zBb c.toNat [];cases f1:wordM w
      ·cases f2:zTa b.toNat
       ·rw[f1,f2]at hkn;simp at hkn;rw[hkn]at hbn s1;cases f3:zCe w
        ·rw[f3]at hbn;simp at hbn;replace he:=he hbn;clear s1 hkn hnbb hbn
         (simp[*])<;>(repeat' (first|((first|refine sP _ ?_ ?_|refine gP _ ?_ ?_|refine sN _ ?_ ?_|refine gN _ ?_ ?_)<;>intro hc<;>(first|replace hc:=eqn hc|replace hc:=eqp hc)<;>simp[*])|((first|refine sM _ ?_ ?_|refine gM _ ?_ ?_|refine sB _ ?_ ?_|refine gB _ ?_ ?_)<;>intro hc<;>simp[*])))
        ·rw[f3]at hbn;simp at hbn;replace s1:=s1 hbn;clear he hkn hnbb hbn
         (simp[*,zA])<;>(repeat' (first|((first|refine sP _ ?_ ?_|refine gP _ ?_ ?_|refine sN _ ?_ ?_|refine gN _ ?_ ?_)<;>intro hc<;>(first|replace hc:=eqn hc|replace hc:=eqp hc)<;>simp[*,zA])|((first|refine sM _ ?_ ?_|refine gM _ ?_ ?_|refine sB _ ?_ ?_|refine gB _ ?_ ?_)<;>intro hc<;>simp[*,zA])))
         all_goals exact⟨⟨q,line,ac++[⟨0,w,line⟩]⟩,by simp only;omega,⟨by first|rfl|omega|(simp only;omega),by simp,by simp[zA]⟩,s1⟩
       ·rw[f1,f2]at hkn;simp at hkn;rw[hkn]at hbn s1;cases f3:zGb w
        ·rw[f3]at hbn;simp at hbn;replace he:=he hbn;clear s1 hkn hnbb hbn
         (simp[*])<;>(repeat' (first|((first|refine sP _ ?_ ?_|refine gP _ ?_ ?_|refine sN _ ?_ ?_|refine gN _ ?_ ?_)<;>intro hc<;>(first|replace hc:=eqn hc|replace hc:=eqp hc)<;>simp[*])|((first|refine sM _ ?_ ?_|refine gM _ ?_ ?_|refine sB _ ?_ ?_|refine gB _ ?_ ?_)<;>intro hc<;>simp[*])))
        ·rw[f3]at hbn;simp at hbn;replace s1:=s1 hbn;clear he hkn hnbb hbn
         (simp[*,zA])<;>(repeat' (first|((first|refine sP _ ?_ ?_|refine gP _ ?_ ?_|refine sN _ ?_ ?_|refine gN _ ?_ ?_)<;>intro hc<;>(first|replace hc:=eqn hc|replace hc:=eqp hc)<;>simp[*,zA])|((first|refine sM _ ?_ ?_|refine gM _ ?_ ?_|refine sB _ ?_ ?_|refine gB _ ?_ ?_)<;>intro hc<;>simp[*,zA])))
         all_goals exact⟨⟨q,line,ac++[⟨1,w,line⟩]⟩,by simp only;omega,⟨by first|rfl|omega|(simp only;omega),by simp,by simp[zA]⟩,s1⟩
      ·rw[f1]at hkn;simp at hkn;rw[hkn]at hbn s1;simp at hbn;replace s1:=s1 hbn;clear he hkn hnbb hbn;cases f2:zTa b.toNat
       ·(simp[*,zA])<;>(repeat' (first|((first|refine sP _ ?_ ?_|refine gP _ ?_ ?_|refine sN _ ?_ ?_|refine gN _ ?_ ?_)<;>intro hc<;>(first|replace hc:=eqn hc|replace hc:=eqp hc)<;>simp[*,zA])|((first|refine sM _ ?_ ?_|refine gM _ ?_ ?_|refine sB _ ?_ ?_|refine gB _ ?_ ?_)<;>intro hc<;>simp[*,zA])))
        all_goals exact⟨⟨q,line,ac++[⟨2,w,line⟩]⟩,by simp only;omega,⟨by first|rfl|omega|(simp only;omega),by simp,by simp[zA]⟩,s1⟩
       ·(simp[*,zA])<;>(repeat' (first|((first|refine sP _ ?_ ?_|refine gP _ ?_ ?_|refine sN _ ?_ ?_|refine gN _ ?_ ?_)<;>intro hc<;>(first|replace hc:=eqn hc|replace hc:=eqp hc)<;>simp[*,zA])|((first|refine sM _ ?_ ?_|refine gM _ ?_ ?_|refine sB _ ?_ ?_|refine gB _ ?_ ?_)<;>intro hc<;>simp[*,zA])))
        all_goals exact⟨⟨q,line,ac++[⟨2,w,line⟩]⟩,by simp only;omega,⟨by first|rfl|omega|(simp only;omega),by simp,by simp[zA]⟩,s1⟩
  ·have r:=bbl hcb;rw[hcb]at hbl;replace hbl:=hbl.symm;simp only[yS,decide_eq_true_eq]at hbl;clear b10 bbl bcom bname bsign hz hroad e0 hle hci hce hq hcb;rcases hbl with c1|c1|c1
   all_goals
    replace c1:=eqp c1;rcases hstop with hst|⟨c,hst,g1,g2,g3,g4⟩
    ·(simp[*])<;>(repeat' (first|((first|refine sP _ ?_ ?_|refine gP _ ?_ ?_|refine sN _ ?_ ?_|refine gN _ ?_ ?_)<;>intro hc<;>(first|replace hc:=eqn hc|replace hc:=eqp hc)<;>simp[*])|((first|refine sM _ ?_ ?_|refine gM _ ?_ ?_|refine sB _ ?_ ?_|refine gB _ ?_ ?_)<;>intro hc<;>simp[*])))
     all_goals exact⟨⟨i+1,line,ac⟩,by simp only;omega,⟨by simp,by simp,rfl⟩,r⟩
    ·have l2:=zPa c.toNat [];have l3:=zBb c.toNat []
     (simp[*])<;>(repeat' (first|((first|refine sP _ ?_ ?_|refine gP _ ?_ ?_|refine sN _ ?_ ?_|refine gN _ ?_ ?_)<;>intro hc<;>(first|replace hc:=eqn hc|replace hc:=eqp hc)<;>simp[*])|((first|refine sM _ ?_ ?_|refine gM _ ?_ ?_|refine sB _ ?_ ?_|refine gB _ ?_ ?_)<;>intro hc<;>simp[*])))
     all_goals exact⟨⟨i+1,line,ac⟩,by simp only;omega,⟨by simp,by simp,rfl⟩,r⟩
@[simp] theorem rebuild_agg(a l:List PV):zOa (.agg a) l= .agg l:=ye rfl rfl
structure PS where
 at':Nat
 bad:Bool
 deep:Bool
def pob(T:List Tok)(p:PS):zc:=[.arr 4 [.agg [toks T,.int .i64 p.at',.bool p.bad,.bool p.deep]]]
def tk(T:List Tok)(i:Nat):Tok:=T[i]?.getD ⟨3,[],0⟩
def zfb(p:PS):Bool:=p.bad||p.deep
def isF(T:List Tok)(s:List UInt8)(p:PS):Bool:= !zfb p&&(decide ((tk T p.at').kind=2)&&decide ((tk T p.at').text=s))
def takeF(T:List Tok)(s:List UInt8)(p:PS):Bool×PS:=if isF T s p then(true,{p with at':=p.at'+1})else(false,p)
def zMa(T:List Tok)(s:List UInt8)(p:PS):PS:=if isF T s p then{p with at':=p.at'+1}else if p.deep then p else{p with bad:=true}
def zka(T:List Tok)(k:Int)(p:PS):List UInt8×PS:=if zfb p then([],p)else if(tk T p.at').kind=k then((tk T p.at').text,{p with at':=p.at'+1})else([],{p with bad:=true})
def zma(T:List Tok)(p:PS):Int×PS:=if isF T [105,110,116] p then(1,{p with at':=p.at'+1})else(2,zMa T [98,111,111,108] p)
structure Inv1(T:List Tok)(p:PS):Prop where
 lt:p.at'<T.length
 last:∃t,T[T.length-1]? =some t/\t.kind=3
 sm:T.length<1000000
 num:∀t∈T,t.kind=0->digs t.text=true/\t.text.length<1000000
theorem tk_get{T:List Tok}{i:Nat}(h:i<T.length):T[i]? =some (tk T i):=by unfold tk;simp[h]
theorem tk_get'{T:List Tok}{i:Nat}(h:i<T.length):T[i]'h=tk T i:=by unfold tk;simp[h]
theorem Inv1.next{T:List Tok}{p:PS}(h:Inv1 T p)(hk:(tk T p.at').kind≠3)(b d:Bool):Inv1 T ⟨p.at'+1,b,d⟩:=by
 obtain⟨h1,⟨t,h2,h3⟩,h4,h5⟩:=h;refine⟨?_,⟨t,h2,h3⟩,h4,h5⟩;show p.at'+1<T.length
 rcases yB (p.at'+1) T.length with h|h
 ·exact h
 ·have:p.at'=T.length-1:=by omega
  unfold tk at hk;rw[this,h2]at hk;exact absurd h3 hk
theorem isF_kind{T:List Tok}{s:List UInt8}{p:PS}(h:isF T s p=true):(tk T p.at').kind=2/\(tk T p.at').text=s/\p.bad=false/\p.deep=false:=by
 simp[isF,zfb]at h;grind
def adv(p:PS):PS:={p with at':=p.at'+1}
theorem zW(T:List Tok)(s:List UInt8)(p:PS):takeF T s p=if isF T s p then(true,adv p)else(false,p):=rfl
theorem Inv1.adv{T:List Tok}{p:PS}(I:Inv1 T p)(s:List UInt8)(h:isF T s p=true):Inv1 T (adv p):=I.next (by rw[(isF_kind h).1];decide) _ _
section
variable {T:List Tok} {p:PS}
theorem zIc(I:Inv1 T p):zi E 63 [.ptr 0 0 0] (pob T p)=some (.ret (.bool (zfb p)),pob T p):=by
 refine zd rfl rfl rfl (by simp) ?_;unfold zfb;cases hb:p.bad<;>(simp[*,F63,pob,toks])<;>(repeat' ((first|refine sP _ ?_ ?_|refine gP _ ?_ ?_|refine sN _ ?_ ?_|refine gN _ ?_ ?_|refine sM _ ?_ ?_|refine gM _ ?_ ?_|refine sB _ ?_ ?_|refine gB _ ?_ ?_)<;>intro hc<;>simp[*,F63,pob,toks]))
theorem is_spec(I:Inv1 T p)(s:List UInt8):zi E 94 [.ptr 0 0 0,.str s] (pob T p)=some (.ret (.bool (isF T s p)),pob T p):=by
 refine zd rfl rfl rfl (by simp) ?_;have h1:=zIc I;have hlt:=I.lt;have hg:=tk_get hlt;have hg':=tk_get' hlt;unfold isF;cases ho:zfb p
 ·rw[ho]at h1;by_cases hk:(tk T p.at').kind=2
  ·have hk':decide ((tk T p.at').kind=2)=true:=decide_eq_true hk;replace hk:=eqp hk;simp[pob,toks]at h1
   (simp[*,F94,pob,toks,zA])<;>(repeat' (first|((first|refine sP _ ?_ ?_|refine gP _ ?_ ?_|refine sN _ ?_ ?_|refine gN _ ?_ ?_)<;>intro hc<;>(first|replace hc:=eqn hc|replace hc:=eqp hc)<;>simp[*,F94,pob,toks,zA])|((first|refine sM _ ?_ ?_|refine gM _ ?_ ?_|refine sB _ ?_ ?_|refine gB _ ?_ ?_)<;>intro hc<;>simp[*,F94,pob,toks,zA])))
  ·have hk':decide ((tk T p.at').kind=2)=false:=decide_eq_false hk;replace hk:=eqn hk;simp[pob,toks]at h1
   (simp[*,F94,pob,toks,zA])<;>(repeat' (first|((first|refine sP _ ?_ ?_|refine gP _ ?_ ?_|refine sN _ ?_ ?_|refine gN _ ?_ ?_)<;>intro hc<;>(first|replace hc:=eqn hc|replace hc:=eqp hc)<;>simp[*,F94,pob,toks,zA])|((first|refine sM _ ?_ ?_|refine gM _ ?_ ?_|refine sB _ ?_ ?_|refine gB _ ?_ ?_)<;>intro hc<;>simp[*,F94,pob,toks,zA])))
 ·rw[ho]at h1;simp[pob,toks]at h1
  (simp[*,F94,pob,toks,zA])<;>(repeat' (first|((first|refine sP _ ?_ ?_|refine gP _ ?_ ?_|refine sN _ ?_ ?_|refine gN _ ?_ ?_)<;>intro hc<;>(first|replace hc:=eqn hc|replace hc:=eqp hc)<;>simp[*,F94,pob,toks,zA])|((first|refine sM _ ?_ ?_|refine gM _ ?_ ?_|refine sB _ ?_ ?_|refine gB _ ?_ ?_)<;>intro hc<;>simp[*,F94,pob,toks,zA])))
theorem Inv1.bad'(I:Inv1 T p):Inv1 T {p with bad:=true}:=⟨I.lt,I.last,I.sm,I.num⟩
theorem Inv1.deep'(I:Inv1 T p):Inv1 T {p with deep:=true}:=⟨I.lt,I.last,I.sm,I.num⟩
theorem Inv1.must(I:Inv1 T p)(s:List UInt8):Inv1 T (zMa T s p):=by
 unfold zMa;split
 ·rename_i h;exact I.next (by rw[(isF_kind h).1];decide) _ _
 ·split
  ·exact I
  ·exact I.bad'
theorem Inv1.text(I:Inv1 T p)(k:Int)(hk:k≠3):Inv1 T (zka T k p).2:=by
 unfold zka;split
 ·exact I
 ·split
  ·rename_i h;exact I.next (by rw[h];exact hk) _ _
  ·exact I.bad'
theorem Inv1.typed(I:Inv1 T p):Inv1 T (zma T p).2:=by
 unfold zma;split
 ·rename_i h;exact I.next (by rw[(isF_kind h).1];decide) _ _
 ·exact I.must _
theorem zH(I:Inv1 T p)(s:List UInt8):zi E 66 [.ptr 0 0 0,.str s] (pob T p)=some (.ret (.bool (takeF T s p).1),pob T (takeF T s p).2):=by
 refine zd rfl rfl rfl (by simp) ?_;have h1:=is_spec I s;have hw:zC .i64 ((p.at':Int)+1)=(p.at':Int)+1:=zj (by omega) (by have:=I.lt;have:=I.sm;omega);unfold takeF;cases ho:isF T s p
 ·rw[ho]at h1;simp[pob,toks]at h1
  (simp[*,F66,pob,toks])<;>(repeat' (first|((first|refine sP _ ?_ ?_|refine gP _ ?_ ?_|refine sN _ ?_ ?_|refine gN _ ?_ ?_)<;>intro hc<;>(first|replace hc:=eqn hc|replace hc:=eqp hc)<;>simp[*,F66,pob,toks])|((first|refine sM _ ?_ ?_|refine gM _ ?_ ?_|refine sB _ ?_ ?_|refine gB _ ?_ ?_)<;>intro hc<;>simp[*,F66,pob,toks])))
 ·rw[ho]at h1;simp[pob,toks]at h1
  (simp[*,F66,pob,toks])<;>(repeat' (first|((first|refine sP _ ?_ ?_|refine gP _ ?_ ?_|refine sN _ ?_ ?_|refine gN _ ?_ ?_)<;>intro hc<;>(first|replace hc:=eqn hc|replace hc:=eqp hc)<;>simp[*,F66,pob,toks])|((first|refine sM _ ?_ ?_|refine gM _ ?_ ?_|refine sB _ ?_ ?_|refine gB _ ?_ ?_)<;>intro hc<;>simp[*,F66,pob,toks])))
theorem zB(I:Inv1 T p)(s:List UInt8):zi E 67 [.ptr 0 0 0,.str s] (pob T p)=some (.ret (.tup []),pob T (zMa T s p)):=by
 refine zd rfl rfl rfl (by simp) ?_;have h1:=zH I s;unfold zMa;unfold takeF at h1;cases ho:isF T s p
 ·rw[ho]at h1;simp[pob,toks]at h1;cases hd:p.deep
  ·rw[hd]at h1
   (simp[*,F67,pob,toks])<;>(repeat' (first|((first|refine sP _ ?_ ?_|refine gP _ ?_ ?_|refine sN _ ?_ ?_|refine gN _ ?_ ?_)<;>intro hc<;>(first|replace hc:=eqn hc|replace hc:=eqp hc)<;>simp[*,F67,pob,toks])|((first|refine sM _ ?_ ?_|refine gM _ ?_ ?_|refine sB _ ?_ ?_|refine gB _ ?_ ?_)<;>intro hc<;>simp[*,F67,pob,toks])))
  ·rw[hd]at h1
   (simp[*,F67,pob,toks])<;>(repeat' (first|((first|refine sP _ ?_ ?_|refine gP _ ?_ ?_|refine sN _ ?_ ?_|refine gN _ ?_ ?_)<;>intro hc<;>(first|replace hc:=eqn hc|replace hc:=eqp hc)<;>simp[*,F67,pob,toks])|((first|refine sM _ ?_ ?_|refine gM _ ?_ ?_|refine sB _ ?_ ?_|refine gB _ ?_ ?_)<;>intro hc<;>simp[*,F67,pob,toks])))
 ·rw[ho]at h1;simp[pob,toks]at h1
  (simp[*,F67,pob,toks])<;>(repeat' (first|((first|refine sP _ ?_ ?_|refine gP _ ?_ ?_|refine sN _ ?_ ?_|refine gN _ ?_ ?_)<;>intro hc<;>(first|replace hc:=eqn hc|replace hc:=eqp hc)<;>simp[*,F67,pob,toks])|((first|refine sM _ ?_ ?_|refine gM _ ?_ ?_|refine sB _ ?_ ?_|refine gB _ ?_ ?_)<;>intro hc<;>simp[*,F67,pob,toks])))
theorem zld(I:Inv1 T p)(k:Int):zi E 65 [.ptr 0 0 0,.int .i64 k] (pob T p)=some (.ret (.str (zka T k p).1),pob T (zka T k p).2):=by
 refine zd rfl rfl rfl (by simp) ?_;have h1:=zIc I;have hlt:=I.lt;have hg:=tk_get hlt;have hg':=tk_get' hlt;have hw:zC .i64 ((p.at':Int)+1)=(p.at':Int)+1:=zj (by omega) (by have:=I.lt;have:=I.sm;omega);unfold zka;cases ho:zfb p
 ·rw[ho]at h1;simp[pob,toks]at h1;by_cases hk:(tk T p.at').kind=k
  ·replace hk:=eqp hk
   (simp[*,F65,pob,toks,zA])<;>(repeat' (first|((first|refine sP _ ?_ ?_|refine gP _ ?_ ?_|refine sN _ ?_ ?_|refine gN _ ?_ ?_)<;>intro hc<;>(first|replace hc:=eqn hc|replace hc:=eqp hc)<;>simp[*,F65,pob,toks,zA])|((first|refine sM _ ?_ ?_|refine gM _ ?_ ?_|refine sB _ ?_ ?_|refine gB _ ?_ ?_)<;>intro hc<;>simp[*,F65,pob,toks,zA])))
  ·replace hk:=eqn hk
   (simp[*,F65,pob,toks,zA])<;>(repeat' (first|((first|refine sP _ ?_ ?_|refine gP _ ?_ ?_|refine sN _ ?_ ?_|refine gN _ ?_ ?_)<;>intro hc<;>(first|replace hc:=eqn hc|replace hc:=eqp hc)<;>simp[*,F65,pob,toks,zA])|((first|refine sM _ ?_ ?_|refine gM _ ?_ ?_|refine sB _ ?_ ?_|refine gB _ ?_ ?_)<;>intro hc<;>simp[*,F65,pob,toks,zA])))
 ·rw[ho]at h1;simp[pob,toks]at h1
  (simp[*,F65,pob,toks,zA])<;>(repeat' (first|((first|refine sP _ ?_ ?_|refine gP _ ?_ ?_|refine sN _ ?_ ?_|refine gN _ ?_ ?_)<;>intro hc<;>(first|replace hc:=eqn hc|replace hc:=eqp hc)<;>simp[*,F65,pob,toks,zA])|((first|refine sM _ ?_ ?_|refine gM _ ?_ ?_|refine sB _ ?_ ?_|refine gB _ ?_ ?_)<;>intro hc<;>simp[*,F65,pob,toks,zA])))
theorem typed_spec(I:Inv1 T p):zi E 64 [.ptr 0 0 0] (pob T p)=some (.ret (.int .i64 (zma T p).1),pob T (zma T p).2):=by
 refine zd rfl rfl rfl (by simp) ?_;have h1:=zH I [105,110,116];have h2:=zB I [98,111,111,108];unfold zma;unfold takeF at h1;cases ho:isF T [105,110,116] p
 ·rw[ho]at h1
  (simp[*,F64])<;>(repeat' (first|((first|refine sP _ ?_ ?_|refine gP _ ?_ ?_|refine sN _ ?_ ?_|refine gN _ ?_ ?_)<;>intro hc<;>(first|replace hc:=eqn hc|replace hc:=eqp hc)<;>simp[*,F64])|((first|refine sM _ ?_ ?_|refine gM _ ?_ ?_|refine sB _ ?_ ?_|refine gB _ ?_ ?_)<;>intro hc<;>simp[*,F64])))
 ·rw[ho]at h1
  (simp[*,F64])<;>(repeat' (first|((first|refine sP _ ?_ ?_|refine gP _ ?_ ?_|refine sN _ ?_ ?_|refine gN _ ?_ ?_)<;>intro hc<;>(first|replace hc:=eqn hc|replace hc:=eqp hc)<;>simp[*,F64])|((first|refine sM _ ?_ ?_|refine gM _ ?_ ?_|refine sB _ ?_ ?_|refine gB _ ?_ ?_)<;>intro hc<;>simp[*,F64])))
end
def signsR:List (List UInt8):=[[43],[45],[42],[47],[37],[38],[124],[94],[60,60],[62,62],[62,62,62],[60],[60,61],[62],[62,61],[61,61],[33,61],[38,38],[124,124],[45],[126],[33],[105,56],[105,49,54],[105,51,50],[117,56],[117,49,54],[117,51,50]]
def signR(op:Int):List UInt8:=if op<1\/28<op then[]else signsR[(op-1).toNat]?.getD []
def zMe(op:Int):Int:=
 if op=19 then 1 else if op=18 then 2 else if op=7 then 3 else if op=8 then 4 else if op=6 then 5
 else if op=16\/op=17 then 6 else if op=12\/op=13\/op=14\/op=15 then 7 else if op=9\/op=10\/op=11 then 8
 else if op=1\/op=2 then 9 else if op=3\/op=4\/op=5 then 10 else 0
def oneR(op:Int):Bool:=decide (20<=op)&&decide (op<=28)
theorem signs_spec:zi E 201 [] []=some (.ret (.slice .plain 1 (signsR.map PV.str)),[]):=by
 refine zd rfl rfl rfl (by simp) ?_;have:signsR.map PV.str=[PV.str [43],PV.str [45],PV.str [42],PV.str [47],PV.str [37],PV.str [38],PV.str [124],PV.str [94],PV.str [60,60],PV.str [62,62],PV.str [62,62,62],PV.str [60],PV.str [60,61],PV.str [62],PV.str [62,61],PV.str [61,61],PV.str [33,61],PV.str [38,38],PV.str [124,124],PV.str [45],PV.str [126],PV.str [33],PV.str [105,56],PV.str [105,49,54],PV.str [105,51,50],PV.str [117,56],PV.str [117,49,54],PV.str [117,51,50]]:=rfl;rw[this];simp[F201]
theorem rsign_spec(op:Int):zi E 194 [.int .i64 op] []=some (.ret (.str (signR op)),[]):=by
 refine zd rfl rfl rfl (by simp) ?_;have hs:=signs_spec;unfold signR;by_cases h1:op<1
 ·(simp[*,F194])<;>(repeat' ((first|refine sP _ ?_ ?_|refine gP _ ?_ ?_|refine sN _ ?_ ?_|refine gN _ ?_ ?_|refine sM _ ?_ ?_|refine gM _ ?_ ?_|refine sB _ ?_ ?_|refine gB _ ?_ ?_)<;>intro hc<;>simp[*,F194]))
 ·by_cases h2:28<op
  ·(simp[*,F194])<;>(repeat' ((first|refine sP _ ?_ ?_|refine gP _ ?_ ?_|refine sN _ ?_ ?_|refine gN _ ?_ ?_|refine sM _ ?_ ?_|refine gM _ ?_ ?_|refine sB _ ?_ ?_|refine gB _ ?_ ?_)<;>intro hc<;>simp[*,F194]))
  ·have hw:zC .i64 (op-1)=op-1:=zj (by omega) (by omega);have h3:0<=op-1:=by omega
   have hl:signsR.length=28:=rfl;have h4:op.toNat-1<signsR.length:=by omega
   have h6:(op-1).toNat=op.toNat-1:=by omega
   rw[h6];have h5:signsR[op.toNat-1]? =some (signsR[op.toNat-1]'h4):=by simp[h4]
   clear h6;generalize hx:op.toNat-1=n at*;have h3':1<=op:=by omega
   clear hl;generalize signsR=l at*
   (simp[*,F194])<;>(repeat' ((first|refine sP _ ?_ ?_|refine gP _ ?_ ?_|refine sN _ ?_ ?_|refine gN _ ?_ ?_|refine sM _ ?_ ?_|refine gM _ ?_ ?_|refine sB _ ?_ ?_|refine gB _ ?_ ?_)<;>intro hc<;>simp[*,F194]))
theorem rlevel_spec(op:Int):zi E 122 [.int .i64 op] []=some (.ret (.int .i64 (zMe op)),[]):=by
 refine zd rfl rfl rfl (by simp) ?_;unfold zMe
 (simp[*,F122])<;>(repeat' ((first|refine sP _ ?_ ?_|refine gP _ ?_ ?_|refine sN _ ?_ ?_|refine gN _ ?_ ?_|refine sM _ ?_ ?_|refine gM _ ?_ ?_|refine sB _ ?_ ?_|refine gB _ ?_ ?_)<;>intro hc<;>simp[*,F122]))
theorem roneR_spec(op:Int):zi E 121 [.int .i64 op] []=some (.ret (.bool (oneR op)),[]):=by
 refine zd rfl rfl rfl (by simp) ?_;unfold oneR
 (simp[*,F121])<;>(repeat' ((first|refine sP _ ?_ ?_|refine gP _ ?_ ?_|refine sN _ ?_ ?_|refine gN _ ?_ ?_|refine sM _ ?_ ?_|refine gM _ ?_ ?_|refine sB _ ?_ ?_|refine gB _ ?_ ?_)<;>intro hc<;>simp[*,F121]))
def opHere(T:List Tok)(L:Int)(p:PS)(i:Nat):Bool:=decide (zMe (i+1:Nat)=L)&&isF T (signR (i+1:Nat)) p
def opF(T:List Tok)(L:Int)(p:PS):Int:=match(yI 19).find? (opHere T L p)with
 |some i=>((i+1:Nat):Int)
 |none=>0
theorem op_spec{T:List Tok}{p:PS}(I:Inv1 T p)(L:Int):zi E 176 [.ptr 0 0 0,.int .i64 L] (pob T p)=some (.ret (.int .i64 (opF T L p)),pob T p):=by
 refine zd rfl rfl rfl (by simp) ?_;simp[F176];refine zG (yI 19) K176_0 B176_0 (fun d=>[(5,.int .i64 ((d.length+1:Nat):Int))]) (fun _=>pob T p) (fun d=>∀i∈d,opHere T L p i=false) (by simp) (by simp) ?_ ?_
 ·intros d x r s1 hl' hlt hget hget' hw hp h1 h2 h3 h4;simp at h1 h3 hlt;have hx:x=d.length:=by rw[<-hget',List.getElem_range]
  subst hx;have e1:=rlevel_spec ((d.length+1:Nat):Int);have e2:=rsign_spec ((d.length+1:Nat):Int);have e3:=is_spec I (signR ((d.length+1:Nat):Int));have hle:(d.length:Int)+1<=19:=by omega
  have hw2:zC .i64 ((d.length:Int)+1+1)=(d.length:Int)+1+1:=zj (by omega) (by omega);have hf:opHere T L p d.length=true->opF T L p=((d.length+1:Nat):Int):=by
   intro h;unfold opF;rw[hl'.eq,ybb];have:d.find? (opHere T L p)=none:=by rw[yma];intro y hy;simp[hp y hy]
   rw[this];simp[yjb,h]
  have ho:opHere T L p d.length=(decide (zMe ((d.length+1:Nat):Int)=L)&&isF T (signR ((d.length+1:Nat):Int)) p):=rfl;have hn:=fun(h:opHere T L p d.length=false)=>(fun i (hi:i∈d++[d.length])=>by
   rcases yx.1 hi with h'|h'
   ·exact hp i h'
   ·rw[yL.1 h'];exact h:∀i∈d++[d.length],opHere T L p i=false)
  clear h2 hget hget' hl' hp;simp at e1 e2 e3 ho hf;by_cases hL:zMe ((d.length:Int)+1)=L
  ·have hL':decide (zMe ((d.length:Int)+1)=L)=true:=decide_eq_true hL;rw[hL',yka]at ho;replace hL:=eqp hL;cases hi:isF T (signR ((d.length:Int)+1)) p
   ·replace hn:=hn (ho.trans hi);rw[hi]at ho e3;clear hf ho;simp[*];grind
   ·replace hf:=hf (ho.trans hi);rw[hi]at ho e3;clear hn ho;simp[*]
  ·have hL':decide (zMe ((d.length:Int)+1)=L)=false:=decide_eq_false hL;rw[hL',Bool.false_and]at ho;replace hL:=eqn hL;replace hn:=hn ho;clear hf ho;simp[*];grind
 ·intros s1 hp h1 h2 h3 h4;simp at h1 h3;have hf:opF T L p=0:=by
   unfold opF;have:(yI 19).find? (opHere T L p)=none:=by rw[yma];intro y hy;simp[hp y hy]
   rw[this]
  clear h2 hp;simp[*]
def zic(T:List Tok)(p:PS)(i:Nat):Bool:=isF T (signR ((i+20:Nat):Int)) p
def deepF(d:Int)(p:PS):PS:=if 100<d then if p.bad then p else{p with deep:=true}else p
theorem Inv1.deepF{T:List Tok}{p:PS}(I:Inv1 T p)(d:Int):Inv1 T (deepF d p):=by
 unfold PE.U.deepF;split
 ·split
  ·exact I
  ·exact I.deep'
 ·exact I
def unF(T:List Tok)(p:PS):Option Nat:=(yI 9).find? (zic T p)
mutual
def zkd(T:List Tok):Nat->Int->PS->Option (Expr×PS)
 |0,_,_=>none
 |n+1,d,p=>
  if zfb p then some (⟨0,0,0,[],[]⟩,p)
  else if isF T [40] p then
   match zLc T n 1 (d+1) (adv p)with
   |none=>none
   |some q=>some (q.1,zMa T [41] q.2)
  else if isF T [116,114,117,101] p then some (⟨2,0,1,[],[]⟩,adv p)
  else if isF T [102,97,108,115,101] p then some (⟨2,0,0,[],[]⟩,adv p)
  else if isF T [114,101,97,100] p then some (⟨8,0,0,[],[]⟩,zMa T [41] (zMa T [40] (adv p)))
  else if(tk T p.at').kind=0 then some (⟨1,0,zie (tk T p.at').text,[],[]⟩,adv p)
  else if isF T [40] (zka T 1 p).2 then
   match argsF T n (d+1) (adv (zka T 1 p).2)with
   |none=>none
   |some q=>some (⟨7,0,0,(zka T 1 p).1,q.1⟩,q.2)
  else if isF T [91] (zka T 1 p).2 then
   match zLc T n 1 (d+1) (adv (zka T 1 p).2)with
   |none=>none
   |some q=>some (⟨6,0,0,(zka T 1 p).1,[q.1]⟩,zMa T [93] q.2)
  else some (⟨3,0,0,(zka T 1 p).1,[]⟩,(zka T 1 p).2)
def unaryF(T:List Tok):Nat->Int->PS->Option (Expr×PS)
 |0,_,_=>none
 |n+1,d,p=>
  match unF T (deepF d p)with
  |some i=>
   if 3<=i then
    match zLc T n 1 (d+1) (zMa T [40] (adv (deepF d p)))with
    |none=>none
    |some q=>some (⟨4,((i+20:Nat):Int),0,[],[q.1]⟩,zMa T [41] q.2)
   else
    match unaryF T n (d+1) (adv (deepF d p))with
    |none=>none
    |some q=>some (⟨4,((i+20:Nat):Int),0,[],[q.1]⟩,q.2)
  |none=>zkd T n d (deepF d p)
def zLc(T:List Tok):Nat->Int->Int->PS->Option (Expr×PS)
 |0,_,_,_=>none
 |n+1,L,d,p=>
  if 10<L then unaryF T n d p
  else match zLc T n (L+1) d p with
   |none=>none
   |some q=>zqb T n L d q.1 q.2
def zqb(T:List Tok):Nat->Int->Int->Expr->PS->Option (Expr×PS)
 |0,_,_,_,_=>none
 |n+1,L,d,a,p=>
  if opF T L p=0 then some (a,p)
  else match zLc T n (L+1) d (adv p)with
   |none=>none
   |some q=>zqb T n L d ⟨5,opF T L p,0,[],[a,q.1]⟩ q.2
def argsF(T:List Tok):Nat->Int->PS->Option (List Expr×PS)
 |0,_,_=>none
 |n+1,d,p=>
  if isF T [41] p then some ([],adv p)
  else match zza T n d [] true p with
   |none=>none
   |some q=>some (q.1,zMa T [41] q.2)
def zza(T:List Tok):Nat->Int->List Expr->Bool->PS->Option (List Expr×PS)
 |0,_,_,_,_=>none
 |n+1,d,l,first,p=>
  if first||isF T [44] p then
   if zfb (if first then p else adv p)then some (l,if first then p else adv p)
   else match zLc T n 1 d (if first then p else adv p)with
    |none=>none
    |some q=>zza T n d (l++[q.1]) false q.2
  else some (l,p)
end
structure ESpec(T:List Tok)(n:Nat):Prop where
 primary:∀d p v p',zkd T n d p=some (v,p')->Inv1 T p->0<=d->d+n<=1000000000->zi E 195 [.ptr 0 0 0,.int .i64 d] (pob T p)=some (.ret (zn v),pob T p')/\Inv1 T p'
 unary:∀d p v p',unaryF T n d p=some (v,p')->Inv1 T p->0<=d->d+n<=1000000000->zi E 175 [.ptr 0 0 0,.int .i64 d] (pob T p)=some (.ret (zn v),pob T p')/\Inv1 T p'
 expr:∀L d p v p',zLc T n L d p=some (v,p')->Inv1 T p->1<=L->L<=11->0<=d->d+n<=1000000000->zi E 152 [.ptr 0 0 0,.int .i64 L,.int .i64 d] (pob T p)=some (.ret (zn v),pob T p')/\Inv1 T p'
 args:∀d p v p',argsF T n d p=some (v,p')->Inv1 T p->0<=d->d+n<=1000000000->zi E 177 [.ptr 0 0 0,.int .i64 d] (pob T p)=some (.ret (ze v),pob T p')/\Inv1 T p'
set_option maxHeartbeats 4000000 in
theorem primary_of{T:List Tok}{n:Nat}(S:ESpec T n):∀d p v p',zkd T (n+1) d p=some (v,p')->Inv1 T p->0<=d->d+(n+1:Nat)<=1000000000->zi E 195 [.ptr 0 0 0,.int .i64 d] (pob T p)=some (.ret (zn v),pob T p')/\Inv1 T p':=by
 intro d p v p' h I hd hn;have hw:zC .i64 (d+1)=d+1:=zj (by omega) (by omega);simp only[zkd]at h;have ho:=zIc I;cases o:zfb p
 case true=>
  rw[if_pos o]at h;cases h;refine⟨?_,I⟩;refine zd rfl rfl rfl (by simp) ?_;rw[o]at ho;simp[pob,toks]at ho;simp[*,F195,zn,encEs,pob,toks]
 rw[if_neg (by rw[o];decide)]at h;rw[o]at ho;have t1:=zH I [40];rw[zW]at t1;cases c1:isF T [40] p
 case true=>
  rw[if_pos c1]at h;rw[c1]at t1;split at h
  ·cases h
  ·rename_i q hq;obtain⟨e,p2⟩:=q;cases h;have IA:=I.adv _ c1;obtain⟨x1,I3⟩:=S.expr 1 (d+1) _ e p2 hq IA (by omega) (by omega) (by omega) (by omega);have m2:=zB I3 [41];refine⟨?_,I3.must _⟩;refine zd rfl rfl rfl (by simp) ?_;clear hq o c1;rw[za]at x1 ⊢;simp[pob,toks,adv,ze]at ho t1 x1 m2;simp[*,F195,ze,pob,toks]
 rw[if_neg (by rw[c1];decide)]at h;rw[c1]at t1;have t2:=zH I [116,114,117,101];rw[zW]at t2;cases c2:isF T [116,114,117,101] p
 case true=>
  rw[if_pos c2]at h;rw[c2]at t2;cases h;refine⟨?_,I.adv _ c2⟩;refine zd rfl rfl rfl (by simp) ?_;clear o c1 c2;simp[pob,toks,adv]at ho t1 t2;simp[*,F195,zn,encEs,pob,toks,adv]
 rw[if_neg (by rw[c2];decide)]at h;rw[c2]at t2;have t3:=zH I [102,97,108,115,101];rw[zW]at t3;cases c3:isF T [102,97,108,115,101] p
 case true=>
  rw[if_pos c3]at h;rw[c3]at t3;cases h;refine⟨?_,I.adv _ c3⟩;refine zd rfl rfl rfl (by simp) ?_;clear o c1 c2 c3;simp[pob,toks,adv]at ho t1 t2 t3;simp[*,F195,zn,encEs,pob,toks,adv]
 rw[if_neg (by rw[c3];decide)]at h;rw[c3]at t3;have t4:=zH I [114,101,97,100];rw[zW]at t4;cases c4:isF T [114,101,97,100] p
 case true=>
  rw[if_pos c4]at h;rw[c4]at t4;cases h;have IA:=I.adv _ c4;have m1:=zB IA [40];have m2:=zB (IA.must [40]) [41];refine⟨?_,(IA.must _).must _⟩;refine zd rfl rfl rfl (by simp) ?_;clear o c1 c2 c3 c4;simp[pob,toks,adv]at ho t1 t2 t3 t4 m1 m2;simp[*,F195,zn,encEs,pob,toks,adv]
 rw[if_neg (by rw[c4];decide)]at h;rw[c4]at t4;have hlt:=I.lt;have hg:=tk_get hlt;have hg':=tk_get' hlt;by_cases c5:(tk T p.at').kind=0
 ·rw[if_pos c5]at h;have tx:=zld I 0;have hnum:=I.num (tk T p.at') (by rw[<-hg'];exact List.getElem_mem hlt) c5;have vv:=value_spec' (tk T p.at').text [] hnum.1 (by omega);have htx:zka T 0 p=((tk T p.at').text,adv p):=by unfold zka;rw[if_neg (by rw[o];decide),if_pos c5];rfl
  have IA:Inv1 T (adv p):=I.next (by rw[c5];decide) _ _;rw[htx]at tx;cases h;refine⟨?_,IA⟩;refine zd rfl rfl rfl (by simp) ?_;clear o c1 c2 c3 c4 htx;replace c5:=eqp c5;simp[pob,toks,adv]at ho t1 t2 t3 t4 tx;simp[*,F195,zn,encEs,pob,toks,adv,zA]
 rw[if_neg c5]at h;replace c5:=eqn c5;have tx:=zld I 1;have I1:=I.text 1 (by decide);have t6:=zH I1 [40];rw[zW]at t6;generalize htt:zka T 1 p=tt at*;obtain⟨s,p1⟩:=tt;simp only at h tx I1 t6;clear htt;cases c6:isF T [40] p1
 case true=>
  rw[if_pos c6]at h;rw[c6]at t6;split at h
  ·cases h
  ·rename_i q hq;obtain⟨l,p2⟩:=q;cases h;have IA:=I1.adv _ c6;obtain⟨x1,I3⟩:=S.args (d+1) _ l p2 hq IA (by omega) (by omega);refine⟨?_,I3⟩;refine zd rfl rfl rfl (by simp) ?_;clear hq o c1 c2 c3 c4 c6;rw[za];simp[pob,toks,adv,ze]at ho t1 t2 t3 t4 tx t6 x1;simp[*,F195,ze,pob,toks,zA]
 rw[if_neg (by rw[c6];decide)]at h;rw[c6]at t6;have t7:=zH I1 [91];rw[zW]at t7;cases c7:isF T [91] p1
 case true=>
  rw[if_pos c7]at h;rw[c7]at t7;split at h
  ·cases h
  ·rename_i q hq;obtain⟨e,p2⟩:=q;cases h;have IA:=I1.adv _ c7;obtain⟨x1,I3⟩:=S.expr 1 (d+1) _ e p2 hq IA (by omega) (by omega) (by omega) (by omega);have m2:=zB I3 [93];refine⟨?_,I3.must _⟩;refine zd rfl rfl rfl (by simp) ?_;clear hq o c1 c2 c3 c4 c6 c7;rw[za]at x1;rw[za];simp[pob,toks,adv,ze]at ho t1 t2 t3 t4 tx t6 t7 x1 m2;simp[*,F195,ze,pob,toks,zA,za]
 rw[if_neg (by rw[c7];decide)]at h;rw[c7]at t7;cases h;refine⟨?_,I1⟩;refine zd rfl rfl rfl (by simp) ?_;clear o c1 c2 c3 c4 c6 c7;simp[pob,toks,adv]at ho t1 t2 t3 t4 tx t6 t7;simp[*,F195,zn,encEs,pob,toks,zA]
structure LS where
 m:Nat
 a:Expr
 p:PS
theorem opF_pos{T:List Tok}{L:Int}{p:PS}(h:¬opF T L p=0):∃s,isF T s p=true:=by
 unfold opF at h;cases hf:(yI 19).find? (opHere T L p)with
 |none=>rw[hf]at h;exact absurd rfl h
 |some i=>
  have:=List.find?_some hf;simp only[opHere,yb]at this;exact⟨_,this.2⟩
set_option maxHeartbeats 2000000 in
theorem expr_of{T:List Tok}{n:Nat}(S:∀k,k<=n->ESpec T k):∀L d p v p',zLc T (n+1) L d p=some (v,p')->Inv1 T p->1<=L->L<=11->0<=d->d+(n+1:Nat)<=1000000000->zi E 152 [.ptr 0 0 0,.int .i64 L,.int .i64 d] (pob T p)=some (.ret (zn v),pob T p')/\Inv1 T p':=by
 intro L d p v p' h I h1 h11 hd hn;have hw:zC .i64 (L+1)=L+1:=zj (by omega) (by omega);simp only[zLc]at h;by_cases hL:10<L
 ·rw[if_pos hL]at h;obtain⟨e,I'⟩:=(S n (by omega)).unary d p v p' h I hd (by omega);refine⟨?_,I'⟩;refine zd rfl rfl rfl (by simp) ?_;rw[za]at e ⊢
  (simp[*,F152])<;>(repeat' (first|((first|refine sP _ ?_ ?_|refine gP _ ?_ ?_|refine sN _ ?_ ?_|refine gN _ ?_ ?_)<;>intro hc<;>(first|replace hc:=eqn hc|replace hc:=eqp hc)<;>simp[*,F152])|((first|refine sM _ ?_ ?_|refine gM _ ?_ ?_|refine sB _ ?_ ?_|refine gB _ ?_ ?_)<;>intro hc<;>simp[*,F152])))
 rw[if_neg hL]at h;cases hx:zLc T n (L+1) d p with
 |none=>rw[hx]at h;cases h
 |some q=>
  obtain⟨a,p1⟩:=q;rw[hx]at h;simp only at h;obtain⟨e1,I1⟩:=(S n (by omega)).expr (L+1) d p a p1 hx I (by omega) (by omega) hd (by omega);have hI:∀m a p v p',m<=n->zqb T m L d a p=some (v,p')->Inv1 T p->Inv1 T p':=by
   intro m
   induction m with
   |zero=>intro a p v p' _ h;simp[zqb]at h
   |succ m ih=>
    intro a p v p' hm h I;simp only[zqb]at h;split at h
    ·cases h;exact I
    ·rename_i hne;obtain⟨s,hs⟩:=opF_pos hne;split at h
     ·cases h
     ·rename_i q hq;exact ih _ _ _ _ (by omega) h ((S m (by omega)).expr _ _ _ _ _ hq (I.adv s hs) (by omega) (by omega) hd (by omega)).2
  have I':=hI n a p1 v p' (by omega) h I1;refine⟨?_,I'⟩;refine zd rfl rfl rfl (by simp) ?_;rw[za]at e1 ⊢;simp[F152,hL,hw,e1,ze];refine zha K152_0 B152_0 (fun c:LS=>c.m) (fun c=>[]) (fun c=>[(6,.cells [.int .i64 0,.int .i64 0,.int .i64 0,.str [],.slice .fit 5 []]),(7,.cells [.int .i64 c.a.kind,.int .i64 c.a.op,.int .i64 c.a.n,.str c.a.name,ze c.a.args])]) (fun c=>pob T c.p) (fun c=>c.m<=n/\zqb T c.m L d c.a c.p=some (v,p')/\Inv1 T c.p) ⟨n,a,p1⟩ ⟨by simp,by simp[ze],by simp,yd _,h,I1⟩ ?_
  rintro⟨m,a,p⟩ s1 ⟨hm,hr,I⟩ g1 g2 g3 g4 g5
  simp at g1 g4 g5 hm hr I;clear g2 g3 e1 hx h I1 I' hI;cases m with
  |zero=>simp[zqb]at hr
  |succ m=>
   simp only[zqb]at hr;have ho:=op_spec I L;by_cases hne:opF T L p=0
   ·rw[if_pos hne]at hr;cases hr;replace hne:=eqp hne;simp[pob,toks,ze]at ho g4 g5 ⊢
    (simp[*])<;>(repeat' (first|((first|refine sP _ ?_ ?_|refine gP _ ?_ ?_|refine sN _ ?_ ?_|refine gN _ ?_ ?_)<;>intro hc<;>(first|replace hc:=eqn hc|replace hc:=eqp hc)<;>simp[*])|((first|refine sM _ ?_ ?_|refine gM _ ?_ ?_|refine sB _ ?_ ?_|refine gB _ ?_ ?_)<;>intro hc<;>simp[*])))
   ·rw[if_neg hne]at hr;obtain⟨s,hs⟩:=opF_pos hne;split at hr
    ·cases hr
    ·rename_i q hq;obtain⟨b,p2⟩:=q;simp only at hr;obtain⟨e2,I2⟩:=(S m (by omega)).expr (L+1) d _ b p2 hq (I.adv s hs) (by omega) (by omega) hd (by omega);have hwa:zC .i64 ((p.at':Int)+1)=(p.at':Int)+1:=zj (by omega) (by have:=I.lt;have:=I.sm;omega);replace hne:=eqn hne;rw[za]at e2;simp[pob,toks,ze,adv]at ho g4 g5 e2 ⊢;clear hq hs
     (simp[*])<;>(repeat' (first|((first|refine sP _ ?_ ?_|refine gP _ ?_ ?_|refine sN _ ?_ ?_|refine gN _ ?_ ?_)<;>intro hc<;>(first|replace hc:=eqn hc|replace hc:=eqp hc)<;>simp[*])|((first|refine sM _ ?_ ?_|refine gM _ ?_ ?_|refine sB _ ?_ ?_|refine gB _ ?_ ?_)<;>intro hc<;>simp[*])))
     refine⟨⟨m,⟨5,opF T L p,0,[],[a,b]⟩,p2⟩,yha m,⟨rfl,rfl,rfl,rfl,?_⟩,⟨rfl,rfl,rfl⟩,by simp only;omega,hr,I2⟩;simp[za,ze]
theorem unF_get{T:List Tok}{p:PS}{i:Nat}(h:unF T p=some i):i<9/\zic T p i=true/\∀j,j<i->zic T p j=false:=by
 unfold unF at h;refine⟨List.mem_range.1 (List.mem_of_find?_eq_some h),List.find?_some h,?_⟩;intro j hj;rw[List.find?_eq_some_iff_getElem]at h;obtain⟨_,k,hk,h1,h2⟩:=h;simp at h1;have:=h2 j (by omega);simpa using this
set_option maxHeartbeats 2000000 in
theorem unary_of{T:List Tok}{n:Nat}(S:ESpec T n):∀d p v p',unaryF T (n+1) d p=some (v,p')->Inv1 T p->0<=d->d+(n+1:Nat)<=1000000000->zi E 175 [.ptr 0 0 0,.int .i64 d] (pob T p)=some (.ret (zn v),pob T p')/\Inv1 T p':=by
 intro d p v p' h I hd hn;have hw:zC .i64 (d+1)=d+1:=zj (by omega) (by omega);simp only[unaryF]at h;have key:∀q,Inv1 T q->q=deepF d p->∃Q:Prop,True:=fun _ _ _=>⟨True,trivial⟩
 clear key;have I2:Inv1 T (deepF d p):=I.deepF d;have hI:Inv1 T p':=by
  cases hu:unF T (deepF d p)with
  |none=>rw[hu]at h;exact(S.primary _ _ _ _ h I2 hd (by omega)).2
  |some i=>
   rw[hu]at h;simp only at h;have hi:=(unF_get hu).2.1;split at h
   ·split at h
    ·cases h
    ·rename_i q hq;cases h;exact(S.expr _ _ _ _ _ hq ((I2.adv _ hi).must _) (by omega) (by omega) (by omega) (by omega)).2.must _
   ·split at h
    ·cases h
    ·rename_i q hq;cases h;exact(S.unary _ _ _ _ hq (I2.adv _ hi) (by omega) (by omega)).2
 refine⟨?_,hI⟩;refine zd rfl rfl rfl (by simp) ?_;rw[za];have hdp:deepF d p=if 100<d then if p.bad then p else{p with deep:=true}else p:=rfl
 obtain⟨pa,pb,pd⟩:=p;by_cases h100:100<d
 ·cases pb
  ·simp[h100]at hdp;rw[hdp]at h I2;clear hdp I;replace h100:=eqp h100;simp[F175,h100,hw,pob,toks];refine zhe (yI 9) K175_0 B175_0 (fun c=>[(5,.int .i64 ((c.length+20:Nat):Int))]) (fun _=>[(4,.cells [.int .i64 0,.int .i64 0,.int .i64 0,.str [],.slice .fit 5 []])]) (fun _=>pob T ⟨pa,false,true⟩) (fun c=>∀i∈c,zic T ⟨pa,false,true⟩ i=false) (by simp) (by simp[pob,toks]) ?_ ?_
   ·intros c x r s1 hl' hlt hget hget' hw1 hp g1 g2 g3 g3' g4;simp at g1 g3 g3' hlt;have hx:x=c.length:=by rw[<-hget',List.getElem_range]
    subst hx;have e2:=rsign_spec ((c.length+20:Nat):Int);have e3:=zH I2 (signR ((c.length+20:Nat):Int));rw[zW]at e3;have hle:(c.length:Int)+20<=28:=by omega
    have hw2:zC .i64 ((c.length:Int)+20+1)=(c.length:Int)+1+20:=by rw[zj (by omega) (by omega)];omega
    have hf:zic T ⟨pa,false,true⟩ c.length=true->unF T ⟨pa,false,true⟩=some c.length:=by
     intro h;unfold unF;rw[hl'.eq,ybb];have:c.find? (zic T ⟨pa,false,true⟩)=none:=by rw[yma];intro y hy;simp[hp y hy]
     rw[this];simp[yjb,h]
    have hu:zic T ⟨pa,false,true⟩ c.length=isF T (signR ((c.length+20:Nat):Int)) ⟨pa,false,true⟩:=rfl;have hnx:=fun(h:zic T ⟨pa,false,true⟩ c.length=false)=>(fun i (hi:i∈c++[c.length])=>by
     rcases yx.1 hi with h'|h'
     ·exact hp i h'
     ·rw[yL.1 h'];exact h:∀i∈c++[c.length],zic T ⟨pa,false,true⟩ i=false)
    clear g2 hget hget' hl' hp;cases hi:isF T (signR ((c.length+20:Nat):Int)) ⟨pa,false,true⟩
    ·replace hnx:=hnx (hu.trans hi);rw[hi]at e3;clear hf hu h;simp[pob,toks]at e2 e3 g4;simp[*];exact⟨rfl,fun i hi=>hnx i (by simpa using hi)⟩
    ·replace hf:=hf (hu.trans hi);have IA:=I2.adv _ hi;rw[hi]at e3;rw[hf]at h;simp only at h;clear hnx hu hf;by_cases h3:3<=c.length
     ·rw[if_pos h3]at h;have h23:(23:Int)<=(c.length:Int)+20:=by omega
      have m1:=zB IA [40];split at h
      ·cases h
      ·rename_i x hq;obtain⟨e,p2⟩:=x;cases h;obtain⟨x1,I3⟩:=S.expr 1 (d+1) _ e p2 hq (IA.must _) (by omega) (by omega) (by omega) (by omega);have m2:=zB I3 [41];clear hi;rw[za]at x1;simp[pob,toks,ze,adv]at e2 e3 g4 m1 m2 x1;clear hq;simp[*,ze,pob,toks,za]
     ·rw[if_neg h3]at h;have h23:¬(23:Int)<=(c.length:Int)+20:=by omega
      split at h
      ·cases h
      ·rename_i x hq;obtain⟨e,p2⟩:=x;cases h;obtain⟨x1,I3⟩:=S.unary (d+1) _ e p2 hq IA (by omega) (by omega);clear hi;rw[za]at x1;simp[pob,toks,ze,adv]at e2 e3 g4 x1;clear hq;simp[*,ze,pob,toks,za]
   ·intros s1 hp g1 g2 g3 g3' g4;simp at g1 g3 g3';have hf:unF T ⟨pa,false,true⟩=none:=by
     unfold unF;rw[yma];intro y hy;simp[hp y hy]
    rw[hf]at h;simp only at h;obtain⟨x1,I3⟩:=S.primary _ _ _ _ h I2 hd (by omega);rw[za]at x1;clear g2 hp hf h;simp[pob,toks,ze]at x1 g4;simp[*,ze]
  ·simp[h100]at hdp;rw[hdp]at h I2;clear hdp I;replace h100:=eqp h100;simp[F175,h100,hw,pob,toks];refine zhe (yI 9) K175_0 B175_0 (fun c=>[(5,.int .i64 ((c.length+20:Nat):Int))]) (fun _=>[(4,.cells [.int .i64 0,.int .i64 0,.int .i64 0,.str [],.slice .fit 5 []])]) (fun _=>pob T ⟨pa,true,pd⟩) (fun c=>∀i∈c,zic T ⟨pa,true,pd⟩ i=false) (by simp) (by simp[pob,toks]) ?_ ?_
   ·intros c x r s1 hl' hlt hget hget' hw1 hp g1 g2 g3 g3' g4;simp at g1 g3 g3' hlt;have hx:x=c.length:=by rw[<-hget',List.getElem_range]
    subst hx;have e2:=rsign_spec ((c.length+20:Nat):Int);have e3:=zH I2 (signR ((c.length+20:Nat):Int));rw[zW]at e3;have hle:(c.length:Int)+20<=28:=by omega
    have hw2:zC .i64 ((c.length:Int)+20+1)=(c.length:Int)+1+20:=by rw[zj (by omega) (by omega)];omega
    have hf:zic T ⟨pa,true,pd⟩ c.length=true->unF T ⟨pa,true,pd⟩=some c.length:=by
     intro h;unfold unF;rw[hl'.eq,ybb];have:c.find? (zic T ⟨pa,true,pd⟩)=none:=by rw[yma];intro y hy;simp[hp y hy]
     rw[this];simp[yjb,h]
    have hu:zic T ⟨pa,true,pd⟩ c.length=isF T (signR ((c.length+20:Nat):Int)) ⟨pa,true,pd⟩:=rfl;have hnx:=fun(h:zic T ⟨pa,true,pd⟩ c.length=false)=>(fun i (hi:i∈c++[c.length])=>by
     rcases yx.1 hi with h'|h'
     ·exact hp i h'
     ·rw[yL.1 h'];exact h:∀i∈c++[c.length],zic T ⟨pa,true,pd⟩ i=false)
    clear g2 hget hget' hl' hp;cases hi:isF T (signR ((c.length+20:Nat):Int)) ⟨pa,true,pd⟩
    ·replace hnx:=hnx (hu.trans hi);rw[hi]at e3;clear hf hu h;simp[pob,toks]at e2 e3 g4;simp[*];exact⟨rfl,fun i hi=>hnx i (by simpa using hi)⟩
    ·replace hf:=hf (hu.trans hi);have IA:=I2.adv _ hi;rw[hi]at e3;rw[hf]at h;simp only at h;clear hnx hu hf;by_cases h3:3<=c.length
     ·rw[if_pos h3]at h;have h23:(23:Int)<=(c.length:Int)+20:=by omega
      have m1:=zB IA [40];split at h
      ·cases h
      ·rename_i x hq;obtain⟨e,p2⟩:=x;cases h;obtain⟨x1,I3⟩:=S.expr 1 (d+1) _ e p2 hq (IA.must _) (by omega) (by omega) (by omega) (by omega);have m2:=zB I3 [41];clear hi;rw[za]at x1;simp[pob,toks,ze,adv]at e2 e3 g4 m1 m2 x1;clear hq;simp[*,ze,pob,toks,za]
     ·rw[if_neg h3]at h;have h23:¬(23:Int)<=(c.length:Int)+20:=by omega
      split at h
      ·cases h
      ·rename_i x hq;obtain⟨e,p2⟩:=x;cases h;obtain⟨x1,I3⟩:=S.unary (d+1) _ e p2 hq IA (by omega) (by omega);clear hi;rw[za]at x1;simp[pob,toks,ze,adv]at e2 e3 g4 x1;clear hq;simp[*,ze,pob,toks,za]
   ·intros s1 hp g1 g2 g3 g3' g4;simp at g1 g3 g3';have hf:unF T ⟨pa,true,pd⟩=none:=by
     unfold unF;rw[yma];intro y hy;simp[hp y hy]
    rw[hf]at h;simp only at h;obtain⟨x1,I3⟩:=S.primary _ _ _ _ h I2 hd (by omega);rw[za]at x1;clear g2 hp hf h;simp[pob,toks,ze]at x1 g4;simp[*,ze]
 ·simp[h100]at hdp;rw[hdp]at h I2;clear hdp I;replace h100:=eqn h100;simp[F175,h100,hw,pob,toks];refine zhe (yI 9) K175_0 B175_0 (fun c=>[(5,.int .i64 ((c.length+20:Nat):Int))]) (fun _=>[(4,.cells [.int .i64 0,.int .i64 0,.int .i64 0,.str [],.slice .fit 5 []])]) (fun _=>pob T ⟨pa,pb,pd⟩) (fun c=>∀i∈c,zic T ⟨pa,pb,pd⟩ i=false) (by simp) (by simp[pob,toks]) ?_ ?_
  ·intros c x r s1 hl' hlt hget hget' hw1 hp g1 g2 g3 g3' g4;simp at g1 g3 g3' hlt;have hx:x=c.length:=by rw[<-hget',List.getElem_range]
   subst hx;have e2:=rsign_spec ((c.length+20:Nat):Int);have e3:=zH I2 (signR ((c.length+20:Nat):Int));rw[zW]at e3;have hle:(c.length:Int)+20<=28:=by omega
   have hw2:zC .i64 ((c.length:Int)+20+1)=(c.length:Int)+1+20:=by rw[zj (by omega) (by omega)];omega
   have hf:zic T ⟨pa,pb,pd⟩ c.length=true->unF T ⟨pa,pb,pd⟩=some c.length:=by
    intro h;unfold unF;rw[hl'.eq,ybb];have:c.find? (zic T ⟨pa,pb,pd⟩)=none:=by rw[yma];intro y hy;simp[hp y hy]
    rw[this];simp[yjb,h]
   have hu:zic T ⟨pa,pb,pd⟩ c.length=isF T (signR ((c.length+20:Nat):Int)) ⟨pa,pb,pd⟩:=rfl;have hnx:=fun(h:zic T ⟨pa,pb,pd⟩ c.length=false)=>(fun i (hi:i∈c++[c.length])=>by
    rcases yx.1 hi with h'|h'
    ·exact hp i h'
    ·rw[yL.1 h'];exact h:∀i∈c++[c.length],zic T ⟨pa,pb,pd⟩ i=false)
   clear g2 hget hget' hl' hp;cases hi:isF T (signR ((c.length+20:Nat):Int)) ⟨pa,pb,pd⟩
   ·replace hnx:=hnx (hu.trans hi);rw[hi]at e3;clear hf hu h;simp[pob,toks]at e2 e3 g4;simp[*];exact⟨rfl,fun i hi=>hnx i (by simpa using hi)⟩
   ·replace hf:=hf (hu.trans hi);have IA:=I2.adv _ hi;rw[hi]at e3;rw[hf]at h;simp only at h;clear hnx hu hf;by_cases h3:3<=c.length
    ·rw[if_pos h3]at h;have h23:(23:Int)<=(c.length:Int)+20:=by omega
     have m1:=zB IA [40];split at h
     ·cases h
     ·rename_i x hq;obtain⟨e,p2⟩:=x;cases h;obtain⟨x1,I3⟩:=S.expr 1 (d+1) _ e p2 hq (IA.must _) (by omega) (by omega) (by omega) (by omega);have m2:=zB I3 [41];clear hi;rw[za]at x1;simp[pob,toks,ze,adv]at e2 e3 g4 m1 m2 x1;clear hq;simp[*,ze,pob,toks,za]
    ·rw[if_neg h3]at h;have h23:¬(23:Int)<=(c.length:Int)+20:=by omega
     split at h
     ·cases h
     ·rename_i x hq;obtain⟨e,p2⟩:=x;cases h;obtain⟨x1,I3⟩:=S.unary (d+1) _ e p2 hq IA (by omega) (by omega);clear hi;rw[za]at x1;simp[pob,toks,ze,adv]at e2 e3 g4 x1;clear hq;simp[*,ze,pob,toks,za]
  ·intros s1 hp g1 g2 g3 g3' g4;simp at g1 g3 g3';have hf:unF T ⟨pa,pb,pd⟩=none:=by
    unfold unF;rw[yma];intro y hy;simp[hp y hy]
   rw[hf]at h;simp only at h;obtain⟨x1,I3⟩:=S.primary _ _ _ _ h I2 hd (by omega);rw[za]at x1;clear g2 hp hf h;simp[pob,toks,ze]at x1 g4;simp[*,ze]
structure AS where
 m:Nat
 l:List Expr
 f:Bool
 p:PS
set_option maxHeartbeats 2000000 in
theorem args_of{T:List Tok}{n:Nat}(S:∀k,k<=n->ESpec T k):∀d p v p',argsF T (n+1) d p=some (v,p')->Inv1 T p->0<=d->d+(n+1:Nat)<=1000000000->zi E 177 [.ptr 0 0 0,.int .i64 d] (pob T p)=some (.ret (ze v),pob T p')/\Inv1 T p':=by
 intro d p v p' h I hd hn;simp only[argsF]at h;have t1:=zH I [41];rw[zW]at t1;cases c1:isF T [41] p
 case true=>
  rw[if_pos c1]at h;rw[c1]at t1;cases h;refine⟨?_,I.adv _ c1⟩;refine zd rfl rfl rfl (by simp) ?_;clear c1;simp[*,F177,ze]
 rw[if_neg (by rw[c1];decide)]at h;rw[c1]at t1;split at h
 ·cases h
 rename_i q hq;obtain⟨l',p1⟩:=q;cases h;have hI:∀m l f p v p',m<=n->zza T m d l f p=some (v,p')->Inv1 T p->Inv1 T p':=by
  intro m
  induction m with
  |zero=>intro l f p v p' _ h;simp[zza]at h
  |succ m ih=>
   intro l f p v p' hm h I;simp only[zza]at h;have fin:∀q:PS,Inv1 T q->(if zfb q then some (l,q)else match zLc T m 1 d q with|none=>none|some x=>zza T m d (l++[x.1]) false x.2)=some (v,p')->Inv1 T p':=by
    intro q Iq h;cases ho:zfb q
    ·rw[if_neg (by rw[ho];decide)]at h;split at h
     ·cases h
     ·rename_i x hx;exact ih _ _ _ _ _ (by omega) h ((S m (by omega)).expr _ _ _ _ _ hx Iq (by omega) (by omega) hd (by omega)).2
    ·rw[if_pos ho]at h;cases h;exact Iq
   cases f
   ·cases c2:isF T [44] p
    ·rw[c2]at h;simp at h;exact h.2 ▸ I
    ·rw[c2]at h;simp at h;exact fin _ (I.adv _ c2) h
   ·simp at h;exact fin _ I h
 have I':=hI n _ _ _ _ _ (yd _) hq I;refine⟨?_,I'.must _⟩;refine zd rfl rfl rfl (by simp) ?_;have m1:=zB I' [41];simp[*,F177,ze];refine zha K177_0 B177_0 (fun c:AS=>c.m) (fun c=>[(5,acc 5 (c.l.map zn)),(6,.bool c.f)]) (fun c=>[]) (fun c=>pob T c.p) (fun c=>c.m<=n/\c.l.length+c.m<=n/\zza T c.m d c.l c.f c.p=some (l',p1)/\Inv1 T c.p) ⟨n,[],true,p⟩ ⟨by simp,by simp,by simp,yd _,by simp,hq,I⟩ ?_
 rintro⟨m,l,f,p⟩ s1 ⟨hm,hlm,hr,I⟩ g1 g2 g3 g4 g5
 simp at g1 g3 g5 hm hlm hr I;clear g2 g4 t1 hq I' hI;cases m with
 |zero=>simp[zza]at hr
 |succ m=>
  simp only[zza]at hr;have hroom:(l.length+1)*64<=zo:=by simp only[zo];omega
  have t2:=zH I [44];rw[zW]at t2;have key:∀q:PS,Inv1 T q->(if zfb q then some (l,q)else match zLc T m 1 d q with|none=>none|some x=>zza T m d (l++[x.1]) false x.2)=some (l',p1)→
    (zfb q=true/\l=l'/\q=p1)\/(zfb q=false/\∃e p2,zi E 152 [.ptr 0 0 0,.int .i64 1,.int .i64 d] (pob T q)=some (.ret (zn e),pob T p2)/\Inv1 T p2/\zza T m d (l++[e]) false p2=some (l',p1)):=by
   intro q Iq h;cases ho:zfb q
   ·right;rw[if_neg (by rw[ho];decide)]at h;split at h
    ·cases h
    ·rename_i x hx;obtain⟨e,p2⟩:=x;obtain⟨x1,I3⟩:=(S m (by omega)).expr 1 d _ e p2 hx Iq (by omega) (by omega) hd (by omega);exact⟨rfl,e,p2,x1,I3,h⟩
   ·left;rw[if_pos ho]at h;cases h;exact⟨rfl,rfl,rfl⟩
  cases f
  ·cases c2:isF T [44] p
   ·rw[c2]at hr t2;simp at hr;obtain⟨rfl,rfl⟩:=hr;clear key c2;simp[*]
   ·have IA:=I.adv _ c2;rw[c2]at hr t2;simp at hr;have ho:=zIc IA;rcases key _ IA hr with⟨k1,rfl,rfl⟩|⟨k1,e,p2,x1,I3,hr2⟩
    ·rw[k1]at ho;clear key c2 hr;simp[*]
    ·rw[k1]at ho;rw[za]at x1;clear key c2 hr k1;simp[*];exact⟨⟨m,l++[e],false,p2⟩,yha m,⟨by simp[za],rfl⟩,rfl,by simp only;omega,by simp only[yi,yj,yn];omega,hr2,I3⟩
  ·simp at hr;have ho:=zIc I;rcases key _ I hr with⟨k1,rfl,rfl⟩|⟨k1,e,p2,x1,I3,hr2⟩
   ·rw[k1]at ho;clear key hr t2;simp[*]
   ·rw[k1]at ho;rw[za]at x1;clear key hr k1 t2;simp[*];exact⟨⟨m,l++[e],false,p2⟩,yha m,⟨by simp[za],rfl⟩,rfl,by simp only;omega,by simp only[yi,yj,yn];omega,hr2,I3⟩
theorem espec_all(T:List Tok):∀n k,k<=n->ESpec T k
 |0,k,h=>by
  have:k=0:=by omega
  subst this;exact⟨fun _ _ _ _ h=>by simp[zkd]at h,fun _ _ _ _ h=>by simp[unaryF]at h,fun _ _ _ _ _ h=>by simp[zLc]at h,fun _ _ _ _ h=>by simp[argsF]at h⟩
 |n+1,k,h=>by
  have ih:=espec_all T n;rcases yB k (n+1)with h1|h1
  ·exact ih k (by omega)
  ·have:k=n+1:=by omega
   subst this;exact⟨primary_of (ih n (yd n)),unary_of (ih n (yd n)),expr_of ih,args_of ih⟩
theorem espec(T:List Tok)(n:Nat):ESpec T n:=espec_all T n n (yd n)
theorem zyc{T:List Tok}{n:Nat}{p p':PS}{v:Expr}(h:zLc T n 1 1 p=some (v,p'))(I:Inv1 T p)(hn:n<=999999990):zi E 152 [.ptr 0 0 0,.int .i64 1,.int .i64 1] (pob T p)=some (.ret (zn v),pob T p')/\Inv1 T p':=
 (espec T n).expr 1 1 p v p' h I (by omega) (by omega) (by omega) (by omega)
def zhf(T:List Tok)(n:Nat)(p:PS):Option (Expr×PS):=
 match zLc T n 1 1 (zMa T [40] p)with
 |none=>none
 |some q=>some (q.1,zMa T [41] q.2)
theorem zad{T:List Tok}{n:Nat}{p p':PS}{v:Expr}(h:zhf T n p=some (v,p'))(I:Inv1 T p)(hn:n<=999999990):zi E 153 [.ptr 0 0 0] (pob T p)=some (.ret (ze [v]),pob T p')/\Inv1 T p':=by
 unfold zhf at h;split at h
 ·cases h
 ·rename_i q hq;obtain⟨e,p1⟩:=q;cases h;have m1:=zB I [40];obtain⟨x1,I1⟩:=zyc hq (I.must _) hn;have m2:=zB I1 [41];refine⟨?_,I1.must _⟩;refine zd rfl rfl rfl (by simp) ?_;clear hq;rw[za]at x1;simp[*,F153,ze,za]
def namedF(T:List Tok)(n:Nat)(p:PS):Option (Stmt×PS):=
 if isF T [40] (zka T 1 p).2 then
  match argsF T n 2 (adv (zka T 1 p).2)with
  |none=>none
  |some q=>some (⟨10,0,[],[⟨7,0,0,(zka T 1 p).1,q.1⟩],[],[]⟩,q.2)
 else if isF T [91] (zka T 1 p).2 then
  match zLc T n 1 1 (adv (zka T 1 p).2)with
  |none=>none
  |some q=>match zLc T n 1 1 (zMa T [61] (zMa T [93] q.2))with
   |none=>none
   |some r=>some (⟨3,0,(zka T 1 p).1,[q.1,r.1],[],[]⟩,r.2)
 else match zLc T n 1 1 (zMa T [61] (zka T 1 p).2)with
  |none=>none
  |some q=>some (⟨2,0,(zka T 1 p).1,[q.1],[],[]⟩,q.2)
theorem named_spec{T:List Tok}{n:Nat}{p p':PS}{v:Stmt}(h:namedF T n p=some (v,p'))(I:Inv1 T p)(hn:n<=999999990):zi E 154 [.ptr 0 0 0] (pob T p)=some (.ret (zw v),pob T p')/\Inv1 T p':=by
 unfold namedF at h;have tx:=zld I 1;have I1:=I.text 1 (by decide);have t6:=zH I1 [40];rw[zW]at t6;generalize htt:zka T 1 p=tt at*;obtain⟨s,p1⟩:=tt;simp only at h tx I1 t6;clear htt;cases c6:isF T [40] p1
 case true=>
  rw[if_pos c6]at h;rw[c6]at t6;split at h
  ·cases h
  ·rename_i q hq;obtain⟨l,p2⟩:=q;cases h;have IA:=I1.adv _ c6;obtain⟨x1,I3⟩:=(espec T n).args 2 _ l p2 hq IA (by omega) (by omega);refine⟨?_,I3⟩;refine zd rfl rfl rfl (by simp) ?_;clear hq c6;rw[zb];simp[ze]at x1;simp[*,F154,ze,zg,za]
 rw[if_neg (by rw[c6];decide)]at h;rw[c6]at t6;have t7:=zH I1 [91];rw[zW]at t7;cases c7:isF T [91] p1
 case true=>
  rw[if_pos c7]at h;rw[c7]at t7;split at h
  ·cases h
  ·rename_i q hq;obtain⟨e,p2⟩:=q;simp only at h;have IA:=I1.adv _ c7;obtain⟨x1,I3⟩:=zyc hq IA hn;have m2:=zB I3 [93];have I4:=I3.must [93];have m3:=zB I4 [61];have I5:=I4.must [61];split at h
   ·cases h
   ·rename_i r hr;obtain⟨e2,p3⟩:=r;cases h;obtain⟨x2,I6⟩:=zyc hr I5 hn;refine⟨?_,I6⟩;refine zd rfl rfl rfl (by simp) ?_;clear hq hr c6 c7;rw[za]at x1 x2;rw[zb];simp[*,F154,ze,zg,za]
 rw[if_neg (by rw[c7];decide)]at h;rw[c7]at t7;split at h
 ·cases h
 ·rename_i q hq;obtain⟨e,p2⟩:=q;cases h;have m1:=zB I1 [61];obtain⟨x1,I3⟩:=zyc hq (I1.must _) hn;refine⟨?_,I3⟩;refine zd rfl rfl rfl (by simp) ?_;clear hq c6 c7;rw[za]at x1;rw[zb];simp[*,F154,ze,zg,za]
def deepS(d:Int)(p:PS):PS:=if 100<d then{p with deep:=true}else p
theorem Inv1.deepS{T:List Tok}{p:PS}(I:Inv1 T p)(d:Int):Inv1 T (deepS d p):=by
 unfold PE.U.deepS;split
 ·exact I.deep'
 ·exact I
mutual
def stmtF(T:List Tok):Nat->Int->PS->Option (Stmt×PS)
 |0,_,_=>none
 |n+1,d,p=>
  if isF T [105,110,116] (deepS d p)||isF T [98,111,111,108] (deepS d p)then
   match zLc T n 1 1 (zMa T [61] (zka T 1 (zma T (deepS d p)).2).2)with
   |none=>none
   |some q=>some (⟨1,(zma T (deepS d p)).1,(zka T 1 (zma T (deepS d p)).2).1,[q.1],[],[]⟩,zMa T [59] q.2)
  else if isF T [105,102] (deepS d p)then
   match zhf T n (adv (deepS d p))with
   |none=>none
   |some q=>match zdc T n (d+1) [] (zMa T [123] q.2)with
    |none=>none
    |some r=>
     if isF T [101,108,115,101] r.2 then
      match zdc T n (d+1) [] (zMa T [123] (adv r.2))with
      |none=>none
      |some t=>some (⟨4,0,[],[q.1],r.1,t.1⟩,t.2)
     else some (⟨4,0,[],[q.1],r.1,[]⟩,r.2)
  else if isF T [119,104,105,108,101] (deepS d p)then
   match zhf T n (adv (deepS d p))with
   |none=>none
   |some q=>match zdc T n (d+1) [] (zMa T [123] q.2)with
    |none=>none
    |some r=>some (⟨5,0,[],[q.1],r.1,[]⟩,r.2)
  else if isF T [98,114,101,97,107] (deepS d p)then some (⟨6,0,[],[],[],[]⟩,zMa T [59] (adv (deepS d p)))
  else if isF T [99,111,110,116,105,110,117,101] (deepS d p)then some (⟨7,0,[],[],[],[]⟩,zMa T [59] (adv (deepS d p)))
  else if isF T [114,101,116,117,114,110] (deepS d p)then
   match zLc T n 1 1 (adv (deepS d p))with
   |none=>none
   |some q=>some (⟨8,0,[],[q.1],[],[]⟩,zMa T [59] q.2)
  else if isF T [112,114,105,110,116] (deepS d p)then
   match zhf T n (adv (deepS d p))with
   |none=>none
   |some q=>some (⟨9,0,[],[q.1],[],[]⟩,zMa T [59] q.2)
  else match namedF T n (deepS d p)with
   |none=>none
   |some q=>some (q.1,zMa T [59] q.2)
def zdc(T:List Tok):Nat->Int->List Stmt->PS->Option (List Stmt×PS)
 |0,_,_,_=>none
 |n+1,d,l,p=>
  if zfb p then some (l,p)
  else if isF T [125] p then some (l,adv p)
  else match stmtF T n d p with
   |none=>none
   |some q=>zdc T n d (l++[q.1]) q.2
end
structure SSpec(T:List Tok)(n:Nat):Prop where
 stmt:∀d p v p',stmtF T n d p=some (v,p')->Inv1 T p->0<=d->d+n<=999999990->zi E 120 [.ptr 0 0 0,.int .i64 d] (pob T p)=some (.ret (zw v),pob T p')/\Inv1 T p'
 block:∀d p v p',zdc T n d [] (zMa T [123] p)=some (v,p')->Inv1 T p->0<=d->d+n<=999999990->zi E 95 [.ptr 0 0 0,.int .i64 d] (pob T p)=some (.ret (zg v),pob T p')/\Inv1 T p'
structure BS where
 m:Nat
 l:List Stmt
 p:PS
set_option maxHeartbeats 2000000 in
theorem block_of{T:List Tok}{n:Nat}(S:∀k,k<n->SSpec T k):∀d p v p',zdc T n d [] (zMa T [123] p)=some (v,p')->Inv1 T p->0<=d->d+n<=999999990->zi E 95 [.ptr 0 0 0,.int .i64 d] (pob T p)=some (.ret (zg v),pob T p')/\Inv1 T p':=by
 intro d p v p' h I hd hn;have hI:∀m l p v p',m<=n->zdc T m d l p=some (v,p')->Inv1 T p->Inv1 T p':=by
  intro m
  induction m with
  |zero=>intro l p v p' _ h;simp[zdc]at h
  |succ m ih=>
   intro l p v p' hm h I;simp only[zdc]at h;split at h
   ·cases h;exact I
   ·split at h
    ·rename_i hc;cases h;exact I.adv _ hc
    ·split at h
     ·cases h
     ·rename_i x hx;exact ih _ _ _ _ (by omega) h ((S m (by omega)).stmt _ _ _ _ hx I hd (by omega)).2
 have m1:=zB I [123];have I1:=I.must [123];have I':=hI n _ _ _ _ (yd _) h I1;refine⟨?_,I'⟩;refine zd rfl rfl rfl (by simp) ?_;simp[*,F95,zg];refine zha K95_0 B95_0 (fun c:BS=>c.m) (fun c=>[(5,acc 6 (c.l.map zw))]) (fun c=>[]) (fun c=>pob T c.p) (fun c=>c.m<=n/\c.l.length+c.m<=n/\zdc T c.m d c.l c.p=some (v,p')/\Inv1 T c.p) ⟨n,[],zMa T [123] p⟩ ⟨by simp,by simp,by simp,yd _,by simp,h,I1⟩ ?_
 rintro⟨m,l,p⟩ s1 ⟨hm,hlm,hr,I⟩ g1 g2 g3 g4 g5
 simp at g1 g3 g5 hm hlm hr I;clear g2 g4 m1 h I' hI I1;cases m with
 |zero=>simp[zdc]at hr
 |succ m=>
  simp only[zdc]at hr;have hroom:(l.length+1)*104<=zo:=by simp only[zo];omega
  have ho:=zIc I;have t2:=zH I [125];rw[zW]at t2;cases o:zfb p
  ·rw[if_neg (by rw[o];decide)]at hr;rw[o]at ho;cases c2:isF T [125] p
   ·rw[if_neg (by rw[c2];decide)]at hr;rw[c2]at t2;split at hr
    ·cases hr
    ·rename_i x hx;obtain⟨e,p2⟩:=x;simp only at hr;obtain⟨x1,I3⟩:=(S m (by omega)).stmt _ _ _ _ hx I hd (by omega);rw[zb]at x1;clear hx o c2;simp[*];exact⟨⟨m,l++[e],p2⟩,yha m,by simp[zb],rfl,by simp only;omega,by simp only[yi,yj,yn];omega,hr,I3⟩
   ·rw[if_pos c2]at hr;rw[c2]at t2;cases hr;clear o c2;simp[*]
  ·rw[if_pos o]at hr;rw[o]at ho;cases hr;clear o t2;simp[*]
set_option maxHeartbeats 8000000 in
theorem stmt_of{T:List Tok}{n:Nat}(S:SSpec T n):∀d p v p',stmtF T (n+1) d p=some (v,p')->Inv1 T p->0<=d->d+(n+1:Nat)<=999999990->zi E 120 [.ptr 0 0 0,.int .i64 d] (pob T p)=some (.ret (zw v),pob T p')/\Inv1 T p':=by
 intro d p v p' h I0 hd hn;have hw:zC .i64 (d+1)=d+1:=zj (by omega) (by omega);simp only[stmtF]at h;have I:=I0.deepS d;have hn':n<=999999990:=by omega
 obtain⟨pa,pb,pd⟩:=p;by_cases h100:100<d
 ·have hdp:deepS d ⟨pa,pb,pd⟩=⟨pa,pb,true⟩:=by unfold deepS;rw[if_pos h100]
  rw[hdp]at h I;clear hdp I0;replace h100:=eqp h100;have i1:=is_spec I [105,110,116];have i2:=is_spec I [98,111,111,108];cases c0:(isF T [105,110,116] ⟨pa,pb,true⟩||isF T [98,111,111,108] ⟨pa,pb,true⟩)
  case true=>
   rw[if_pos c0]at h;have ty:=typed_spec I;have I1:=I.typed;generalize hty:zma T ⟨pa,pb,true⟩=tt at*;obtain⟨t,p1⟩:=tt;simp only at h ty I1;have tx:=zld I1 1;have I2:=I1.text 1 (by decide);generalize htx:zka T 1 p1=tt at*;obtain⟨s,p2⟩:=tt;simp only at h tx I2;have m1:=zB I2 [61];split at h
   ·cases h
   rename_i x hq;obtain⟨e,p3⟩:=x;cases h;obtain⟨x1,I3⟩:=zyc hq (I2.must _) hn';have m2:=zB I3 [59];refine⟨?_,I3.must _⟩;clear htx hty hq;rw[za]at x1;simp[pob,toks,adv,ze]at i1 i2 ty tx m1 m2 x1;refine zd rfl rfl rfl (by simp) ?_;rw[zb];cases c1:isF T [105,110,116] ⟨pa,pb,true⟩
   ·rw[c1]at c0 i1;have c0:isF T [98,111,111,108] ⟨pa,pb,true⟩=true:=c0;rw[c0]at i2;clear c0 c1;simp[*,F120,ze,zg,pob,toks,zb,za]
   ·rw[c1]at i1;clear c0 c1;simp[*,F120,ze,zg,pob,toks,zb,za]
  rw[if_neg (by rw[c0];decide)]at h;simp only[yna]at c0;rw[c0.1]at i1;rw[c0.2]at i2;clear c0;have t1:=zH I [105,102];rw[zW]at t1;cases c_t1:isF T [105,102] ⟨pa,pb,true⟩
  case true=>
   rw[if_pos c_t1]at h;rw[c_t1]at t1;have IA:=I.adv _ c_t1;clear c_t1;split at h
   ·cases h
   rename_i x hq;obtain⟨e,p1⟩:=x;simp only at h;obtain⟨x1,I1⟩:=zad hq IA hn';split at h
   ·cases h
   rename_i x hr;obtain⟨l1,p2⟩:=x;simp only at h;obtain⟨x2,I2⟩:=S.block (d+1) _ l1 p2 hr I1 (by omega) (by omega);have te:=zH I2 [101,108,115,101];rw[zW]at te;cases ce:isF T [101,108,115,101] p2
   case true=>
    rw[if_pos ce]at h;rw[ce]at te;split at h
    ·cases h
    rename_i x hs;obtain⟨l2,p3⟩:=x;cases h;obtain⟨x3,I3⟩:=S.block (d+1) _ l2 p3 hs (I2.adv _ ce) (by omega) (by omega);refine⟨?_,I3⟩;clear hq hr hs ce;simp[pob,toks,adv,ze,zg]at i1 i2 t1 x1 x2 x3 te;refine zd rfl rfl rfl (by simp) ?_;rw[zb];simp[*,F120,ze,zg,pob,toks,zb,za]
   rw[if_neg (by rw[ce];decide)]at h;rw[ce]at te;cases h;refine⟨?_,I2⟩;clear hq hr ce;simp[pob,toks,adv,ze,zg]at i1 i2 t1 x1 x2 te;refine zd rfl rfl rfl (by simp) ?_;rw[zb];simp[*,F120,ze,zg,pob,toks,zb,za]
  rw[if_neg (by rw[c_t1];decide)]at h;rw[c_t1]at t1;clear c_t1;have t2:=zH I [119,104,105,108,101];rw[zW]at t2;cases c_t2:isF T [119,104,105,108,101] ⟨pa,pb,true⟩
  case true=>
   rw[if_pos c_t2]at h;rw[c_t2]at t2;have IA:=I.adv _ c_t2;clear c_t2;split at h
   ·cases h
   rename_i x hq;obtain⟨e,p1⟩:=x;simp only at h;obtain⟨x1,I1⟩:=zad hq IA hn';split at h
   ·cases h
   rename_i x hr;obtain⟨l1,p2⟩:=x;cases h;obtain⟨x2,I2⟩:=S.block (d+1) _ l1 p2 hr I1 (by omega) (by omega);refine⟨?_,I2⟩;clear hq hr;simp[pob,toks,adv,ze,zg]at i1 i2 t1 t2 x1 x2;refine zd rfl rfl rfl (by simp) ?_;rw[zb];simp[*,F120,ze,zg,pob,toks,zb,za]
  rw[if_neg (by rw[c_t2];decide)]at h;rw[c_t2]at t2;clear c_t2;have t3:=zH I [98,114,101,97,107];rw[zW]at t3;cases c_t3:isF T [98,114,101,97,107] ⟨pa,pb,true⟩
  case true=>
   rw[if_pos c_t3]at h;rw[c_t3]at t3;have IA:=I.adv _ c_t3;clear c_t3;cases h;have m1:=zB IA [59];refine⟨?_,IA.must _⟩;simp[pob,toks,adv,ze,zg]at i1 i2 t1 t2 t3 m1;refine zd rfl rfl rfl (by simp) ?_;rw[zb];simp[*,F120,ze,zg,pob,toks,zb,za];exact⟨rfl,rfl,rfl⟩
  rw[if_neg (by rw[c_t3];decide)]at h;rw[c_t3]at t3;clear c_t3;have t4:=zH I [99,111,110,116,105,110,117,101];rw[zW]at t4;cases c_t4:isF T [99,111,110,116,105,110,117,101] ⟨pa,pb,true⟩
  case true=>
   rw[if_pos c_t4]at h;rw[c_t4]at t4;have IA:=I.adv _ c_t4;clear c_t4;cases h;have m1:=zB IA [59];refine⟨?_,IA.must _⟩;simp[pob,toks,adv,ze,zg]at i1 i2 t1 t2 t3 t4 m1;refine zd rfl rfl rfl (by simp) ?_;rw[zb];simp[*,F120,ze,zg,pob,toks,zb,za];exact⟨rfl,rfl,rfl⟩
  rw[if_neg (by rw[c_t4];decide)]at h;rw[c_t4]at t4;clear c_t4;have t5:=zH I [114,101,116,117,114,110];rw[zW]at t5;cases c_t5:isF T [114,101,116,117,114,110] ⟨pa,pb,true⟩
  case true=>
   rw[if_pos c_t5]at h;rw[c_t5]at t5;have IA:=I.adv _ c_t5;clear c_t5;split at h
   ·cases h
   rename_i x hq;obtain⟨e,p1⟩:=x;cases h;obtain⟨x1,I1⟩:=zyc hq IA hn';have m1:=zB I1 [59];refine⟨?_,I1.must _⟩;clear hq;rw[za]at x1;simp[pob,toks,adv,ze,zg]at i1 i2 t1 t2 t3 t4 t5 x1 m1;refine zd rfl rfl rfl (by simp) ?_;rw[zb];simp[*,F120,ze,zg,pob,toks,zb,za]
  rw[if_neg (by rw[c_t5];decide)]at h;rw[c_t5]at t5;clear c_t5;have t6:=zH I [112,114,105,110,116];rw[zW]at t6;cases c_t6:isF T [112,114,105,110,116] ⟨pa,pb,true⟩
  case true=>
   rw[if_pos c_t6]at h;rw[c_t6]at t6;have IA:=I.adv _ c_t6;clear c_t6;split at h
   ·cases h
   rename_i x hq;obtain⟨e,p1⟩:=x;cases h;obtain⟨x1,I1⟩:=zad hq IA hn';have m1:=zB I1 [59];refine⟨?_,I1.must _⟩;clear hq;simp[pob,toks,adv,ze,zg]at i1 i2 t1 t2 t3 t4 t5 t6 x1 m1;refine zd rfl rfl rfl (by simp) ?_;rw[zb];simp[*,F120,ze,zg,pob,toks,zb,za]
  rw[if_neg (by rw[c_t6];decide)]at h;rw[c_t6]at t6;clear c_t6;split at h
  ·cases h
  rename_i x hq;obtain⟨w,p1⟩:=x;cases h;obtain⟨x1,I1⟩:=named_spec hq I hn';have m1:=zB I1 [59];refine⟨?_,I1.must _⟩;clear hq;rw[zb]at x1;simp[pob,toks,adv,ze,zg]at i1 i2 t1 t2 t3 t4 t5 t6 x1 m1;refine zd rfl rfl rfl (by simp) ?_;rw[zb];simp[*,F120,ze,zg,pob,toks,zb,za]
 ·have hdp:deepS d ⟨pa,pb,pd⟩=⟨pa,pb,pd⟩:=by unfold deepS;rw[if_neg h100]
  rw[hdp]at h I;clear hdp I0;replace h100:=eqn h100;have i1:=is_spec I [105,110,116];have i2:=is_spec I [98,111,111,108];cases c0:(isF T [105,110,116] ⟨pa,pb,pd⟩||isF T [98,111,111,108] ⟨pa,pb,pd⟩)
  case true=>
   rw[if_pos c0]at h;have ty:=typed_spec I;have I1:=I.typed;generalize hty:zma T ⟨pa,pb,pd⟩=tt at*;obtain⟨t,p1⟩:=tt;simp only at h ty I1;have tx:=zld I1 1;have I2:=I1.text 1 (by decide);generalize htx:zka T 1 p1=tt at*;obtain⟨s,p2⟩:=tt;simp only at h tx I2;have m1:=zB I2 [61];split at h
   ·cases h
   rename_i x hq;obtain⟨e,p3⟩:=x;cases h;obtain⟨x1,I3⟩:=zyc hq (I2.must _) hn';have m2:=zB I3 [59];refine⟨?_,I3.must _⟩;clear htx hty hq;rw[za]at x1;simp[pob,toks,adv,ze]at i1 i2 ty tx m1 m2 x1;refine zd rfl rfl rfl (by simp) ?_;rw[zb];cases c1:isF T [105,110,116] ⟨pa,pb,pd⟩
   ·rw[c1]at c0 i1;have c0:isF T [98,111,111,108] ⟨pa,pb,pd⟩=true:=c0;rw[c0]at i2;clear c0 c1;simp[*,F120,ze,zg,pob,toks,zb,za]
   ·rw[c1]at i1;clear c0 c1;simp[*,F120,ze,zg,pob,toks,zb,za]
  rw[if_neg (by rw[c0];decide)]at h;simp only[yna]at c0;rw[c0.1]at i1;rw[c0.2]at i2;clear c0;have t1:=zH I [105,102];rw[zW]at t1;cases c_t1:isF T [105,102] ⟨pa,pb,pd⟩
  case true=>
   rw[if_pos c_t1]at h;rw[c_t1]at t1;have IA:=I.adv _ c_t1;clear c_t1;split at h
   ·cases h
   rename_i x hq;obtain⟨e,p1⟩:=x;simp only at h;obtain⟨x1,I1⟩:=zad hq IA hn';split at h
   ·cases h
   rename_i x hr;obtain⟨l1,p2⟩:=x;simp only at h;obtain⟨x2,I2⟩:=S.block (d+1) _ l1 p2 hr I1 (by omega) (by omega);have te:=zH I2 [101,108,115,101];rw[zW]at te;cases ce:isF T [101,108,115,101] p2
   case true=>
    rw[if_pos ce]at h;rw[ce]at te;split at h
    ·cases h
    rename_i x hs;obtain⟨l2,p3⟩:=x;cases h;obtain⟨x3,I3⟩:=S.block (d+1) _ l2 p3 hs (I2.adv _ ce) (by omega) (by omega);refine⟨?_,I3⟩;clear hq hr hs ce;simp[pob,toks,adv,ze,zg]at i1 i2 t1 x1 x2 x3 te;refine zd rfl rfl rfl (by simp) ?_;rw[zb];simp[*,F120,ze,zg,pob,toks,zb,za]
   rw[if_neg (by rw[ce];decide)]at h;rw[ce]at te;cases h;refine⟨?_,I2⟩;clear hq hr ce;simp[pob,toks,adv,ze,zg]at i1 i2 t1 x1 x2 te;refine zd rfl rfl rfl (by simp) ?_;rw[zb];simp[*,F120,ze,zg,pob,toks,zb,za]
  rw[if_neg (by rw[c_t1];decide)]at h;rw[c_t1]at t1;clear c_t1;have t2:=zH I [119,104,105,108,101];rw[zW]at t2;cases c_t2:isF T [119,104,105,108,101] ⟨pa,pb,pd⟩
  case true=>
   rw[if_pos c_t2]at h;rw[c_t2]at t2;have IA:=I.adv _ c_t2;clear c_t2;split at h
   ·cases h
   rename_i x hq;obtain⟨e,p1⟩:=x;simp only at h;obtain⟨x1,I1⟩:=zad hq IA hn';split at h
   ·cases h
   rename_i x hr;obtain⟨l1,p2⟩:=x;cases h;obtain⟨x2,I2⟩:=S.block (d+1) _ l1 p2 hr I1 (by omega) (by omega);refine⟨?_,I2⟩;clear hq hr;simp[pob,toks,adv,ze,zg]at i1 i2 t1 t2 x1 x2;refine zd rfl rfl rfl (by simp) ?_;rw[zb];simp[*,F120,ze,zg,pob,toks,zb,za]
  rw[if_neg (by rw[c_t2];decide)]at h;rw[c_t2]at t2;clear c_t2;have t3:=zH I [98,114,101,97,107];rw[zW]at t3;cases c_t3:isF T [98,114,101,97,107] ⟨pa,pb,pd⟩
  case true=>
   rw[if_pos c_t3]at h;rw[c_t3]at t3;have IA:=I.adv _ c_t3;clear c_t3;cases h;have m1:=zB IA [59];refine⟨?_,IA.must _⟩;simp[pob,toks,adv,ze,zg]at i1 i2 t1 t2 t3 m1;refine zd rfl rfl rfl (by simp) ?_;rw[zb];simp[*,F120,ze,zg,pob,toks,zb,za];exact⟨rfl,rfl,rfl⟩
  rw[if_neg (by rw[c_t3];decide)]at h;rw[c_t3]at t3;clear c_t3;have t4:=zH I [99,111,110,116,105,110,117,101];rw[zW]at t4;cases c_t4:isF T [99,111,110,116,105,110,117,101] ⟨pa,pb,pd⟩
  case true=>
   rw[if_pos c_t4]at h;rw[c_t4]at t4;have IA:=I.adv _ c_t4;clear c_t4;cases h;have m1:=zB IA [59];refine⟨?_,IA.must _⟩;simp[pob,toks,adv,ze,zg]at i1 i2 t1 t2 t3 t4 m1;refine zd rfl rfl rfl (by simp) ?_;rw[zb];simp[*,F120,ze,zg,pob,toks,zb,za];exact⟨rfl,rfl,rfl⟩
  rw[if_neg (by rw[c_t4];decide)]at h;rw[c_t4]at t4;clear c_t4;have t5:=zH I [114,101,116,117,114,110];rw[zW]at t5;cases c_t5:isF T [114,101,116,117,114,110] ⟨pa,pb,pd⟩
  case true=>
   rw[if_pos c_t5]at h;rw[c_t5]at t5;have IA:=I.adv _ c_t5;clear c_t5;split at h
   ·cases h
   rename_i x hq;obtain⟨e,p1⟩:=x;cases h;obtain⟨x1,I1⟩:=zyc hq IA hn';have m1:=zB I1 [59];refine⟨?_,I1.must _⟩;clear hq;rw[za]at x1;simp[pob,toks,adv,ze,zg]at i1 i2 t1 t2 t3 t4 t5 x1 m1;refine zd rfl rfl rfl (by simp) ?_;rw[zb];simp[*,F120,ze,zg,pob,toks,zb,za]
  rw[if_neg (by rw[c_t5];decide)]at h;rw[c_t5]at t5;clear c_t5;have t6:=zH I [112,114,105,110,116];rw[zW]at t6;cases c_t6:isF T [112,114,105,110,116] ⟨pa,pb,pd⟩
  case true=>
   rw[if_pos c_t6]at h;rw[c_t6]at t6;have IA:=I.adv _ c_t6;clear c_t6;split at h
   ·cases h
   rename_i x hq;obtain⟨e,p1⟩:=x;cases h;obtain⟨x1,I1⟩:=zad hq IA hn';have m1:=zB I1 [59];refine⟨?_,I1.must _⟩;clear hq;simp[pob,toks,adv,ze,zg]at i1 i2 t1 t2 t3 t4 t5 t6 x1 m1;refine zd rfl rfl rfl (by simp) ?_;rw[zb];simp[*,F120,ze,zg,pob,toks,zb,za]
  rw[if_neg (by rw[c_t6];decide)]at h;rw[c_t6]at t6;clear c_t6;split at h
  ·cases h
  rename_i x hq;obtain⟨w,p1⟩:=x;cases h;obtain⟨x1,I1⟩:=named_spec hq I hn';have m1:=zB I1 [59];refine⟨?_,I1.must _⟩;clear hq;rw[zb]at x1;simp[pob,toks,adv,ze,zg]at i1 i2 t1 t2 t3 t4 t5 t6 x1 m1;refine zd rfl rfl rfl (by simp) ?_;rw[zb];simp[*,F120,ze,zg,pob,toks,zb,za]
theorem sspec_all(T:List Tok):∀n k,k<=n->SSpec T k
 |0,k,h=>by
  have:k=0:=by omega
  subst this;exact⟨fun _ _ _ _ h=>by simp[stmtF]at h,block_of (fun k hk=>absurd hk (by omega))⟩
 |n+1,k,h=>by
  have ih:=sspec_all T n;rcases yB k (n+1)with h1|h1
  ·exact ih k (by omega)
  ·have:k=n+1:=by omega
   subst this;exact⟨stmt_of (ih n (yd n)),block_of (fun k hk=>ih k (by omega))⟩
theorem sspec(T:List Tok)(n:Nat):SSpec T n:=sspec_all T n n (yd n)
theorem acc_snoc(sz:Nat)(l:List PV)(x:PV):acc sz (l++[x])= .slice .own sz (l++[x]):=acc_ne (by simp)
@[simp] theorem isOwn_acc_snoc(sz:Nat)(l:List PV)(x:PV):isOwn (acc sz (l++[x]))=some (sz,l++[x]):=by rw[acc_snoc];rfl
def zCb(T:List Tok):Nat->List Par->Bool->PS->Option (List Par×PS)
 |0,_,_,_=>none
 |n+1,l,first,p=>
  if first||isF T [44] p then
   if zfb (if first then p else adv p)then some (l,if first then p else adv p)
   else zCb T n (l++[⟨(zka T 1 (zma T (if first then p else adv p)).2).1,(zma T (if first then p else adv p)).1⟩]) false (zka T 1 (zma T (if first then p else adv p)).2).2
  else some (l,p)
def zWd(T:List Tok)(n:Nat)(t:Int)(s:List UInt8)(p:PS):Option (Func×PS):=
 if isF T [41] (zMa T [40] p)then
  match zdc T n 1 [] (zMa T [123] (adv (zMa T [40] p)))with
  |none=>none
  |some q=>some (⟨s,t,[],q.1⟩,q.2)
 else match zCb T n [] true (zMa T [40] p)with
  |none=>none
  |some r=>match zdc T n 1 [] (zMa T [123] (zMa T [41] r.2))with
   |none=>none
   |some q=>some (⟨s,t,r.1,q.1⟩,q.2)
structure FS where
 m:Nat
 l:List Par
 f:Bool
 p:PS
theorem paramsF_inv{T:List Tok}:∀m l f p v p',zCb T m l f p=some (v,p')->Inv1 T p->Inv1 T p':=by
 intro m
 induction m with
 |zero=>intro l f p v p' h;simp[zCb]at h
 |succ m ih=>
  intro l f p v p' h I;simp only[zCb]at h;have fin:∀q:PS,Inv1 T q->(if zfb q then some (l,q)else zCb T m (l++[⟨(zka T 1 (zma T q).2).1,(zma T q).1⟩]) false (zka T 1 (zma T q).2).2)=some (v,p')->Inv1 T p':=by
   intro q Iq h;split at h
   ·cases h;exact Iq
   ·exact ih _ _ _ _ _ h (Iq.typed.text 1 (by decide))
  cases f
  ·cases c2:isF T [44] p
   ·rw[c2]at h;simp at h;exact h.2 ▸ I
   ·rw[c2]at h;simp at h;exact fin _ (I.adv _ c2) h
  ·simp at h;exact fin _ I h
set_option maxHeartbeats 4000000 in
theorem zif{T:List Tok}{n:Nat}{t:Int}{s:List UInt8}{p p':PS}{v:Func}(h:zWd T n t s p=some (v,p'))(I:Inv1 T p)(hn:n<=999999980):zi E 68 [.ptr 0 0 0,.int .i64 t,.str s] (pob T p)=some (.ret (zl v),pob T p')/\Inv1 T p':=by
 unfold zWd at h;have m1:=zB I [40];have I1:=I.must [40];have t1:=zH I1 [41];rw[zW]at t1;cases c1:isF T [41] (zMa T [40] p)
 case true=>
  rw[if_pos c1]at h;rw[c1]at t1;split at h
  ·cases h
  rename_i q hq;obtain⟨l,p2⟩:=q;cases h;obtain⟨x1,I3⟩:=(sspec T n).block 1 _ l p2 hq (I1.adv _ c1) (by omega) (by omega);refine⟨?_,I3⟩;refine zd rfl rfl rfl (by simp) ?_;clear hq c1;simp[zg]at x1;simp[*,F68,zl,parsV,zg]
 rw[if_neg (by rw[c1];decide)]at h;rw[c1]at t1;split at h
 ·cases h
 rename_i r hr;obtain⟨ps,p1⟩:=r;simp only at h;split at h
 ·cases h
 rename_i q hq;obtain⟨l,p2⟩:=q;cases h;have Ip:=paramsF_inv _ _ _ _ _ _ hr I1;have m2:=zB Ip [41];obtain⟨x1,I3⟩:=(sspec T n).block 1 _ l p2 hq (Ip.must [41]) (by omega) (by omega);refine⟨?_,I3⟩;refine zd rfl rfl rfl (by simp) ?_;clear hq c1;simp[zg]at x1;simp[*,F68,zl,parsV,zg];refine zha K68_0 B68_0 (fun c:FS=>c.m) (fun c=>[(8,.bool c.f)]) (fun c=>[(7,.cells [.str s,.int .i64 t,acc 2 (c.l.map encPar),.slice .fit 6 []])]) (fun c=>pob T c.p) (fun c=>c.m<=n/\c.l.length+c.m<=n/\zCb T c.m c.l c.f c.p=some (ps,p1)/\Inv1 T c.p) ⟨n,[],true,zMa T [40] p⟩ ⟨by simp,by simp,by simp,yd _,by simp,hr,I1⟩ ?_
 rintro⟨m,l2,f,p⟩ s1 ⟨hm,hlm,hr,I⟩ g1 g2 g3 g4 g5
 simp at g1 g2 g3 g4 g5 hm hlm hr I;clear t1 I1 I3 Ip;cases m with
 |zero=>simp[zCb]at hr
 |succ m=>
  simp only[zCb]at hr;have hroom:(l2.length+1)*24<=zo:=by simp only[zo];omega
  have t2:=zH I [44];rw[zW]at t2;have key:∀q:PS,Inv1 T q->(if zfb q then some (l2,q)else zCb T m (l2++[⟨(zka T 1 (zma T q).2).1,(zma T q).1⟩]) false (zka T 1 (zma T q).2).2)=some (ps,p1)→
    (zfb q=true/\l2=ps/\q=p1)\/(zfb q=false/\∃ty pt tx p3,zi E 64 [.ptr 0 0 0] (pob T q)=some (.ret (.int .i64 ty),pob T pt)/\zi E 65 [.ptr 0 0 0,.int .i64 1] (pob T pt)=some (.ret (.str tx),pob T p3)/\Inv1 T p3/\zCb T m (l2++[⟨tx,ty⟩]) false p3=some (ps,p1)):=by
   intro q Iq h;cases ho:zfb q
   ·right;rw[if_neg (by rw[ho];decide)]at h;exact⟨rfl,_,_,_,_,typed_spec Iq,zld Iq.typed 1,Iq.typed.text 1 (by decide),h⟩
   ·left;rw[if_pos ho]at h;cases h;exact⟨rfl,rfl,rfl⟩
  cases f
  ·cases c2:isF T [44] p
   ·rw[c2]at hr t2;simp at hr;obtain⟨rfl,rfl⟩:=hr;clear key c2;simp[*]
   ·have IA:=I.adv _ c2;rw[c2]at hr t2;simp at hr;have ho:=zIc IA;rcases key _ IA hr with⟨k1,rfl,rfl⟩|⟨k1,ty,pt,tx,p3,x2,x3,I3,hr2⟩
    ·rw[k1]at ho;clear key c2 hr;simp[*]
    ·rw[k1]at ho;clear key c2 hr k1;simp[*];exact⟨⟨m,l2++[⟨tx,ty⟩],false,p3⟩,yha m,rfl,by simp[encPar,acc_snoc],rfl,by simp only;omega,by simp only[yi,yj,yn];omega,hr2,I3⟩
  ·simp at hr;have ho:=zIc I;rcases key _ I hr with⟨k1,rfl,rfl⟩|⟨k1,ty,pt,tx,p3,x2,x3,I3,hr2⟩
   ·rw[k1]at ho;clear key hr t2;simp[*]
   ·rw[k1]at ho;clear key hr k1 t2;simp[*];exact⟨⟨m,l2++[⟨tx,ty⟩],false,p3⟩,yha m,rfl,by simp[encPar,acc_snoc],rfl,by simp only;omega,by simp only[yi,yj,yn];omega,hr2,I3⟩
def progF(T:List Tok):Nat->List PArr->List Func->PS->Option (Prog×PS)
 |0,_,_,_=>none
 |n+1,ars,fs,p=>
  if zfb p then some (⟨ars,fs⟩,p)
  else if(tk T p.at').kind=3 then some (⟨ars,fs⟩,p)
  else if(zma T p).1=1/\fs=[]/\isF T [91] (zka T 1 (zma T p).2).2=true then
   progF T n (ars++[⟨(zka T 1 (zma T p).2).1,zie (zka T 0 (adv (zka T 1 (zma T p).2).2)).1⟩]) fs (zMa T [59] (zMa T [93] (zka T 0 (adv (zka T 1 (zma T p).2).2)).2))
  else match zWd T n (zma T p).1 (zka T 1 (zma T p).2).1 (zka T 1 (zma T p).2).2 with
   |none=>none
   |some q=>progF T n ars (fs++[q.1]) q.2
structure GS where
 m:Nat
 ars:List PArr
 fs:List Func
 p:PS
theorem text0_num{T:List Tok}{p:PS}(I:Inv1 T p):digs (zka T 0 p).1=true/\(zka T 0 p).1.length<1000000:=by
 unfold zka;split
 ·exact⟨rfl,by simp⟩
 ·split
  ·rename_i h;refine I.num _ ?_ h;rw[<-tk_get' I.lt];exact List.getElem_mem I.lt
  ·exact⟨rfl,by simp⟩
theorem progF_inv{T:List Tok}:∀m ars fs p v p',m<=999999980->progF T m ars fs p=some (v,p')->Inv1 T p->Inv1 T p':=by
 intro m
 induction m with
 |zero=>intro ars fs p v p' _ h;simp[progF]at h
 |succ m ih=>
  intro ars fs p v p' hm h I;simp only[progF]at h;have I2:=I.typed.text 1 (by decide);split at h
  ·cases h;exact I
  ·split at h
   ·cases h;exact I
   ·split at h
    ·rename_i hc;exact ih _ _ _ _ _ (by omega) h ((((I2.adv _ hc.2.2).text 0 (by decide)).must _).must _)
    ·split at h
     ·cases h
     ·rename_i q hq;exact ih _ _ _ _ _ (by omega) h (zif hq I2 (by omega)).2
set_option maxHeartbeats 4000000 in
theorem prog_spec{T:List Tok}{n:Nat}{p p':PS}{v:Prog}(h:progF T n [] [] p=some (v,p'))(I:Inv1 T p)(hn:n<=999999980):zi E 34 [.ptr 0 0 0] (pob T p)=some (.ret (zf v),pob T p')/\Inv1 T p':=by
 refine⟨?_,progF_inv _ _ _ _ _ _ hn h I⟩;refine zd rfl rfl rfl (by simp) ?_;simp[F34,zf,zia,funcs];refine zha K34_0 B34_0 (fun c:GS=>c.m) (fun c=>[]) (fun c=>[(3,.cells [acc 2 (c.ars.map zK),acc 4 (c.fs.map zl)])]) (fun c=>pob T c.p) (fun c=>c.m<=n/\c.ars.length+c.m<=n/\c.fs.length+c.m<=n/\progF T c.m c.ars c.fs c.p=some (v,p')/\Inv1 T c.p) ⟨n,[],[],p⟩ ⟨by simp,by simp,by simp,yd _,by simp,by simp,h,I⟩ ?_;clear h I
 rintro⟨m,ars,fs,p⟩ s1 ⟨hm,hla,hlf,hr,I⟩ g1 g2 g3 g4 g5
 simp at g1 g2 g4 g5 hm hla hlf hr I;clear g3;cases m with
 |zero=>simp[progF]at hr
 |succ m=>
  simp only[progF]at hr;have hrm1:(ars.length+1)*24<=zo:=by simp only[zo];omega
  have hrm2:(fs.length+1)*72<=zo:=by simp only[zo];omega
  have ho:=zIc I;have hlt:=I.lt;have hg:=tk_get hlt;have hg':=tk_get' hlt;cases o:zfb p
  case true=>
   rw[if_pos o]at hr;rw[o]at ho;cases hr;clear o;simp[*]
  rw[if_neg (by rw[o];decide)]at hr;rw[o]at ho;clear o;by_cases hk:(tk T p.at').kind=3
  ·rw[if_pos hk]at hr;replace hk:=eqp hk;cases hr;simp[pob,toks]at ho g5;simp[*,pob,toks,zA]
  rw[if_neg hk]at hr;replace hk:=eqn hk;have ty:=typed_spec I;have I1:=I.typed;generalize zma T p=tt at*;obtain⟨t,p1⟩:=tt;simp only at ty I1 hr;have tx:=zld I1 1;have I2:=I1.text 1 (by decide);generalize zka T 1 p1=tt at*;obtain⟨s,p2⟩:=tt;simp only at tx I2 hr;have t2:=zH I2 [91];rw[zW]at t2;by_cases hc:t=1/\fs=[]/\isF T [91] p2=true
  ·rw[if_pos hc]at hr;obtain⟨rfl,rfl,hc⟩:=hc;have IA:=I2.adv _ hc;rw[hc]at t2;have x1:=zld IA 0;obtain⟨n1,n2⟩:=text0_num IA;have I3:=IA.text 0 (by decide);generalize zka T 0 (adv p2)=tt at*;obtain⟨x,p3⟩:=tt;simp only at x1 I3 hr n1 n2;have vv:=value_spec' x [] n1 (by omega);have m1:=zB I3 [93];have m2:=zB (I3.must [93]) [59];have I4:=(I3.must [93]).must [59];clear hc;simp[pob,toks]at ho g5 ty tx t2 x1 m1 m2;simp[*,pob,toks,zA];exact⟨⟨m,ars++[⟨s,zie x⟩],[],_⟩,yha m,by simp[zK,acc_snoc],⟨rfl,rfl,rfl⟩,by simp only;omega,by simp only[yi,yj,yn];omega,by simp only[yn];omega,hr,I4⟩
  ·rw[if_neg hc]at hr;split at hr
   ·cases hr
   rename_i q hq;obtain⟨fn,p3⟩:=q;simp only at hr;obtain⟨x1,I3⟩:=zif hq I2 (by omega);clear hq;have hs:=is_spec I2 [91];simp[zl,parsV,zg]at x1;simp[pob,toks]at ho g5 ty tx t2 x1;by_cases h1:t=1
   ·by_cases h2:fs=[]
    ·have h3:isF T [91] p2=false:=by
      cases h3:isF T [91] p2
      ·rfl
      ·exact absurd ⟨h1,h2,h3⟩ hc
     rw[h3]at t2;subst h1 h2;clear hc h3 hs hrm2;have hrm2:72<=zo:=by simp only[zo];omega
     simp at g4 hr;simp[*,pob,toks,zA];exact⟨⟨m,ars,[fn],p3⟩,yha m,⟨rfl,by simp[zl,parsV,zg]⟩,⟨rfl,rfl,rfl⟩,by simp only;omega,by simp only;omega,by simp only[yj,yn]at hlf ⊢;omega,hr,I3⟩
    ·have h2':¬fs.length=0:=by simpa using h2
     clear hc h2 t2 hs;subst h1;simp[*,pob,toks,zA];exact⟨⟨m,ars,fs++[fn],p3⟩,yha m,⟨rfl,by simp[zl,parsV,zg,acc_snoc]⟩,⟨rfl,rfl,rfl⟩,by simp only;omega,by simp only;omega,by simp only[yi,yj,yn];omega,hr,I3⟩
   ·clear hc t2 hs;replace h1:=eqn h1;simp[*,pob,toks,zA];exact⟨⟨m,ars,fs++[fn],p3⟩,yha m,⟨rfl,by simp[zl,parsV,zg,acc_snoc]⟩,⟨rfl,rfl,rfl⟩,by simp only;omega,by simp only;omega,by simp only[yi,yj,yn];omega,hr,I3⟩
def zud(k o n:Int)(s:List UInt8)(a:Nat):Bool:=
 if k=1 then decide (o=0)&&(decide (0<=n)&&(decide (s=[])&&decide (a=0)))
 else if k=2 then decide (o=0)&&((decide (n=0)||decide (n=1))&&(decide (s=[])&&decide (a=0)))
 else if k=3 then(decide (o=0)&&decide (n=0))&&(zGb s&&decide (a=0))
 else if k=4 then oneR o&&(decide (n=0)&&(decide (s=[])&&decide (a=1)))
 else if k=5 then decide (0<zMe o)&&(decide (n=0)&&(decide (s=[])&&decide (a=2)))
 else if k=6 then(decide (o=0)&&decide (n=0))&&(zGb s&&decide (a=1))
 else if k=7 then(decide (o=0)&&decide (n=0))&&(zGb s&&decide (a<=8))
 else if k=8 then(decide (o=0)&&decide (n=0))&&(decide (s=[])&&decide (a=0))
 else false
mutual
def zjb:Expr->Int->Bool
 |⟨k,o,n,s,a⟩,m=>zyb a m&&zud k o n s a.length
def zyb:List Expr->Int->Bool
 | [],_=>true
 |x::r,m=>(decide (2<=m)&&zjb x (m-1))&&zyb r m
end
theorem exprR_eq(e:Expr)(m:Int):zjb e m=(zyb e.args m&&zud e.kind e.op e.n e.name e.args.length):=by cases e;rw[zjb]
theorem zlf(a b:List Expr)(m:Int):zyb (a++b) m=(zyb a m&&zyb b m):=by
 induction a with
 |nil=>simp[zyb]
 |cons x r ih=>simp[zyb,ih,Bool.and_assoc]
set_option maxHeartbeats 4000000 in
theorem exprR_spec':∀w (e:Expr) (m:Int),wtE e<=w->w<1099511000000->m<=1000000->zi E 97 [zn e,.int .i64 m] []=some (.ret (.bool (zjb e m)),[])
 |0,e,m,h,_,_=>by rw[zvd]at h;omega
 |w+1,e,m,h,hw,hm=>by
  refine zd rfl rfl rfl (by simp[za]) ?_;have hlen:=zXb e.args;rw[zvd]at h;simp[F97,za,ze];refine zG e.args K97_0 B97_0 (fun d=>[(5,.int .i64 d.length)]) (fun _=>[]) (fun d=>zyb d m=true) (by omega) (by simp[zyb]) ?_ ?_
  ·intros d x r s1 hl' hlt hget hget' hw1 hp h1 h2 h3 h4;simp at h1 h2 h3;have hwx:=zAb hl'.mem;have hf:zjb e m=false\/(2<=m/\zjb x (m-1)=true):=by
    by_cases h2m:2<=m
    ·cases hx:zjb x (m-1)
     ·left;rw[exprR_eq,hl'.eq,zlf];simp[zyb,hx]
     ·exact yZa ⟨h2m,rfl⟩
    ·left;rw[exprR_eq,hl'.eq,zlf];simp[zyb,h2m]
   have hnx:2<=m->zjb x (m-1)=true->zyb (d++[x]) m=true:=by
    intro a b;rw[zlf,hp];simp[zyb,a,b]
   by_cases h2m:m<2
   ·rcases hf with hf|hf
    ·clear hnx hl' hp
     (simp[*])<;>(repeat' (first|((first|refine sP _ ?_ ?_|refine gP _ ?_ ?_|refine sN _ ?_ ?_|refine gN _ ?_ ?_)<;>intro hc<;>(first|replace hc:=eqn hc|replace hc:=eqp hc)<;>simp[*])|((first|refine sM _ ?_ ?_|refine gM _ ?_ ?_|refine sB _ ?_ ?_|refine gB _ ?_ ?_)<;>intro hc<;>simp[*])))
    ·omega
   ·have ih:=exprR_spec' w x (m-1) (by omega) (by omega) (by omega);have hwm:zC .i64 (m-1)=m-1:=zj (by omega) (by omega);rw[za]at ih;cases hx:zjb x (m-1)
    ·rcases hf with hf|hf
     ·rw[hx]at ih;clear hnx hl' hp;simp[ze]at ih
      (simp[*,za,ze])<;>(repeat' (first|((first|refine sP _ ?_ ?_|refine gP _ ?_ ?_|refine sN _ ?_ ?_|refine gN _ ?_ ?_)<;>intro hc<;>(first|replace hc:=eqn hc|replace hc:=eqp hc)<;>simp[*,za,ze])|((first|refine sM _ ?_ ?_|refine gM _ ?_ ?_|refine sB _ ?_ ?_|refine gB _ ?_ ?_)<;>intro hc<;>simp[*,za,ze])))
     ·rw[hx]at hf;exact absurd hf.2 (by decide)
    ·replace hnx:=hnx (by omega) hx;rw[hx]at ih;clear hf hl' hp;simp[ze]at ih
     (simp[*,za,ze])<;>(repeat' (first|((first|refine sP _ ?_ ?_|refine gP _ ?_ ?_|refine sN _ ?_ ?_|refine gN _ ?_ ?_)<;>intro hc<;>(first|replace hc:=eqn hc|replace hc:=eqp hc)<;>simp[*,za,ze])|((first|refine sM _ ?_ ?_|refine gM _ ?_ ?_|refine sB _ ?_ ?_|refine gB _ ?_ ?_)<;>intro hc<;>simp[*,za,ze])))
  ·intros s1 hp h1 h2 h3 h4;simp at h1 h2 h3;rw[exprR_eq,hp,yka];have hn:=zGd e.name [];have h5:=rlevel_spec e.op;have h6:=roneR_spec e.op;clear h hlen hp;generalize hal:e.args.length=al at*;unfold zud;by_cases k1:e.kind=1
   ·replace k1:=eqp k1
    (simp[*])<;>(repeat' (first|((first|refine sP _ ?_ ?_|refine gP _ ?_ ?_|refine sN _ ?_ ?_|refine gN _ ?_ ?_)<;>intro hc<;>(first|replace hc:=eqn hc|replace hc:=eqp hc)<;>simp[*])|((first|refine sM _ ?_ ?_|refine gM _ ?_ ?_|refine sB _ ?_ ?_|refine gB _ ?_ ?_)<;>intro hc<;>simp[*])))
    all_goals(try omega)
   by_cases k2:e.kind=2
   ·replace k1:=eqn k1;replace k2:=eqp k2
    (simp[*])<;>(repeat' (first|((first|refine sP _ ?_ ?_|refine gP _ ?_ ?_|refine sN _ ?_ ?_|refine gN _ ?_ ?_)<;>intro hc<;>(first|replace hc:=eqn hc|replace hc:=eqp hc)<;>simp[*])|((first|refine sM _ ?_ ?_|refine gM _ ?_ ?_|refine sB _ ?_ ?_|refine gB _ ?_ ?_)<;>intro hc<;>simp[*])))
    all_goals(try omega)
   by_cases k3:e.kind=3
   ·replace k1:=eqn k1;replace k2:=eqn k2;replace k3:=eqp k3
    (simp[*])<;>(repeat' (first|((first|refine sP _ ?_ ?_|refine gP _ ?_ ?_|refine sN _ ?_ ?_|refine gN _ ?_ ?_)<;>intro hc<;>(first|replace hc:=eqn hc|replace hc:=eqp hc)<;>simp[*])|((first|refine sM _ ?_ ?_|refine gM _ ?_ ?_|refine sB _ ?_ ?_|refine gB _ ?_ ?_)<;>intro hc<;>simp[*])))
    all_goals(try omega)
   by_cases k4:e.kind=4
   ·replace k1:=eqn k1;replace k2:=eqn k2;replace k3:=eqn k3;replace k4:=eqp k4
    (simp[*])<;>(repeat' (first|((first|refine sP _ ?_ ?_|refine gP _ ?_ ?_|refine sN _ ?_ ?_|refine gN _ ?_ ?_)<;>intro hc<;>(first|replace hc:=eqn hc|replace hc:=eqp hc)<;>simp[*])|((first|refine sM _ ?_ ?_|refine gM _ ?_ ?_|refine sB _ ?_ ?_|refine gB _ ?_ ?_)<;>intro hc<;>simp[*])))
    all_goals(try omega)
   by_cases k5:e.kind=5
   ·replace k1:=eqn k1;replace k2:=eqn k2;replace k3:=eqn k3;replace k4:=eqn k4;replace k5:=eqp k5
    (simp[*])<;>(repeat' (first|((first|refine sP _ ?_ ?_|refine gP _ ?_ ?_|refine sN _ ?_ ?_|refine gN _ ?_ ?_)<;>intro hc<;>(first|replace hc:=eqn hc|replace hc:=eqp hc)<;>simp[*])|((first|refine sM _ ?_ ?_|refine gM _ ?_ ?_|refine sB _ ?_ ?_|refine gB _ ?_ ?_)<;>intro hc<;>simp[*])))
    all_goals(try omega)
   replace k1:=eqn k1;replace k2:=eqn k2;replace k3:=eqn k3;replace k4:=eqn k4;replace k5:=eqn k5;by_cases k6:e.kind=6
   ·replace k6:=eqp k6
    (simp[*])<;>(repeat' (first|((first|refine sP _ ?_ ?_|refine gP _ ?_ ?_|refine sN _ ?_ ?_|refine gN _ ?_ ?_)<;>intro hc<;>(first|replace hc:=eqn hc|replace hc:=eqp hc)<;>simp[*])|((first|refine sM _ ?_ ?_|refine gM _ ?_ ?_|refine sB _ ?_ ?_|refine gB _ ?_ ?_)<;>intro hc<;>simp[*])))
    all_goals(try omega)
   replace k6:=eqn k6;by_cases k7:e.kind=7
   ·replace k7:=eqp k7
    (simp[*])<;>(repeat' (first|((first|refine sP _ ?_ ?_|refine gP _ ?_ ?_|refine sN _ ?_ ?_|refine gN _ ?_ ?_)<;>intro hc<;>(first|replace hc:=eqn hc|replace hc:=eqp hc)<;>simp[*])|((first|refine sM _ ?_ ?_|refine gM _ ?_ ?_|refine sB _ ?_ ?_|refine gB _ ?_ ?_)<;>intro hc<;>simp[*])))
    all_goals(try omega)
   replace k7:=eqn k7;by_cases k8:e.kind=8
   ·replace k8:=eqp k8
    (simp[*])<;>(repeat' (first|((first|refine sP _ ?_ ?_|refine gP _ ?_ ?_|refine sN _ ?_ ?_|refine gN _ ?_ ?_)<;>intro hc<;>(first|replace hc:=eqn hc|replace hc:=eqp hc)<;>simp[*])|((first|refine sM _ ?_ ?_|refine gM _ ?_ ?_|refine sB _ ?_ ?_|refine gB _ ?_ ?_)<;>intro hc<;>simp[*])))
    all_goals(try omega)
   replace k8:=eqn k8
   (simp[*])<;>(repeat' (first|((first|refine sP _ ?_ ?_|refine gP _ ?_ ?_|refine sN _ ?_ ?_|refine gN _ ?_ ?_)<;>intro hc<;>(first|replace hc:=eqn hc|replace hc:=eqp hc)<;>simp[*])|((first|refine sM _ ?_ ?_|refine gM _ ?_ ?_|refine sB _ ?_ ?_|refine gB _ ?_ ?_)<;>intro hc<;>simp[*])))
   all_goals(try omega)
theorem exprR_spec(e:Expr)(m:Int)(h:wtE e<1099510000000)(hm:m<=1000000):zi E 97 [zn e,.int .i64 m] []=some (.ret (.bool (zjb e m)),[]):=exprR_spec' (wtE e) e m (yd _) (by omega) hm
abbrev Nm:=List (List UInt8×List UInt8)
def zba(nm:List UInt8):Nm->List UInt8
 | []=>nm
 |x::r=>if x.1=nm then x.2 else zba nm r
mutual
def renE(N:Nm):Expr->Expr
 |⟨k,op,n,nm,ar⟩=>⟨k,op,n,if k=3 then zba nm N else nm,zV N ar⟩
def zV(N:Nm):List Expr->List Expr
 | []=>[]
 |x::r=>renE N x::zV N r
end
theorem renEs_append(N:Nm)(a b:List Expr):zV N (a++b)=zV N a++zV N b:=by
 induction a with
 |nil=>simp[zV]
 |cons x r ih=>simp[zV,ih]
theorem zKe(N:Nm)(a:List Expr):(zV N a).length=a.length:=by
 induction a with
 |nil=>simp[zV]
 |cons x r ih=>simp[zV,ih]
theorem renE_eq(N:Nm)(e:Expr):renE N e=⟨e.kind,e.op,e.n,if e.kind=3 then zba e.name N else e.name,zV N e.args⟩:=by
 obtain⟨k,op,n,nm,ar⟩:=e;simp[renE]
def newN(c:Nat):List UInt8:=118::zwa c
mutual
def renS:Stmt->Nm->Nat->Stmt×Nm×Nat
 |⟨k,ty,nm,ar,th,el⟩,N,c=>
  let N1:=if k=1 then(nm,newN c)::N else N
  let c1:=if k=1 then c+1 else c
  let t:=renB th N1 c1
  let e:=renB el N1 t.2.2
  (⟨k,ty,if k=1\/k=2 then zba nm N1 else nm,zV N ar,t.1,e.1⟩,N1,e.2.2)
def renB:List Stmt->Nm->Nat->List Stmt×Nm×Nat
 | [],N,c=>([],N,c)
 |x::r,N,c=>
  let y:=renS x N c
  let z:=renB r y.2.1 y.2.2
  (y.1::z.1,z.2)
end
theorem renB_append:∀(a b:List Stmt) (N:Nm) (c:Nat),renB (a++b) N c=((renB a N c).1++(renB b (renB a N c).2.1 (renB a N c).2.2).1,(renB b (renB a N c).2.1 (renB a N c).2.2).2)
 | [],b,N,c=>by simp[renB]
 |x::r,b,N,c=>by simp[renB,renB_append r b]
theorem renB_len:∀(a:List Stmt) (N:Nm) (c:Nat),(renB a N c).1.length=a.length
 | [],N,c=>by simp[renB]
 |x::r,N,c=>by simp[renB,renB_len r]
mutual
theorem renS_bd:∀(s:Stmt) (N:Nm) (c:Nat),(renS s N c).2.1.length<=N.length+1/\c<=(renS s N c).2.2/\(renS s N c).2.2<=c+wtS s
 |⟨k,ty,nm,ar,th,el⟩,N,c=>by
  have h1:=zgc th (if k=1 then(nm,newN c)::N else N) (if k=1 then c+1 else c);have h2:=zgc el (if k=1 then(nm,newN c)::N else N) (renB th (if k=1 then(nm,newN c)::N else N) (if k=1 then c+1 else c)).2.2;have hw:=zta ⟨k,ty,nm,ar,th,el⟩;simp only[renS];simp only at hw;refine⟨by split<;>simp,?_,?_⟩
  ·split at h1<;>split at h2<;>simp_all<;>omega
  ·split at h1<;>split at h2<;>simp_all<;>omega
theorem zgc:∀(l:List Stmt) (N:Nm) (c:Nat),(renB l N c).2.1.length<=N.length+l.length/\c<=(renB l N c).2.2/\(renB l N c).2.2<=c+wtSs l
 | [],N,c=>by simp[renB,wtSs]
 |x::r,N,c=>by
  have h1:=renS_bd x N c;have h2:=zgc r (renS x N c).2.1 (renS x N c).2.2;have hw:wtSs (x::r)=wtS x+1+wtSs r:=by simp[wtSs];omega
  simp only[renB,yj];omega
end
theorem itoa_spec(c:Nat)(h:c<=9223372036854775807):zi E 78 [.int .i64 c] []=some (.ret (.str (zwa c)),[]):=by
 rw[zFb (E:=E) (f:=78) (g:=itoaX) rfl];unfold itoaX;simp only;rw[if_pos (by omega),itoa_dig c (by omega)]
theorem mclone_spec{σ:zc}{r:Nat}{es:List (PV×PV)}(h:σ[r]? =some (.mp es)):zi E 116 [.mp r] σ=some (.ret (.mp σ.length),σ++[.mp es]):=by
 rw[zFb (E:=E) (f:=116) (g:=cloneX) rfl];simp[cloneX,h]
theorem sclX_nil(sz by_:Nat)(k:SK)(σ:zc):sclX sz by_ [.slice k sz []] σ=some (.ret (.slice .plain sz []),σ):=by simp[sclX]
theorem sclX_cons(sz by_:Nat)(k:SK)(σ:zc){l:List PV}(hne:l≠ [])(hb:l.length*by_<=zo):sclX sz by_ [.slice k sz l] σ=some (.ret (.mslice σ.length 0 l.length sz),σ++[.arr sz l]):=by
 simp[sclX,hne,hb]
theorem eclone_nil(σ:zc):zi E 91 [.slice .plain 5 []] σ=some (.ret (.slice .plain 5 []),σ):=by
 rw[zFb (E:=E) (f:=91) (g:=sclX 5 64) rfl];exact sclX_nil ..
theorem eclone(σ:zc){l:List PV}(hne:l≠ [])(hb:l.length*64<=zo):zi E 91 [.slice .plain 5 l] σ=some (.ret (.mslice σ.length 0 l.length 5),σ++[.arr 5 l]):=by
 rw[zFb (E:=E) (f:=91) (g:=sclX 5 64) rfl];exact sclX_cons _ _ _ _ hne hb
theorem tclone_nil(σ:zc):zi E 54 [.slice .plain 6 []] σ=some (.ret (.slice .plain 6 []),σ):=by
 rw[zFb (E:=E) (f:=54) (g:=sclX 6 104) rfl];exact sclX_nil ..
theorem tclone(σ:zc){l:List PV}(hne:l≠ [])(hb:l.length*104<=zo):zi E 54 [.slice .plain 6 l] σ=some (.ret (.mslice σ.length 0 l.length 6),σ++[.arr 6 l]):=by
 rw[zFb (E:=E) (f:=54) (g:=sclX 6 104) rfl];exact sclX_cons _ _ _ _ hne hb
theorem pclone_nil(σ:zc):zi E 88 [.slice .plain 2 []] σ=some (.ret (.slice .plain 2 []),σ):=by
 rw[zFb (E:=E) (f:=88) (g:=sclX 2 24) rfl];exact sclX_nil ..
theorem pclone(σ:zc){l:List PV}(hne:l≠ [])(hb:l.length*24<=zo):zi E 88 [.slice .plain 2 l] σ=some (.ret (.mslice σ.length 0 l.length 2),σ++[.arr 2 l]):=by
 rw[zFb (E:=E) (f:=88) (g:=sclX 2 24) rfl];exact sclX_cons _ _ _ _ hne hb
theorem aclone_nil(σ:zc):zi E 52 [.slice .plain 2 []] σ=some (.ret (.slice .plain 2 []),σ):=by
 rw[zFb (E:=E) (f:=52) (g:=sclX 2 24) rfl];exact sclX_nil ..
theorem aclone(σ:zc){l:List PV}(hne:l≠ [])(hb:l.length*24<=zo):zi E 52 [.slice .plain 2 l] σ=some (.ret (.mslice σ.length 0 l.length 2),σ++[.arr 2 l]):=by
 rw[zFb (E:=E) (f:=52) (g:=sclX 2 24) rfl];exact sclX_cons _ _ _ _ hne hb
def kobj(c:Nat):Obj:= .arr 1 [.int .i64 ((c:Int)-1)]
def kst(σ:zc)(j c:Nat):zc:=σ.set j (kobj c)
theorem kst_get{σ:zc}{j:Nat}(h:j<σ.length)(c:Nat):(kst σ j c)[j]? =some (.arr 1 [.int .i64 ((c:Int)-1)]):=by
 unfold kst;rw[yl (by simpa using h)];rfl
theorem kst_set(σ:zc)(j c d:Nat):(kst σ j c).set j (kobj d)=kst σ j d:=by
 unfold kst;rw[List.set_set]
theorem zNa(σ:zc)(j c:Nat):(kst σ j c).length=σ.length:=by unfold kst;simp
theorem kst_append{σ:zc}{j:Nat}(h:j<σ.length)(c:Nat)(τ:zc):kst (σ++τ) j c=kst σ j c++τ:=by
 unfold kst;rw[List.set_append_left _ _ h]
theorem kst_other{σ:zc}{j r:Nat}(h:r≠j)(c d:Nat):(kst σ j c)[r]? =(kst σ j d)[r]? :=by
 unfold kst;rw[yk (Ne.symm h),yk (Ne.symm h)]
theorem sameBig_kst(σ τ:zc)(j c d:Nat):sameBig (kst σ j c++τ) (kst σ j d++τ)=true:=by
 rw[sameBig_iff];intro l;unfold bigAt;by_cases hl:l<σ.length
 ·rw[yf (by rw[zNa];exact hl),yf (by rw[zNa];exact hl)];by_cases e:l=j
  ·subst e;rw[kst_get hl,kst_get hl];rfl
  ·rw[kst_other e c d]
 ·rw[yh (by rw[zNa];omega),yh (by rw[zNa];omega),zNa,zNa]
@[simp] theorem rebuild_intN(k:IntKind)(n:Int)(v:PV):zOa (.int k n) [v]=v:=ye rfl rfl
theorem fresh_spec{σ:zc}{j:Nat}(h:j<σ.length)(c:Nat)(hc:c<=9000000000000):zi E 115 [.ptr j 0 0] (kst σ j c)=some (.ret (.str (newN c)),kst σ j (c+1)):=by
 refine zd rfl rfl rfl (by simp) ?_;have g:=kst_get h c;have g1:=kst_get h (c+1);have s1:=kst_set σ j c (c+1);have hw:zC .i64 (c:Int)=(c:Int):=by rw[zj]<;>omega
 have hd:=itoa_spec c (by omega);have hl:=digF_len 20 c;have hl1:1+(zwa c).length<=9223372036854775807:=by unfold zwa;omega
 have e1:(((c+1:Nat):Int))-1=(c:Int):=by omega
 unfold kobj at s1;rw[e1]at g1 s1;generalize kst σ j (c+1)=σ1 at*;generalize kst σ j c=σ0 at*;clear hl h e1;simp[*,F115,newN]
def strKN(es:List (PV×PV)):Prop:=∀q∈es,∃s,q.1= .str s
theorem mapSet_findN(nm:List UInt8)(u:PV):∀(es:List (PV×PV)),strKN es->∃es',zSb true (.str nm) u es=some es'/\strKN es'/\(∀n,zqc n es=true->zx n u=true->zqc n es'=true)/\∀x,zS true (.str x) es'=if nm=x then some (some u)else zS true (.str x) es
 | [],_=>⟨_,rfl,fun q h=>by simp at h;exact⟨nm,by rw[h]⟩,fun n _ h=>by simp[zqc,h],fun x=>by by_cases h:nm=x<;>simp[zS,zuc,h,eq_comm]⟩
 |(k,u0)::r,hk=>by
  obtain⟨s,hs⟩:=hk (k,u0) (by simp);simp only at hs;subst hs;by_cases hs:nm=s
  ·subst hs;refine⟨(.str nm,u)::r,by simp[zSb,zuc],?_,?_,fun x=>?_⟩
   ·intro q hq;rcases yw.1 hq with rfl|hq
    ·exact⟨nm,rfl⟩
    ·exact hk q (by simp[hq])
   ·intro n h1 h2;simp[zqc]at h1 ⊢;exact⟨h2,h1.2⟩
   ·by_cases hx:nm=x
    ·subst hx;simp[zS,zuc]
    ·have hx':¬x=nm:=fun e=>hx e.symm
     rw[if_neg hx];simp[zS,zuc,hx']
  ·obtain⟨es',e1,e2,e3,e4⟩:=mapSet_findN nm u r (fun q hq=>hk q (by simp[hq]));refine⟨(.str s,u0)::es',by simp[zSb,zuc,hs,e1],?_,?_,fun x=>?_⟩
   ·intro q hq;rcases yw.1 hq with rfl|hq
    ·exact⟨s,rfl⟩
    ·exact e2 q hq
   ·intro n h1 h2;simp[zqc]at h1 ⊢;exact⟨h1.1,e3 n h1.2 h2⟩
   ·by_cases hx:x=s
    ·subst hx;rw[if_neg hs];simp[zS,zuc]
    ·simp[zS,zuc,hx,e4]
structure MapN(es:List (PV×PV))(N:Nm):Prop where
 keys:strKN es
 flat:∀n,zqc n es=true
 find:∀x,zS true (.str x) es=some (if x∈N.map (·.1)then some (.str (zba x N))else none)
theorem MapN.nil:MapN [] []:=⟨fun q h=>by simp at h,fun n=>rfl,fun x=>rfl⟩
theorem MapN.get{es:List (PV×PV)}{N:Nm}(h:MapN es N){x:List UInt8}(hx:x∈N.map (·.1)):zS true (.str x) es=some (some (.str (zba x N))):=by
 rw[h.find,if_pos hx]
theorem MapN.set{es:List (PV×PV)}{N:Nm}(h:MapN es N)(nm v:List UInt8):∃es',zSb true (.str nm) (.str v) es=some es'/\MapN es' ((nm,v)::N):=by
 obtain⟨es',e1,e2,e3,e4⟩:=mapSet_findN nm (.str v) es h.keys;refine⟨es',e1,e2,fun n=>e3 n (h.flat n) rfl,fun x=>?_⟩;rw[e4];by_cases hx:nm=x
 ·subst hx;simp[zba]
 ·rw[if_neg hx,h.find];have hx':¬x=nm:=fun e=>hx e.symm
  have hf:zba x ((nm,v)::N)=zba x N:=by simp[zba,hx]
  rw[hf];simp only[yp,yw,hx',false_or]
def WfS(σ:zc):Prop:=∀n,σ.length<=n->zc.wf n σ=true
theorem WfS.add{σ:zc}(h:WfS σ){τ:zc}(hτ:∀n,zc.wf n τ=true):WfS (σ++τ):=by
 intro n hn;have:=h n (by simp at hn;omega);have h2:=hτ n;unfold zc.wf at*;rw[yY,this,h2];rfl
theorem WfS.count{σ:zc}(h:WfS σ)(j c:Nat):WfS (kst σ j c):=by
 intro n hn;have:=h n (by rw[zNa]at hn;exact hn);unfold zc.wf at*;rw[yq]at this ⊢;intro o ho;unfold kst at ho;rcases List.mem_or_eq_of_mem_set ho with ho|rfl
 ·exact this o ho
 ·rfl
theorem WfS.at{σ:zc}(h:WfS σ):zc.wf σ.length σ=true:=h _ (yd _)
theorem wf_mp{es:List (PV×PV)}(h:∀n,zqc n es=true)(n:Nat):zc.wf n [.mp es]=true:=by simp[zc.wf,Obj.below,h n]
theorem wf_arr{sz:Nat}{l:List PV}(h:∀n,zJ n l=true)(n:Nat):zc.wf n [.arr sz l]=true:=by simp[zc.wf,Obj.below,h n]
theorem strip_exprF:stripA ∘ zn=zn:=funext fun e=>by show stripA (zn e)=_;rw[za];simp
theorem strip_stmtF:stripA ∘ zw=zw:=funext fun e=>by show stripA (zw e)=_;rw[zb];simp
theorem mid_get{α:Type}(A R:List α)(e:α):(A++e::R)[A.length]? =some e:=by simp
theorem mid_set{α:Type}(A R:List α)(e e':α):(A++e::R).set A.length e'=A++e'::R:=by simp
mutual
def scE(A:List (List UInt8)):Expr->Prop
 |⟨k,_,_,nm,ar⟩=>(k=3->nm∈A)/\scEs A ar
def scEs(A:List (List UInt8)):List Expr->Prop
 | []=>True
 |x::r=>scE A x/\scEs A r
end
theorem scEs_mem{A:List (List UInt8)}:∀{l:List Expr},scEs A l->∀x∈l,scE A x
 | [],_,x,hx=>by simp at hx
 |y::r,h,x,hx=>by
  simp only[scEs]at h;rcases yw.1 hx with rfl|hx
  ·exact h.1
  ·exact scEs_mem h.2 x hx
theorem scE_iff{A:List (List UInt8)}(e:Expr):scE A e<->(e.kind=3->e.name∈A)/\scEs A e.args:=by
 obtain⟨k,op,n,nm,ar⟩:=e;simp[scE]
mutual
def scS:List (List UInt8)->Stmt->Prop
 |A,⟨k,_,nm,ar,th,el⟩=>scEs A ar/\(k=2->nm∈A)/\scSs (if k=1 then nm::A else A) th/\scSs (if k=1 then nm::A else A) el
def scSs:List (List UInt8)->List Stmt->Prop
 |_,[]=>True
 |A,x::r=>scS A x/\scSs (if x.kind=1 then x.name::A else A) r
end
set_option maxHeartbeats 4000000 in
theorem pexprs_spec:∀(w:Nat) (l:List Expr) (N:Nm) (es:List (PV×PV)) (σ:zc) (r:Nat),wtEs l<=w->w<1099511000000->MapN es N->scEs (N.map (·.1)) l->σ[r]? =some (.mp es)->WfS σ→
  zi E 117 [.mp r,ze l] σ=some (.ret (ze (zV N l)),σ):=by
 intro w
 induction w using yFa with
 |_ w IH=>
 intro l N es σ r h hw hM hsc hr hwf;refine zd rfl rfl rfl (by simp[ze]) ?_;have hlen:=zXb l;by_cases hl:l=[]
 ·subst hl;have hc:=eclone_nil σ;have hwa:=hwf.at;clear IH hM hsc h hw hlen hwf;simp[*,F117,ze];refine zha K117_0 B117_0 (fun _:Unit=>0) (fun _=>[(10,.int .i64 0)]) (fun _=>[]) (fun _=>σ) (fun _=>True) () ⟨by simp,by simp,by simp,trivial⟩ ?_
  rintro⟨⟩ s1-q1 q2 q3 q4 q5
  simp at q1 q3 q5;simp[*,zV,fin]
 ·have hne:l.map zn≠ []:=by simpa using hl
  have hroom:(l.map zn).length*64<=zo:=by simp only[zo,yu];omega
  have hc:=eclone σ hne hroom;have hrl:r<σ.length:=(ya.1 hr).1;simp only[yu]at hc;have hwa:=hwf.at;simp[*,F117,ze];refine zG l K117_0 B117_0 (fun d=>[(10,.int .i64 d.length)]) (fun d=>σ++[.arr 5 ((zV N d).map zn++(l.drop d.length).map zn)]) (fun d=>True) (by omega) (by simp[zV]) ?_ ?_
  ·intros d q rr s1 hl' hlt hget hget' hw1 hp h1 h2 h3 h4;simp at h1 h2 h3;have hwx:=zAb hl'.mem;have hwe:=zvd q;have hsq:=scEs_mem hsc q hl'.mem;rw[scE_iff]at hsq;have hap:zV N (d++[q])=zV N d++[renE N q]:=by rw[renEs_append];simp[zV]
   have hd1:l.drop d.length=q::rr:=by rw[hl'.eq];simp
   have hd2:l.drop (d.length+1)=rr:=by rw[<-List.drop_drop,hd1];rfl
   have hdec:decide (d.length<l.length)=true:=decide_eq_true hlt;have ih:∀e:Expr,zi E 117 [.mp r,ze q.args] (σ++[.arr 5 ((zV N d).map zn++zn e::rr.map zn)])=some (.ret (ze (zV N q.args)),σ++[.arr 5 ((zV N d).map zn++zn e::rr.map zn)]):=by
    intro e;refine IH (wtEs q.args) (by omega) q.args N es _ r (yd _) (by omega) hM hsq.2 (by rw[yf hrl];exact hr) (hwf.add (wf_arr fun n=>?_));have:(zV N d).map zn++zn e::rr.map zn=(zV N d++e::rr).map zn:=by simp
    rw[this];exact pl_expr n _
   have hr1:∀x,(σ++[x])[r]? =some (.mp es):=fun x=>by rw[yf hrl];exact hr
   have hA:((zV N d).map zn).length=d.length:=by rw[yu,zKe]
   have h4':s1.st=σ++[.arr 5 ((zV N d).map zn++zn q::rr.map zn)]:=by rw[h4];simp only[hd1,yp]
   clear h4;rw[hap,yda];simp only[yi,yC,hd2,yp,yxa,yR,List.singleton_append];generalize(zV N d).map zn=A at*;generalize rr.map zn=R at*;have hg:∀e,(A++e::R)[d.length]? =some e:=fun e=>by rw[<-hA];exact mid_get A R e
   have hs:∀e e',(A++e::R).set d.length e'=A++e'::R:=fun e e'=>by rw[<-hA];exact mid_set A R e e'
   obtain⟨k,op,n,nm,ar⟩:=q;simp only at ih hsq;by_cases hk:k=3
   ·subst hk;have hfi:=hM.get (hsq.1 rfl);have ih1:=ih ⟨3,op,n,zba nm N,ar⟩;clear IH hl' hwx hwe h2 hM hsc hsq hp ih hd1 hd2 hap hwf hget hget' h hw;simp[za,ze]at ih1;simp[*,za,renE,ze]
   ·have ih1:=ih ⟨k,op,n,nm,ar⟩;replace hk:=eqn hk;clear IH hl' hwx hwe h2 hM hsc hsq hp ih hd1 hd2 hap hwf hget hget' h hw;simp[za,ze]at ih1;simp[*,za,renE,ze]
  ·intros s1 hp h1 h2 h3 h4;simp at h1 h2 h3;clear IH hM hsc h hwf;have htk:((zV N l).map zn).take l.length=(zV N l).map zn:=yy (by rw[yu,zKe];omega);simp[*,ze,fin,frA_mslice,fr1_mslice,zKe,strip_exprF]
def bst(σ:zc)(j c:Nat)(es:List (PV×PV))(row:List PV):zc:=kst σ j c++[.mp es,.arr 6 row]
section
variable (σ:zc) (j c c':Nat) (es es':List (PV×PV)) (row row':List PV)
@[simp] theorem bst_len:(bst σ j c es row).length=σ.length+2:=by simp[bst,zNa]
@[simp high] theorem bst_mp:(bst σ j c es row)[σ.length]? =some (.mp es):=by
 unfold bst;rw[yh (by rw[zNa];exact yd _),zNa];simp
@[simp high] theorem bst_row:(bst σ j c es row)[σ.length+1]? =some (.arr 6 row):=by
 unfold bst;rw[yh (by rw[zNa];omega),zNa];simp
@[simp high] theorem bst_big:bigAt (bst σ j c es row) (σ.length+1)=some row:=by
 unfold bigAt;rw[bst_row];rfl
@[simp high] theorem bst_setmp:(bst σ j c es row).set σ.length (.mp es')=bst σ j c es' row:=by
 unfold bst;rw[yqa _ _ (by rw[zNa];exact yd _),zNa];simp
@[simp high] theorem bst_setrow:(bst σ j c es row).set (σ.length+1) (.arr 6 row')=bst σ j c es row':=by
 unfold bst;rw[yqa _ _ (by rw[zNa];omega),zNa];simp
@[simp] theorem bst_same:sameBig (bst σ j c es row) (bst σ j c' es row)=true:=sameBig_kst σ _ j c c'
theorem bst_take:(bst σ j c es row).take σ.length=kst σ j c:=by
 unfold bst;rw[List.take_append_of_le_length (by rw[zNa];exact yd _)];exact yy (by rw[zNa];exact yd _)
theorem bst_eq(h:j<σ.length):bst σ j c es row=kst (σ++[.mp es,.arr 6 row]) j c:=(kst_append h c _).symm
end
theorem bst_wf{σ:zc}(h:WfS σ){es:List (PV×PV)}{N:Nm}(hM:MapN es N)(l:List Stmt):WfS (σ++[.mp es,.arr 6 (l.map zw)]):=by
 refine h.add fun n=>?_
 have h1:=wf_mp hM.flat n;have h2:=wf_arr (sz:=6) (l:=l.map zw) (fun n=>pl_stmt n l) n;unfold zc.wf at*;simp only[yea,List.all_nil,Bool.and_true,yb]at*;exact⟨h1,h2⟩
set_option maxHeartbeats 8000000 in
theorem pblock_spec:∀(w:Nat) (l:List Stmt) (N:Nm) (c:Nat) (es:List (PV×PV)) (σ:zc) (r j:Nat),wtSs l<=w->w<=1099510000000->N.length+wtSs l<=4000000000000->c+wtSs l<=4000000000000→
  MapN es N->scSs (N.map (·.1)) l->j<σ.length->r≠j->σ[r]? =some (.mp es)->WfS σ→
  zi E 89 [.mp r,zg l,.fn 115 [] [.ptr j 0 0]] (kst σ j c)=some (.ret (zg (renB l N c).1),kst σ j (renB l N c).2.2):=by
 intro w
 induction w using yFa with
 |_ w IH=>
 intro l N c es σ r j hw hw0 hN hc hM hsc hj hrj hr hwf;refine zd rfl rfl rfl (by simp[zg]) ?_;rw[zNa];have hlen:=zra l;have hrk:∀c,(kst σ j c)[r]? =some (.mp es):=fun c=>by
  unfold kst;rw[yk (Ne.symm hrj)];exact hr
 have hmc:=mclone_spec (hrk c);have hwk:∀c,zc.wf σ.length (kst σ j c)=true:=fun c=>(hwf.count j c) _ (by rw[zNa];exact yd _)
 have htk:∀c,(kst σ j c).take σ.length=kst σ j c:=fun c=>yy (by rw[zNa];exact yd _)
 rw[zNa]at hmc;by_cases hl:l=[]
 ·subst hl;have htc:=tclone_nil (kst σ j c++[.mp es]);have hwa:=hwk c;have hta:=htk c;have hkl:=zNa σ j c;clear IH hM hsc hw hlen hwf hw0 hN hc hwk htk hr;simp[*,F89,zg];refine zha K89_0 B89_0 (fun _:Unit=>0) (fun _=>[(15,.int .i64 0)]) (fun _=>[]) (fun _=>kst σ j c++[.mp es]) (fun _=>True) () ⟨by simp,by simp,by simp,trivial⟩ ?_
  rintro⟨⟩ s1-q1 q2 q3 q4 q5
  simp at q1 q3 q5;simp[*,renB,fin]
 ·have hne:l.map zw≠ []:=by simpa using hl
  have hroom:(l.map zw).length*104<=zo:=by simp only[zo,yu];omega
  have htc:=tclone (kst σ j c++[.mp es]) hne hroom;simp only[yu,yi,zNa,yC,yR,List.singleton_append]at htc;simp[*,F89,zg];refine zha K89_0 B89_0 (fun q:List Stmt×List (PV×PV)=>l.length-q.1.length) (fun q=>[(15,.int .i64 q.1.length)]) (fun _=>[])
   (fun q=>bst σ j (renB q.1 N c).2.2 q.2 ((renB q.1 N c).1.map zw++(l.drop q.1.length).map zw))
   (fun q=>q.1.length<=l.length/\q.1=l.take q.1.length/\MapN q.2 (renB q.1 N c).2.1/\scSs ((renB q.1 N c).2.1.map (·.1)) (l.drop q.1.length)) ([],es) ⟨by simp,by simp,by simp[renB,bst],by simp,by simp,by simpa[renB]using hM,by simpa[renB]using hsc⟩ ?_
  rintro⟨d,es0⟩ s1 ⟨hdl,hdt,hM0,hs0⟩ h1 h2 h3 h2b h4
  simp only at hdl hdt hM0 hs0;simp at h1 h3;clear hmc htc hrk h2 h2b;by_cases hend:d.length=l.length
  ·have hdd:d=l:=by rw[hdt,hend,yGa]
   subst hdd;have hdec:decide (d.length<d.length)=false:=by simp
   clear IH hw hw0 hN hc hM hsc hdt hs0;simp only[List.drop_length,yxa,List.append_nil]at h4;have hol:=renB_len d N c;have htk2:((renB d N c).1.map zw).take d.length=(renB d N c).1.map zw:=yy (by rw[yu,hol];exact yd _);have hwa:=hwk (renB d N c).2.2;have hbt:=bst_take σ j (renB d N c).2.2 es0 ((renB d N c).1.map zw);simp[*,zg,fin,frA_mslice,fr1_mslice,strip_stmtF,zNa]
  ·obtain⟨x,rr,hd1⟩:∃x rr,l.drop d.length=x::rr:=by
    cases hq:l.drop d.length with
    |nil=>have:=congrArg yV hq;simp at this;omega
    |cons x rr=>exact⟨x,rr,rfl⟩
   have hlt:d.length<l.length:=by omega
   have hdec:decide (d.length<l.length)=true:=decide_eq_true hlt;have hd2:l.drop (d.length+1)=rr:=by rw[<-List.drop_drop,hd1];rfl
   have heq:l=d++x::rr:=by
    have:=List.take_append_drop d.length l;rw[hd1,<-hdt]at this;exact this.symm
   have hdt2:d++[x]=l.take (d++[x]).length:=by
    have hg0:l[d.length]? =some x:=by rw[heq];simp
    rw[yi,yC,List.take_add_one,<-hdt,hg0];rfl
   have hmem:x∈l:=by rw[heq];simp
   have hwx:=zSc hmem;have hwe:=zta x;have hbd:=zgc d N c;have hsum:wtSs l=wtSs d+(1+wtS x)+wtSs rr:=by rw[heq,zJd];simp[wtSs];omega
   have hdl2:=zra d;have hw1:zC .i64 ((d.length:Int)+1)=(d.length:Int)+1:=by rw[zj]<;>omega
   have hap:=renB_append d [x] N c;have hol:=renB_len d N c;rw[hd1]at hs0;simp only[hd1,yp]at h4;have hbd1:=fun N0 c0=>renS_bd x N0 c0
   generalize hq:renB d N c=q at*;obtain⟨out,N0,c0⟩:=q;simp only at hbd hap hol hM0 hs0 h4;have hA:(out.map zw).length=d.length:=by rw[yu];exact hol
   have hwfr:=fun(e:List (PV×PV)) (N:Nm) (h:MapN e N) (s:Stmt)=>bst_wf hwf h (out++s::rr)
   simp only[yda,yp]at hwfr;have hjl:∀τ:zc,j<(σ++τ).length:=fun τ=>by rw[yi];omega
   rw[scSs]at hs0;obtain⟨hsx,hsr⟩:=hs0;generalize hAe:out.map zw=A at*;generalize hR:rr.map zw=R at*;have hg:∀e,(A++e::R)[d.length]? =some e:=fun e=>by rw[<-hA];exact mid_get A R e
   have hs:∀e e',(A++e::R).set d.length e'=A++e'::R:=fun e e'=>by rw[<-hA];exact mid_set A R e e'
   obtain⟨k,ty,nm,ar,th,el⟩:=x;rw[scS]at hsx;obtain⟨sx1,sx2,sx3,sx4⟩:=hsx;simp only at hwe hsr;have hex:∀s:Stmt,zi E 117 [.mp σ.length,ze ar] (bst σ j c0 es0 (A++zw s::R))=some (.ret (ze (zV N0 ar)),bst σ j c0 es0 (A++zw s::R)):=by
    intro s;refine pexprs_spec (wtEs ar) ar N0 es0 _ σ.length (yd _) (by omega) hM0 sx1 (bst_mp ..) ?_;rw[bst_eq σ j c0 es0 _ hj];exact(hwfr es0 N0 hM0 s).count j c0
   have hnx:∀e row,zi E 115 [.ptr j 0 0] (bst σ j c0 e row)=some (.ret (.str (newN c0)),bst σ j (c0+1) e row):=by
    intro e row;rw[bst_eq σ j c0 e row hj,bst_eq σ j (c0+1) e row hj];exact fresh_spec (hjl _) c0 (by omega)
   have hbl:∀(y:List Stmt) (e1:List (PV×PV)) (N1:Nm) (c1:Nat) (s:Stmt),wtSs y<wtSs l->N1.length+wtSs y<=4000000000000->c1+wtSs y<=4000000000000->MapN e1 N1->scSs (N1.map (·.1)) y→
     zi E 89 [.mp σ.length,zg y,.fn 115 [] [.ptr j 0 0]] (bst σ j c1 e1 (A++zw s::R))=some (.ret (zg (renB y N1 c1).1),bst σ j (renB y N1 c1).2.2 e1 (A++zw s::R)):=by
    intro y e1 N1 c1 s k1 k2 k3 k4 k5;rw[bst_eq σ j c1 e1 _ hj,bst_eq σ j _ e1 _ hj];exact IH (wtSs y) (by omega) y N1 c1 e1 _ σ.length j (yd _) (by omega) k2 k3 k4 k5 (hjl _) (by omega) (by rw[yh (yd _)];simp) (hwfr e1 N1 k4 s)
   clear IH hwfr hjl hA hwk htk hrj hr hwf heq hmem hdt;by_cases hk:k=1
   ·subst hk;obtain⟨es1,hms,hM1⟩:=hM0.set nm (newN c0);have hfi:zS true (.str nm) es1=some (some (.str (newN c0))):=by
     have:=hM1.get (x:=nm) (by simp);rw[this];simp[zba]
    have hfn:zba nm ((nm,newN c0)::N0)=newN c0:=by simp[zba]
    have hb1:=zgc th ((nm,newN c0)::N0) (c0+1);have e0:=hex ⟨1,ty,nm,ar,th,el⟩;have e1:=hbl th es1 ((nm,newN c0)::N0) (c0+1) ⟨1,ty,newN c0,zV N0 ar,th,el⟩ (by omega) (by simp;omega) (by omega) hM1 (by simpa using sx3);have e2:=hbl el es1 ((nm,newN c0)::N0) (renB th ((nm,newN c0)::N0) (c0+1)).2.2 ⟨1,ty,newN c0,zV N0 ar,th,el⟩ (by omega) (by simp;omega) (by omega) hM1 (by simpa using sx4);have hren:renB [⟨1,ty,nm,ar,th,el⟩] N0 c0=([⟨1,ty,newN c0,zV N0 ar,(renB th ((nm,newN c0)::N0) (c0+1)).1,(renB el ((nm,newN c0)::N0) (renB th ((nm,newN c0)::N0) (c0+1)).2.2).1⟩],(nm,newN c0)::N0,(renB el ((nm,newN c0)::N0) (renB th ((nm,newN c0)::N0) (c0+1)).2.2).2.2):=by
     simp[renB,renS,zba]
    rw[hren]at hap;clear hex hbl hbd1 hfn hbd hb1 hren hw hw0 hc hN hwe hsum hdl2 hwx sx1 sx2 sx3 sx4 hM0;generalize renB th ((nm,newN c0)::N0) (c0+1)=q1 at*;obtain⟨o1,N1,c1⟩:=q1;simp only at e1 e2 hap;generalize renB el ((nm,newN c0)::N0) c1=q2 at*;obtain⟨o2,N2,c2⟩:=q2;simp only at e2 hap;simp[zb,ze,zg]at e0 e1 e2 h4;generalize newN c0=nw at*;replace hq:Nonempty (PLift (renB d N c=(out,N0,c0))):=⟨⟨hq⟩⟩
    replace hap:=PLift.up hap;replace hap:=Nonempty.intro hap;replace hdt2:=Nonempty.intro (PLift.up hdt2);replace hsr:=Nonempty.intro (PLift.up hsr);replace hAe:=Nonempty.intro (PLift.up hAe);replace hR:=Nonempty.intro (PLift.up hR);simp[*];obtain⟨⟨hap⟩⟩:=hap;obtain⟨⟨hdt2⟩⟩:=hdt2;obtain⟨⟨hsr⟩⟩:=hsr;obtain⟨⟨hAe⟩⟩:=hAe;obtain⟨⟨hR⟩⟩:=hR;refine⟨d++[⟨1,ty,nm,ar,th,el⟩],by simp;omega,by simp,es1,?_,by simp;omega,hdt2,by rw[hap];exact hM1,?_⟩
    ·rw[hap];simp[<-List.map_drop,hd2,hAe,hR,zb,ze,zg]
    ·rw[hap,yi,yC,hd2];simpa using hsr
   ·have hb1:=zgc th N0 c0;have e0:=hex ⟨k,ty,nm,ar,th,el⟩;simp only[hk,if_false]at sx3 sx4 hsr;have e1:=hbl th es0 N0 c0 ⟨k,ty,if k=2 then zba nm N0 else nm,zV N0 ar,th,el⟩ (by omega) (by omega) (by omega) hM0 sx3;have e2:=hbl el es0 N0 (renB th N0 c0).2.2 ⟨k,ty,if k=2 then zba nm N0 else nm,zV N0 ar,th,el⟩ (by omega) (by omega) (by omega) hM0 sx4;have hren:renB [⟨k,ty,nm,ar,th,el⟩] N0 c0=([⟨k,ty,if k=2 then zba nm N0 else nm,zV N0 ar,(renB th N0 c0).1,(renB el N0 (renB th N0 c0).2.2).1⟩],N0,(renB el N0 (renB th N0 c0).2.2).2.2):=by
     simp[renB,renS,hk]
    rw[hren]at hap;have hk0:=hk;by_cases hk2:k=2
    ·subst hk2;have hfi:=hM0.get (sx2 rfl);simp only[if_true]at e1 e2 hap;clear hex hbl hbd1 hbd hb1 hren hw hw0 hc hN hwe hsum hdl2 hwx sx1 sx2 sx3 sx4 hk;generalize renB th N0 c0=q1 at*;obtain⟨o1,N1,c1⟩:=q1;simp only at e1 e2 hap;generalize renB el N0 c1=q2 at*;obtain⟨o2,N2,c2⟩:=q2;simp only at e2 hap;simp[zb,ze,zg]at e0 e1 e2 h4;generalize zba nm N0=nw at*;replace hM0:=Nonempty.intro (PLift.up hM0);replace hq:Nonempty (PLift (renB d N c=(out,N0,c0))):=⟨⟨hq⟩⟩
     replace hap:=PLift.up hap;replace hap:=Nonempty.intro hap;replace hdt2:=Nonempty.intro (PLift.up hdt2);replace hsr:=Nonempty.intro (PLift.up hsr);replace hAe:=Nonempty.intro (PLift.up hAe);replace hR:=Nonempty.intro (PLift.up hR);simp[*];obtain⟨⟨hM0⟩⟩:=hM0;obtain⟨⟨hap⟩⟩:=hap;obtain⟨⟨hdt2⟩⟩:=hdt2;obtain⟨⟨hsr⟩⟩:=hsr;obtain⟨⟨hAe⟩⟩:=hAe;obtain⟨⟨hR⟩⟩:=hR;refine⟨d++[⟨2,ty,nm,ar,th,el⟩],by simp;omega,by simp,es0,?_,by simp;omega,hdt2,by rw[hap];exact hM0,?_⟩
     ·rw[hap];simp[<-List.map_drop,hd2,hAe,hR,zb,ze,zg]
     ·rw[hap,yi,yC,hd2];simpa using hsr
    ·simp only[hk2,if_false]at e1 e2 hap;replace hk:=eqn hk;replace hk2:=eqn hk2;clear hex hbl hbd1 hbd hb1 hren hw hw0 hc hN hwe hsum hdl2 hwx sx1 sx2 sx3 sx4 hnx hk0;generalize renB th N0 c0=q1 at*;obtain⟨o1,N1,c1⟩:=q1;simp only at e1 e2 hap;generalize renB el N0 c1=q2 at*;obtain⟨o2,N2,c2⟩:=q2;simp only at e2 hap;simp[zb,ze,zg]at e0 e1 e2 h4;replace hM0:=Nonempty.intro (PLift.up hM0);replace hq:Nonempty (PLift (renB d N c=(out,N0,c0))):=⟨⟨hq⟩⟩
     replace hap:=PLift.up hap;replace hap:=Nonempty.intro hap;replace hdt2:=Nonempty.intro (PLift.up hdt2);replace hsr:=Nonempty.intro (PLift.up hsr);replace hAe:=Nonempty.intro (PLift.up hAe);replace hR:=Nonempty.intro (PLift.up hR);simp[*];obtain⟨⟨hM0⟩⟩:=hM0;obtain⟨⟨hap⟩⟩:=hap;obtain⟨⟨hdt2⟩⟩:=hdt2;obtain⟨⟨hsr⟩⟩:=hsr;obtain⟨⟨hAe⟩⟩:=hAe;obtain⟨⟨hR⟩⟩:=hR;refine⟨d++[⟨k,ty,nm,ar,th,el⟩],by simp;omega,by simp,es0,?_,by simp;omega,hdt2,by rw[hap];exact hM0,?_⟩
     ·rw[hap];simp[<-List.map_drop,hd2,hAe,hR,zb,ze,zg]
     ·rw[hap,yi,yC,hd2];simpa using hsr
def idx{α:Type}(p:α->Bool)(l:List α):Int:=match l.findIdx? p with
 |some i=>(i:Int)
 |none=> -1
theorem idx_hit{α:Type}{p:α->Bool}{l d:List α}{x:α}{r:List α}(h:Split l d x r)(hd:∀y∈d,p y=false)(hx:p x=true):idx p l=d.length:=by
 have:l.findIdx? p=some d.length:=by
  rw[h.eq,List.findIdx?_append];have:d.findIdx? p=none:=by rw[yfb];exact hd
  rw[this];simp[List.findIdx?_cons,hx]
 simp[idx,this]
theorem zue{α:Type}{p:α->Bool}{l:List α}(hd:∀y∈l,p y=false):idx p l= -1:=by
 have:l.findIdx? p=none:=by rw[yfb];exact hd
 simp[idx,this]
theorem idx_ge{α:Type}(p:α->Bool)(l:List α):decide (0<=idx p l)=l.any p:=by
 unfold idx;cases h:l.findIdx? p with
 |none=>
  rw[yfb]at h;simp;exact h
 |some i=>
  have:(l.findIdx? p).isSome=true:=by rw[h];rfl
  rw[List.findIdx?_isSome]at this;simp[this]
theorem indexFuncFunc(l:List (Func))(p:Func->Bool)(k:Nat)(first caps:List PV)(σ:zc)(hl:l.length<1099511627776)(hf:∀x∈l,zi E k (first++[zl x]++caps) σ=some (.ret (.bool (p x)),σ)):
  zi E 134 [.slice .plain 4 (l.map (zl)),.fn k first caps] σ=some (.ret (.int .i64 (idx p l)),σ):=by
 refine zd rfl rfl rfl (by simp) ?_;simp[F134];refine zG l K134_0 B134_0 (fun d=>[(8,.int .i64 d.length)]) (fun _=>σ) (fun d=>∀y∈d,p y=false) (by omega) (by simp) ?_ ?_
 ·intros d x r s hl' hlt hget hget' hw hp h1 h2 h3 h4;have hfx:=hf x hl'.mem;simp[zl]at h1 h3 hfx;clear h2 hf;cases hx:p x
  ·(simp[*,zl])<;>(repeat' ((first|refine sP _ ?_ ?_|refine gP _ ?_ ?_|refine sN _ ?_ ?_|refine gN _ ?_ ?_|refine sM _ ?_ ?_|refine gM _ ?_ ?_|refine sB _ ?_ ?_|refine gB _ ?_ ?_)<;>intro hc<;>simp[*,zl]))
   all_goals grind
  ·have:=idx_hit hl' hp hx
   (simp[*,zl])<;>(repeat' ((first|refine sP _ ?_ ?_|refine gP _ ?_ ?_|refine sN _ ?_ ?_|refine gN _ ?_ ?_|refine sM _ ?_ ?_|refine gM _ ?_ ?_|refine sB _ ?_ ?_|refine gB _ ?_ ?_)<;>intro hc<;>simp[*,zl]))
 ·intros s hp h1 h2 h3 h4;have:=zue hp;simp at h1 h3
  (simp[*,zl])<;>(repeat' ((first|refine sP _ ?_ ?_|refine gP _ ?_ ?_|refine sN _ ?_ ?_|refine gN _ ?_ ?_|refine sM _ ?_ ?_|refine gM _ ?_ ?_|refine sB _ ?_ ?_|refine gB _ ?_ ?_)<;>intro hc<;>simp[*,zl]))
theorem containsFuncFunc(l:List (Func))(p:Func->Bool)(k:Nat)(first caps:List PV)(σ:zc)(hl:l.length<1099511627776)(hc:(first.map stripA)=first/\(caps.map stripA)=caps)(hf:∀x∈l,zi E k (first++[zl x]++caps) σ=some (.ret (.bool (p x)),σ)):
  zi E 106 [.slice .plain 4 (l.map (zl)),.fn k first caps] σ=some (.ret (.bool (l.any p)),σ):=by
 refine zd rfl rfl rfl (by simp) ?_;have h:=indexFuncFunc l p k first caps σ hl hf;have h2:=idx_ge p l;clear hf
 (simp[*,F106])<;>(repeat' ((first|refine sP _ ?_ ?_|refine gP _ ?_ ?_|refine sN _ ?_ ?_|refine gN _ ?_ ?_|refine sM _ ?_ ?_|refine gM _ ?_ ?_|refine sB _ ?_ ?_|refine gB _ ?_ ?_)<;>intro hc<;>simp[*,F106]))
theorem indexFuncPArr(l:List (PArr))(p:PArr->Bool)(k:Nat)(first caps:List PV)(σ:zc)(hl:l.length<1099511627776)(hf:∀x∈l,zi E k (first++[zK x]++caps) σ=some (.ret (.bool (p x)),σ)):
  zi E 133 [.slice .plain 2 (l.map (zK)),.fn k first caps] σ=some (.ret (.int .i64 (idx p l)),σ):=by
 refine zd rfl rfl rfl (by simp) ?_;simp[F133];refine zG l K133_0 B133_0 (fun d=>[(8,.int .i64 d.length)]) (fun _=>σ) (fun d=>∀y∈d,p y=false) (by omega) (by simp) ?_ ?_
 ·intros d x r s hl' hlt hget hget' hw hp h1 h2 h3 h4;have hfx:=hf x hl'.mem;simp[zK]at h1 h3 hfx;clear h2 hf;cases hx:p x
  ·(simp[*,zK])<;>(repeat' ((first|refine sP _ ?_ ?_|refine gP _ ?_ ?_|refine sN _ ?_ ?_|refine gN _ ?_ ?_|refine sM _ ?_ ?_|refine gM _ ?_ ?_|refine sB _ ?_ ?_|refine gB _ ?_ ?_)<;>intro hc<;>simp[*,zK]))
   all_goals grind
  ·have:=idx_hit hl' hp hx
   (simp[*,zK])<;>(repeat' ((first|refine sP _ ?_ ?_|refine gP _ ?_ ?_|refine sN _ ?_ ?_|refine gN _ ?_ ?_|refine sM _ ?_ ?_|refine gM _ ?_ ?_|refine sB _ ?_ ?_|refine gB _ ?_ ?_)<;>intro hc<;>simp[*,zK]))
 ·intros s hp h1 h2 h3 h4;have:=zue hp;simp at h1 h3
  (simp[*,zK])<;>(repeat' ((first|refine sP _ ?_ ?_|refine gP _ ?_ ?_|refine sN _ ?_ ?_|refine gN _ ?_ ?_|refine sM _ ?_ ?_|refine gM _ ?_ ?_|refine sB _ ?_ ?_|refine gB _ ?_ ?_)<;>intro hc<;>simp[*,zK]))
theorem containsFuncPArr(l:List (PArr))(p:PArr->Bool)(k:Nat)(first caps:List PV)(σ:zc)(hl:l.length<1099511627776)(hc:(first.map stripA)=first/\(caps.map stripA)=caps)(hf:∀x∈l,zi E k (first++[zK x]++caps) σ=some (.ret (.bool (p x)),σ)):
  zi E 105 [.slice .plain 2 (l.map (zK)),.fn k first caps] σ=some (.ret (.bool (l.any p)),σ):=by
 refine zd rfl rfl rfl (by simp) ?_;have h:=indexFuncPArr l p k first caps σ hl hf;have h2:=idx_ge p l;clear hf
 (simp[*,F105])<;>(repeat' ((first|refine sP _ ?_ ?_|refine gP _ ?_ ?_|refine sN _ ?_ ?_|refine gN _ ?_ ?_|refine sM _ ?_ ?_|refine gM _ ?_ ?_|refine sB _ ?_ ?_|refine gB _ ?_ ?_)<;>intro hc<;>simp[*,F105]))
theorem indexFuncExpr(l:List (Expr))(p:Expr->Bool)(k:Nat)(first caps:List PV)(σ:zc)(hl:l.length<1099511627776)(hf:∀x∈l,zi E k (first++[zn x]++caps) σ=some (.ret (.bool (p x)),σ)):
  zi E 198 [.slice .plain 5 (l.map (zn)),.fn k first caps] σ=some (.ret (.int .i64 (idx p l)),σ):=by
 refine zd rfl rfl rfl (by simp) ?_;simp[F198];refine zG l K198_0 B198_0 (fun d=>[(8,.int .i64 d.length)]) (fun _=>σ) (fun d=>∀y∈d,p y=false) (by omega) (by simp) ?_ ?_
 ·intros d x r s hl' hlt hget hget' hw hp h1 h2 h3 h4;have hfx:=hf x hl'.mem;simp[za]at h1 h3 hfx;clear h2 hf;cases hx:p x
  ·(simp[*,za])<;>(repeat' ((first|refine sP _ ?_ ?_|refine gP _ ?_ ?_|refine sN _ ?_ ?_|refine gN _ ?_ ?_|refine sM _ ?_ ?_|refine gM _ ?_ ?_|refine sB _ ?_ ?_|refine gB _ ?_ ?_)<;>intro hc<;>simp[*,za]))
   all_goals grind
  ·have:=idx_hit hl' hp hx
   (simp[*,za])<;>(repeat' ((first|refine sP _ ?_ ?_|refine gP _ ?_ ?_|refine sN _ ?_ ?_|refine gN _ ?_ ?_|refine sM _ ?_ ?_|refine gM _ ?_ ?_|refine sB _ ?_ ?_|refine gB _ ?_ ?_)<;>intro hc<;>simp[*,za]))
 ·intros s hp h1 h2 h3 h4;have:=zue hp;simp at h1 h3
  (simp[*,za])<;>(repeat' ((first|refine sP _ ?_ ?_|refine gP _ ?_ ?_|refine sN _ ?_ ?_|refine gN _ ?_ ?_|refine sM _ ?_ ?_|refine gM _ ?_ ?_|refine sB _ ?_ ?_|refine gB _ ?_ ?_)<;>intro hc<;>simp[*,za]))
theorem containsFuncExpr(l:List (Expr))(p:Expr->Bool)(k:Nat)(first caps:List PV)(σ:zc)(hl:l.length<1099511627776)(hc:(first.map stripA)=first/\(caps.map stripA)=caps)(hf:∀x∈l,zi E k (first++[zn x]++caps) σ=some (.ret (.bool (p x)),σ)):
  zi E 185 [.slice .plain 5 (l.map (zn)),.fn k first caps] σ=some (.ret (.bool (l.any p)),σ):=by
 refine zd rfl rfl rfl (by simp) ?_;have h:=indexFuncExpr l p k first caps σ hl hf;have h2:=idx_ge p l;clear hf
 (simp[*,F185])<;>(repeat' ((first|refine sP _ ?_ ?_|refine gP _ ?_ ?_|refine sN _ ?_ ?_|refine gN _ ?_ ?_|refine sM _ ?_ ?_|refine gM _ ?_ ?_|refine sB _ ?_ ?_|refine gB _ ?_ ?_)<;>intro hc<;>simp[*,F185]))
theorem indexFuncStmt(l:List (Stmt))(p:Stmt->Bool)(k:Nat)(first caps:List PV)(σ:zc)(hl:l.length<1099511627776)(hf:∀x∈l,zi E k (first++[zw x]++caps) σ=some (.ret (.bool (p x)),σ)):
  zi E 144 [.slice .plain 6 (l.map (zw)),.fn k first caps] σ=some (.ret (.int .i64 (idx p l)),σ):=by
 refine zd rfl rfl rfl (by simp) ?_;simp[F144];refine zG l K144_0 B144_0 (fun d=>[(8,.int .i64 d.length)]) (fun _=>σ) (fun d=>∀y∈d,p y=false) (by omega) (by simp) ?_ ?_
 ·intros d x r s hl' hlt hget hget' hw hp h1 h2 h3 h4;have hfx:=hf x hl'.mem;simp[zb]at h1 h3 hfx;clear h2 hf;cases hx:p x
  ·(simp[*,zb])<;>(repeat' ((first|refine sP _ ?_ ?_|refine gP _ ?_ ?_|refine sN _ ?_ ?_|refine gN _ ?_ ?_|refine sM _ ?_ ?_|refine gM _ ?_ ?_|refine sB _ ?_ ?_|refine gB _ ?_ ?_)<;>intro hc<;>simp[*,zb]))
   all_goals grind
  ·have:=idx_hit hl' hp hx
   (simp[*,zb])<;>(repeat' ((first|refine sP _ ?_ ?_|refine gP _ ?_ ?_|refine sN _ ?_ ?_|refine gN _ ?_ ?_|refine sM _ ?_ ?_|refine gM _ ?_ ?_|refine sB _ ?_ ?_|refine gB _ ?_ ?_)<;>intro hc<;>simp[*,zb]))
 ·intros s hp h1 h2 h3 h4;have:=zue hp;simp at h1 h3
  (simp[*,zb])<;>(repeat' ((first|refine sP _ ?_ ?_|refine gP _ ?_ ?_|refine sN _ ?_ ?_|refine gN _ ?_ ?_|refine sM _ ?_ ?_|refine gM _ ?_ ?_|refine sB _ ?_ ?_|refine gB _ ?_ ?_)<;>intro hc<;>simp[*,zb]))
theorem zZa(l:List (Stmt))(p:Stmt->Bool)(k:Nat)(first caps:List PV)(σ:zc)(hl:l.length<1099511627776)(hc:(first.map stripA)=first/\(caps.map stripA)=caps)(hf:∀x∈l,zi E k (first++[zw x]++caps) σ=some (.ret (.bool (p x)),σ)):
  zi E 112 [.slice .plain 6 (l.map (zw)),.fn k first caps] σ=some (.ret (.bool (l.any p)),σ):=by
 refine zd rfl rfl rfl (by simp) ?_;have h:=indexFuncStmt l p k first caps σ hl hf;have h2:=idx_ge p l;clear hf
 (simp[*,F112])<;>(repeat' ((first|refine sP _ ?_ ?_|refine gP _ ?_ ?_|refine sN _ ?_ ?_|refine gN _ ?_ ?_|refine sM _ ?_ ?_|refine gM _ ?_ ?_|refine sB _ ?_ ?_|refine gB _ ?_ ?_)<;>intro hc<;>simp[*,F112]))
theorem indexFuncPar(l:List (Par))(p:Par->Bool)(k:Nat)(first caps:List PV)(σ:zc)(hl:l.length<1099511627776)(hf:∀x∈l,zi E k (first++[encPar x]++caps) σ=some (.ret (.bool (p x)),σ)):
  zi E 164 [.slice .plain 2 (l.map (encPar)),.fn k first caps] σ=some (.ret (.int .i64 (idx p l)),σ):=by
 refine zd rfl rfl rfl (by simp) ?_;simp[F164];refine zG l K164_0 B164_0 (fun d=>[(8,.int .i64 d.length)]) (fun _=>σ) (fun d=>∀y∈d,p y=false) (by omega) (by simp) ?_ ?_
 ·intros d x r s hl' hlt hget hget' hw hp h1 h2 h3 h4;have hfx:=hf x hl'.mem;simp[encPar]at h1 h3 hfx;clear h2 hf;cases hx:p x
  ·(simp[*,encPar])<;>(repeat' ((first|refine sP _ ?_ ?_|refine gP _ ?_ ?_|refine sN _ ?_ ?_|refine gN _ ?_ ?_|refine sM _ ?_ ?_|refine gM _ ?_ ?_|refine sB _ ?_ ?_|refine gB _ ?_ ?_)<;>intro hc<;>simp[*,encPar]))
   all_goals grind
  ·have:=idx_hit hl' hp hx
   (simp[*,encPar])<;>(repeat' ((first|refine sP _ ?_ ?_|refine gP _ ?_ ?_|refine sN _ ?_ ?_|refine gN _ ?_ ?_|refine sM _ ?_ ?_|refine gM _ ?_ ?_|refine sB _ ?_ ?_|refine gB _ ?_ ?_)<;>intro hc<;>simp[*,encPar]))
 ·intros s hp h1 h2 h3 h4;have:=zue hp;simp at h1 h3
  (simp[*,encPar])<;>(repeat' ((first|refine sP _ ?_ ?_|refine gP _ ?_ ?_|refine sN _ ?_ ?_|refine gN _ ?_ ?_|refine sM _ ?_ ?_|refine gM _ ?_ ?_|refine sB _ ?_ ?_|refine gB _ ?_ ?_)<;>intro hc<;>simp[*,encPar]))
theorem containsFuncPar(l:List (Par))(p:Par->Bool)(k:Nat)(first caps:List PV)(σ:zc)(hl:l.length<1099511627776)(hc:(first.map stripA)=first/\(caps.map stripA)=caps)(hf:∀x∈l,zi E k (first++[encPar x]++caps) σ=some (.ret (.bool (p x)),σ)):
  zi E 137 [.slice .plain 2 (l.map (encPar)),.fn k first caps] σ=some (.ret (.bool (l.any p)),σ):=by
 refine zd rfl rfl rfl (by simp) ?_;have h:=indexFuncPar l p k first caps σ hl hf;have h2:=idx_ge p l;clear hf
 (simp[*,F137])<;>(repeat' ((first|refine sP _ ?_ ?_|refine gP _ ?_ ?_|refine sN _ ?_ ?_|refine gN _ ?_ ?_|refine sM _ ?_ ?_|refine gM _ ?_ ?_|refine sB _ ?_ ?_|refine gB _ ?_ ?_)<;>intro hc<;>simp[*,F137]))
def signList:List (List UInt8):=[[],[43],[45],[42],[47],[37],[38],[124],[94],[60,60],[62,62],[62,62,62],[60],[60,61],[62],[62,61],[61,61],[33,61],[38,38],[124,124],[45],[126],[33],[105,56],[105,49,54],[105,51,50],[117,56],[117,49,54],[117,51,50]]
def zUd:List Int:=[0,9,9,10,10,10,5,3,4,8,8,8,7,7,7,7,6,6,2,1,0,0,0,0,0,0,0,0,0]
def sgn(op:Int):List UInt8:=if op<0 then[]else(signList[op.toNat]?).getD []
def lvl(op:Int):Int:=if op<0 then 0 else(zUd[op.toNat]?).getD 0
theorem rowCells:∀n:Nat,n<29->List.take 2 (List.drop (n*2) [.str [],.int .i64 0,.str [43],.int .i64 9,.str [45],.int .i64 9,.str [42],.int .i64 10,.str [47],.int .i64 10,.str [37],.int .i64 10,.str [38],.int .i64 5,.str [124],.int .i64 3,.str [94],.int .i64 4,.str [60,60],.int .i64 8,.str [62,62],.int .i64 8,.str [62,62,62],.int .i64 8,.str [60],.int .i64 7,.str [60,61],.int .i64 7,.str [62],.int .i64 7,.str [62,61],.int .i64 7,.str [61,61],.int .i64 6,.str [33,61],.int .i64 6,.str [38,38],.int .i64 2,.str [124,124],.int .i64 1,.str [45],.int .i64 0,.str [126],.int .i64 0,.str [33],.int .i64 0,.str [105,56],.int .i64 0,.str [105,49,54],.int .i64 0,.str [105,51,50],.int .i64 0,.str [117,56],.int .i64 0,.str [117,49,54],.int .i64 0,.str [117,51,50],.int .i64 0])=[PV.str ((signList[n]?).getD []),PV.int .i64 ((zUd[n]?).getD 0)]
 |0,_=>rfl
 |1,_=>rfl
 |2,_=>rfl
 |3,_=>rfl
 |4,_=>rfl
 |5,_=>rfl
 |6,_=>rfl
 |7,_=>rfl
 |8,_=>rfl
 |9,_=>rfl
 |10,_=>rfl
 |11,_=>rfl
 |12,_=>rfl
 |13,_=>rfl
 |14,_=>rfl
 |15,_=>rfl
 |16,_=>rfl
 |17,_=>rfl
 |18,_=>rfl
 |19,_=>rfl
 |20,_=>rfl
 |21,_=>rfl
 |22,_=>rfl
 |23,_=>rfl
 |24,_=>rfl
 |25,_=>rfl
 |26,_=>rfl
 |27,_=>rfl
 |28,_=>rfl
 |n+29,h=>by omega
set_option maxHeartbeats 4000000 in
theorem rowOf_spec(op:Int)(σ:zc):zi E 204 [.int .i64 op] σ=some (.ret (.agg [.str (sgn op),.int .i64 (lvl op)]),σ):=by
 refine zd rfl rfl rfl (by simp) ?_;by_cases h0:op<0
 ·simp[F204,h0,sgn,lvl]
 by_cases h1:29<=op
 ·have:29<=op.toNat:=by omega
  simp[F204,h0,h1,sgn,lvl,signList,zUd,yP,this]
 have h2:op.toNat<29:=by omega
 have h3:0<=op:=by omega
 have h4:op.toNat*2<=56:=by omega
 have e1:sgn op=((signList[op.toNat]?).getD []):=by simp[sgn,h0]
 have e2:lvl op=((zUd[op.toNat]?).getD 0):=by simp[lvl,h0]
 rw[e1,e2];have e3:=rowCells op.toNat h2;generalize((signList[op.toNat]?).getD [])=s at*;generalize((zUd[op.toNat]?).getD 0)=l at*;simp[F204,h0,h1,h2,h3,h4,e3]
theorem level_spec(op:Int)(σ:zc):zi E 203 [.int .i64 op] σ=some (.ret (.int .i64 (lvl op)),σ):=by
 refine zd rfl rfl rfl (by simp) ?_
 (simp[*,F203,rowOf_spec])<;>(repeat' ((first|refine sP _ ?_ ?_|refine gP _ ?_ ?_|refine sN _ ?_ ?_|refine gN _ ?_ ?_|refine sM _ ?_ ?_|refine gM _ ?_ ?_|refine sB _ ?_ ?_|refine gB _ ?_ ?_)<;>intro hc<;>simp[*,F203,rowOf_spec]))
theorem lvl_eq(op:Int):lvl op=zMe op:=by
 unfold lvl zMe;by_cases h0:op<0
 ·rw[if_pos h0]
  repeat(rw[if_neg (by omega)])
 ·rw[if_neg h0];by_cases h1:29<=op
  ·have:29<=op.toNat:=by omega
   rw[yP (by simpa[zUd]using this)]
   repeat(rw[if_neg (by omega)])
   rfl
  ·obtain⟨n,rfl⟩:∃n:Nat,op=n:=⟨op.toNat,by omega⟩
   have hn:n<29:=by omega
   have key:∀n:Nat,n<29->(zUd[((n:Int)).toNat]?).getD 0=zMe (n:Int):=by decide
   have:=key n hn;unfold zMe at this;exact this
def zN(k:Int):Bool×Bool×Int×Bool×Bool:=
 if k=1 then(true,true,1,false,false)
 else if k=2 then(false,true,1,false,false)
 else if k=3 then(false,true,2,false,false)
 else if k=4 then(false,false,1,true,true)
 else if k=5 then(false,false,1,true,false)
 else if k=6\/k=7 then(false,false,0,false,false)
 else if k=8\/k=9\/k=10 then(false,false,1,false,false)
 else(false,false,-1,false,false)
theorem shape_spec(k:Int):zi E 96 [.int .i64 k] []=some (.ret (.tup [.bool (zN k).1,.bool (zN k).2.1,.int .i64 (zN k).2.2.1,.bool (zN k).2.2.2.1,.bool (zN k).2.2.2.2]),[]):=by
 refine zd rfl rfl rfl (by simp) ?_;unfold zN
 (simp[*,F96])<;>(repeat' ((first|refine sP _ ?_ ?_|refine gP _ ?_ ?_|refine sN _ ?_ ?_|refine gN _ ?_ ?_|refine sM _ ?_ ?_|refine gM _ ?_ ?_|refine sB _ ?_ ?_|refine gB _ ?_ ?_)<;>intro hc<;>simp[*,F96]))
def headR(s:Stmt)(m:Int):Bool:=
 !(decide (m<1)||(decide (¬(s.args.length:Int)=(zN s.kind).2.2.1)||((zN s.kind).1 !=(decide (s.type=1)||decide (s.type=2))||((!(zN s.kind).1&&decide (¬s.type=0))||((zN s.kind).2.1 !=zGb s.name||(!(zN s.kind).2.1&&decide (¬s.name=[])))))))
def zFe(l:List Expr):Bool:=l.all fun e=>zjb e 100
def doR(k:Int)(l:List Expr):Bool:= !(decide (k=10)&&(match l with| []=>false|e::_=>decide (¬e.kind=7)))
mutual
def zPb:Stmt->Int->Bool
 |⟨k,t,s,a,th,el⟩,m=>headR ⟨k,t,s,a,th,el⟩ m&&(zFe a&&(doR k a&&((((zN k).2.2.2.1||th.isEmpty)&&((zN k).2.2.2.2||el.isEmpty))&&(zQ th (m-1)&&zQ el (m-1)))))
def zQ:List Stmt->Int->Bool
 | [],_=>true
 |x::r,m=>zPb x m&&zQ r m
end
theorem stmtR_eq(s:Stmt)(m:Int):zPb s m=(headR s m&&(zFe s.args&&(doR s.kind s.args&&((((zN s.kind).2.2.2.1||s.thn.isEmpty)&&((zN s.kind).2.2.2.2||s.els.isEmpty))&&(zQ s.thn (m-1)&&zQ s.els (m-1)))))):=by cases s;rw[zPb]
theorem stmtsR_append(a b:List Stmt)(m:Int):zQ (a++b) m=(zQ a m&&zQ b m):=by
 induction a with
 |nil=>simp[zQ]
 |cons x r ih=>simp[zQ,ih,Bool.and_assoc]
theorem rtype_spec(t:Int):zi E 69 [.int .i64 t] []=some (.ret (.bool (decide (t=1)||decide (t=2))),[]):=by
 refine zd rfl rfl rfl (by simp) ?_
 (simp[*,F69])<;>(repeat' ((first|refine sP _ ?_ ?_|refine gP _ ?_ ?_|refine sN _ ?_ ?_|refine gN _ ?_ ?_|refine sM _ ?_ ?_|refine gM _ ?_ ?_|refine sB _ ?_ ?_|refine gB _ ?_ ?_)<;>intro hc<;>simp[*,F69]))
set_option maxHeartbeats 8000000 in
theorem stmtsR_spec':∀w (l:List Stmt) (m:Int),wtSs l<=w->w<1099509000000->m<=1000000->zi E 70 [zg l,.int .i64 m] []=some (.ret (.bool (zQ l m)),[]):=by
 intro w
 induction w with
 |zero=>
  intro l m h hw hm;have:l=[]:=by
   cases l with
   |nil=>rfl
   |cons x r=>simp[wtSs]at h
  subst this;refine zd rfl rfl rfl (by simp) ?_;simp[F70,zg,zQ];refine zG ([]:List Stmt) K70_1 B70_1 (fun d=>[(5,.int .i64 d.length)]) (fun _=>[]) (fun _=>True) (by simp) (by simp) ?_ ?_
  ·intros d x r s1 hl' hlt;simp at hlt
  ·intros s1 hp h1 h2 h3 h4;simp at h1 h3;clear h2;simp[*]
 |succ w ih=>
  intro l m h hw hm;refine zd rfl rfl rfl (by simp) ?_;have hlen:=zra l;simp[F70,zg];refine zG l K70_1 B70_1 (fun d=>[(5,.int .i64 d.length)]) (fun _=>[]) (fun d=>zQ d m=true) (by omega) (by simp[zQ]) ?_ ?_
  ·intros d x r s1 hl' hlt hget hget' hw1 hp h1 h2 h3 h4;simp at h1 h3;clear h2;have hwx:=zSc hl'.mem;have hwe:=zta x;have hf:zPb x m=false->zQ l m=false:=fun hx=>by
    rw[hl'.eq,stmtsR_append];simp[zQ,hx]
   have hnx:zPb x m=true->zQ (d++[x]) m=true:=fun hx=>by
    rw[stmtsR_append,hp];simp[zQ,hx]
   clear hl' hp;have e1:=shape_spec x.kind;have e2:=zGd x.name [];have hlw:=zXb x.args;cases hh:headR x m
   ·
    replace hf:=hf (by rw[stmtR_eq,hh];rfl);clear hnx;simp only[headR,Bool.not_eq_false',yS,decide_eq_true_eq,yb,yH,bne_iff_ne]at hh;generalize zN x.kind=sh at*;obtain⟨t,nm,n,th,ot⟩:=sh;simp only at hh e1;have hh2:=hh;clear hh;cases hnn:zGb x.name<;>rw[hnn]at e2 hh2<;>cases t<;>cases nm<;>
    ·simp at e1 hh2
     (simp[*,zb,ze,zg])<;>(repeat' (first|((first|refine sP _ ?_ ?_|refine gP _ ?_ ?_|refine sN _ ?_ ?_|refine gN _ ?_ ?_)<;>intro hc<;>(first|replace hc:=eqn hc|replace hc:=eqp hc)<;>simp[*,zb,ze,zg])|((first|refine sM _ ?_ ?_|refine gM _ ?_ ?_|refine sB _ ?_ ?_|refine gB _ ?_ ?_)<;>intro hc<;>simp[*,zb,ze,zg])))
     all_goals(exfalso;grind)
   ·
    have hs:=stmtR_eq x m;rw[hh,yka]at hs;simp only[headR,yH,Bool.not_eq_false',yna,decide_eq_false_iff_not,Bool.and_eq_false_iff,bne_eq_false_iff_eq,Decidable.not_not,Bool.not_eq_true]at hh;generalize hsh:zN x.kind=sh at*;obtain⟨t,nm,n,th,ot⟩:=sh;simp only at hh hs e1;obtain⟨a1,a2,a3,a4,a5,a6⟩:=hh;subst a2;rw[<-a5]at e2;have hm1:zC .i64 (m-1)=m-1:=zj (by omega) (by omega);rcases(show(t=true/\x.type=1)\/(t=true/\x.type=2)\/(t=false/\x.type=0) by
     cases t
     ·right;right;exact⟨rfl,by simpa using a4⟩
     ·have:=a3.symm;simp only[yS,decide_eq_true_eq]at this;rcases this with h|h
      ·exact yTa ⟨rfl,h⟩
      ·exact yZa (yTa ⟨rfl,h⟩))with⟨rfl,ht⟩|⟨rfl,ht⟩|⟨rfl,ht⟩
    all_goals
     clear a3 a4 a5;cases nm
     ·replace a6:x.name=[]:=by simpa using a6
      rw[a6]at e2;simp[*,zb,ze,zg];have hlt0:x.args.length<2^62:=by omega
      refine zG x.args K70_0 B70_0 (fun d=>[(12,.int .i64 d.length)]) (fun _=>[]) (fun d=>zFe d=true) hlt0 (by simp[zFe]) ?_ ?_
      ·intros d2 y r2 s2 hl2 hlt2 hget2 hget2' hw2 hp2 g1 g2 g3 g4;simp at g1 g2 g3;have hwy:=zAb hl2.mem;have ey:=exprR_spec y 100 (by omega) (by omega);rw[za]at ey;simp[ze]at ey;have hlt2':(d2.length:Int)<x.args.length:=by omega
       cases hy:zjb y 100
       ·have ha:zFe x.args=false:=by
         rw[hl2.eq];simp[zFe,hy]
        replace hf:=hf (by rw[hs,ha];rfl);rw[hy]at ey;clear hnx hs hp2 hl2 e1 e2 ht;simp[*,za,ze]
       ·have ha:zFe (d2++[y])=true:=by
         simp only[zFe]at hp2 ⊢;rw[yY,hp2];simp[hy]
        rw[hy]at ey;clear hnx hs hf hp2 hl2 e1 e2 ht;simp[*,za,ze]
      ·intros s2 hp2 g1 g2 g3 g4;simp at g1 g2 g3;rw[hp2,yka]at hs;have i1:=ih x.thn (m-1) (by omega) (by omega) (by omega);have i2:=ih x.els (m-1) (by omega) (by omega) (by omega);simp[zg]at i1 i2;have k1:(x.kind=10/\∃e,x.args=[e])\/¬x.kind=10:=by
        by_cases hk:x.kind=10
        ·refine yTa ⟨hk,?_⟩;have hn1:(x.args.length:Int)=1:=by
          have:=congrArg (fun p=>p.2.2.1) hsh;rw[hk]at this;exact this.symm
         have:x.args.length=1:=by omega
         exact yF.1 this
        ·exact yZa hk
       clear hp2 hsh;clear e1 e2 a6;rcases k1 with⟨hk,e,hae⟩|hk
       ·have hdo:doR x.kind x.args=decide (e.kind=7):=by
         rw[hk,hae];simp[doR]
        rw[hdo]at hs;by_cases h7:e.kind=7
        ·have hd7:decide (e.kind=7)=true:=decide_eq_true h7;rw[hd7,yka]at hs;replace hk:=eqp hk;replace h7:=eqp h7;clear hdo hd7 ht a1;have e3:(x.thn.isEmpty=true<->x.thn.length=0):=by cases x.thn<;>simp
         have e4:(x.els.isEmpty=true<->x.els.length=0):=by cases x.els<;>simp
         have tree:zPb x m=true\/zPb x m=false:=by cases zPb x m<;>simp
         by_cases b1:th=false/\0<x.thn.length
         ·have hb:(th||x.thn.isEmpty)=false:=by
           rw[b1.1,yQ];cases hx:x.thn.isEmpty
           ·rfl
           ·have:=e3.1 hx;omega
          rw[hb]at hs;replace hf:=hf (by rw[hs];rfl);obtain⟨rfl,b1⟩:=b1;clear hs hnx tree e3 e4 i1 i2 hb;simp[*,zg,za]
         by_cases b2:ot=false/\0<x.els.length
         ·have hb:(ot||x.els.isEmpty)=false:=by
           rw[b2.1,yQ];cases hx:x.els.isEmpty
           ·rfl
           ·have:=e4.1 hx;omega
          rw[hb]at hs;replace hf:=hf (by rw[hs];simp);obtain⟨rfl,b2⟩:=b2;clear hs hnx tree e3 e4 i1 i2 hb;cases th
          ·have b1':¬0<x.thn.length:=fun h=>b1 ⟨rfl,h⟩
           clear b1;simp[*,zg,za]
          ·clear b1;simp[*,zg,za]
         have hb1:(th||x.thn.isEmpty)=true:=by
          cases th
          ·rw[yQ];exact e3.2 (by by_cases h:0<x.thn.length;exact absurd ⟨rfl,h⟩ b1;omega)
          ·rfl
         have hb2:(ot||x.els.isEmpty)=true:=by
          cases ot
          ·rw[yQ];exact e4.2 (by by_cases h:0<x.els.length;exact absurd ⟨rfl,h⟩ b2;omega)
          ·rfl
         rw[hb1,hb2]at hs;clear e3 e4 tree hb1 hb2;have b1':th=true\/(th=false/\¬0<x.thn.length):=by
          cases th
          ·exact yZa ⟨rfl,fun h=>b1 ⟨rfl,h⟩⟩
          ·exact yTa rfl
         have b2':ot=true\/(ot=false/\¬0<x.els.length):=by
          cases ot
          ·exact yZa ⟨rfl,fun h=>b2 ⟨rfl,h⟩⟩
          ·exact yTa rfl
         clear b1 b2;cases q1:zQ x.thn (m-1)
         ·rw[q1]at i1 hs;replace hf:=hf (by rw[hs];rfl);clear hs hnx i2 q1;rcases b1' with rfl|⟨rfl,b1⟩<;>rcases b2' with rfl|⟨rfl,b2⟩<;>simp[*,zg,za]
         ·rw[q1]at i1 hs;cases q2:zQ x.els (m-1)
          ·rw[q2]at i2 hs;replace hf:=hf (by rw[hs];rfl);clear hs hnx q1 q2;rcases b1' with rfl|⟨rfl,b1⟩<;>rcases b2' with rfl|⟨rfl,b2⟩<;>simp[*,zg,za]
          ·rw[q2]at i2 hs;replace hnx:=hnx (by rw[hs];rfl);clear hs hf q1 q2;rcases b1' with rfl|⟨rfl,b1⟩<;>rcases b2' with rfl|⟨rfl,b2⟩<;>simp[*,zg,za]
        ·have hd7:decide (e.kind=7)=false:=decide_eq_false h7;rw[hd7,Bool.false_and]at hs;replace hf:=hf hs;replace hk:=eqp hk;replace h7:=eqn h7;clear hdo hd7 hs hnx ht a1;simp[*,za]
       ·have hdo:doR x.kind x.args=true:=by simp[doR,hk]
        rw[hdo,yka]at hs;replace hk:=eqn hk;clear hdo ht a1;have e3:(x.thn.isEmpty=true<->x.thn.length=0):=by cases x.thn<;>simp
        have e4:(x.els.isEmpty=true<->x.els.length=0):=by cases x.els<;>simp
        have tree:zPb x m=true\/zPb x m=false:=by cases zPb x m<;>simp
        by_cases b1:th=false/\0<x.thn.length
        ·have hb:(th||x.thn.isEmpty)=false:=by
          rw[b1.1,yQ];cases hx:x.thn.isEmpty
          ·rfl
          ·have:=e3.1 hx;omega
         rw[hb]at hs;replace hf:=hf (by rw[hs];rfl);obtain⟨rfl,b1⟩:=b1;clear hs hnx tree e3 e4 i1 i2 hb;simp[*,zg,za]
        by_cases b2:ot=false/\0<x.els.length
        ·have hb:(ot||x.els.isEmpty)=false:=by
          rw[b2.1,yQ];cases hx:x.els.isEmpty
          ·rfl
          ·have:=e4.1 hx;omega
         rw[hb]at hs;replace hf:=hf (by rw[hs];simp);obtain⟨rfl,b2⟩:=b2;clear hs hnx tree e3 e4 i1 i2 hb;cases th
         ·have b1':¬0<x.thn.length:=fun h=>b1 ⟨rfl,h⟩
          clear b1;simp[*,zg,za]
         ·clear b1;simp[*,zg,za]
        have hb1:(th||x.thn.isEmpty)=true:=by
         cases th
         ·rw[yQ];exact e3.2 (by by_cases h:0<x.thn.length;exact absurd ⟨rfl,h⟩ b1;omega)
         ·rfl
        have hb2:(ot||x.els.isEmpty)=true:=by
         cases ot
         ·rw[yQ];exact e4.2 (by by_cases h:0<x.els.length;exact absurd ⟨rfl,h⟩ b2;omega)
         ·rfl
        rw[hb1,hb2]at hs;clear e3 e4 tree hb1 hb2;have b1':th=true\/(th=false/\¬0<x.thn.length):=by
         cases th
         ·exact yZa ⟨rfl,fun h=>b1 ⟨rfl,h⟩⟩
         ·exact yTa rfl
        have b2':ot=true\/(ot=false/\¬0<x.els.length):=by
         cases ot
         ·exact yZa ⟨rfl,fun h=>b2 ⟨rfl,h⟩⟩
         ·exact yTa rfl
        clear b1 b2;cases q1:zQ x.thn (m-1)
        ·rw[q1]at i1 hs;replace hf:=hf (by rw[hs];rfl);clear hs hnx i2 q1;rcases b1' with rfl|⟨rfl,b1⟩<;>rcases b2' with rfl|⟨rfl,b2⟩<;>simp[*,zg,za]
        ·rw[q1]at i1 hs;cases q2:zQ x.els (m-1)
         ·rw[q2]at i2 hs;replace hf:=hf (by rw[hs];rfl);clear hs hnx q1 q2;rcases b1' with rfl|⟨rfl,b1⟩<;>rcases b2' with rfl|⟨rfl,b2⟩<;>simp[*,zg,za]
         ·rw[q2]at i2 hs;replace hnx:=hnx (by rw[hs];rfl);clear hs hf q1 q2;rcases b1' with rfl|⟨rfl,b1⟩<;>rcases b2' with rfl|⟨rfl,b2⟩<;>simp[*,zg,za]
     ·clear a6;have a6:True:=trivial;simp[*,zb,ze,zg];have hlt0:x.args.length<2^62:=by omega
      refine zG x.args K70_0 B70_0 (fun d=>[(12,.int .i64 d.length)]) (fun _=>[]) (fun d=>zFe d=true) hlt0 (by simp[zFe]) ?_ ?_
      ·intros d2 y r2 s2 hl2 hlt2 hget2 hget2' hw2 hp2 g1 g2 g3 g4;simp at g1 g2 g3;have hwy:=zAb hl2.mem;have ey:=exprR_spec y 100 (by omega) (by omega);rw[za]at ey;simp[ze]at ey;have hlt2':(d2.length:Int)<x.args.length:=by omega
       cases hy:zjb y 100
       ·have ha:zFe x.args=false:=by
         rw[hl2.eq];simp[zFe,hy]
        replace hf:=hf (by rw[hs,ha];rfl);rw[hy]at ey;clear hnx hs hp2 hl2 e1 e2 ht;simp[*,za,ze]
       ·have ha:zFe (d2++[y])=true:=by
         simp only[zFe]at hp2 ⊢;rw[yY,hp2];simp[hy]
        rw[hy]at ey;clear hnx hs hf hp2 hl2 e1 e2 ht;simp[*,za,ze]
      ·intros s2 hp2 g1 g2 g3 g4;simp at g1 g2 g3;rw[hp2,yka]at hs;have i1:=ih x.thn (m-1) (by omega) (by omega) (by omega);have i2:=ih x.els (m-1) (by omega) (by omega) (by omega);simp[zg]at i1 i2;have k1:(x.kind=10/\∃e,x.args=[e])\/¬x.kind=10:=by
        by_cases hk:x.kind=10
        ·refine yTa ⟨hk,?_⟩;have hn1:(x.args.length:Int)=1:=by
          have:=congrArg (fun p=>p.2.2.1) hsh;rw[hk]at this;exact this.symm
         have:x.args.length=1:=by omega
         exact yF.1 this
        ·exact yZa hk
       clear hp2 hsh;clear e1 e2 a6;rcases k1 with⟨hk,e,hae⟩|hk
       ·have hdo:doR x.kind x.args=decide (e.kind=7):=by
         rw[hk,hae];simp[doR]
        rw[hdo]at hs;by_cases h7:e.kind=7
        ·have hd7:decide (e.kind=7)=true:=decide_eq_true h7;rw[hd7,yka]at hs;replace hk:=eqp hk;replace h7:=eqp h7;clear hdo hd7 ht a1;have e3:(x.thn.isEmpty=true<->x.thn.length=0):=by cases x.thn<;>simp
         have e4:(x.els.isEmpty=true<->x.els.length=0):=by cases x.els<;>simp
         have tree:zPb x m=true\/zPb x m=false:=by cases zPb x m<;>simp
         by_cases b1:th=false/\0<x.thn.length
         ·have hb:(th||x.thn.isEmpty)=false:=by
           rw[b1.1,yQ];cases hx:x.thn.isEmpty
           ·rfl
           ·have:=e3.1 hx;omega
          rw[hb]at hs;replace hf:=hf (by rw[hs];rfl);obtain⟨rfl,b1⟩:=b1;clear hs hnx tree e3 e4 i1 i2 hb;simp[*,zg,za]
         by_cases b2:ot=false/\0<x.els.length
         ·have hb:(ot||x.els.isEmpty)=false:=by
           rw[b2.1,yQ];cases hx:x.els.isEmpty
           ·rfl
           ·have:=e4.1 hx;omega
          rw[hb]at hs;replace hf:=hf (by rw[hs];simp);obtain⟨rfl,b2⟩:=b2;clear hs hnx tree e3 e4 i1 i2 hb;cases th
          ·have b1':¬0<x.thn.length:=fun h=>b1 ⟨rfl,h⟩
           clear b1;simp[*,zg,za]
          ·clear b1;simp[*,zg,za]
         have hb1:(th||x.thn.isEmpty)=true:=by
          cases th
          ·rw[yQ];exact e3.2 (by by_cases h:0<x.thn.length;exact absurd ⟨rfl,h⟩ b1;omega)
          ·rfl
         have hb2:(ot||x.els.isEmpty)=true:=by
          cases ot
          ·rw[yQ];exact e4.2 (by by_cases h:0<x.els.length;exact absurd ⟨rfl,h⟩ b2;omega)
          ·rfl
         rw[hb1,hb2]at hs;clear e3 e4 tree hb1 hb2;have b1':th=true\/(th=false/\¬0<x.thn.length):=by
          cases th
          ·exact yZa ⟨rfl,fun h=>b1 ⟨rfl,h⟩⟩
          ·exact yTa rfl
         have b2':ot=true\/(ot=false/\¬0<x.els.length):=by
          cases ot
          ·exact yZa ⟨rfl,fun h=>b2 ⟨rfl,h⟩⟩
          ·exact yTa rfl
         clear b1 b2;cases q1:zQ x.thn (m-1)
         ·rw[q1]at i1 hs;replace hf:=hf (by rw[hs];rfl);clear hs hnx i2 q1;rcases b1' with rfl|⟨rfl,b1⟩<;>rcases b2' with rfl|⟨rfl,b2⟩<;>simp[*,zg,za]
         ·rw[q1]at i1 hs;cases q2:zQ x.els (m-1)
          ·rw[q2]at i2 hs;replace hf:=hf (by rw[hs];rfl);clear hs hnx q1 q2;rcases b1' with rfl|⟨rfl,b1⟩<;>rcases b2' with rfl|⟨rfl,b2⟩<;>simp[*,zg,za]
          ·rw[q2]at i2 hs;replace hnx:=hnx (by rw[hs];rfl);clear hs hf q1 q2;rcases b1' with rfl|⟨rfl,b1⟩<;>rcases b2' with rfl|⟨rfl,b2⟩<;>simp[*,zg,za]
        ·have hd7:decide (e.kind=7)=false:=decide_eq_false h7;rw[hd7,Bool.false_and]at hs;replace hf:=hf hs;replace hk:=eqp hk;replace h7:=eqn h7;clear hdo hd7 hs hnx ht a1;simp[*,za]
       ·have hdo:doR x.kind x.args=true:=by simp[doR,hk]
        rw[hdo,yka]at hs;replace hk:=eqn hk;clear hdo ht a1;have e3:(x.thn.isEmpty=true<->x.thn.length=0):=by cases x.thn<;>simp
        have e4:(x.els.isEmpty=true<->x.els.length=0):=by cases x.els<;>simp
        have tree:zPb x m=true\/zPb x m=false:=by cases zPb x m<;>simp
        by_cases b1:th=false/\0<x.thn.length
        ·have hb:(th||x.thn.isEmpty)=false:=by
          rw[b1.1,yQ];cases hx:x.thn.isEmpty
          ·rfl
          ·have:=e3.1 hx;omega
         rw[hb]at hs;replace hf:=hf (by rw[hs];rfl);obtain⟨rfl,b1⟩:=b1;clear hs hnx tree e3 e4 i1 i2 hb;simp[*,zg,za]
        by_cases b2:ot=false/\0<x.els.length
        ·have hb:(ot||x.els.isEmpty)=false:=by
          rw[b2.1,yQ];cases hx:x.els.isEmpty
          ·rfl
          ·have:=e4.1 hx;omega
         rw[hb]at hs;replace hf:=hf (by rw[hs];simp);obtain⟨rfl,b2⟩:=b2;clear hs hnx tree e3 e4 i1 i2 hb;cases th
         ·have b1':¬0<x.thn.length:=fun h=>b1 ⟨rfl,h⟩
          clear b1;simp[*,zg,za]
         ·clear b1;simp[*,zg,za]
        have hb1:(th||x.thn.isEmpty)=true:=by
         cases th
         ·rw[yQ];exact e3.2 (by by_cases h:0<x.thn.length;exact absurd ⟨rfl,h⟩ b1;omega)
         ·rfl
        have hb2:(ot||x.els.isEmpty)=true:=by
         cases ot
         ·rw[yQ];exact e4.2 (by by_cases h:0<x.els.length;exact absurd ⟨rfl,h⟩ b2;omega)
         ·rfl
        rw[hb1,hb2]at hs;clear e3 e4 tree hb1 hb2;have b1':th=true\/(th=false/\¬0<x.thn.length):=by
         cases th
         ·exact yZa ⟨rfl,fun h=>b1 ⟨rfl,h⟩⟩
         ·exact yTa rfl
        have b2':ot=true\/(ot=false/\¬0<x.els.length):=by
         cases ot
         ·exact yZa ⟨rfl,fun h=>b2 ⟨rfl,h⟩⟩
         ·exact yTa rfl
        clear b1 b2;cases q1:zQ x.thn (m-1)
        ·rw[q1]at i1 hs;replace hf:=hf (by rw[hs];rfl);clear hs hnx i2 q1;rcases b1' with rfl|⟨rfl,b1⟩<;>rcases b2' with rfl|⟨rfl,b2⟩<;>simp[*,zg,za]
        ·rw[q1]at i1 hs;cases q2:zQ x.els (m-1)
         ·rw[q2]at i2 hs;replace hf:=hf (by rw[hs];rfl);clear hs hnx q1 q2;rcases b1' with rfl|⟨rfl,b1⟩<;>rcases b2' with rfl|⟨rfl,b2⟩<;>simp[*,zg,za]
         ·rw[q2]at i2 hs;replace hnx:=hnx (by rw[hs];rfl);clear hs hf q1 q2;rcases b1' with rfl|⟨rfl,b1⟩<;>rcases b2' with rfl|⟨rfl,b2⟩<;>simp[*,zg,za]
  ·intros s1 hp h1 h2 h3 h4;simp at h1 h3;clear h2;simp[*]
def arrR(a:PArr):Bool:=zGb a.name&&(decide (1<=a.size)&&decide (a.size<=1000))
def parR(p:Par):Bool:=zGb p.name&&(decide (p.type=1)||decide (p.type=2))
def zAd(f:Func):Bool:=zGb f.name&&((decide (f.type=1)||decide (f.type=2))&&(decide (f.params.length<=8)&&(zQ f.body 100&&f.params.all parR)))
def zQb(p:Prog):Bool:=p.arrays.all arrR&&p.funcs.all zAd
theorem stmtsR_spec(l:List Stmt)(m:Int)(h:wtSs l<1099508000000)(hm:m<=1000000):zi E 70 [zg l,.int .i64 m] []=some (.ret (.bool (zQ l m)),[]):=stmtsR_spec' (wtSs l) l m (yd _) (by omega) hm
def PSz(p:Prog):Prop:=p.arrays.length<1099509000000/\p.funcs.length<1099509000000/\∀f∈p.funcs,wtSs f.body<1099508000000/\f.params.length<1099509000000
set_option maxHeartbeats 4000000 in
theorem right_spec(p:Prog)(hz:PSz p):zi E 35 [zf p] []=some (.ret (.bool (zQb p)),[]):=by
 obtain⟨z1,z2,z3⟩:=hz;refine zd rfl rfl rfl (by simp[zf]) ?_;simp[F35,zf,zia,funcs];refine zG p.arrays K35_0 B35_0 (fun d=>[(3,.int .i64 d.length)]) (fun _=>[]) (fun d=>d.all arrR=true) (by omega) (by simp) ?_ ?_
 ·intros d x r s1 hl' hlt hget hget' hw hp h1 h2 h3 h4;simp at h1 h2 h3;have hf:arrR x=false->zQb p=false:=fun h=>by
   unfold zQb;rw[hl'.eq];simp[h]
  have hnx:arrR x=true->(d++[x]).all arrR=true:=fun h=>by rw[yY,hp];simp[h]
  have e1:=zGd x.name [];clear hl' hp;cases c1:zGb x.name
  ·replace hf:=hf (by unfold arrR;rw[c1];rfl);rw[c1]at e1;clear hnx;simp[*,zK]
  ·rw[c1]at e1;by_cases c2:x.size<1
   ·replace hf:=hf (by unfold arrR;simp;omega);clear hnx;simp[*,zK]
   ·by_cases c3:1000<x.size
    ·replace hf:=hf (by unfold arrR;simp;omega);clear hnx;simp[*,zK]
    ·replace hnx:=hnx (by unfold arrR;rw[c1];simp;omega);clear hf;simp[*,zK]
     all_goals(try grind)
 intros s1 hp h1 h2 h3 h4;simp at h1 h2 h3;have har:p.arrays.all arrR=true:=hp;clear hp;simp[*];refine zG p.funcs K35_2 B35_2 (fun d=>[(4,.int .i64 d.length)]) (fun _=>[]) (fun d=>d.all zAd=true) (by omega) (by simp) ?_ ?_
 ·intros d x r s2 hl' hlt hget hget' hw hp g1 g2 g3 g4;simp at g1 g2 g3;obtain⟨y1,y2⟩:=z3 x hl'.mem;have hf:zAd x=false->zQb p=false:=fun h=>by
   unfold zQb;rw[har,hl'.eq];simp[h]
  have hnx:zAd x=true->(d++[x]).all zAd=true:=fun h=>by rw[yY,hp];simp[h]
  have e1:=zGd x.name [];have e2:=rtype_spec x.type;have e3:=stmtsR_spec x.body 100 y1 (by omega);have hp0:True->d.all zAd=true:=fun _=>hp
  clear hl' hp har;simp[zg]at e3;generalize htt:(decide (x.type=1)||decide (x.type=2))=tt at*;have hq:zAd x=(zGb x.name&&(tt&&(decide (x.params.length<=8)&&(zQ x.body 100&&x.params.all parR)))):=by unfold zAd;rw[htt]
  clear htt;cases c1:zGb x.name
  ·replace hf:=hf (by rw[hq,c1];rfl);rw[c1]at e1;clear hnx hq;simp[*,zl,parsV,zg]
  rw[c1]at e1;cases tt
  ·replace hf:=hf (by rw[hq];simp);clear hnx hq;simp[*,zl,parsV,zg]
  by_cases c2:8<x.params.length
  ·replace hf:=hf (by rw[hq];simp;omega);have c2':(8:Int)<x.params.length:=by omega
   clear hnx hq;simp[*,zl,parsV,zg]
  have c2':¬(8:Int)<x.params.length:=by omega
  cases c3:zQ x.body 100
  ·replace hf:=hf (by rw[hq,c3];simp);rw[c3]at e3;clear hnx hq;simp[*,zl,parsV,zg]
  rw[c3]at e3;have hd8:decide (x.params.length<=8)=true:=decide_eq_true (by omega);rw[c1,c3,hd8,yka,yka,yka,yka]at hq;clear hd8;simp[*,zl,parsV,zg];refine zG x.params K35_1 B35_1 (fun d=>[(6,.int .i64 d.length)]) (fun _=>[]) (fun d=>d.all parR=true) (by omega) (by simp) ?_ ?_
  ·intros d2 y r2 s3 hl2 hlt2 hget2 hget2' hw2 hp2 k1 k2 k3 k4;simp at k1 k2 k3;have hfy:parR y=false->zQb p=false:=fun h=>hf (by rw[hq,hl2.eq];simp[h])
   have hny:parR y=true->(d2++[y]).all parR=true:=fun h=>by rw[yY,hp2];simp[h]
   have i1:=zGd y.name [];have i2:=rtype_spec y.type;generalize htt:(decide (y.type=1)||decide (y.type=2))=tt at*;have hqy:parR y=(zGb y.name&&tt):=by unfold parR;rw[htt]
   clear htt hl2 hp2 hq hf hnx e1 e2 e3;cases c4:zGb y.name
   ·rw[c4]at i1;replace hfy:=hfy (by rw[hqy,c4];rfl);clear hny hqy;simp[*,encPar]
   ·rw[c4]at i1;cases tt
    ·replace hfy:=hfy (by rw[hqy];simp);clear hny hqy;simp[*,encPar]
    ·replace hny:=hny (by rw[hqy,c4];rfl);clear hfy hqy;simp[*,encPar]
     all_goals(try grind)
  ·intros s3 hp2 k1 k2 k3 k4;simp at k1 k2 k3;replace hnx:=hnx (by rw[hq];exact hp2);replace hp0:=hp0 trivial;clear hf hq e1 e2 e3;simp only[yq]at hp0 hp2;simp[*]
   first|exact hp2|exact⟨hp0,hp2⟩
 ·intros s2 hp g1 g2 g3 g4;simp at g1 g2 g3;have hr:zQb p=true:=by unfold zQb;rw[har,hp];rfl
  clear hp har;simp[*]
theorem tblank_spec(k o n:Int)(s:List UInt8)(a:List Expr):zi E 202 [.agg [.int .i64 k,.int .i64 o,.int .i64 n,.str s,ze a]] []=some (.ret (.bool (decide (o=0)&&(decide (n=0)&&(decide (s=[])&&decide (a=[]))))),[]):=by
 refine zd rfl rfl rfl (by simp) ?_;have hl:((a.length:Int)=0)=(a=[]):=by simp
 (simp[*,F202,ze])<;>(repeat' ((first|refine sP _ ?_ ?_|refine gP _ ?_ ?_|refine sN _ ?_ ?_|refine gN _ ?_ ?_|refine sM _ ?_ ?_|refine gM _ ?_ ?_|refine sB _ ?_ ?_|refine gB _ ?_ ?_)<;>intro hc<;>simp[*,F202,ze]))
def ownT(k o n:Int)(s:List UInt8)(a:Nat):Int×Bool:=
 if k=1 then(0,decide (0<=n)&&(decide (o=0)&&decide (s=[])))
 else if k=2 then(0,(decide (n=0)||decide (n=1))&&(decide (o=0)&&decide (s=[])))
 else if k=4 then(1,oneR o&&(decide (n=0)&&decide (s=[])))
 else if k=5 then(2,decide (0<zMe o)&&(decide (n=0)&&decide (s=[])))
 else if k=8 then(0,decide (o=0)&&(decide (n=0)&&decide (s=[])))
 else if k=3 then(0,zGb s&&(decide (o=0)&&decide (n=0)))
 else if k=6 then(1,zGb s&&(decide (o=0)&&decide (n=0)))
 else if k=7 then(a,(zGb s&&(decide (o=0)&&decide (n=0)))&&decide (a<=8))
 else(0,false)
set_option maxHeartbeats 4000000 in
theorem town_spec(e:Expr):zi E 199 [zn e] []=some (.ret (.tup [.int .i64 (ownT e.kind e.op e.n e.name e.args.length).1,.bool (ownT e.kind e.op e.n e.name e.args.length).2]),[]):=by
 obtain⟨k,o,n,s,a⟩:=e;have hn:=name_spec s [];have hlv:=level_spec o [];rw[lvl_eq]at hlv;have hb:∀k o n s,zi E 202 [.agg [.int .i64 k,.int .i64 o,.int .i64 n,.str s,.slice .plain 5 []]] []=some (.ret (.bool (decide (o=0)&&(decide (n=0)&&decide (s=[])))),[]):=by
  intro k o n s;have:=tblank_spec k o n s [];simpa[ze]using this
 refine zd rfl rfl rfl (by simp[za]) ?_;simp only;unfold ownT;by_cases k1:k=1
 ·replace k1:=eqp k1
  (simp[*,F199,za,ze])<;>(repeat' (first|((first|refine sP _ ?_ ?_|refine gP _ ?_ ?_|refine sN _ ?_ ?_|refine gN _ ?_ ?_)<;>intro hc<;>(first|replace hc:=eqn hc|replace hc:=eqp hc)<;>simp[*,F199,za,ze])|((first|refine sM _ ?_ ?_|refine gM _ ?_ ?_|refine sB _ ?_ ?_|refine gB _ ?_ ?_)<;>intro hc<;>simp[*,F199,za,ze])))
 replace k1:=eqn k1;by_cases k2:k=2
 ·replace k2:=eqp k2
  (simp[*,F199,za,ze])<;>(repeat' (first|((first|refine sP _ ?_ ?_|refine gP _ ?_ ?_|refine sN _ ?_ ?_|refine gN _ ?_ ?_)<;>intro hc<;>(first|replace hc:=eqn hc|replace hc:=eqp hc)<;>simp[*,F199,za,ze])|((first|refine sM _ ?_ ?_|refine gM _ ?_ ?_|refine sB _ ?_ ?_|refine gB _ ?_ ?_)<;>intro hc<;>simp[*,F199,za,ze])))
 replace k2:=eqn k2;by_cases k4:k=4
 ·replace k4:=eqp k4
  (simp[*,F199,za,ze,oneR])<;>(repeat' (first|((first|refine sP _ ?_ ?_|refine gP _ ?_ ?_|refine sN _ ?_ ?_|refine gN _ ?_ ?_)<;>intro hc<;>(first|replace hc:=eqn hc|replace hc:=eqp hc)<;>simp[*,F199,za,ze,oneR])|((first|refine sM _ ?_ ?_|refine gM _ ?_ ?_|refine sB _ ?_ ?_|refine gB _ ?_ ?_)<;>intro hc<;>simp[*,F199,za,ze,oneR])))
 replace k4:=eqn k4;by_cases k5:k=5
 ·replace k5:=eqp k5
  (simp[*,F199,za,ze])<;>(repeat' (first|((first|refine sP _ ?_ ?_|refine gP _ ?_ ?_|refine sN _ ?_ ?_|refine gN _ ?_ ?_)<;>intro hc<;>(first|replace hc:=eqn hc|replace hc:=eqp hc)<;>simp[*,F199,za,ze])|((first|refine sM _ ?_ ?_|refine gM _ ?_ ?_|refine sB _ ?_ ?_|refine gB _ ?_ ?_)<;>intro hc<;>simp[*,F199,za,ze])))
 replace k5:=eqn k5;by_cases k8:k=8
 ·replace k8:=eqp k8
  (simp[*,F199,za,ze])<;>(repeat' (first|((first|refine sP _ ?_ ?_|refine gP _ ?_ ?_|refine sN _ ?_ ?_|refine gN _ ?_ ?_)<;>intro hc<;>(first|replace hc:=eqn hc|replace hc:=eqp hc)<;>simp[*,F199,za,ze])|((first|refine sM _ ?_ ?_|refine gM _ ?_ ?_|refine sB _ ?_ ?_|refine gB _ ?_ ?_)<;>intro hc<;>simp[*,F199,za,ze])))
 replace k8:=eqn k8;by_cases k3:k=3
 ·replace k3:=eqp k3
  (simp[*,F199,za,ze])<;>(repeat' (first|((first|refine sP _ ?_ ?_|refine gP _ ?_ ?_|refine sN _ ?_ ?_|refine gN _ ?_ ?_)<;>intro hc<;>(first|replace hc:=eqn hc|replace hc:=eqp hc)<;>simp[*,F199,za,ze])|((first|refine sM _ ?_ ?_|refine gM _ ?_ ?_|refine sB _ ?_ ?_|refine gB _ ?_ ?_)<;>intro hc<;>simp[*,F199,za,ze])))
 replace k3:=eqn k3;by_cases k6:k=6
 ·replace k6:=eqp k6
  (simp[*,F199,za,ze])<;>(repeat' (first|((first|refine sP _ ?_ ?_|refine gP _ ?_ ?_|refine sN _ ?_ ?_|refine gN _ ?_ ?_)<;>intro hc<;>(first|replace hc:=eqn hc|replace hc:=eqp hc)<;>simp[*,F199,za,ze])|((first|refine sM _ ?_ ?_|refine gM _ ?_ ?_|refine sB _ ?_ ?_|refine gB _ ?_ ?_)<;>intro hc<;>simp[*,F199,za,ze])))
 replace k6:=eqn k6;by_cases k7:k=7
 ·replace k7:=eqp k7
  (simp[*,F199,za,ze])<;>(repeat' (first|((first|refine sP _ ?_ ?_|refine gP _ ?_ ?_|refine sN _ ?_ ?_|refine gN _ ?_ ?_)<;>intro hc<;>(first|replace hc:=eqn hc|replace hc:=eqp hc)<;>simp[*,F199,za,ze])|((first|refine sM _ ?_ ?_|refine gM _ ?_ ?_|refine sB _ ?_ ?_|refine gB _ ?_ ?_)<;>intro hc<;>simp[*,F199,za,ze])))
  all_goals(try omega)
 replace k7:=eqn k7
 (simp[*,F199,za,ze])<;>(repeat' (first|((first|refine sP _ ?_ ?_|refine gP _ ?_ ?_|refine sN _ ?_ ?_|refine gN _ ?_ ?_)<;>intro hc<;>(first|replace hc:=eqn hc|replace hc:=eqp hc)<;>simp[*,F199,za,ze])|((first|refine sM _ ?_ ?_|refine gM _ ?_ ?_|refine sB _ ?_ ?_|refine gB _ ?_ ?_)<;>intro hc<;>simp[*,F199,za,ze])))
theorem own_kind(k o n:Int)(s:List UInt8)(a:Nat):((ownT k o n s a).2&&decide ((a:Int)=(ownT k o n s a).1))=zud k o n s a:=by
 rw[Bool.eq_iff_iff];unfold ownT zud;by_cases k1:k=1
 ·subst k1;simp;grind
 by_cases k2:k=2
 ·subst k2;simp;grind
 by_cases k4:k=4
 ·subst k4;simp;grind
 by_cases k5:k=5
 ·subst k5;simp;grind
 by_cases k8:k=8
 ·subst k8;simp;grind
 by_cases k3:k=3
 ·subst k3;simp;grind
 by_cases k6:k=6
 ·subst k6;simp;grind
 by_cases k7:k=7
 ·subst k7;simp;grind
 simp[*]
theorem exprsR_all(l:List Expr)(m:Int):zyb l m=l.all fun x=>decide (2<=m)&&zjb x (m-1):=by
 induction l with
 |nil=>rfl
 |cons x r ih=>simp[zyb,ih]
set_option maxHeartbeats 4000000 in
theorem texpr_spec':∀w (e:Expr) (m:Int),wtE e<=w->w<1099511000000->m<=1000000->zi E 187 [zn e,.int .i64 m] []=some (.ret (.bool (decide (0<m)&&zjb e m)),[])
 |0,e,m,h,_,_=>by rw[zvd]at h;omega
 |w+1,e,m,h,hw,hm=>by
  refine zd rfl rfl rfl (by simp[za]) ?_;have hlen:=zXb e.args;rw[zvd]at h;have ho:=town_spec e;have hk:=own_kind e.kind e.op e.n e.name e.args.length;have hR:=exprR_eq e m;rw[<-hk]at hR;generalize ownT e.kind e.op e.n e.name e.args.length=q at*;obtain⟨n,ok⟩:=q;simp only at ho hk hR;clear hk;by_cases h0:0<m
  ·have hcl:∀x∈e.args,zi E 200 ([]++[zn x]++[.iptr [.int .i64 m] 0]) []=some (.ret (.bool (!(decide (0<m-1)&&zjb x (m-1)))),[]):=by
    intro x hx;have hwx:=zAb hx;have ih:=texpr_spec' w x (m-1) (by omega) (by omega) (by omega);have hwm:zC .i64 (m-1)=m-1:=zj (by omega) (by omega);refine zd rfl rfl rfl (by simp[za]) ?_;rw[za]at ih;clear hR ho h hlen hwx hx;simp[ze]at ih
    (simp[*,F200,za,ze])<;>(repeat' ((first|refine sP _ ?_ ?_|refine gP _ ?_ ?_|refine sN _ ?_ ?_|refine gN _ ?_ ?_|refine sM _ ?_ ?_|refine gM _ ?_ ?_|refine sB _ ?_ ?_|refine gB _ ?_ ?_)<;>intro hc<;>simp[*,F200,za,ze]))
   have hc:=containsFuncExpr e.args (fun x=> !(decide (0<m-1)&&zjb x (m-1))) 200 [] [.iptr [.int .i64 m] 0] [] (by omega) (by simp) hcl;have hany:(!(e.args.any fun x=> !(decide (0<m-1)&&zjb x (m-1))))=zyb e.args m:=by
    have h2:decide (0<m-1)=decide (2<=m):=by rw[decide_eq_decide];omega
    rw[exprsR_all,List.not_any_eq_all_not,h2];simp
   generalize(e.args.any fun x=> !(decide (0<m-1)&&zjb x (m-1)))=b at*;rw[<-hany]at hR;clear hcl h hlen hany;rw[za]at ho;simp[ze]at ho hc;generalize hal:e.args.length=al at*
   (simp[*,F187,za,ze])<;>(repeat' (first|((first|refine sP _ ?_ ?_|refine gP _ ?_ ?_|refine sN _ ?_ ?_|refine gN _ ?_ ?_)<;>intro hc<;>(first|replace hc:=eqn hc|replace hc:=eqp hc)<;>simp[*,F187,za,ze])|((first|refine sM _ ?_ ?_|refine gM _ ?_ ?_|refine sB _ ?_ ?_|refine gB _ ?_ ?_)<;>intro hc<;>simp[*,F187,za,ze])))
  ·clear hlen h;rw[za]at ho;simp[ze]at ho
   (simp[*,F187,za,ze])<;>(repeat' (first|((first|refine sP _ ?_ ?_|refine gP _ ?_ ?_|refine sN _ ?_ ?_|refine gN _ ?_ ?_)<;>intro hc<;>(first|replace hc:=eqn hc|replace hc:=eqp hc)<;>simp[*,F187,za,ze])|((first|refine sM _ ?_ ?_|refine gM _ ?_ ?_|refine sB _ ?_ ?_|refine gB _ ?_ ?_)<;>intro hc<;>simp[*,F187,za,ze])))
theorem texpr_spec(e:Expr)(m:Int)(h:wtE e<1099510000000)(hm:m<=1000000):zi E 187 [zn e,.int .i64 m] []=some (.ret (.bool (decide (0<m)&&zjb e m)),[]):=texpr_spec' (wtE e) e m (yd _) (by omega) hm
def zlc(t n:Bool)(a:Int)(th o:Bool):PV:= .agg [.bool t,.bool n,.int .i64 a,.bool th,.bool o]
def shapesL:List (PV×PV):=[(.int .i64 1,zlc true true 1 false false),(.int .i64 2,zlc false true 1 false false),(.int .i64 3,zlc false true 2 false false),(.int .i64 4,zlc false false 1 true true),(.int .i64 5,zlc false false 1 true false),
 (.int .i64 6,zlc false false 0 false false),(.int .i64 7,zlc false false 0 false false),(.int .i64 8,zlc false false 1 false false),(.int .i64 9,zlc false false 1 false false),(.int .i64 10,zlc false false 1 false false)]
set_option maxHeartbeats 1000000 in
theorem shapes_spec(σ:zc):zi E 184 [] σ=some (.ret (.mp σ.length),σ++[.mp shapesL]):=by
 refine zd rfl rfl rfl (by simp) ?_;simp[F184,shapesL,zlc]
theorem shapes_find(k:Int):zS false (.int .i64 k) shapesL=some (if 1<=k/\k<=10 then some (zlc (zN k).1 (zN k).2.1 (zN k).2.2.1 (zN k).2.2.2.1 (zN k).2.2.2.2)else none):=by
 by_cases h:1<=k/\k<=10
 ·have:k=1\/k=2\/k=3\/k=4\/k=5\/k=6\/k=7\/k=8\/k=9\/k=10:=by omega
  rcases this with h|h|h|h|h|h|h|h|h|h<;>subst h<;>simp[shapesL,zN,zlc]
 ·have h1:¬k=1:=by omega
  have h2:¬k=2:=by omega
  have h3:¬k=3:=by omega
  have h4:¬k=4:=by omega
  have h5:¬k=5:=by omega
  have h6:¬k=6:=by omega
  have h7:¬k=7:=by omega
  have h8:¬k=8:=by omega
  have h9:¬k=9:=by omega
  have h10:¬k=10:=by omega
  rw[if_neg h];simp[shapesL, *]
theorem tisType_spec(t:Int)(σ:zc):zi E 136 [.int .i64 t] σ=some (.ret (.bool (decide (t=1)||decide (t=2))),σ):=by
 refine zd rfl rfl rfl (by simp) ?_
 (simp[*,F136])<;>(repeat' ((first|refine sP _ ?_ ?_|refine gP _ ?_ ?_|refine sN _ ?_ ?_|refine gN _ ?_ ?_|refine sM _ ?_ ?_|refine gM _ ?_ ?_|refine sB _ ?_ ?_|refine gB _ ?_ ?_)<;>intro hc<;>simp[*,F136]))
theorem argsR_all(l:List Expr)(st:zc)(h:wtEs l<1099509000000):zi E 185 [ze l,.fn 186 [] []] st=some (.ret (.bool (!zFe l)),st):=by
 have hlen:=zXb l;have hcl:∀x∈l,zi E 186 ([]++[zn x]++[]) st=some (.ret (.bool (!zjb x 100)),st):=by
  intro x hx;have hwx:=zAb hx;have ih:=texpr_spec x 100 (by omega) (by omega);rw[za]at ih;refine zd rfl rfl rfl (by simp[za]) ?_;simp[ze]at ih
  (simp[*,F186,za,ze])<;>(repeat' ((first|refine sP _ ?_ ?_|refine gP _ ?_ ?_|refine sN _ ?_ ?_|refine gN _ ?_ ?_|refine sM _ ?_ ?_|refine gM _ ?_ ?_|refine sB _ ?_ ?_|refine gB _ ?_ ?_)<;>intro hc<;>simp[*,F186,za,ze]))
 have hc:=containsFuncExpr l (fun x=> !zjb x 100) 186 [] [] st (by omega) (by simp) hcl;have:(l.any fun x=> !zjb x 100)= !zFe l:=by
  unfold zFe;rw[yYa]
 rw[this]at hc;exact hc
set_option maxHeartbeats 16000000 in
theorem tstmt_of(s:Stmt)(m:Int)(hm:m<=1000000)(hw:wtS s<1099509000000)
  (h1:∀m',m'<=1000000->zi E 138 [zg s.thn,.int .i64 m'] []=some (.ret (.bool (zQ s.thn m')),[]))
  (h2:∀m',m'<=1000000->zi E 138 [zg s.els,.int .i64 m'] []=some (.ret (.bool (zQ s.els m')),[])):
  zi E 166 [zw s,.int .i64 m] []=some (.ret (.bool (zPb s m)),[]):=by
 refine zd rfl rfl rfl (by simp[zb]) ?_;have hs:=shapes_spec [];have hf:=shapes_find s.kind;have ht:=tisType_spec s.type;have hn:=name_spec s.name;have ha:=argsR_all s.args [.mp shapesL] (by rw[zta]at hw;omega);rw[zta]at hw;have hla:=zXb s.args;have hlt:=zra s.thn;have hle:=zra s.els;rw[stmtR_eq];unfold headR;have hk:(1<=s.kind/\s.kind<=10)\/(zN s.kind).2.2.1= -1:=by
  by_cases h:1<=s.kind/\s.kind<=10
  ·exact yTa h
  ·right;unfold zN
   repeat' (first|rw[if_neg (by omega)]|rfl)
 by_cases hin:1<=s.kind/\s.kind<=10
 case neg=>
  rw[if_neg hin]at hf;have hneg:(zN s.kind).2.2.1= -1:=by rcases hk with h|h;exact absurd h hin;exact h
  have hne:¬(s.args.length:Int)= -1:=by omega
  have hR:(decide (¬(s.args.length:Int)=(zN s.kind).2.2.1))=true:=by rw[hneg];simp[hne]
  rw[hR];clear hk h1 h2 hR hneg hne hla hlt hle hw ht hn ha hin;simp[*,F166,zb,ze,zg]
 rw[if_pos hin]at hf;have hd:(s.kind=10)->∃e r,s.args=e::r\/¬(s.args.length:Int)=(zN s.kind).2.2.1:=by
  intro hk;rcases he:s.args with _|⟨e,r⟩
  ·refine⟨⟨0,0,0,[],[]⟩,[],yZa ?_⟩;rw[hk];simp[zN]
  ·exact⟨e,r,yTa rfl⟩
 clear hk hin;generalize zN s.kind=q at*;obtain⟨t,nm,n,th,ot⟩:=q;simp only at hf ⊢;have h1':=h1 (m-1) (by omega);have h2':=h2 (m-1) (by omega);clear h1 h2;by_cases hm1:m<1
 ·replace hm1:=eqp hm1;clear h1' h2' ht hn ha hd hla hlt hle hw;simp[*,F166,zb,ze,zg,zlc]
 have hwm:zC .i64 (m-1)=m-1:=zj (by omega) (by omega);replace hm1:=eqn hm1;by_cases hlen:(s.args.length:Int)=n
 case neg=>
  replace hlen:=eqn hlen;clear h1' h2' ht hn ha hd hla hlt hle hw;simp[*,F166,zb,ze,zg,zlc]
 replace hd:(s.kind=10)->∃e r,s.args=e::r:=by
  intro hk;obtain⟨e,r,h|h⟩:=hd hk
  ·exact⟨e,r,h⟩
  ·exact absurd hlen h
 replace hlen:=eqp hlen;have g1:(0<s.thn.length)=¬(s.thn=[]):=by
  rcases s.thn with _|⟨x,r⟩<;>simp
 have g2:(0<s.els.length)=¬(s.els=[]):=by
  rcases s.els with _|⟨x,r⟩<;>simp
 have i1:s.thn.isEmpty=decide (s.thn=[]):=by
  rcases s.thn with _|⟨x,r⟩<;>rfl
 have i2:s.els.isEmpty=decide (s.els=[]):=by
  rcases s.els with _|⟨x,r⟩<;>rfl
 clear hla hlt hle hw;have ht0:(s.type=0)=True->(decide (s.type=1)||decide (s.type=2))=false:=by intro h;rw[of_eq_true h];decide
 generalize(decide (s.type=1)||decide (s.type=2))=tt at*;have hn0:(s.name=[])=True->zGb s.name=false:=by intro h;rw[of_eq_true h];decide
 by_cases hk:s.kind=10
 ·obtain⟨e,r,hel⟩:=hd hk;have hD:doR s.kind s.args=decide (e.kind=7):=by rw[hel];unfold doR;simp[hk]
  have hget:s.args[0]? =some e:=by rw[hel];rfl
  clear hd hel;replace hk:=eqp hk;rw[hD];clear hD;simp[ze,zg]at ha h1' h2'
  (simp[*,F166,zb,ze,zg,zlc,za])<;>(repeat' (first|((first|refine sP _ ?_ ?_|refine gP _ ?_ ?_|refine sN _ ?_ ?_|refine gN _ ?_ ?_)<;>intro hc<;>(first|replace hc:=eqn hc|replace hc:=eqp hc)<;>simp[*,F166,zb,ze,zg,zlc,za])|((first|refine sM _ ?_ ?_|refine gM _ ?_ ?_|refine sB _ ?_ ?_|refine gB _ ?_ ?_)<;>intro hc<;>simp[*,F166,zb,ze,zg,zlc,za])))
  all_goals(intros;first|exact hn0 (by assumption)|exact ht0 (by assumption)|exact⟨ht0 (by assumption),hn0 (by assumption)⟩)
 ·clear hd;replace hk:=eqn hk;have hD:doR s.kind s.args=true:=by unfold doR;simp[hk]
  simp[ze,zg]at ha h1' h2'
  (simp[*,F166,zb,ze,zg,zlc])<;>(repeat' (first|((first|refine sP _ ?_ ?_|refine gP _ ?_ ?_|refine sN _ ?_ ?_|refine gN _ ?_ ?_)<;>intro hc<;>(first|replace hc:=eqn hc|replace hc:=eqp hc)<;>simp[*,F166,zb,ze,zg,zlc])|((first|refine sM _ ?_ ?_|refine gM _ ?_ ?_|refine sB _ ?_ ?_|refine gB _ ?_ ?_)<;>intro hc<;>simp[*,F166,zb,ze,zg,zlc])))
  all_goals(intros;first|exact hn0 (by assumption)|exact ht0 (by assumption)|exact⟨ht0 (by assumption),hn0 (by assumption)⟩)
theorem tstmts_spec':∀w (l:List Stmt) (m:Int),wtSs l<=w->w<1099508500000->m<=1000000->zi E 138 [zg l,.int .i64 m] []=some (.ret (.bool (zQ l m)),[])
 |0,l,m,h,hw,hm=>by
  have hl:l=[]:=by
   have:=zra l;exact yA (by omega)
  subst hl;refine zd rfl rfl rfl (by simp[zg]) ?_;have hc:=zZa [] (fun _=>true) 165 [] [.iptr [.int .i64 m] 0] [] (by simp) (by simp) (by simp);simp at hc;simp[*,F138,zg,zQ]
 |w+1,l,m,h,hw,hm=>by
  have hlen:=zra l;refine zd rfl rfl rfl (by simp[zg]) ?_;have hcl:∀x∈l,zi E 165 ([]++[zw x]++[.iptr [.int .i64 m] 0]) []=some (.ret (.bool (!zPb x m)),[]):=by
   intro x hx;have hwx:=zSc hx;have hwe:=zta x;have ih:=tstmt_of x m hm (by omega) (fun m' hm'=>tstmts_spec' w x.thn m' (by omega) (by omega) hm') (fun m' hm'=>tstmts_spec' w x.els m' (by omega) (by omega) hm');rw[zb]at ih;clear hwe hwx hx h hlen;refine zd rfl rfl rfl (by simp[zb]) ?_;simp[ze,zg]at ih
   (simp[*,F165,zb,ze,zg])<;>(repeat' ((first|refine sP _ ?_ ?_|refine gP _ ?_ ?_|refine sN _ ?_ ?_|refine gN _ ?_ ?_|refine sM _ ?_ ?_|refine gM _ ?_ ?_|refine sB _ ?_ ?_|refine gB _ ?_ ?_)<;>intro hc<;>simp[*,F165,zb,ze,zg]))
  have hc:=zZa l (fun x=> !zPb x m) 165 [] [.iptr [.int .i64 m] 0] [] (by omega) (by simp) hcl;have hR:(l.any fun x=> !zPb x m)= !zQ l m:=by
   clear hcl hc h hlen
   induction l with
   |nil=>rfl
   |cons x r ih=>simp[zQ,ih]
  rw[hR]at hc;clear hcl hR;simp[*,F138,zg]
theorem tstmts_spec(l:List Stmt)(m:Int)(h:wtSs l<1099508000000)(hm:m<=1000000):zi E 138 [zg l,.int .i64 m] []=some (.ret (.bool (zQ l m)),[]):=tstmts_spec' (wtSs l) l m (yd _) (by omega) hm
theorem tparam_spec(p:Par)(σ:zc):zi E 135 [encPar p] σ=some (.ret (.bool (!parR p)),σ):=by
 refine zd rfl rfl rfl (by simp[encPar]) ?_;have hn:=name_spec p.name;have ht:=tisType_spec p.type;unfold parR;generalize(decide (p.type=1)||decide (p.type=2))=tt at*
 (simp[*,F135,encPar])<;>(repeat' ((first|refine sP _ ?_ ?_|refine gP _ ?_ ?_|refine sN _ ?_ ?_|refine gN _ ?_ ?_|refine sM _ ?_ ?_|refine gM _ ?_ ?_|refine sB _ ?_ ?_|refine gB _ ?_ ?_)<;>intro hc<;>simp[*,F135,encPar]))
theorem tarr_spec(a:PArr)(σ:zc):zi E 103 [zK a] σ=some (.ret (.bool (!arrR a)),σ):=by
 refine zd rfl rfl rfl (by simp[zK]) ?_;have hn:=name_spec a.name;unfold arrR
 (simp[*,F103,zK])<;>(repeat' ((first|refine sP _ ?_ ?_|refine gP _ ?_ ?_|refine sN _ ?_ ?_|refine gN _ ?_ ?_|refine sM _ ?_ ?_|refine gM _ ?_ ?_|refine sB _ ?_ ?_|refine gB _ ?_ ?_)<;>intro hc<;>simp[*,F103,zK]))
 all_goals(try grind)
theorem tfunc_spec(f:Func)(h:wtSs f.body<1099508000000/\f.params.length<1099509000000):zi E 108 [zl f] []=some (.ret (.bool (zAd f)),[]):=by
 refine zd rfl rfl rfl (by simp[zl]) ?_;have hn:=name_spec f.name;have ht:=tisType_spec f.type;have hc:=containsFuncPar f.params (fun p=> !parR p) 135 [] [] [] (by omega) (by simp) (fun x _=>by simpa using tparam_spec x []);have hs:=tstmts_spec f.body 100 h.1 (by omega);have hp:(f.params.any fun p=> !parR p)= !f.params.all parR:=by rw[yYa]
 rw[hp]at hc;unfold zAd;have h8:decide (f.params.length<=8)=decide ((f.params.length:Int)<=8):=by rw[decide_eq_decide];omega
 rw[h8];generalize(decide (f.type=1)||decide (f.type=2))=tt at*;generalize f.params.all parR=pp at*;clear h hp h8;simp[zg]at hs hc
 (simp[*,F108,zl,parsV,zg])<;>(repeat' (first|((first|refine sP _ ?_ ?_|refine gP _ ?_ ?_|refine sN _ ?_ ?_|refine gN _ ?_ ?_)<;>intro hc<;>(first|replace hc:=eqn hc|replace hc:=eqp hc)<;>simp[*,F108,zl,parsV,zg])|((first|refine sM _ ?_ ?_|refine gM _ ?_ ?_|refine sB _ ?_ ?_|refine gB _ ?_ ?_)<;>intro hc<;>simp[*,F108,zl,parsV,zg])))
theorem tright_spec(p:Prog)(hz:PSz p):zi E 81 [zf p] []=some (.ret (.bool (zQb p)),[]):=by
 obtain⟨z1,z2,z3⟩:=hz;refine zd rfl rfl rfl (by simp[zf]) ?_;have ha:=containsFuncPArr p.arrays (fun a=> !arrR a) 103 [] [] [] (by omega) (by simp) (fun x _=>by simpa using tarr_spec x []);have hcl:∀x∈p.funcs,zi E 107 ([]++[zl x]++[]) []=some (.ret (.bool (!zAd x)),[]):=by
  intro x hx;have:=tfunc_spec x (z3 x hx);refine zd rfl rfl rfl (by simp[zl]) ?_;simp[zl,parsV,zg]at this;clear ha
  (simp[*,F107,zl,parsV,zg])<;>(repeat' ((first|refine sP _ ?_ ?_|refine gP _ ?_ ?_|refine sN _ ?_ ?_|refine gN _ ?_ ?_|refine sM _ ?_ ?_|refine gM _ ?_ ?_|refine sB _ ?_ ?_|refine gB _ ?_ ?_)<;>intro hc<;>simp[*,F107,zl,parsV,zg]))
 have hf:=containsFuncFunc p.funcs (fun x=> !zAd x) 107 [] [] [] (by omega) (by simp) hcl;have e1:(p.arrays.any fun p=> !arrR p)= !p.arrays.all arrR:=by rw[yYa]
 have e2:(p.funcs.any fun p=> !zAd p)= !p.funcs.all zAd:=by rw[yYa]
 rw[e1]at ha;rw[e2]at hf;unfold zQb;generalize p.arrays.all arrR=x at*;generalize p.funcs.all zAd=y at*;clear e1 e2 hcl z1 z2 z3
 (simp[*,F81,zf,zia,funcs])<;>(repeat' ((first|refine sP _ ?_ ?_|refine gP _ ?_ ?_|refine sN _ ?_ ?_|refine gN _ ?_ ?_|refine sM _ ?_ ?_|refine gM _ ?_ ?_|refine sB _ ?_ ?_|refine gB _ ?_ ?_)<;>intro hc<;>simp[*,F81,zf,zia,funcs]))
structure Vr where
 name:List UInt8
 type:Int
 depth:Int
def zDb:List Vr->PV
 | []=> .nilp
 |v::r=> .iptr [.str v.name,.int .i64 v.type,zDb r,.int .i64 v.depth] 0
@[simp] theorem encVs_nil:zDb []= .nilp:=ye rfl rfl
theorem zAc(v:Vr)(r:List Vr):zDb (v::r)= .iptr [.str v.name,.int .i64 v.type,zDb r,.int .i64 v.depth] 0:=ye rfl rfl
section
variable (l:List Vr)
@[simp high] theorem isVar_vs:zE (zDb l)=true:=by cases l<;>rfl
@[simp high] theorem canon1_vs:canon1 (zDb l)=zDb l:=by cases l<;>rfl
@[simp high] theorem strip_vs:strip (zDb l)=zDb l:=by cases l<;>rfl
@[simp high] theorem stripA_vs:stripA (zDb l)=zDb l:=by cases l<;>rfl
@[simp high] theorem cellsOf_vs:cellsOf (zDb l)=[zDb l]:=by cases l<;>rfl
@[simp high] theorem avoids_vs(dead:List Nat):zRc dead (zDb l)=true:=by cases l<;>rfl
@[simp high] theorem below_vs(n:Nat):zx n (zDb l)=true:=by
 induction l with
 |nil=>rfl
 |cons v r ih=>rw[zAc];simp[ih]
@[simp] theorem vs_ne_nil(ks:List Nat):zga 3 ks .neq (zDb l) .nilp=some (.bool (!decide (l=[]))):=by cases l<;>simp[zAc]
end
def zIa(s:List Vr)(nm:List UInt8):List Vr:=s.dropWhile fun v=>decide (¬v.name=nm)
theorem zpb(v:Vr)(r:List Vr)(nm:List UInt8):zIa (v::r) nm=if v.name=nm then v::r else zIa r nm:=by
 unfold zIa;by_cases h:v.name=nm<;>simp[h]
theorem find_spec(s:List Vr)(nm:List UInt8)(σ:zc):zi E 170 [zDb s,.str nm] σ=some (.ret (zDb (zIa s nm)),σ):=by
 refine zd rfl rfl rfl (by simp) ?_;simp[F170];refine zha K170_0 B170_0 (fun c:List Vr=>c.length) (fun c=>[(0,zDb c)]) (fun c=>[]) (fun c=>σ) (fun c=>zIa c nm=zIa s nm) s (by simp) ?_
 rintro c s1 hc h1 h2 h3 h4 h5
 simp at h1 h3 h5;clear h2 h4;cases c with
 |nil=>
  rw[<-hc];simp at h3;clear hc;simp[*,zIa]
 |cons v r=>
  rw[zAc]at h3;rw[zpb]at hc;by_cases hn:v.name=nm
  ·rw[if_pos hn]at hc;rw[<-hc,zAc];replace hn:=eqp hn;clear hc
   (simp[*])<;>(repeat' (first|((first|refine sP _ ?_ ?_|refine gP _ ?_ ?_|refine sN _ ?_ ?_|refine gN _ ?_ ?_)<;>intro hc<;>(first|replace hc:=eqn hc|replace hc:=eqp hc)<;>simp[*])|((first|refine sM _ ?_ ?_|refine gM _ ?_ ?_|refine sB _ ?_ ?_|refine gB _ ?_ ?_)<;>intro hc<;>simp[*])))
  ·rw[if_neg hn]at hc;replace hn:=eqn hn;simp[*];exact⟨r,by simp,rfl,hc⟩
theorem with_spec(s:List Vr)(p:Par)(d:Int)(σ:zc):zi E 111 [zDb s,encPar p,.int .i64 d] σ=some (.ret (zDb (⟨p.name,p.type,d⟩::s)),σ):=by
 refine zd rfl rfl rfl (by simp[encPar]) ?_;simp[F111,encPar,zAc]
def zX(l:List Par):List Vr:=l.foldl (fun s p=>⟨p.name,p.type,0⟩::s) []
theorem zne(l:List Par)(p:Par):zX (l++[p])=⟨p.name,p.type,0⟩::zX l:=by simp[zX]
theorem scoped_spec(l:List Par)(σ:zc)(hl:l.length<1099511627776):zi E 85 [parsV l] σ=some (.ret (zDb (zX l)),σ):=by
 refine zd rfl rfl rfl (by simp[parsV]) ?_;simp[F85,parsV];refine zG l K85_0 B85_0 (fun d=>[(2,zDb (zX d)),(7,.int .i64 d.length)]) (fun _=>σ) (fun d=>True) (by omega) (by simp[zX]) ?_ ?_
 ·intros d x r s1 hl' hlt hget hget' hw hp h1 h2 h3 h4;simp at h1 h2 h3;have hwi:=with_spec (zX d) x 0 σ;simp[encPar]at hwi;simp[*,encPar,zne]
 ·intros s1 hp h1 h2 h3 h4;simp at h1 h2 h3;simp[*]
theorem zPe(ok:Bool)(e:Int)(σ:zc):zi E 142 [.bool ok,.int .i64 e] σ=some (.ret (.int .i64 (if ok then 0 else e)),σ):=by
 refine zd rfl rfl rfl (by simp) ?_
 (simp[*,F142])<;>(repeat' ((first|refine sP _ ?_ ?_|refine gP _ ?_ ?_|refine sN _ ?_ ?_|refine gN _ ?_ ?_|refine sM _ ?_ ?_|refine gM _ ?_ ?_|refine sB _ ?_ ?_|refine gB _ ?_ ?_)<;>intro hc<;>simp[*,F142]))
def takesT(op t:Int):Int×Bool:=
 if op=18\/op=19\/op=22 then(2,decide (t=2))
 else if op=16\/op=17 then(2,true)
 else if op=12\/op=13\/op=14\/op=15 then(2,decide (t=1))
 else(1,decide (t=1))
set_option maxHeartbeats 1000000 in
theorem takes_spec(op t:Int)(σ:zc):zi E 188 [.int .i64 op,.int .i64 t] σ=some (.ret (.tup [.int .i64 (takesT op t).1,.bool (takesT op t).2]),σ):=by
 refine zd rfl rfl rfl (by simp) ?_;unfold takesT
 (simp[*,F188])<;>(repeat' (first|((first|refine sP _ ?_ ?_|refine gP _ ?_ ?_|refine sN _ ?_ ?_|refine gN _ ?_ ?_)<;>intro hc<;>(first|replace hc:=eqn hc|replace hc:=eqp hc)<;>simp[*,F188])|((first|refine sM _ ?_ ?_|refine gM _ ?_ ?_|refine sB _ ?_ ?_|refine gB _ ?_ ?_)<;>intro hc<;>simp[*,F188])))
theorem znc{α:Type}(p:α->Bool)(l:List α):(idx p l= -1/\l.find? p=none)\/∃(n:Nat) (f:α),idx p l=n/\l[n]? =some f/\l.find? p=some f/\n<l.length/\p f=true:=by
 induction l with
 |nil=>left;exact⟨rfl,rfl⟩
 |cons x r ih=>
  cases hx:p x
  ·rcases ih with⟨h1,h2⟩|⟨n,f,h1,h2,h3,h4,h5⟩
   ·left;refine⟨?_,by simp[hx,h2]⟩;refine zue fun y hy=>?_
    rcases yw.1 hy with rfl|hy
    ·exact hx
    ·have:=yma.1 h2 y hy;simpa using this
   ·right;refine⟨n+1,f,?_,by simpa using h2,by simp[hx,h3],by simp;omega,h5⟩;have:(x::r).findIdx? p=(r.findIdx? p).map (· +1):=by simp[List.findIdx?_cons,hx]
    unfold idx at h1 ⊢;rw[this];cases h:r.findIdx? p with
    |none=>rw[h]at h1;simp at h1<;>omega
    |some i=>rw[h]at h1;simp at h1 ⊢ <;>omega
  ·right;refine⟨0,x,?_,rfl,by simp[hx],by simp,hx⟩;unfold idx;simp[List.findIdx?_cons,hx]
def zBa(p:Prog)(nm:List UInt8):Int:=idx (fun f:Func=>decide (f.name=nm)) p.funcs
def zYa(p:Prog)(nm:List UInt8):Int:=idx (fun f:PArr=>decide (f.name=nm)) p.arrays
theorem place_spec(p:Prog)(nm:List UInt8)(σ:zc)(hl:p.funcs.length<1099511627776):zi E 109 [zf p,.str nm] σ=some (.ret (.int .i64 (zBa p nm)),σ):=by
 refine zd rfl rfl rfl (by simp[zf]) ?_;have hcl:∀x∈p.funcs,zi E 139 ([]++[zl x]++[.iptr [.str nm] 0]) σ=some (.ret (.bool (decide (x.name=nm))),σ):=by
  intro x hx;refine zd rfl rfl rfl (by simp[zl]) ?_;simp[F139,zl]
 have h:=indexFuncFunc p.funcs _ 139 [] [.iptr [.str nm] 0] σ hl hcl;clear hcl;simp[*,F109,zf,zia,funcs,zBa]
theorem array_spec(p:Prog)(nm:List UInt8)(σ:zc)(hl:p.arrays.length<1099511627776):zi E 171 [zf p,.str nm] σ=some (.ret (.int .i64 (zYa p nm)),σ):=by
 refine zd rfl rfl rfl (by simp[zf]) ?_;have hcl:∀x∈p.arrays,zi E 191 ([]++[zK x]++[.iptr [.str nm] 0]) σ=some (.ret (.bool (decide (x.name=nm))),σ):=by
  intro x hx;refine zd rfl rfl rfl (by simp[zK]) ?_;simp[F191,zK]
 have h:=indexFuncPArr p.arrays _ 191 [] [.iptr [.str nm] 0] σ hl hcl;clear hcl;simp[*,F171,zf,zia,funcs,zYa]
def zKa(p:Prog)(nm:List UInt8):Option Func:=p.funcs.find? fun f:Func=>decide (f.name=nm)
def znb(p:Prog)(nm:List UInt8):Bool:=p.arrays.any fun a:PArr=>decide (a.name=nm)
def zwb(p:Prog)(s:List Vr)(k:Int)(nm:List UInt8)(a:Nat):Int:=
 if k=3 then(if zIa s nm=[]then 50 else 0)
 else if k=6 then(if znb p nm then 0 else 50)
 else if k=7 then(match zKa p nm with
  |none=>50
  |some f=>if f.params.length=a then 0 else 51)
 else 0
structure Fit(p:Prog):Prop where
 a:p.arrays.length<1099509000000
 f:p.funcs.length<1099509000000
 p:∀f∈p.funcs,f.params.length<1099509000000
theorem namedT_spec(p:Prog)(s:List Vr)(e:Expr)(σ:zc)(hz:Fit p)(hw:wtE e<1099510000000):zi E 167 [zf p,zDb s,zn e] σ=some (.ret (.int .i64 (zwb p s e.kind e.name e.args.length)),σ):=by
 have hla:=zXb e.args;rw[zvd]at hw;refine zd rfl rfl rfl (by simp[zf,za]) ?_;unfold zwb;by_cases k3:e.kind=3
 ·replace k3:=eqp k3;have h1:=find_spec s e.name σ;have h2:=zPe (!decide (zIa s e.name=[])) 50 [];by_cases hn:zIa s e.name=[]
  ·replace hn:=eqp hn;simp[hn]at h2
   (simp[*,F167,zf,za])<;>(repeat' (first|((first|refine sP _ ?_ ?_|refine gP _ ?_ ?_|refine sN _ ?_ ?_|refine gN _ ?_ ?_)<;>intro hc<;>(first|replace hc:=eqn hc|replace hc:=eqp hc)<;>simp[*,F167,zf,za])|((first|refine sM _ ?_ ?_|refine gM _ ?_ ?_|refine sB _ ?_ ?_|refine gB _ ?_ ?_)<;>intro hc<;>simp[*,F167,zf,za])))
  ·replace hn:=eqn hn;simp[hn]at h2
   (simp[*,F167,zf,za])<;>(repeat' (first|((first|refine sP _ ?_ ?_|refine gP _ ?_ ?_|refine sN _ ?_ ?_|refine gN _ ?_ ?_)<;>intro hc<;>(first|replace hc:=eqn hc|replace hc:=eqp hc)<;>simp[*,F167,zf,za])|((first|refine sM _ ?_ ?_|refine gM _ ?_ ?_|refine sB _ ?_ ?_|refine gB _ ?_ ?_)<;>intro hc<;>simp[*,F167,zf,za])))
 replace k3:=eqn k3;by_cases k6:e.kind=6
 ·replace k6:=eqp k6;have h1:=array_spec p e.name [] (by have:=hz.a;omega);have h3:=idx_ge (fun f:PArr=>decide (f.name=e.name)) p.arrays;have h2:=zPe (znb p e.name) 50 [];have h4:decide (0<=zYa p e.name)=znb p e.name:=h3;simp[zf]at h1;generalize znb p e.name=b at*;clear h3;cases b
  ·simp at h2 h4;replace h4:(0<=zYa p e.name)=False:=by simpa using h4
   (simp[*,F167,zf,za])<;>(repeat' (first|((first|refine sP _ ?_ ?_|refine gP _ ?_ ?_|refine sN _ ?_ ?_|refine gN _ ?_ ?_)<;>intro hc<;>(first|replace hc:=eqn hc|replace hc:=eqp hc)<;>simp[*,F167,zf,za])|((first|refine sM _ ?_ ?_|refine gM _ ?_ ?_|refine sB _ ?_ ?_|refine gB _ ?_ ?_)<;>intro hc<;>simp[*,F167,zf,za])))
  ·simp at h2 h4;replace h4:(0<=zYa p e.name)=True:=by simpa using h4
   (simp[*,F167,zf,za])<;>(repeat' (first|((first|refine sP _ ?_ ?_|refine gP _ ?_ ?_|refine sN _ ?_ ?_|refine gN _ ?_ ?_)<;>intro hc<;>(first|replace hc:=eqn hc|replace hc:=eqp hc)<;>simp[*,F167,zf,za])|((first|refine sM _ ?_ ?_|refine gM _ ?_ ?_|refine sB _ ?_ ?_|refine gB _ ?_ ?_)<;>intro hc<;>simp[*,F167,zf,za])))
 replace k6:=eqn k6;by_cases k7:e.kind=7
 ·replace k7:=eqp k7;have h1:=place_spec p e.name [] (by have:=hz.f;omega);simp[zf,funcs]at h1;rcases znc (fun f:Func=>decide (f.name=e.name)) p.funcs with⟨a1,a2⟩|⟨n,f,a1,a2,a3,a4,a5⟩
  ·have a1:zBa p e.name= -1:=a1;have a2:zKa p e.name=none:=a2;rw[a1]at h1
   (simp[*,F167,zf,za,funcs])<;>(repeat' (first|((first|refine sP _ ?_ ?_|refine gP _ ?_ ?_|refine sN _ ?_ ?_|refine gN _ ?_ ?_)<;>intro hc<;>(first|replace hc:=eqn hc|replace hc:=eqp hc)<;>simp[*,F167,zf,za,funcs])|((first|refine sM _ ?_ ?_|refine gM _ ?_ ?_|refine sB _ ?_ ?_|refine gB _ ?_ ?_)<;>intro hc<;>simp[*,F167,zf,za,funcs])))
  ·have a1:zBa p e.name=n:=a1;have a3:zKa p e.name=some f:=a3;rw[a1]at h1;have hp:=hz.p f (yga a2);have hf:=hz.f;have n0:¬((n:Int)<0):=by omega
   have hlen:decide ((f.params.length:Int)=e.args.length)=decide (f.params.length=e.args.length):=by rw[decide_eq_decide];omega
   have h2:=zPe (decide (f.params.length=e.args.length)) 51 [];by_cases hq:f.params.length=e.args.length
   ·replace hq:=eqp hq;simp[hq]at h2 hlen;replace hlen:=eqp hlen;clear a5 a4 a1
    (simp[*,F167,zf,za,funcs,ze,zl,parsV])<;>(repeat' (first|((first|refine sP _ ?_ ?_|refine gP _ ?_ ?_|refine sN _ ?_ ?_|refine gN _ ?_ ?_)<;>intro hc<;>(first|replace hc:=eqn hc|replace hc:=eqp hc)<;>simp[*,F167,zf,za,funcs,ze,zl,parsV])|((first|refine sM _ ?_ ?_|refine gM _ ?_ ?_|refine sB _ ?_ ?_|refine gB _ ?_ ?_)<;>intro hc<;>simp[*,F167,zf,za,funcs,ze,zl,parsV])))
   ·replace hq:=eqn hq;simp[hq]at h2 hlen;replace hlen:((f.params.length:Int)=e.args.length)=False:=by simpa using hlen
    clear a5 a4 a1
    (simp[*,F167,zf,za,funcs,ze,zl,parsV])<;>(repeat' (first|((first|refine sP _ ?_ ?_|refine gP _ ?_ ?_|refine sN _ ?_ ?_|refine gN _ ?_ ?_)<;>intro hc<;>(first|replace hc:=eqn hc|replace hc:=eqp hc)<;>simp[*,F167,zf,za,funcs,ze,zl,parsV])|((first|refine sM _ ?_ ?_|refine gM _ ?_ ?_|refine sB _ ?_ ?_|refine gB _ ?_ ?_)<;>intro hc<;>simp[*,F167,zf,za,funcs,ze,zl,parsV])))
 replace k7:=eqn k7
 (simp[*,F167,zf,za])<;>(repeat' (first|((first|refine sP _ ?_ ?_|refine gP _ ?_ ?_|refine sN _ ?_ ?_|refine gN _ ?_ ?_)<;>intro hc<;>(first|replace hc:=eqn hc|replace hc:=eqp hc)<;>simp[*,F167,zf,za])|((first|refine sM _ ?_ ?_|refine gM _ ?_ ?_|refine sB _ ?_ ?_|refine gB _ ?_ ?_)<;>intro hc<;>simp[*,F167,zf,za])))
theorem param_eq_spec(t:Int)(p:Par)(σ:zc):zi E 190 [.int .i64 t,encPar p] σ=some (.ret (.bool (decide (t=p.type))),σ):=by
 refine zd rfl rfl rfl (by simp[encPar]) ?_;simp[F190,encPar]
theorem types_eq{l:List Int}{ps:List Par}(h:l.length=ps.length):decide (l=ps.map (·.type))=(l.zip ps).all fun x=>decide (x.1=x.2.type):=by
 induction l generalizing ps with
 |nil=>cases ps<;>simp at h ⊢
 |cons x r ih=>
  cases ps with
  |nil=>simp at h
  |cons y q=>
   simp at h;simp only[List.zip_cons_cons,yea,<-ih h,yp,List.cons.injEq,Bool.decide_and]
theorem equal_spec(l:List Int)(ps:List Par)(σ:zc)(hl:ps.length<1099511000000):zi E 189 [.slice .plain 1 (l.map (PV.int .i64)),parsV ps,.fn 190 [] []] σ=some (.ret (.bool (decide (l=ps.map (·.type)))),σ):=by
 refine zd rfl rfl rfl (by simp[parsV]) ?_;by_cases hlen:l.length=ps.length
 ·have he:=types_eq hlen;rw[he];have hleni:((l.length:Int)=ps.length)=True:=eqp (by omega);simp[F189,parsV,hleni];clear he hleni;refine zG (l.zip ps) K189_0 B189_0 (fun d=>[(17,.int .i64 d.length)]) (fun _=>σ) (fun d=>(d.all fun x=>decide (x.1=x.2.type))=true) (by simp;omega) (by simp) ?_ ?_
  ·intros d x r s1 hl' hlt hget hget' hw hp h1 h2 h3 h4;simp at h1 h2 h3;have hz:(l.zip ps)[d.length]? =some x:=hget;rw[List.getElem?_zip_eq_some]at hz;obtain⟨z1,z2⟩:=hz;obtain⟨x1,x2⟩:=x;simp only at z1 z2;have hc:=param_eq_spec x1 x2 σ;simp[encPar]at hc;have hz2:(l.zip ps).length=l.length:=by simp[hlen]
   have hlt':(d.length:Int)<ps.length:=by rw[hz2]at hlt;omega
   clear hget' hlt hz2;by_cases hx:x1=x2.type
   ·replace hp:((d++[(x1,x2)]).all fun x=>decide (x.1=x.2.type))=true:=by rw[yY,hp];simp[hx]
    replace hx:=eqp hx;clear hl' hget;simp[*,encPar]
    all_goals(try grind)
   ·have hf:((l.zip ps).all fun x=>decide (x.1=x.2.type))=false:=by rw[hl'.eq];simp[hx]
    replace hx:=eqn hx;clear hl' hget hp;simp[*,encPar]
    all_goals(try grind)
  ·intros s1 hp h1 h2 h3 h4;simp at h1 h2 h3;have hz2:(l.zip ps).length=l.length:=by simp[hlen]
   simp[*]
   all_goals(try grind)
 ·have hq:¬(l=ps.map (·.type)):=by intro h;apply hlen;rw[h];simp
  have hleni:((l.length:Int)=ps.length)=False:=eqn (by omega);replace hq:=eqn hq;simp[*,F189,parsV]
def at0(l:List Int):Int:=l[0]?.getD 0
def at1(l:List Int):Int:=l[1]?.getD 0
def zTd(p:Prog)(s:List Vr)(k o:Int)(nm:List UInt8)(l:List Int):Int×Bool:=
 if k=2 then(2,true)
 else if k=3 then(((zIa s nm).head?.map (·.type)).getD 0,true)
 else if k=6 then(1,decide (at0 l=1))
 else if k=4 then takesT o (at0 l)
 else if k=5 then((takesT o (at0 l)).1,(takesT o (at0 l)).2&&decide (at0 l=at1 l))
 else if k=7 then(match zKa p nm with
  |none=>(0,false)
  |some f=>(f.type,decide (l=f.params.map (·.type))))
 else(1,true)
set_option maxHeartbeats 4000000 in
theorem madeT_spec(p:Prog)(s:List Vr)(e:Expr)(l:List Int)(σ:zc)(hz:Fit p)(h0:zwb p s e.kind e.name e.args.length=0)(hk:zud e.kind e.op e.n e.name l.length=true):zi E 169 [zf p,zDb s,zn e,.slice .plain 1 (l.map (PV.int .i64))] σ=some (.ret (.tup [.int .i64 (zTd p s e.kind e.op e.name l).1,.bool (zTd p s e.kind e.op e.name l).2]),σ):=by
 refine zd rfl rfl rfl (by simp[zf,za]) ?_;unfold zTd;by_cases k2:e.kind=2
 ·replace k2:=eqp k2;clear h0 hk
  (simp[*,F169,zf,za])<;>(repeat' (first|((first|refine sP _ ?_ ?_|refine gP _ ?_ ?_|refine sN _ ?_ ?_|refine gN _ ?_ ?_)<;>intro hc<;>(first|replace hc:=eqn hc|replace hc:=eqp hc)<;>simp[*,F169,zf,za])|((first|refine sM _ ?_ ?_|refine gM _ ?_ ?_|refine sB _ ?_ ?_|refine gB _ ?_ ?_)<;>intro hc<;>simp[*,F169,zf,za])))
 by_cases k3:e.kind=3
 ·have h1:=find_spec s e.name σ;have hn:¬zIa s e.name=[]:=by
   intro h;unfold zwb at h0;rw[if_pos k3,if_pos h]at h0;exact absurd h0 (by decide)
  obtain⟨v,r,hv⟩:=List.exists_cons_of_ne_nil hn;rw[hv,zAc]at h1;replace k2:=eqn k2;replace k3:=eqp k3;clear h0 hk hn
  (simp[*,F169,zf,za])<;>(repeat' (first|((first|refine sP _ ?_ ?_|refine gP _ ?_ ?_|refine sN _ ?_ ?_|refine gN _ ?_ ?_)<;>intro hc<;>(first|replace hc:=eqn hc|replace hc:=eqp hc)<;>simp[*,F169,zf,za])|((first|refine sM _ ?_ ?_|refine gM _ ?_ ?_|refine sB _ ?_ ?_|refine gB _ ?_ ?_)<;>intro hc<;>simp[*,F169,zf,za])))
 by_cases k6:e.kind=6
 ·have hl:l.length=1:=by
   unfold zud at hk;simp[k2,k3,k6]at hk;exact hk.2.2
  obtain⟨x,rfl⟩:=yF.1 hl;replace k2:=eqn k2;replace k3:=eqn k3;replace k6:=eqp k6;clear h0 hk hl
  (simp[*,F169,zf,za,at0])<;>(repeat' (first|((first|refine sP _ ?_ ?_|refine gP _ ?_ ?_|refine sN _ ?_ ?_|refine gN _ ?_ ?_)<;>intro hc<;>(first|replace hc:=eqn hc|replace hc:=eqp hc)<;>simp[*,F169,zf,za,at0])|((first|refine sM _ ?_ ?_|refine gM _ ?_ ?_|refine sB _ ?_ ?_|refine gB _ ?_ ?_)<;>intro hc<;>simp[*,F169,zf,za,at0])))
 by_cases k4:e.kind=4
 ·have hl:l.length=1:=by
   unfold zud at hk;simp[k2,k3,k6,k4]at hk;exact hk.2.2.2
  obtain⟨x,rfl⟩:=yF.1 hl;have ht:=takes_spec e.op x [];replace k2:=eqn k2;replace k3:=eqn k3;replace k6:=eqn k6;replace k4:=eqp k4;clear h0 hk hl
  (simp[*,F169,zf,za,at0])<;>(repeat' (first|((first|refine sP _ ?_ ?_|refine gP _ ?_ ?_|refine sN _ ?_ ?_|refine gN _ ?_ ?_)<;>intro hc<;>(first|replace hc:=eqn hc|replace hc:=eqp hc)<;>simp[*,F169,zf,za,at0])|((first|refine sM _ ?_ ?_|refine gM _ ?_ ?_|refine sB _ ?_ ?_|refine gB _ ?_ ?_)<;>intro hc<;>simp[*,F169,zf,za,at0])))
 by_cases k5:e.kind=5
 ·have hl:l.length=2:=by
   unfold zud at hk;simp[k2,k3,k6,k4,k5]at hk;exact hk.2.2.2
  obtain⟨x,y,rfl⟩:∃x y,l=[x,y]:=by
   match l,hl with
   | [x,y],_=>exact⟨x,y,rfl⟩
  have ht:=takes_spec e.op x [];replace k2:=eqn k2;replace k3:=eqn k3;replace k6:=eqn k6;replace k4:=eqn k4;replace k5:=eqp k5;clear h0 hk hl
  (simp[*,F169,zf,za,at0,at1])<;>(repeat' (first|((first|refine sP _ ?_ ?_|refine gP _ ?_ ?_|refine sN _ ?_ ?_|refine gN _ ?_ ?_)<;>intro hc<;>(first|replace hc:=eqn hc|replace hc:=eqp hc)<;>simp[*,F169,zf,za,at0,at1])|((first|refine sM _ ?_ ?_|refine gM _ ?_ ?_|refine sB _ ?_ ?_|refine gB _ ?_ ?_)<;>intro hc<;>simp[*,F169,zf,za,at0,at1])))
 by_cases k7:e.kind=7
 ·have h1:=place_spec p e.name [] (by have:=hz.f;omega);simp[zf,funcs]at h1;rcases znc (fun f:Func=>decide (f.name=e.name)) p.funcs with⟨a1,a2⟩|⟨n,f,a1,a2,a3,a4,a5⟩
  ·have a2:zKa p e.name=none:=a2;unfold zwb at h0;rw[if_neg k3,if_neg k6,if_pos k7,a2]at h0;exact absurd h0 (by simp)
  ·have a1:zBa p e.name=n:=a1;have a3:zKa p e.name=some f:=a3;rw[a1]at h1;have hq:=equal_spec l f.params σ (by have:=hz.p f (yga a2);omega);simp[parsV]at hq;have n0:¬((n:Int)<0):=by omega
   replace k2:=eqn k2;replace k3:=eqn k3;replace k6:=eqn k6;replace k4:=eqn k4;replace k5:=eqn k5;replace k7:=eqp k7;clear h0 hk a5 a4 a1
   (simp[*,F169,zf,za,funcs,zl,parsV,zg])<;>(repeat' (first|((first|refine sP _ ?_ ?_|refine gP _ ?_ ?_|refine sN _ ?_ ?_|refine gN _ ?_ ?_)<;>intro hc<;>(first|replace hc:=eqn hc|replace hc:=eqp hc)<;>simp[*,F169,zf,za,funcs,zl,parsV,zg])|((first|refine sM _ ?_ ?_|refine gM _ ?_ ?_|refine sB _ ?_ ?_|refine gB _ ?_ ?_)<;>intro hc<;>simp[*,F169,zf,za,funcs,zl,parsV,zg])))
 replace k2:=eqn k2;replace k3:=eqn k3;replace k6:=eqn k6;replace k4:=eqn k4;replace k5:=eqn k5;replace k7:=eqn k7;clear h0 hk
 (simp[*,F169,zf,za])<;>(repeat' (first|((first|refine sP _ ?_ ?_|refine gP _ ?_ ?_|refine sN _ ?_ ?_|refine gN _ ?_ ?_)<;>intro hc<;>(first|replace hc:=eqn hc|replace hc:=eqp hc)<;>simp[*,F169,zf,za])|((first|refine sM _ ?_ ?_|refine gM _ ?_ ?_|refine sB _ ?_ ?_|refine gB _ ?_ ?_)<;>intro hc<;>simp[*,F169,zf,za])))
mutual
def zLb(p:Prog)(s:List Vr):Expr->Int×Int
 |⟨k,o,n,nm,a⟩=>
  if zwb p s k nm a.length≠0 then(0,zwb p s k nm a.length)
  else if(zWa p s a).2≠0 then(0,(zWa p s a).2)
  else if(zTd p s k o nm (zWa p s a).1).2 then((zTd p s k o nm (zWa p s a).1).1,0)else(0,51)
def zWa(p:Prog)(s:List Vr):List Expr->List Int×Int
 | []=>([],0)
 |x::r=>if(zLb p s x).2≠0 then([],(zLb p s x).2)else if(zWa p s r).2≠0 then([],(zWa p s r).2)else((zLb p s x).1::(zWa p s r).1,0)
end
theorem exprT_eq(p:Prog)(s:List Vr)(e:Expr):zLb p s e=if zwb p s e.kind e.name e.args.length≠0 then(0,zwb p s e.kind e.name e.args.length)
  else if(zWa p s e.args).2≠0 then(0,(zWa p s e.args).2)
  else if(zTd p s e.kind e.op e.name (zWa p s e.args).1).2 then((zTd p s e.kind e.op e.name (zWa p s e.args).1).1,0)else(0,51):=by
 cases e;rw[zLb]
theorem argsT_len(p:Prog)(s:List Vr):∀l,(zWa p s l).2=0->(zWa p s l).1.length=l.length
 | [],_=>by simp[zWa]
 |x::r,h=>by
  simp only[zWa]at h ⊢;split at h
  ·rename_i h1;exact absurd h h1
  rename_i h1;rw[if_neg h1];split at h
  ·rename_i h2;exact absurd h h2
  rename_i h2;rw[if_neg h2];simp only[yj];rw[argsT_len p s r (by simpa using h2)]
theorem argsT_pre(p:Prog)(s:List Vr)(x:Expr)(r:List Expr):∀d,(zWa p s d).2=0→
  ((zLb p s x).2≠0->zWa p s (d++x::r)=([],(zLb p s x).2))/\((zLb p s x).2=0->zWa p s (d++[x])=((zWa p s d).1++[(zLb p s x).1],0))
 | [],h=>by
  constructor
  ·intro hx;simp[zWa,hx]
  ·intro hx;simp[zWa,hx]
 |y::d,h=>by
  simp only[zWa]at h;split at h
  ·rename_i h1;exact absurd h h1
  rename_i h1;split at h
  ·rename_i h2;exact absurd h h2
  rename_i h2;obtain⟨i1,i2⟩:=argsT_pre p s x r d (by simpa using h2);constructor
  ·intro hx;have:=i1 hx;simp only[yT,zWa];rw[if_neg h1,this];simp[hx]
  ·intro hx;have:=i2 hx;simp only[yT,zWa];rw[if_neg h1,if_neg h2,this,if_neg h1];simp
def zub(r:Int×Int):PV:= .tup [.int .i64 r.1,.int .i64 r.2]
set_option maxHeartbeats 4000000 in
theorem targs_of(p:Prog)(s:List Vr)(e:Expr)(m:Int)(σ:zc)(hz:Fit p)(hw:wtE e<1099510000000)(hm:zyb e.args m=true)
  (IH:∀x∈e.args,∀m,zjb x m=true->zi E 141 [zf p,zDb s,zn x] σ=some (.ret (zub (zLb p s x)),σ)):
  zi E 168 [zf p,zDb s,zn e] σ=some (.ret (.tup [.slice .plain 1 ((zWa p s e.args).1.map (PV.int .i64)),.int .i64 (zWa p s e.args).2]),σ):=by
 have hla:=zXb e.args;rw[zvd]at hw;refine zd rfl rfl rfl (by simp[zf,za]) ?_;simp[F168,zf,za,ze];refine zG e.args K168_0 B168_0 (fun d=>[(6,acc 1 ((zWa p s d).1.map (PV.int .i64))),(15,.int .i64 d.length)]) (fun _=>σ) (fun d=>(zWa p s d).2=0) (by omega) (by simp[zWa]) ?_ ?_
 ·intros d x r s1 hl' hlt hget hget' hw1 hp h1 h2 h3 h4;have hx:zjb x (m-1)=true:=by
   rw[exprsR_all,yq]at hm;have:=hm x hl'.mem;simp at this;exact this.2
  have ih:=IH x hl'.mem _ hx;have hlen:=argsT_len p s d hp;obtain⟨f1,f2⟩:=argsT_pre p s x r d hp;rw[<-hl'.eq]at f1;clear IH hm hx hl';simp[zub,zf]at ih;rw[za]at ih;simp[ze]at ih;simp at h1 h2 h3;have hroom:(d.length+1)*8<=zo:=by simp only[zo];omega
  generalize zLb p s x=q at*;obtain⟨t,f⟩:=q;simp only at ih f1 f2;by_cases hf:f=0
  ·subst hf;have f2:=f2 rfl;clear f1;simp[*,za,ze]
   all_goals(try grind)
  ·have f1:=f1 hf;clear f2;replace hf:=eqn hf;simp[*,za,ze]
 ·intros s1 hp h1 h2 h3 h4;simp at h1 h2 h3;clear IH hm;simp[*]
theorem type_spec':∀w (p:Prog) (s:List Vr) (e:Expr) (m:Int) (σ:zc),Fit p->wtE e<=w->w<1099510000000->zjb e m=true->zi E 141 [zf p,zDb s,zn e] σ=some (.ret (zub (zLb p s e)),σ)
 |0,p,s,e,m,σ,_,h,_,_=>by rw[zvd]at h;omega
 |w+1,p,s,e,m,σ,hz,h,hw,hR=>by
  rw[exprR_eq,yb]at hR;obtain⟨hm,hk⟩:=hR;have ha:=targs_of p s e m σ hz (by omega) hm (fun x hx m' hm'=>type_spec' w p s x m' σ hz (by have:=zAb hx;rw[zvd]at h;omega) (by omega) hm');have hn:=namedT_spec p s e σ hz (by omega);have hmd:=madeT_spec p s e (zWa p s e.args).1 σ hz;have hlen:=argsT_len p s e.args;refine zd rfl rfl rfl (by simp[zf,za]) ?_;rw[exprT_eq];generalize zwb p s e.kind e.name e.args.length=f at*;by_cases hf:f=0
  ·replace hmd:=hmd hf;subst hf;generalize zWa p s e.args=q at*;obtain⟨l,g⟩:=q;simp only at ha hmd hlen ⊢;by_cases hg:g=0
   ·subst hg;rw[<-hlen rfl]at hk;replace hmd:=hmd hk;generalize zTd p s e.kind e.op e.name l=r at*;obtain⟨t,ok⟩:=r;simp only at hmd ⊢;clear hlen hk hm h;rw[za]at ha hn hmd;simp[zf,ze]at ha hn hmd;cases ok<;>simp[*,F141,zf,za,ze,zub]
   ·clear hmd hlen hk hm h;replace hg:=eqn hg;rw[za]at ha hn;simp[zf,ze]at ha hn;simp[*,F141,zf,za,ze,zub]
  ·clear hmd hlen hk hm h ha;replace hf:=eqn hf;rw[za]at hn;simp[zf,ze]at hn;simp[*,F141,zf,za,ze,zub]
theorem type_spec(p:Prog)(s:List Vr)(e:Expr)(m:Int)(σ:zc)(hz:Fit p)(hw:wtE e<1099510000000)(hR:zjb e m=true):zi E 141 [zf p,zDb s,zn e] σ=some (.ret (zub (zLb p s e)),σ):=
 type_spec' (wtE e) p s e m σ hz (yd _) hw hR
def e0:Expr:=⟨0,0,0,[],[]⟩
def arg0(l:List Expr):Expr:=l[0]?.getD e0
def arg1(l:List Expr):Expr:=l[1]?.getD e0
mutual
def ztd:Stmt->Bool
 |⟨k,_,_,_,th,el⟩=>decide (k=6)||(decide (k=4)&&(zoa th||zoa el))
def zoa:List Stmt->Bool
 | []=>false
 |x::r=>ztd x||zoa r
end
theorem leaves1_eq(s:Stmt):ztd s=(decide (s.kind=6)||(decide (s.kind=4)&&(zoa s.thn||zoa s.els))):=by cases s;rw[ztd]
theorem leavesT_any(l:List Stmt):zoa l=l.any ztd:=by
 induction l with
 |nil=>rfl
 |cons x r ih=>rw[zoa,ih];rfl
mutual
def ends1:Stmt->Bool
 |⟨k,_,_,a,th,el⟩=>if k=8 then true else if k=4 then zMb th&&zMb el else if k=5 then(decide ((arg0 a).kind=2)&&decide ((arg0 a).n=1))&& !zoa th else false
def zMb:List Stmt->Bool
 | []=>false
 |x::r=>ends1 x||zMb r
end
theorem ends1_eq(s:Stmt):ends1 s=if s.kind=8 then true else if s.kind=4 then zMb s.thn&&zMb s.els else if s.kind=5 then(decide ((arg0 s.args).kind=2)&&decide ((arg0 s.args).n=1))&& !zoa s.thn else false:=by cases s;rw[ends1]
theorem endsT_any(l:List Stmt):zMb l=l.any ends1:=by
 induction l with
 |nil=>rfl
 |cons x r ih=>rw[zMb,ih];rfl
theorem stmtsR_all(l:List Stmt)(m:Int):zQ l m=l.all fun x=>zPb x m:=by
 induction l with
 |nil=>rfl
 |cons x r ih=>simp[zQ,ih]
theorem zkc{s:Stmt}{m:Int}(h:zPb s m=true):(s.args.length:Int)=(zN s.kind).2.2.1/\(∀x∈s.args,zjb x 100=true)/\zQ s.thn (m-1)=true/\zQ s.els (m-1)=true:=by
 rw[stmtR_eq]at h;simp only[yb]at h;obtain⟨h1,h2,h3,h4,h5,h6⟩:=h;refine⟨?_,?_,h5,h6⟩
 ·unfold headR at h1;simp at h1;exact h1.2.1
 ·unfold zFe at h2;rw[yq]at h2;exact h2
theorem leaves_spec':∀w (l:List Stmt),wtSs l<=w->w<1099508500000->zi E 114 [zg l] []=some (.ret (.bool (zoa l)),[])
 |0,l,h,hw=>by
  have hl:l=[]:=by
   have:=zra l;exact yA (by omega)
  subst hl;refine zd rfl rfl rfl (by simp[zg]) ?_;have hc:=zZa [] (fun _=>true) 145 [] [] [] (by simp) (by simp) (by simp);simp at hc;simp[*,F114,zg,zoa]
 |w+1,l,h,hw=>by
  have hlen:=zra l;refine zd rfl rfl rfl (by simp[zg]) ?_;have hcl:∀x∈l,zi E 145 ([]++[zw x]++[]) []=some (.ret (.bool (ztd x)),[]):=by
   intro x hx;have hwx:=zSc hx;rw[zta]at hwx;have i1:=leaves_spec' w x.thn (by omega) (by omega);have i2:=leaves_spec' w x.els (by omega) (by omega);rw[leaves1_eq];clear hwx hx h hlen;refine zd rfl rfl rfl (by simp[zb]) ?_;simp[zg]at i1 i2;generalize zoa x.thn=b1 at*;generalize zoa x.els=b2 at*;by_cases k6:x.kind=6
   ·replace k6:=eqp k6;simp[*,F145,zb,ze,zg]
   ·replace k6:=eqn k6;by_cases k4:x.kind=4
    ·replace k4:=eqp k4;cases b1<;>simp[*,F145,zb,ze,zg]
    ·replace k4:=eqn k4;simp[*,F145,zb,ze,zg]
  have hc:=zZa l ztd 145 [] [] [] (by omega) (by simp) hcl;rw[<-leavesT_any]at hc;clear hcl h hlen;simp[*,F114,zg]
theorem leaves_spec(l:List Stmt)(h:wtSs l<1099508000000):zi E 114 [zg l] []=some (.ret (.bool (zoa l)),[]):=leaves_spec' (wtSs l) l (yd _) (by omega)
set_option maxHeartbeats 1000000 in
theorem ends_spec':∀w (l:List Stmt) (m:Int),wtSs l<=w->w<1099508000000->zQ l m=true->zi E 86 [zg l] []=some (.ret (.bool (zMb l)),[])
 |0,l,m,h,hw,_=>by
  have hl:l=[]:=by
   have:=zra l;exact yA (by omega)
  subst hl;refine zd rfl rfl rfl (by simp[zg]) ?_;have hc:=zZa [] (fun _=>true) 113 [] [] [] (by simp) (by simp) (by simp);simp at hc;simp[*,F86,zg,zMb]
 |w+1,l,m,h,hw,hR=>by
  have hlen:=zra l;refine zd rfl rfl rfl (by simp[zg]) ?_;have hcl:∀x∈l,zi E 113 ([]++[zw x]++[]) []=some (.ret (.bool (ends1 x)),[]):=by
   intro x hx;have hwx:=zSc hx;rw[zta]at hwx;have hxR:zPb x m=true:=by rw[stmtsR_all,yq]at hR;exact hR x hx
   obtain⟨r1,r2,r3,r4⟩:=zkc hxR;have i1:=ends_spec' w x.thn _ (by omega) (by omega) r3;have i2:=ends_spec' w x.els _ (by omega) (by omega) r4;have i3:=leaves_spec x.thn (by omega);rw[ends1_eq];clear hwx hx h hlen hxR hR r2 r3 r4;refine zd rfl rfl rfl (by simp[zb]) ?_;simp[zg]at i1 i2 i3;generalize zMb x.thn=b1 at*;generalize zMb x.els=b2 at*;generalize zoa x.thn=b3 at*;by_cases k8:x.kind=8
   ·replace k8:=eqp k8;simp[*,F113,zb,ze,zg]
   replace k8:=eqn k8;by_cases k4:x.kind=4
   ·replace k4:=eqp k4;cases b1<;>simp[*,F113,zb,ze,zg]
   replace k4:=eqn k4;by_cases k5:x.kind=5
   ·have hl1:x.args.length=1:=by rw[k5]at r1;simp[zN]at r1;omega
    obtain⟨y,hy⟩:=yF.1 hl1;have hget:x.args[0]? =some y:=by rw[hy];rfl
    have ha0:arg0 x.args=y:=by unfold arg0;rw[hget];rfl
    rw[ha0];clear hy hl1 r1 ha0;replace k5:=eqp k5;by_cases y2:y.kind=2
    ·replace y2:=eqp y2;by_cases y1:y.n=1
     ·replace y1:=eqp y1;simp[*,F113,zb,ze,zg,za]
     ·replace y1:=eqn y1;simp[*,F113,zb,ze,zg,za]
    ·replace y2:=eqn y2;simp[*,F113,zb,ze,zg,za]
   ·replace k5:=eqn k5;clear r1;simp[*,F113,zb,ze,zg]
  have hc:=zZa l ends1 113 [] [] [] (by omega) (by simp) hcl;rw[<-endsT_any]at hc;clear hcl h hlen hR;simp[*,F86,zg]
theorem ends_spec(l:List Stmt)(m:Int)(h:wtSs l<1099508000000)(hR:zQ l m=true):zi E 86 [zg l] []=some (.ret (.bool (zMb l)),[]):=ends_spec' (wtSs l) l m (yd _) h hR
def fob(p:Prog)(res n:Int):Obj:= .arr 4 [.agg [zia p.arrays,funcs p.funcs,.int .i64 res,.int .i64 n]]
def ztc(p:Prog)(s:List Vr)(e:Expr)(t:Int):Int:=if(zLb p s e).2≠0 then(zLb p s e).2 else if(zLb p s e).1=t then 0 else 51
theorem want_spec{p:Prog}{s:List Vr}{e:Expr}{t m:Int}{σ:zc}{k:Nat}{res n:Int}(hk:σ[k]? =some (fob p res n))(hz:Fit p)(hw:wtE e<1099510000000)(hR:zjb e m=true):
  zi E 140 [.ptr k 0 0,zDb s,zn e,.int .i64 t] σ=some (.ret (.int .i64 (ztc p s e t)),σ):=by
 refine zd rfl rfl rfl (by simp[za]) ?_;have h1:=type_spec p s e m σ hz hw hR;unfold ztc;generalize zLb p s e=q at*;obtain⟨ty,f⟩:=q;simp only;clear hR hw hz;rw[za]at h1;simp[zf,ze,zub]at h1;unfold fob at hk;by_cases hf:f=0
 ·subst hf;have h2:=zPe (decide (ty=t)) 51 [];by_cases ht:ty=t
  ·replace ht:=eqp ht;simp[ht]at h2;simp[*,F140,za,ze]
  ·replace ht:=eqn ht;simp[ht]at h2;simp[*,F140,za,ze]
 ·replace hf:=eqn hf;simp[*,F140,za,ze]
def boundT(p:Prog)(s:List Vr)(k t:Int)(nm:List UInt8)(a:List Expr)(d:Int):Int:=
 if k=1 then
  if ztc p s (arg0 a) t≠0 then ztc p s (arg0 a) t
  else match zIa s nm with
   | []=>0
   |v::_=>if v.depth<d then 0 else 50
 else if k=2 then match zIa s nm with
  | []=>50
  |v::_=>ztc p s (arg0 a) v.type
 else if k=3/\znb p nm=false then 50
 else if ztc p s (arg0 a) 1≠0 then ztc p s (arg0 a) 1 else ztc p s (arg1 a) 1
set_option maxHeartbeats 4000000 in
theorem bound_spec{p:Prog}{s:List Vr}{x:Stmt}{d m:Int}{σ:zc}{k:Nat}{res n:Int}(hk:σ[k]? =some (fob p res n))(hz:Fit p)(hw:wtS x<1099509000000)(hR:zPb x m=true)(hb:1<=x.kind/\x.kind<=3):
  zi E 143 [.ptr k 0 0,zw x,zDb s,.int .i64 d] σ=some (.ret (.int .i64 (boundT p s x.kind x.type x.name x.args d)),σ):=by
 refine zd rfl rfl rfl (by simp[zb]) ?_;obtain⟨r1,r2,_,_⟩:=zkc hR;rw[zta]at hw;have hwant:∀y∈x.args,∀t,zi E 140 [.ptr k 0 0,zDb s,zn y,.int .i64 t] σ=some (.ret (.int .i64 (ztc p s y t)),σ):=by
  intro y hy t;have:=zAb hy;exact want_spec hk hz (by omega) (r2 y hy)
 have hf:=find_spec s x.name σ;have hfi:=fun b=>zPe b 50 []
 have hh:=array_spec p x.name [] (by have:=hz.a;omega);have h3:decide (0<=zYa p x.name)=znb p x.name:=idx_ge (fun f:PArr=>decide (f.name=x.name)) p.arrays;have h3':(zYa p x.name<0)=(znb p x.name=false):=by
  rw[<-h3,decide_eq_false_iff_not];apply propext;omega
 clear r2 hR hw hz h3;unfold boundT;unfold fob at hk;simp[zf]at hh;by_cases k1:x.kind=1
 ·have hl1:x.args.length=1:=by rw[k1]at r1;simp[zN]at r1;omega
  obtain⟨y,hy⟩:=yF.1 hl1;have hget:x.args[0]? =some y:=by rw[hy];rfl
  have ha0:arg0 x.args=y:=by unfold arg0;rw[hget];rfl
  rw[ha0];have hw1:=hwant y (by rw[hy];simp) x.type;clear hy hl1 r1 ha0 hwant hb h3' hh;replace k1:=eqp k1;rw[za]at hw1;simp[ze]at hw1;generalize ztc p s y x.type=f at*;by_cases hff:f=0
  ·subst hff;generalize zIa s x.name=vs at*;cases vs with
   |nil=>
    have hfi:=hfi true;simp at hfi hf;simp[*,F143,zb,ze,za]
   |cons v r=>
    rw[zAc]at hf;by_cases hd:v.depth<d
    ·have hfi:=hfi true;replace hd:=eqp hd;simp at hfi;simp[*,F143,zb,ze,za]
    ·have hfi:=hfi false;replace hd:=eqn hd;simp at hfi;simp[*,F143,zb,ze,za]
  ·replace hff:=eqn hff;clear hfi;simp[*,F143,zb,ze,za]
 by_cases k2:x.kind=2
 ·have hl1:x.args.length=1:=by rw[k2]at r1;simp[zN]at r1;omega
  obtain⟨y,hy⟩:=yF.1 hl1;have hget:x.args[0]? =some y:=by rw[hy];rfl
  have ha0:arg0 x.args=y:=by unfold arg0;rw[hget];rfl
  rw[ha0];have hw1:=hwant y (by rw[hy];simp);have k3:(x.kind=3)=False:=eqn (by omega);clear hy hl1 r1 ha0 hwant hb h3' hh hfi;replace k1:=eqn k1;replace k2:=eqp k2;generalize zIa s x.name=vs at*;cases vs with
  |nil=>
   clear hw1;simp at hf;simp[*,F143,zb,ze,za]
  |cons v r=>
   have hw1:=hw1 v.type;rw[za]at hw1;simp[ze]at hw1;rw[zAc]at hf;simp[*,F143,zb,ze,za]
 ·have k3:x.kind=3:=by omega
  have hl2:x.args.length=2:=by rw[k3]at r1;simp[zN]at r1;omega
  obtain⟨y,z,hy⟩:∃y z,x.args=[y,z]:=by
   match h:x.args,hl2 with
   | [y,z],_=>exact⟨y,z,rfl⟩
  have hget:x.args[0]? =some y:=by rw[hy];rfl
  have hget1:x.args[1]? =some z:=by rw[hy];rfl
  have ha0:arg0 x.args=y:=by unfold arg0;rw[hget];rfl
  have ha1:arg1 x.args=z:=by unfold arg1;rw[hget1];rfl
  rw[ha0,ha1];have hw1:=hwant y (by rw[hy];simp) 1;have hw2:=hwant z (by rw[hy];simp) 1;clear hy hl2 r1 ha0 ha1 hwant hb hfi;replace k1:=eqn k1;replace k2:=eqn k2;replace k3:=eqp k3;rw[za]at hw1 hw2;simp[ze]at hw1 hw2;generalize znb p x.name=b at*;cases b
  ·clear hw1 hw2;simp at h3';replace h3':=eqp h3';simp[*,F143,zb,ze,za]
  ·simp at h3';replace h3':(zYa p x.name<0)=False:=eqn (by omega);generalize ztc p s y 1=f at*;by_cases hff:f=0
   ·subst hff;simp[*,F143,zb,ze,za]
   ·replace hff:=eqn hff;simp[*,F143,zb,ze,za]
def stmtT(p:Prog)(res:Int)(s:List Vr)(k t:Int)(nm:List UInt8)(a:List Expr)(d:Int)(loop:Bool):Int:=
 if k=4\/k=5 then ztc p s (arg0 a) 2
 else if k=8 then ztc p s (arg0 a) res
 else if k=9 then ztc p s (arg0 a) 1
 else if k=10 then(zLb p s (arg0 a)).2
 else if k=6\/k=7 then(if loop then 0 else 53)
 else boundT p s k t nm a d
set_option maxHeartbeats 4000000 in
theorem stmtT_spec{p:Prog}{s:List Vr}{x:Stmt}{d m:Int}{loop:Bool}{σ:zc}{k:Nat}{res n:Int}(hk:σ[k]? =some (fob p res n))(hz:Fit p)(hw:wtS x<1099509000000)(hR:zPb x m=true):
  zi E 110 [.ptr k 0 0,zw x,zDb s,.int .i64 d,.bool loop] σ=some (.ret (.int .i64 (stmtT p res s x.kind x.type x.name x.args d loop)),σ):=by
 refine zd rfl rfl rfl (by simp[zb]) ?_;obtain⟨r1,r2,_,_⟩:=zkc hR;have hbound:1<=x.kind/\x.kind<=3->zi E 143 [.ptr k 0 0,zw x,zDb s,.int .i64 d] σ=some (.ret (.int .i64 (boundT p s x.kind x.type x.name x.args d)),σ):=fun h=>bound_spec hk hz hw hR h
 rw[zta]at hw;have hwant:∀y∈x.args,∀t,zi E 140 [.ptr k 0 0,zDb s,zn y,.int .i64 t] σ=some (.ret (.int .i64 (ztc p s y t)),σ):=by
  intro y hy t;have:=zAb hy;exact want_spec hk hz (by omega) (r2 y hy)
 have hexp:∀y∈x.args,zi E 141 [zf p,zDb s,zn y] σ=some (.ret (zub (zLb p s y)),σ):=by
  intro y hy;have:=zAb hy;exact type_spec p s y 100 σ hz (by omega) (r2 y hy)
 have hone:(x.kind=4\/x.kind=5\/x.kind=8\/x.kind=9\/x.kind=10)->∃y,x.args=[y]:=by
  intro h;have:x.args.length=1:=by rcases h with h|h|h|h|h<;>(rw[h]at r1;simp[zN]at r1;omega)
  exact yF.1 this
 have hkind:1<=x.kind/\x.kind<=10:=by
  by_cases h:1<=x.kind/\x.kind<=10
  ·exact h
  ·exfalso;have:(zN x.kind).2.2.1= -1:=by
    unfold zN
    repeat' (first|rw[if_neg (by omega)]|rfl)
   omega
 clear r2 hR hw hz;unfold stmtT;unfold fob at hk;by_cases k4:x.kind=4\/x.kind=5
 ·obtain⟨y,hy⟩:=hone (by rcases k4 with h|h<;>simp[h]);have hget:x.args[0]? =some y:=by rw[hy];rfl
  have ha0:arg0 x.args=y:=by unfold arg0;rw[hget];rfl
  rw[ha0];have hw1:=hwant y (by rw[hy];simp) 2;rw[za]at hw1;simp[ze]at hw1;rw[if_pos k4];clear hy r1 ha0 hwant hexp hone hbound hkind;rcases k4 with k4|k4
  ·replace k4:=eqp k4;simp[*,F110,zb,ze,za]
  ·by_cases k4':x.kind=4
   ·omega
   ·replace k4:=eqp k4;replace k4':=eqn k4';simp[*,F110,zb,ze,za]
 have k5:¬x.kind=5:=fun h=>k4 (yZa h)
 have k4':¬x.kind=4:=fun h=>k4 (yTa h)
 rw[if_neg k4];clear k4;by_cases k8:x.kind=8
 ·obtain⟨y,hy⟩:=hone (by simp[k8]);have hget:x.args[0]? =some y:=by rw[hy];rfl
  have ha0:arg0 x.args=y:=by unfold arg0;rw[hget];rfl
  rw[ha0];have hw1:=hwant y (by rw[hy];simp) res;rw[za]at hw1;simp[ze]at hw1;clear hy r1 ha0 hwant hexp hone hbound hkind;replace k4':=eqn k4';replace k5:=eqn k5;replace k8:=eqp k8;simp[*,F110,zb,ze,za]
 by_cases k9:x.kind=9
 ·obtain⟨y,hy⟩:=hone (by simp[k9]);have hget:x.args[0]? =some y:=by rw[hy];rfl
  have ha0:arg0 x.args=y:=by unfold arg0;rw[hget];rfl
  rw[ha0];have hw1:=hwant y (by rw[hy];simp) 1;rw[za]at hw1;simp[ze]at hw1;clear hy r1 ha0 hwant hexp hone hbound hkind;replace k4':=eqn k4';replace k5:=eqn k5;replace k8:=eqn k8;replace k9:=eqp k9;simp[*,F110,zb,ze,za]
 by_cases k10:x.kind=10
 ·obtain⟨y,hy⟩:=hone (by simp[k10]);have hget:x.args[0]? =some y:=by rw[hy];rfl
  have ha0:arg0 x.args=y:=by unfold arg0;rw[hget];rfl
  rw[ha0];have hw1:=hexp y (by rw[hy];simp);rw[za]at hw1;simp[ze,zf,zub]at hw1;clear hy r1 ha0 hwant hexp hone hbound hkind;replace k4':=eqn k4';replace k5:=eqn k5;replace k8:=eqn k8;replace k9:=eqn k9;replace k10:=eqp k10;simp[*,F110,zb,ze,za]
 by_cases k6:x.kind=6\/x.kind=7
 ·rw[if_neg k8,if_neg k9,if_neg k10,if_pos k6];have hfi:=zPe loop 53 [];clear r1 hwant hexp hone hbound hkind;replace k4':=eqn k4';replace k5:=eqn k5;replace k8:=eqn k8;replace k9:=eqn k9;replace k10:=eqn k10;rcases k6 with k6|k6
  ·replace k6:=eqp k6;simp[*,F110,zb,ze,za]
  ·by_cases k6':x.kind=6
   ·omega
   ·replace k6:=eqp k6;replace k6':=eqn k6';simp[*,F110,zb,ze,za]
 ·rw[if_neg k8,if_neg k9,if_neg k10,if_neg k6];have k7:¬x.kind=7:=fun h=>k6 (yZa h)
  have k6':¬x.kind=6:=fun h=>k6 (yTa h)
  have hb:=hbound (by omega);clear r1 hwant hexp hone hbound hkind k6;replace k4':=eqn k4';replace k5:=eqn k5;replace k8:=eqn k8;replace k9:=eqn k9;replace k10:=eqn k10;replace k7:=eqn k7;replace k6':=eqn k6';rw[zb]at hb;simp[ze,zg]at hb;simp[*,F110,zb,ze,za,zg]
mutual
def zec(p:Prog)(res:Int):Stmt->List Vr->Int->Bool->Int->Int×Int
 |⟨k,t,nm,a,th,el⟩,vs,d,loop,n=>
  if stmtT p res vs k t nm a d loop≠0 then(stmtT p res vs k t nm a d loop,n)
  else
   let q:=zca p res th (if k=1 then⟨nm,t,d⟩::vs else vs) (d+1) (loop||decide (k=5)) (n+1)
   if q.1≠0 then q else zca p res el (if k=1 then⟨nm,t,d⟩::vs else vs) (d+1) loop q.2
def zca(p:Prog)(res:Int):List Stmt->List Vr->Int->Bool->Int->Int×Int
 | [],_,_,_,n=>(0,n)
 |x::r,vs,d,loop,n=>
  let q:=zec p res x vs d loop n
  if q.1≠0 then q else zca p res r (if x.kind=1 then⟨x.name,x.type,d⟩::vs else vs) d loop q.2
end
def zpa(d:Int)(x:Stmt)(vs:List Vr):List Vr:=if x.kind=1 then⟨x.name,x.type,d⟩::vs else vs
theorem zce(p:Prog)(res:Int)(x:Stmt)(vs:List Vr)(d:Int)(loop:Bool)(n:Int):zec p res x vs d loop n=
  if stmtT p res vs x.kind x.type x.name x.args d loop≠0 then(stmtT p res vs x.kind x.type x.name x.args d loop,n)
  else if(zca p res x.thn (zpa d x vs) (d+1) (loop||decide (x.kind=5)) (n+1)).1≠0 then zca p res x.thn (zpa d x vs) (d+1) (loop||decide (x.kind=5)) (n+1)
  else zca p res x.els (zpa d x vs) (d+1) loop (zca p res x.thn (zpa d x vs) (d+1) (loop||decide (x.kind=5)) (n+1)).2:=by
 cases x;rw[zec];rfl
theorem zTb(p:Prog)(res:Int)(x:Stmt)(r:List Stmt)(vs:List Vr)(d:Int)(loop:Bool)(n:Int):zca p res (x::r) vs d loop n=
  if(zec p res x vs d loop n).1≠0 then zec p res x vs d loop n else zca p res r (zpa d x vs) d loop (zec p res x vs d loop n).2:=by
 rw[zca];rfl
def zJa(p:Prog)(res d:Int)(loop:Bool)(l:List Stmt)(vs:List Vr)(n:Int):List Vr×Int:=match l with
 | []=>(vs,n)
 |x::r=>zJa p res d loop r (zpa d x vs) (zec p res x vs d loop n).2
def zpc(p:Prog)(res d:Int)(loop:Bool)(l:List Stmt)(vs:List Vr)(n:Int):Prop:=match l with
 | []=>True
 |x::r=>(zec p res x vs d loop n).1=0/\zpc p res d loop r (zpa d x vs) (zec p res x vs d loop n).2
theorem blockT_go(p:Prog)(res d:Int)(loop:Bool)(r:List Stmt):∀(l:List Stmt) (vs:List Vr) (n:Int),zpc p res d loop l vs n→
  zca p res (l++r) vs d loop n=zca p res r (zJa p res d loop l vs n).1 d loop (zJa p res d loop l vs n).2
 | [],_,_,_=>rfl
 |x::l,vs,n,h=>by
  simp only[zpc]at h;rw[yT,zTb,if_neg (by rw[h.1];simp)];exact blockT_go p res d loop r l _ _ h.2
theorem blockGo_snoc(p:Prog)(res d:Int)(loop:Bool)(x:Stmt):∀(l:List Stmt) (vs:List Vr) (n:Int),
  zJa p res d loop (l++[x]) vs n=(zpa d x (zJa p res d loop l vs n).1,(zec p res x (zJa p res d loop l vs n).1 d loop (zJa p res d loop l vs n).2).2)
 | [],_,_=>rfl
 |y::l,vs,n=>by
  rw[yT,zJa,blockGo_snoc p res d loop x l];rfl
theorem zEe(p:Prog)(res d:Int)(loop:Bool)(x:Stmt):∀(l:List Stmt) (vs:List Vr) (n:Int),zpc p res d loop l vs n->(zec p res x (zJa p res d loop l vs n).1 d loop (zJa p res d loop l vs n).2).1=0->zpc p res d loop (l++[x]) vs n
 | [],_,_,_,h=>⟨h,trivial⟩
 |y::l,vs,n,hf,h=>by
  simp only[zpc]at hf;exact⟨hf.1,zEe p res d loop x l _ _ hf.2 h⟩
mutual
theorem block1_count(p:Prog)(res:Int):∀(x:Stmt) (vs:List Vr) (d:Int) (loop:Bool) (n:Int),n<=(zec p res x vs d loop n).2/\(zec p res x vs d loop n).2<=n+wtS x
 |⟨k,t,nm,a,th,el⟩,vs,d,loop,n=>by
  rw[zce];have h1:=zqd p res th (zpa d ⟨k,t,nm,a,th,el⟩ vs) (d+1) (loop||decide (k=5)) (n+1);have h2:=zqd p res el (zpa d ⟨k,t,nm,a,th,el⟩ vs) (d+1) loop (zca p res th (zpa d ⟨k,t,nm,a,th,el⟩ vs) (d+1) (loop||decide (k=5)) (n+1)).2;rw[zta];simp only;split
  ·simp only;omega
  ·split
   ·omega
   ·omega
theorem zqd(p:Prog)(res:Int):∀(l:List Stmt) (vs:List Vr) (d:Int) (loop:Bool) (n:Int),n<=(zca p res l vs d loop n).2/\(zca p res l vs d loop n).2<=n+wtSs l
 | [],vs,d,loop,n=>by simp[zca,wtSs]
 |x::r,vs,d,loop,n=>by
  rw[zTb];have h1:=block1_count p res x vs d loop n;have h2:=zqd p res r (zpa d x vs) d loop (zec p res x vs d loop n).2;simp only[wtSs];split
  ·omega
  ·omega
end
theorem zsf(p:Prog)(res d:Int)(loop:Bool):∀(l:List Stmt) (vs:List Vr) (n:Int),n<=(zJa p res d loop l vs n).2/\(zJa p res d loop l vs n).2<=n+wtSs l
 | [],vs,n=>by simp[zJa,wtSs]
 |x::r,vs,n=>by
  have h1:=block1_count p res x vs d loop n;have h2:=zsf p res d loop r (zpa d x vs) (zec p res x vs d loop n).2;simp only[wtSs,zJa];omega
set_option maxRecDepth 20000 in
set_option maxHeartbeats 8000000 in
theorem block_spec':∀w (p:Prog) (res:Int) (l:List Stmt) (vs:List Vr) (d m n:Int) (loop:Bool) (σ:zc) (k:Nat),wtSs l<=w->w<1099508000000->Fit p->zQ l m=true->0<=d->d+m<=1000000->0<=m->0<=n->n+wtSs l<4000000000000->σ[k]? =some (fob p res n)→
  zi E 84 [.ptr k 0 0,zg l,zDb vs,.int .i64 d,.bool loop] σ=some (.ret (.int .i64 (zca p res l vs d loop n).1),σ.set k (fob p res (zca p res l vs d loop n).2))
 :=by
 intro w
 induction w with
 |zero=>
  intro p res l vs d m n loop σ k h hw hz hR hd hdm hm hn0 hnw hk;have hl:l=[]:=by
   have:=zra l;exact yA (by omega)
  subst hl;have hset:σ.set k (fob p res n)=σ:=by
   have hlt:=(ya.1 hk)
   obtain⟨h1,h2⟩:=hlt;rw[<-h2,yRa]
  refine zd rfl rfl rfl (by simp[zg]) ?_;simp only[zca,hset];simp[F84,zg];refine zG ([]:List Stmt) K84_0 B84_0 (fun d'=>[(2,zDb vs),(18,.int .i64 d'.length)]) (fun _=>σ) (fun _=>True) (by simp) (by simp) ?_ ?_
  ·intros d' x r s1 hl' hlt;simp at hlt
  ·intros s1 hp h1 h2 h3 h4;simp at h1 h2 h3;simp[*]
 |succ w ih=>
  intro p res l vs d m n loop σ k h hw hz hR hd hdm hm hn0 hnw hk;have hlen:=zra l;have hset:σ.set k (fob p res n)=σ:=by
   have hlt:=(ya.1 hk)
   obtain⟨h1,h2⟩:=hlt;rw[<-h2,yRa]
  have hklt:k<σ.length:=(ya.1 hk).1;have hwd:zC .i64 (d+1)=d+1:=zj (by omega) (by omega);refine zd rfl rfl rfl (by simp[zg]) ?_;simp[F84,zg];refine zG l K84_0 B84_0 (fun q=>[(2,zDb (zJa p res d loop q vs n).1),(18,.int .i64 q.length)]) (fun q=>σ.set k (fob p res (zJa p res d loop q vs n).2)) (fun q=>zpc p res d loop q vs n) (by omega) (by simp[zJa,zpc,hset]) ?_ ?_
  ·intros q x r s1 hl' hlt hget hget' hw1 hp h1 h2 h3 h4;have hT:=blockT_go p res d loop (x::r) q vs n hp;rw[<-hl'.eq,zTb,zce]at hT;have hG:=blockGo_snoc p res d loop x q vs n;have hF:=zEe p res d loop x q vs n hp;rw[zce]at hG hF;have hxR:zPb x m=true:=by rw[stmtsR_all,yq]at hR;exact hR x hl'.mem
   have hm1:1<=m:=by
    by_cases h1:1<=m
    ·exact h1
    ·rw[stmtR_eq]at hxR;unfold headR at hxR;simp at hxR;omega
   have hwx:=zSc hl'.mem;rw[zta]at hwx;obtain⟨r1,r2,r3,r4⟩:=zkc hxR;have hgc:=zsf p res d loop q vs n;have hws:wtSs l=wtSs q+(1+wtS x+wtSs r):=by rw[hl'.eq,zJd];rfl
   rw[zta]at hws;generalize zJa p res d loop q vs n=g at*;obtain⟨v1,n1⟩:=g;simp only at hT hG hF h3 h4 hgc;have hwn:zC .i64 (n1+1)=n1+1:=zj (by omega) (by omega);have hk1:(σ.set k (fob p res n1))[k]? =some (fob p res n1):=by rw[yl hklt]
   have hst:=stmtT_spec (d:=d) (s:=v1) (x:=x) (loop:=loop) hk1 hz (by rw[zta];omega) hxR;have hi1:=ih p res x.thn (zpa d x v1) (d+1) (m-1) (n1+1) (loop||decide (x.kind=5)) (σ.set k (fob p res (n1+1))) k (by omega) (by omega) hz r3 (by omega) (by omega) (by omega) (by omega) (by omega) (by rw[yl hklt]);rw[List.set_set]at hi1;have hc1:=zqd p res x.thn (zpa d x v1) (d+1) (loop||decide (x.kind=5)) (n1+1);generalize hT1:zca p res x.thn (zpa d x v1) (d+1) (loop||decide (x.kind=5)) (n1+1)=t1 at*;obtain⟨f1,n2⟩:=t1;simp only at hc1;have hi2:=ih p res x.els (zpa d x v1) (d+1) (m-1) n2 loop (σ.set k (fob p res n2)) k (by omega) (by omega) hz r4 (by omega) (by omega) (by omega) (by omega) (by omega) (by rw[yl hklt]);rw[List.set_set]at hi2;simp only at hT hG hF hi1;generalize hT2:zca p res x.els (zpa d x v1) (d+1) loop n2=t2 at*;obtain⟨f2,n3⟩:=t2;simp only at hT hG hF hi2;generalize stmtT p res v1 x.kind x.type x.name x.args d loop=f0 at*;have hwi:=with_spec v1 ⟨x.name,x.type⟩ d (σ.set k (fob p res (n1+1)));have hb:zpa d x v1=if x.kind=1 then⟨x.name,x.type,d⟩::v1 else v1:=rfl
   clear ih hT1 hT2 r1 r2 r3 r4 hws hgc hc1 hnw hn0 hwx hxR hl' hR h hlen hset;rw[zb]at hst;simp[ze,zg,encPar]at hst hi1 hi2 hwi;simp[ze,zg]at h1 h2 h3 h4;unfold fob at*;by_cases hf0:f0=0
   case neg=>
    simp[hf0]at hT;rw[hT];clear hT hG hF hi1 hi2 hwi hb hp;replace hf0:=eqn hf0;simp[*,zb,ze,zg]
   subst hf0;by_cases hk1:x.kind=1
   ·have hk5:¬x.kind=5:=by omega
    rw[if_pos hk1]at hb;replace hk1:=eqp hk1;replace hk5:=eqn hk5;rw[hb]at hi1 hi2 hG;clear hb;simp only[hk5,decide_false,Bool.or_false]at hi1;by_cases hf1:f1=0
    case neg=>
     simp[hf1]at hT;rw[hT];clear hT hG hF hi2 hp;replace hf1:=eqn hf1;cases loop<;>simp[*,zb,ze,zg]
    subst hf1;by_cases hf2:f2=0
    case neg=>
     simp[hf2]at hT;rw[hT];clear hT hG hF hp;replace hf2:=eqn hf2;cases loop<;>simp[*,zb,ze,zg]
    subst hf2;simp at hG hF;clear hT hp;cases loop<;>simp[*,zb,ze,zg]
   ·rw[if_neg hk1]at hb;replace hk1:=eqn hk1;rw[hb]at hi1 hi2 hG;clear hb hwi;by_cases hf1:f1=0
    case neg=>
     simp[hf1]at hT;rw[hT];clear hT hG hF hi2 hp;replace hf1:=eqn hf1;cases loop<;>simp at hi1<;>simp[*,zb,ze,zg]
    subst hf1;by_cases hf2:f2=0
    case neg=>
     simp[hf2]at hT;rw[hT];clear hT hG hF hp;replace hf2:=eqn hf2;cases loop<;>simp at hi1<;>simp[*,zb,ze,zg]
    subst hf2;simp at hG hF;clear hT hp;cases loop<;>simp at hi1<;>simp[*,zb,ze,zg]
  ·intros s1 hp h1 h2 h3 h4;clear ih;have hT:=blockT_go p res d loop [] l vs n hp;rw[List.append_nil,zca]at hT;rw[hT];simp at h1 h2 h3 h4;clear hT hp hR;simp[*]
def skOf:List PV->SK
 | []=> .fit
 |_=> .plain
theorem zjc(sz:Nat)(l:List PV):strip (acc sz l)= .slice (skOf l) sz l:=by cases l<;>rfl
def sq1:ICode->ICode
 | .seq a _=>a
 |c=>c
def sq2:ICode->ICode
 | .seq _ b=>b
 |c=>c
theorem zVc(p:Prog)(nm:List UInt8)(hl:p.funcs.length<1099511627776):zi E 41 [zf p,.str nm] []=some (.ret (.int .i64 (zBa p nm)),[]):=by
 refine zd rfl rfl rfl (by simp[zf]) ?_;simp[F41,zf,funcs];refine zG p.funcs K41_0 B41_0 (fun d=>[(5,.int .i64 d.length)]) (fun _=>[]) (fun d=>∀y∈d,decide (y.name=nm)=false) (by omega) (by simp) ?_ ?_
 ·intros d x r s1 hl' hlt hget hget' hw hp h1 h2 h3 h4;simp at h1 h2 h3;by_cases hx:x.name=nm
  ·have hh:zBa p nm=d.length:=idx_hit hl' hp (decide_eq_true hx);rw[hh];replace hx:=eqp hx;clear hp hh hl';simp[*,zl]
  ·have hnx:∀y∈d++[x],¬y.name=nm:=by
    intro y hy;rcases yx.1 hy with h|h
    ·exact of_decide_eq_false (hp y h)
    ·rw[yL.1 h];exact hx
   replace hx:=eqn hx;clear hp hl';simp[*,zl]
   all_goals(try grind)
 ·intros s1 hp h1 h2 h3 h4;have hh:zBa p nm= -1:=zue hp;rw[hh];simp at h1 h2 h3;clear hp hh;simp[*]
theorem zYc(p:Prog)(nm:List UInt8)(hl:p.arrays.length<1099511627776):zi E 98 [zf p,.str nm] []=some (.ret (.int .i64 (zYa p nm)),[]):=by
 refine zd rfl rfl rfl (by simp[zf]) ?_;simp[F98,zf,zia];refine zG p.arrays K98_0 B98_0 (fun d=>[(5,.int .i64 d.length)]) (fun _=>[]) (fun d=>∀y∈d,decide (y.name=nm)=false) (by omega) (by simp) ?_ ?_
 ·intros d x r s1 hl' hlt hget hget' hw hp h1 h2 h3 h4;simp at h1 h2 h3;by_cases hx:x.name=nm
  ·have hh:zYa p nm=d.length:=idx_hit hl' hp (decide_eq_true hx);rw[hh];replace hx:=eqp hx;clear hp hh hl';simp[*,zK]
  ·have hnx:∀y∈d++[x],¬y.name=nm:=by
    intro y hy;rcases yx.1 hy with h|h
    ·exact of_decide_eq_false (hp y h)
    ·rw[yL.1 h];exact hx
   replace hx:=eqn hx;clear hp hl';simp[*,zK]
   all_goals(try grind)
 ·intros s1 hp h1 h2 h3 h4;have hh:zYa p nm= -1:=zue hp;rw[hh];simp at h1 h2 h3;clear hp hh;simp[*]
def operR(op:Int):Int×Int:=
 if op=18\/op=19\/op=22 then(2,2)
 else if op=16\/op=17 then(0,2)
 else if 12<=op/\op<=15 then(1,2)
 else(1,1)
theorem oper_spec(op:Int):zi E 155 [.int .i64 op] []=some (.ret (.tup [.int .i64 (operR op).1,.int .i64 (operR op).2]),[]):=by
 refine zd rfl rfl rfl (by simp) ?_;unfold operR
 (simp[*,F155])<;>(repeat' (first|((first|refine sP _ ?_ ?_|refine gP _ ?_ ?_|refine sN _ ?_ ?_|refine gN _ ?_ ?_)<;>intro hc<;>(first|replace hc:=eqn hc|replace hc:=eqp hc)<;>simp[*,F155])|((first|refine sM _ ?_ ?_|refine gM _ ?_ ?_|refine sB _ ?_ ?_|refine gB _ ?_ ?_)<;>intro hc<;>simp[*,F155])))
 all_goals(try grind)
def parOf(v:Vr):Par:=⟨v.name,v.type⟩
def zxa(s:List Vr):List Par:=(s.map parOf).reverse
theorem zHb(s:List Vr):(zxa s).length=s.length:=by simp[zxa]
theorem zLd(v:Vr)(s:List Vr):zxa (v::s)=zxa s++[parOf v]:=by simp[zxa]
theorem varsOf_append(a b:List Vr):zxa (a++b)=zxa b++zxa a:=by simp[zxa]
theorem varsOf_get(d:List Vr)(v:Vr)(r:List Vr):(zxa (d++v::r))[r.length]? =some (parOf v):=by
 rw[varsOf_append,zLd,yR,yh (by rw[zHb];omega),zHb];simp
def typeV(s:List Vr)(nm:List UInt8):Int:=((zIa s nm).head?.map (·.type)).getD 0
structure FV where
 d:List Vr
 c:List Vr
theorem rfind_spec(s:List Vr)(nm:List UInt8)(hl:s.length<1099511627776):zi E 73 [parsV (zxa s),.str nm] []=some (.ret (.tup [.int .i64 (typeV s nm),.bool (!decide (zIa s nm=[]))]),[]):=by
 refine zd rfl rfl rfl (by simp[parsV]) ?_;have hvl:=zHb s;have hw0:zC .i64 ((s.length:Int)-1)=(s.length:Int)-1:=zj (by omega) (by omega);simp[F73,parsV,hvl,hw0];refine zha K73_0 B73_0 (fun c:FV=>c.c.length) (fun c=>[(6,.int .i64 ((c.c.length:Int)-1))]) (fun c=>[]) (fun c=>[]) (fun c=>zIa c.c nm=zIa s nm/\s=c.d++c.c) ⟨[],s⟩ (by simp) ?_
 rintro⟨d,c⟩ s1 ⟨hc,hs⟩ h1 h2 h3 h4 h5
 simp at h1 h3 h5 hc hs;clear h2 h4;unfold typeV;rw[<-hc];cases c with
 |nil=>
  simp at h3;clear hc hs;simp[*,zIa]
 |cons v r=>
  have hg:=varsOf_get d v r;rw[<-hs]at hg;have hlen:r.length+d.length<1099511627776:=by
   have:=congrArg yV hs;simp at this;omega
  have e1:(((v::r).length:Int)-1)=r.length:=by simp
  rw[e1]at h3;have hw:zC .i64 ((r.length:Int)-1)=(r.length:Int)-1:=zj (by omega) (by omega);rw[zpb]at hc ⊢;by_cases hn:v.name=nm
  ·rw[if_pos hn];replace hn:=eqp hn;clear hc hs hvl hlen e1;simp[*,encPar,parOf]
  ·rw[if_neg hn]at hc ⊢;replace hn:=eqn hn;have hk:∃d',s=d'++r:=⟨d++[v],by rw[hs];simp⟩
   obtain⟨d',hd'⟩:=hk;clear hs hvl hlen e1;simp[*,encPar,parOf,-hd'];exact⟨⟨d',r⟩,by simp,rfl,hc,hd'⟩
end PE.U
