/-
  Texts joined by program: AKD0, AKP1, AKD1, AKP2, AKP3, AKP4, AKP5, AKP6, AKP7, AKP8, AKP9, AKP10, AKP11, AKP12, AKP13, AKP14, AKP15, AKP16, AKP17, AKM1, AKM2, AKM3, AKN1, AKN2a, AKN2, AKN3, AKT1, AKT0r, AKP18, AKP19, AKP20, AKT2, AKT3, AKT4, AKT5, AKT6, AKT7, AKT8, AKT9.
-/
import Derived.Test.YthfognkjnkadeaaGreatDoorB03
import Derived.Lib.ItoaNum
set_option linter.unusedVariables false
set_option linter.unusedSectionVars false
set_option linter.unusedSimpArgs false
open Bool renaming and_eq_true→yb,false_or→yL,not_eq_true'→yJ,or_eq_false_iff→yBa,or_eq_true→yP,true_and→yma
open Eq renaming trans→yd
open List renaming all_append→yX,all_cons→yta,all_eq_true→yu,append_assoc→yO,cons_append→yU,eq_nil_of_length_eq_zero→yz,find?_append→yXa,find?_cons→yfb,find?_eq_none→yba,findIdx?_eq_none_iff→ybb,getElem?_append_left→yh,getElem?_append_right→yg,getElem?_eq_none→yZ,getElem?_eq_some_iff→ya,getElem?_map→yo,getElem?_set_ne→yl,getElem?_set_self→ym,length_append→yi,length_cons→yj,length_drop→yva,length_eq_one_iff→yN,length_map→yr,length_nil→yn,length_pos_iff→yha,length_singleton→yH,map_append→yca,map_cons→yv,map_nil→yxa,mem_append→yx,mem_cons→yB,mem_of_getElem?→yR,mem_singleton→yI,not_all_eq_any_not→yTa,range→yD,reverse_cons→yGa,set_append_right→yda,set_getElem_self→yMa,set_set→yWa,takeWhile_cons→ywa,takeWhile_prefix→yLa,take_add_one→yPa,take_of_length_le→yy
open Nat renaming le_refl→ye,lt_or_ge→yA,lt_succ_self→yY,mod_lt→yna,pow_succ→yhb,strongRecOn→yia
open Option renaming isSome_iff_exists→yQ
open Or renaming inl→yOa,inr→yUa
open UInt8 renaming ofNat→yw,toNat_inj→yJa
namespace PE.U
open Go PE
def digF:Nat->Nat->List UInt8
 |0,_=>[]
 |k+1,n=>if n<10 then[yw (48+n)]else digF k (n/10)++[yw (48+n%10)]
def zR(n:Nat):List UInt8:=digF 20 n
theorem zZd:∀k n,(digF k n).length<=k
 |0,_=>ye _
 |k+1,n=>by
  unfold digF;split
  ·simp
  ·have:=zZd k (n/10);simp;omega
theorem digF_len2:∀(k j n:Nat),1<=j->n<10^j->(digF k n).length<=j
 |0,j,n,_,_=>by simp[digF]
 |k+1,j,n,hj,h=>by
  unfold digF;split
  ·simpa using hj
  ·rename_i hn;cases j with
   |zero=>omega
   |succ j=>
    cases j with
    |zero=>simp at h;omega
    |succ j=>
     have:=digF_len2 k (j+1) (n/10) (by omega) (by rw[yhb]at h;omega);simp only[yi,yj,yn];omega
theorem dig_byte{a:Nat}(h:a<10):zF (yw (48+a))=true:=by
 have:a=0\/a=1\/a=2\/a=3\/a=4\/a=5\/a=6\/a=7\/a=8\/a=9:=by omega
 rcases this with rfl|rfl|rfl|rfl|rfl|rfl|rfl|rfl|rfl|rfl<;>decide
theorem digF_bytes:∀(k n:Nat),(digF k n).all zF=true
 |0,n=>rfl
 |k+1,n=>by
  unfold digF;split
  ·rename_i h;rw[yta,dig_byte h];rfl
  ·rw[yX,digF_bytes k];rw[yta,dig_byte (yna n (by omega:0<10))];rfl
theorem u8_dig{a b:Nat}(ha:a<10)(hb:b<10)(h:yw (48+a)=yw (48+b)):a=b:=by
 have:=congrArg UInt8.toNat h;simp at this;omega
theorem digF_inj:∀(k a b:Nat),a<10^k->b<10^k->digF k a=digF k b->a=b
 |0,a,b,ha,hb,_=>by simp at ha hb;omega
 |k+1,a,b,ha,hb,h=>by
  have ne:∀n,digF (k+1) n≠ []:=by
   intro n;unfold digF;split<;>simp
  rw[yhb]at ha hb;by_cases h1:a<10<;>by_cases h2:b<10
  ·rw[digF,digF,if_pos h1,if_pos h2]at h;exact u8_dig h1 h2 (by simpa using h)
  ·rw[digF,digF,if_pos h1,if_neg h2]at h;have hl:=congrArg List.length h;simp at hl;cases k with
   |zero=>simp at hb;omega
   |succ k=>
    have:digF (k+1) (b/10)≠ []:=by unfold digF;split<;>simp
    exact absurd hl this
  ·rw[digF,digF,if_neg h1,if_pos h2]at h;have hl:=congrArg List.length h;simp at hl;cases k with
   |zero=>simp at ha;omega
   |succ k=>
    have:digF (k+1) (a/10)≠ []:=by unfold digF;split<;>simp
    exact absurd hl this
  ·rw[digF,digF,if_neg h1,if_neg h2]at h;obtain⟨e1,e2⟩:=List.append_inj' h rfl;have:=digF_inj k (a/10) (b/10) (by omega) (by omega) e1;have:=u8_dig (yna a (by omega)) (yna b (by omega)) (by simpa using e2);omega
theorem digF_dig:∀(k n:Nat),∀b∈digF k n,48<=b.toNat/\b.toNat<=57
 |0,n,b,h=>by simp[digF]at h
 |k+1,n,b,h=>by
  have one:∀a,a<10->48<=(yw (48+a)).toNat/\(yw (48+a)).toNat<=57:=by
   intro a ha;rw[UInt8.toNat_ofNat'];omega
  unfold digF at h;split at h
  ·rename_i hn;simp only[yI]at h;subst h;exact one n hn
  ·rcases yx.1 h with h|h
   ·exact digF_dig k _ b h
   ·simp only[yI]at h;subst h;exact one _ (yna n (by omega))
theorem digF_ne(k n:Nat):digF (k+1) n≠ []:=by unfold digF;split<;>simp
theorem zRe{a b:Nat}(ha:a<10000000000000)(hb:b<10000000000000)(h:zR a=zR b):a=b:=
 digF_inj 20 a b (Nat.lt_trans ha (by decide)) (Nat.lt_trans hb (by decide)) h
def zId:Int->List UInt8->Option Int
 |n,[]=>some n
 |n,b::r=>if(9223372036854775807-((b.toNat:Int)-48))/10<n then none else zId (n*10+((b.toNat:Int)-48)) r
def zLd(s:List UInt8):Int:=match zId 0 s with
 |none=> -1
 |some n=>if s=[]\/(1<s.length/\s.head? =some 48)then-1 else n
def digs(s:List UInt8):Bool:=s.all fun b=>zLb b.toNat
theorem zMd:∀(a b:List UInt8) (n:Int),zId n (a++b)=(zId n a).bind fun m=>zId m b
 | [],b,n=>by simp[zId]
 |x::a,b,n=>by
  simp only[yU,zId];split
  ·simp
  ·exact zMd a b _
theorem valGo_range:∀(s:List UInt8) (n m:Int),digs s=true->0<=n->n<=9223372036854775807->zId n s=some m->0<=m/\m<=9223372036854775807
 | [],n,m,_,h0,h1,h=>by simp[zId]at h;omega
 |b::r,n,m,hd,h0,h1,h=>by
  simp only[zId]at h;simp only[digs,yta,yb]at hd;split at h
  ·cases h
  ·rename_i hc;have:48<=(b.toNat:Int)/\(b.toNat:Int)<=57:=by simpa[zLb]using hd.1
   exact valGo_range r _ m hd.2 (by omega) (by omega) h
theorem zxe(s:List UInt8)(σ:zd)(hs:digs s=true)(hl:s.length<1099511627776):zj E 59 [.str s] σ=some (.ret (.int .i64 (zLd s)),σ):=by
 refine zc rfl rfl rfl (by simp) ?_;simp[F59];refine zD s K59_0 B59_0 (fun d=>[(4,.int .i64 d.length),(3,.int .i64 ((zId 0 d).getD 0))]) (fun _=>σ) (fun d=>(zId 0 d).isSome=true) (by omega) (by simp[zId]) ?_ ?_
 ·intros d x r s1 hl' hlt hget hget' hw hp h1 h2 h3 h4;simp at h1 h3;obtain⟨n,hn⟩:=yQ.1 hp;have hdd:digs d=true:=by
   have:=hl'.eq;rw[this]at hs;simp only[digs,yX,yb]at hs;exact hs.1
  have hdx:zLb x.toNat=true:=by
   have:=hl'.eq;rw[this]at hs;simp only[digs,yX,yta,yb]at hs;exact hs.2.1
  have hx:48<=(x.toNat:Int)/\(x.toNat:Int)<=57:=by simpa[zLb]using hdx
  obtain⟨n0,n1⟩:=valGo_range d 0 n hdd (by omega) (by omega) hn;have w1:zA .i64 ((x.toNat:Int)-48)=(x.toNat:Int)-48:=zi (by omega) (by omega);have w2:zA .i64 (9223372036854775807-((x.toNat:Int)-48))=9223372036854775807-((x.toNat:Int)-48):=zi (by omega) (by omega);have w3:(9223372036854775807-((x.toNat:Int)-48)).tdiv 10=(9223372036854775807-((x.toNat:Int)-48))/10:=Int.tdiv_eq_ediv_of_nonneg (by omega);have w4:zA .i64 ((9223372036854775807-((x.toNat:Int)-48))/10)=(9223372036854775807-((x.toNat:Int)-48))/10:=zi (by omega) (by omega);have e1:zId 0 (d++[x])=if(9223372036854775807-((x.toNat:Int)-48))/10<n then none else some (n*10+((x.toNat:Int)-48)):=by
   rw[zMd,hn];simp only[Option.bind_some,zId]
  rw[hn]at h3;simp at h3;clear h2 hp hs;by_cases hc:(9223372036854775807-((x.toNat:Int)-48))/10<n
  ·have hv:zLd s= -1:=by
    unfold zLd;have:zId 0 s=none:=by
     rw[hl'.eq,show d++x::r=(d++[x])++r by simp,zMd,e1,if_pos hc];rfl
    rw[this]
   rw[if_pos hc]at e1
   (simp[*])<;>(repeat' (first|((first|refine sP _ ?_ ?_|refine gP _ ?_ ?_|refine sN _ ?_ ?_|refine gN _ ?_ ?_)<;>intro hc<;>(first|replace hc:=eqn hc|replace hc:=eqp hc)<;>simp[*])|((first|refine sM _ ?_ ?_|refine gM _ ?_ ?_|refine sB _ ?_ ?_|refine gB _ ?_ ?_)<;>intro hc<;>simp[*])))
  ·rw[if_neg hc]at e1;have w5:zA .i64 (n*10)=n*10:=zi (by omega) (by omega);have w6:zA .i64 (n*10+((x.toNat:Int)-48))=n*10+((x.toNat:Int)-48):=zi (by omega) (by omega)
   (simp[*])<;>(repeat' (first|((first|refine sP _ ?_ ?_|refine gP _ ?_ ?_|refine sN _ ?_ ?_|refine gN _ ?_ ?_)<;>intro hc<;>(first|replace hc:=eqn hc|replace hc:=eqp hc)<;>simp[*])|((first|refine sM _ ?_ ?_|refine gM _ ?_ ?_|refine sB _ ?_ ?_|refine gB _ ?_ ?_)<;>intro hc<;>simp[*])))
 ·intros s1 hp h1 h2 h3 h4;simp at h1 h3;obtain⟨n,hn⟩:=yQ.1 hp;have hv:zLd s=if s=[]\/(1<s.length/\s.head? =some 48)then-1 else n:=by unfold zLd;rw[hn]
  rw[hn]at h3;simp at h3;clear h2 hp hs hn;by_cases he:s=[]
  ·subst he;(simp[*])<;>(repeat' (first|((first|refine sP _ ?_ ?_|refine gP _ ?_ ?_|refine sN _ ?_ ?_|refine gN _ ?_ ?_)<;>intro hc<;>(first|replace hc:=eqn hc|replace hc:=eqp hc)<;>simp[*])|((first|refine sM _ ?_ ?_|refine gM _ ?_ ?_|refine sB _ ?_ ?_|refine gB _ ?_ ?_)<;>intro hc<;>simp[*])))
  ·obtain⟨b,r,rfl⟩:=List.exists_cons_of_ne_nil he;simp at hv;have hbb:((b.toNat:Int)=48)=(b=48):=by
    apply propext;constructor
    ·intro h;apply yJa.1;simpa using(by omega:b.toNat=48)
    ·rintro rfl;rfl
   by_cases h1l:0<r.length
   ·have h1l':(1:Int)<(r.length:Int)+1:=by omega
    by_cases hb:b=48
    ·subst hb;(simp[*])<;>(repeat' (first|((first|refine sP _ ?_ ?_|refine gP _ ?_ ?_|refine sN _ ?_ ?_|refine gN _ ?_ ?_)<;>intro hc<;>(first|replace hc:=eqn hc|replace hc:=eqp hc)<;>simp[*])|((first|refine sM _ ?_ ?_|refine gM _ ?_ ?_|refine sB _ ?_ ?_|refine gB _ ?_ ?_)<;>intro hc<;>simp[*])))
    ·(simp[*])<;>(repeat' (first|((first|refine sP _ ?_ ?_|refine gP _ ?_ ?_|refine sN _ ?_ ?_|refine gN _ ?_ ?_)<;>intro hc<;>(first|replace hc:=eqn hc|replace hc:=eqp hc)<;>simp[*])|((first|refine sM _ ?_ ?_|refine gM _ ?_ ?_|refine sB _ ?_ ?_|refine gB _ ?_ ?_)<;>intro hc<;>simp[*])))
   ·have h1l':¬(1:Int)<(r.length:Int)+1:=by omega
    (simp[*])<;>(repeat' (first|((first|refine sP _ ?_ ?_|refine gP _ ?_ ?_|refine sN _ ?_ ?_|refine gN _ ?_ ?_)<;>intro hc<;>(first|replace hc:=eqn hc|replace hc:=eqp hc)<;>simp[*])|((first|refine sM _ ?_ ?_|refine gM _ ?_ ?_|refine sB _ ?_ ?_|refine gB _ ?_ ?_)<;>intro hc<;>simp[*])))
def zge(s:List UInt8):Bool:=digs s&&decide (0<=zLd s)
theorem number_spec(s:List UInt8)(hl:s.length<1099511627776):zj E 61 [.str s] []=some (.ret (.bool (zge s)),[]):=by
 refine zc rfl rfl rfl (by simp) ?_;simp[F61];refine zD s K61_0 B61_0 (fun d=>[(3,.int .i64 d.length)]) (fun _=>[]) (fun d=>digs d=true) (by omega) (by simp[digs]) ?_ ?_
 ·intros d x r s1 hl' hlt hget hget' hw hp h1 h2 h3 h4;simp at h1 h3;clear h2;have hd:=zjb x.toNat [];have hn:zLb x.toNat=false->zge s=false:=fun h=>by
   unfold zge digs;rw[hl'.eq];simp[h]
  have hdd:digs (d++[x])=zLb x.toNat:=by simp only[digs]at hp ⊢;rw[yX,hp];simp
  cases hx:zLb x.toNat
  ·have hn:=hn hx;rw[hx]at hdd
   (simp[*])<;>(repeat' (first|((first|refine sP _ ?_ ?_|refine gP _ ?_ ?_|refine sN _ ?_ ?_|refine gN _ ?_ ?_)<;>intro hc<;>(first|replace hc:=eqn hc|replace hc:=eqp hc)<;>simp[*])|((first|refine sM _ ?_ ?_|refine gM _ ?_ ?_|refine sB _ ?_ ?_|refine gB _ ?_ ?_)<;>intro hc<;>simp[*])))
  ·clear hn;rw[hx]at hdd
   (simp[*])<;>(repeat' (first|((first|refine sP _ ?_ ?_|refine gP _ ?_ ?_|refine sN _ ?_ ?_|refine gN _ ?_ ?_)<;>intro hc<;>(first|replace hc:=eqn hc|replace hc:=eqp hc)<;>simp[*])|((first|refine sM _ ?_ ?_|refine gM _ ?_ ?_|refine sB _ ?_ ?_|refine gB _ ?_ ?_)<;>intro hc<;>simp[*])))
 ·intros s1 hp h1 h2 h3 h4;simp at h1 h3;have hv:=zxe s [] hp hl;have hn:zge s=decide (0<=zLd s):=by unfold zge;rw[hp];rfl
  clear h2 hp
  (simp[*])<;>(repeat' (first|((first|refine sP _ ?_ ?_|refine gP _ ?_ ?_|refine sN _ ?_ ?_|refine gN _ ?_ ?_)<;>intro hc<;>(first|replace hc:=eqn hc|replace hc:=eqp hc)<;>simp[*])|((first|refine sM _ ?_ ?_|refine gM _ ?_ ?_|refine sB _ ?_ ?_|refine gB _ ?_ ?_)<;>intro hc<;>simp[*])))
def signsL:List (List UInt8):=[[62,62,62],[60,60],[62,62],[60,61],[62,61],[61,61],[33,61],[38,38],[124,124],[40],[41],[123],[125],[91],[93],[44],[59],[61],[60],[62],[43],[45],[42],[47],[37],[38],[124],[94],[126],[33]]
def zle(s:List UInt8):List UInt8:=(signsL.find? fun x=>x.isPrefixOf s).getD []
theorem prefix_take(x s:List UInt8):x.isPrefixOf s=(decide (x.length<=s.length)&&decide (s.take x.length=x)):=by
 rw[Bool.eq_iff_iff];simp only[List.isPrefixOf_iff_prefix,yb,decide_eq_true_eq];constructor
 ·intro h;exact⟨h.length_le,(List.prefix_iff_eq_take.1 h).symm⟩
 ·rintro⟨_,h⟩;rw[<-h];exact List.take_prefix _ _
theorem sign_spec(s:List UInt8)(hl:s.length<1099511627776):zj E 62 [.str s] []=some (.ret (.str (zle s)),[]):=by
 refine zc rfl rfl rfl (by simp) ?_;simp[F62];refine zD signsL K62_0 B62_0 (fun d=>[(4,.int .i64 d.length)]) (fun _=>[]) (fun d=>∀x∈d,x.isPrefixOf s=false) (by decide) (by simp) ?_ ?_
 ·intros d x r s1 hl' hlt hget hget' hw hp h1 h2 h3 h4;have hl3: [PV.str [62,62,62],PV.str [60,60],PV.str [62,62],PV.str [60,61],PV.str [62,61],PV.str [61,61],PV.str [33,61],PV.str [38,38],PV.str [124,124],PV.str [40],PV.str [41],PV.str [123],PV.str [125],PV.str [91],PV.str [93],PV.str [44],PV.str [59],PV.str [61],PV.str [60],PV.str [62],PV.str [43],PV.str [45],PV.str [42],PV.str [47],PV.str [37],PV.str [38],PV.str [124],PV.str [94],PV.str [126],PV.str [33]]=signsL.map PV.str:=rfl;simp[hl3]at h1 h3;clear h2;have hlen:d.length<30:=hlt;have hl30:(signsL.map PV.str).length=30:=rfl;have hpre:=prefix_take x s;have hxl:x.length<=3:=by
   have:∀y∈signsL,y.length<=3:=by decide
   exact this x hl'.mem
  have hf:x.isPrefixOf s=true->zle s=x:=by
   intro h;unfold zle;rw[hl'.eq,yXa];have:d.find? (fun x=>x.isPrefixOf s)=none:=by rw[yba];intro y hy;simp[hp y hy]
   rw[this];simp[yfb,h]
  cases hx:x.isPrefixOf s
  ·rw[hx]at hpre;by_cases hle:x.length<=s.length
   ·have hne:¬s.take x.length=x:=by
     intro h;simp[hle,h]at hpre
    clear hf hpre hl3
    (simp[*])<;>(repeat' (first|((first|refine sP _ ?_ ?_|refine gP _ ?_ ?_|refine sN _ ?_ ?_|refine gN _ ?_ ?_)<;>intro hc<;>(first|replace hc:=eqn hc|replace hc:=eqp hc)<;>simp[*])|((first|refine sM _ ?_ ?_|refine gM _ ?_ ?_|refine sB _ ?_ ?_|refine gB _ ?_ ?_)<;>intro hc<;>simp[*])))
    all_goals(try refine⟨rfl,?_⟩)
    all_goals(try grind)
   ·clear hf hpre hl3
    (simp[*])<;>(repeat' (first|((first|refine sP _ ?_ ?_|refine gP _ ?_ ?_|refine sN _ ?_ ?_|refine gN _ ?_ ?_)<;>intro hc<;>(first|replace hc:=eqn hc|replace hc:=eqp hc)<;>simp[*])|((first|refine sM _ ?_ ?_|refine gM _ ?_ ?_|refine sB _ ?_ ?_|refine gB _ ?_ ?_)<;>intro hc<;>simp[*])))
    all_goals(try refine⟨rfl,?_⟩)
    all_goals(try grind)
  ·rw[hx]at hpre;have hf:=hf hx;have hpre':=hpre.symm;simp only[yb,decide_eq_true_eq]at hpre';obtain⟨p1,p2⟩:=hpre';clear hl3 hpre
   (simp[*])<;>(repeat' (first|((first|refine sP _ ?_ ?_|refine gP _ ?_ ?_|refine sN _ ?_ ?_|refine gN _ ?_ ?_)<;>intro hc<;>(first|replace hc:=eqn hc|replace hc:=eqp hc)<;>simp[*])|((first|refine sM _ ?_ ?_|refine gM _ ?_ ?_|refine sB _ ?_ ?_|refine gB _ ?_ ?_)<;>intro hc<;>simp[*])))
   all_goals(try grind)
 ·intros s1 hp h1 h2 h3 h4;have hl3: [PV.str [62,62,62],PV.str [60,60],PV.str [62,62],PV.str [60,61],PV.str [62,61],PV.str [61,61],PV.str [33,61],PV.str [38,38],PV.str [124,124],PV.str [40],PV.str [41],PV.str [123],PV.str [125],PV.str [91],PV.str [93],PV.str [44],PV.str [59],PV.str [61],PV.str [60],PV.str [62],PV.str [43],PV.str [45],PV.str [42],PV.str [47],PV.str [37],PV.str [38],PV.str [124],PV.str [94],PV.str [126],PV.str [33]]=signsL.map PV.str:=rfl;simp[hl3]at h1 h3;have hf:zle s=[]:=by
   unfold zle;have:signsL.find? (fun x=>x.isPrefixOf s)=none:=by rw[yba];intro y hy;simp[hp y hy]
   rw[this];rfl
  have hl30:(signsL.map PV.str).length=30:=rfl;have hl30':(signsL.length:Int)=30:=rfl;clear h2 hp hl3
  (simp[*])<;>(repeat' (first|((first|refine sP _ ?_ ?_|refine gP _ ?_ ?_|refine sN _ ?_ ?_|refine gN _ ?_ ?_)<;>intro hc<;>(first|replace hc:=eqn hc|replace hc:=eqp hc)<;>simp[*])|((first|refine sM _ ?_ ?_|refine gM _ ?_ ?_|refine sB _ ?_ ?_|refine gB _ ?_ ?_)<;>intro hc<;>simp[*])))
theorem lead_ne:∀(k m:Nat),0<m->m<10^(k+1)->(digF (k+1) m).head? ≠some 48:=by
  intro k
  induction k with
  |zero=>
   intro m hm hm2;unfold digF;rw[if_pos (by simpa using hm2)];intro e;have:=congrArg UInt8.toNat (Option.some.inj e);rw[UInt8.toNat_ofNat']at this;simp at hm2 this;omega
  |succ k ih=>
   intro m hm hm2;unfold digF;split
   ·rename_i hm10;intro e;have:=congrArg UInt8.toNat (Option.some.inj e);rw[UInt8.toNat_ofNat']at this;simp at this;omega
   ·rename_i hm10;have h1:=ih (m/10) (by omega) (by rw[yhb]at hm2;omega);have h2:=digF_ne k (m/10);cases hq:digF (k+1) (m/10)with
    |nil=>exact absurd hq h2
    |cons b r=>rw[hq]at h1;simpa using h1
theorem valGo_dig:∀(k n:Nat),n<10^k->n<=9223372036854775807->0<k->zId 0 (digF k n)=some (n:Int)
 |0,n,h,_,hk=>by omega
 |k+1,n,h,hn,_=>by
  have byte:∀a,a<10->(((yw (48+a)).toNat:Nat):Int)-48=a:=by
   intro a ha;rw[UInt8.toNat_ofNat'];omega
  unfold digF;split
  ·rename_i h10;simp only[zId,byte n h10];rw[if_neg (by omega)];simp
  ·rename_i h10;cases k with
   |zero=>simp at h;omega
   |succ k=>
    rw[zMd,valGo_dig (k+1) (n/10) (by rw[yhb]at h;omega) (by omega) (by omega)];simp only[Option.bind_some,zId,byte _ (yna n (by omega:0<10))];rw[if_neg (by omega)];congr 1;omega
theorem value_dig{n:Nat}(h:n<=9223372036854775807):zLd (zR n)=n:=by
 unfold zLd zR;rw[valGo_dig 20 n (by omega) h (by omega)];simp only;rw[if_neg]
 rintro(h1|⟨h1,h2⟩)
 ·exact digF_ne 19 n h1
 ·by_cases h10:n<10
  ·rw[show digF 20 n=[yw (48+n)] by rw[digF,if_pos h10]]at h1;simp at h1
  ·exact lead_ne 19 n (by omega) (by omega) h2
theorem digs_dig(n:Nat):digs (zR n)=true:=by
 unfold digs;rw[yu];intro b hb;have:=digF_dig 20 n b hb;simp[zLb];omega
theorem dec_dig:∀(k n:Nat),n<10^(k+1)->Lib.decDigits n=digF (k+1) n
 |0,n,h=>by rw[Lib.decDigits,digF];simp at h;simp[h]
 |k+1,n,h=>by
  rw[Lib.decDigits,digF];split
  ·rfl
  ·rw[dec_dig k (n/10) (by rw[yhb]at h;omega)]
theorem itoa_dig(c:Nat)(h:c<10^20):Lib.itoa c=zR c:=by
 have h0:¬((c:Int)<0):=by omega
 unfold Lib.itoa zR;rw[if_neg h0,Int.toNat_natCast,dec_dig 19 c h]
def tokKind(w:List UInt8)(b:UInt8):Int:=if wordM w then 2 else if zIa b.toNat then 1 else 0
def tokBad(w:List UInt8)(b:UInt8):Bool:=(decide (tokKind w b=1)&& !zbc w)||(decide (tokKind w b=0)&& !zge w)
def blank(b:UInt8):Bool:=b==32||b==9||b==13
def zpb:Nat->List UInt8->Int->List Tok->List Tok×Int×Int
 |0,_,_,acc=>(acc,0,0)
 |_+1,[],line,acc=>(acc++[⟨3,[],line⟩],0,0)
 |n+1,b::r,line,acc=>
  if b=10 then zpb n r (line+1) acc
  else if blank b then zpb n r line acc
  else if b=47/\r.head? =some 47 then zpb n ((b::r).dropWhile (· !=10)) line acc
  else if zF b then
   if tokBad ((b::r).takeWhile zF) b then([],20,line)
   else zpb n ((b::r).drop ((b::r).takeWhile zF).length) line (acc++[⟨tokKind ((b::r).takeWhile zF) b,(b::r).takeWhile zF,line⟩])
  else if zle (b::r)=[]then([],20,line)
  else zpb n ((b::r).drop (zle (b::r)).length) line (acc++[⟨2,zle (b::r),line⟩])
def zM(s:List UInt8):List Tok×Int×Int:=if 100000<s.length then([],2,0)else zpb (s.length+1) s 1 []
example:zM [105,110,116,32,120,61,49,59,10]=([⟨2,[105,110,116],1⟩,⟨1,[120],1⟩,⟨2,[61],1⟩,⟨0,[49],1⟩,⟨2,[59],1⟩,⟨3,[],2⟩],0,0):=by decide
theorem sign_len(s:List UInt8):(zle s).length<=s.length:=by
 unfold zle;cases h:signsL.find? (fun x=>x.isPrefixOf s)with
 |none=>simp
 |some x=>
  have:=List.find?_some h;simp only[List.isPrefixOf_iff_prefix]at this;simpa using this.length_le
theorem zPa{s:List UInt8}{i:Nat}(h:i<s.length):s.drop i=s[i]::s.drop (i+1):=List.drop_eq_getElem_cons h
theorem takeWhile_all(p:UInt8->Bool)(l:List UInt8)(j:Nat)(h:j<(l.takeWhile p).length)(h':j<l.length):p l[j]=true:=by
 have h1:(l.takeWhile p)[j]=l[j]:=by
  have:=yLa (l:=l) (p:=p);exact this.getElem h
 rw[<-h1];exact(yu.1 (List.all_takeWhile (l:=l) (p:=p))) _ (List.getElem_mem h)
theorem zee(p:UInt8->Bool):∀(l:List UInt8) (h:(l.takeWhile p).length<l.length),p (l[(l.takeWhile p).length])=false
 | [],h=>by simp at h
 |b::r,h=>by
  cases hp:p b
  ·have e:(b::r).takeWhile p=[]:=by simp[hp]
   simp only[e];simpa using hp
  ·have e:(b::r).takeWhile p=b::r.takeWhile p:=by simp[hp]
   simp only[e,yj,List.getElem_cons_succ];exact zee p r (by rw[e]at h;simpa using h)
theorem zNc(p:UInt8->Bool)(l:List UInt8):l.dropWhile p=l.drop (l.takeWhile p).length:=by
 induction l with
 |nil=>rfl
 |cons b r ih=>
  cases hp:p b<;>simp[hp,ih]
theorem takeWhile_eq_take(p:UInt8->Bool)(l:List UInt8):l.takeWhile p=l.take (l.takeWhile p).length:=by
 induction l with
 |nil=>rfl
 |cons b r ih=>
  cases hp:p b
  ·simp[hp]
  ·simp only[ywa,hp,if_true,yj,List.take_succ_cons];rw[<-ih]
def zwb(s:List UInt8)(at':Nat):Nat:=((s.drop at').takeWhile zF).length
theorem runLen_le(s:List UInt8)(i:Nat)(h:i<=s.length):i+zwb s i<=s.length:=by
 unfold zwb;have:=(yLa (l:=s.drop i) (p:=zF)).length_le;simp at this;omega
theorem runLen_in(s:List UInt8)(i j:Nat)(h:j<zwb s i)(h':i+j<s.length):zF (s[i+j])=true:=by
 have:=takeWhile_all zF (s.drop i) j h (by simp;omega);simpa using this
theorem runLen_end(s:List UInt8)(i:Nat)(h:i+zwb s i<s.length):zF (s[i+zwb s i])=false:=by
 unfold zwb at h ⊢;have:=zee zF (s.drop i) (by simp;omega);simpa using this
def comLen(s:List UInt8)(i:Nat):Nat:=((s.drop i).takeWhile (· !=10)).length
theorem comLen_le(s:List UInt8)(i:Nat)(h:i<=s.length):i+comLen s i<=s.length:=by
 unfold comLen;have:=(yLa (l:=s.drop i) (p:=(· !=10))).length_le;simp at this;omega
theorem comLen_in(s:List UInt8)(i j:Nat)(h:j<comLen s i)(h':i+j<s.length):¬s[i+j]=10:=by
 have:=takeWhile_all (· !=10) (s.drop i) j h (by simp;omega);simpa using this
theorem comLen_end(s:List UInt8)(i:Nat)(h:i+comLen s i<s.length):s[i+comLen s i]=10:=by
 unfold comLen at h ⊢;have:=zee (· !=10) (s.drop i) (by simp;omega);simpa using this
structure TS where
 at':Nat
 line:Nat
 acc:List Tok
def OnRoad(s:List UInt8)(c:TS):Prop:=c.at'<=s.length/\c.line<=c.at'+1/\c.acc.length<=c.at'/\∃n,s.length-c.at'<n/\zpb (s.length+1) s 1 []=zpb n (s.drop c.at') c.line c.acc
theorem getD_idx{s:List UInt8}{i:Nat}(h:i<s.length):s[i]? =some s[i]:=by simp[h]
abbrev encTokR(r:List Tok×Int×Int):List PV:=[toks r.1,.int .i64 r.2.1,.int .i64 r.2.2]
theorem road_nl{s:List UInt8}{i line:Nat}{ac:List Tok}(h:OnRoad s ⟨i,line,ac⟩)(hi:i<s.length)(hb:(s[i].toNat:Int)=10):OnRoad s ⟨i+1,line+1,ac⟩:=by
 obtain⟨h1,h2,h3,n,h4,h5⟩:=h;simp only at h1 h2 h3 h4 h5;obtain⟨n,rfl⟩:∃m,n=m+1:=⟨n-1,by omega⟩
 have hb':s[i]=10:=yJa.1 (by simp;omega);refine⟨by simp only;omega,by simp only;omega,by simp only;omega,n,by simp only;omega,?_⟩;rw[h5,zPa hi];simp[zpb,hb']
theorem road_blank{s:List UInt8}{i line:Nat}{ac:List Tok}(h:OnRoad s ⟨i,line,ac⟩)(hi:i<s.length)(hb:blank s[i]=true):OnRoad s ⟨i+1,line,ac⟩:=by
 obtain⟨h1,h2,h3,n,h4,h5⟩:=h;simp only at h1 h2 h3 h4 h5;obtain⟨n,rfl⟩:∃m,n=m+1:=⟨n-1,by omega⟩
 have hb':¬s[i]=10:=by intro h;rw[h]at hb;exact absurd hb (by decide)
 refine⟨by simp only;omega,by simp only;omega,by simp only;omega,n,by simp only;omega,?_⟩;rw[h5,zPa hi];simp[zpb,hb',hb]
theorem road_com{s:List UInt8}{i line:Nat}{ac:List Tok}(h:OnRoad s ⟨i,line,ac⟩)(hi:i<s.length)(hb:(s[i].toNat:Int)=47)(hi2:i+1<s.length)(hb2:(s[i+1].toNat:Int)=47):OnRoad s ⟨i+comLen s i,line,ac⟩/\0<comLen s i:=by
 obtain⟨h1,h2,h3,n,h4,h5⟩:=h;simp only at h1 h2 h3 h4 h5;obtain⟨n,rfl⟩:∃m,n=m+1:=⟨n-1,by omega⟩
 have hb':s[i]=47:=yJa.1 (by simp;omega);have hb2':s[i+1]=47:=yJa.1 (by simp;omega);have hpos:0<comLen s i:=by
  unfold comLen;rw[zPa hi,ywa];simp[hb']
 have hle:=comLen_le s i h1;refine⟨⟨by simp only;omega,by simp only;omega,by simp only;omega,n,by simp only;omega,?_⟩,hpos⟩;have e:(s[i]::s.drop (i+1)).dropWhile (· !=10)=s.drop (i+comLen s i):=by
  rw[<-zPa hi,zNc,List.drop_drop];rfl
 have hh:(s.drop (i+1)).head? =some 47:=by rw[zPa hi2,hb2'];rfl
 rw[h5,zPa hi];simp only[zpb];rw[if_neg (by rw[hb'];decide),if_neg (by rw[hb'];decide),if_pos ⟨hb',hh⟩,e]
structure Plain(s:List UInt8)(i:Nat)(hi:i<s.length):Prop where
 nl:¬(s[i].toNat:Int)=10
 blank:blank s[i]=false
 com:¬(s[i]=47/\(s.drop (i+1)).head? =some 47)
theorem road_name{s:List UInt8}{i line:Nat}{ac:List Tok}(h:OnRoad s ⟨i,line,ac⟩)(hi:i<s.length)(hp:Plain s i hi)(hn:zF s[i]=true):
  (tokBad ((s.take (i+zwb s i)).drop i) s[i]=true->zpb (s.length+1) s 1 []=([],20,(line:Int)))∧
  (tokBad ((s.take (i+zwb s i)).drop i) s[i]=false->OnRoad s ⟨i+zwb s i,line,ac++[⟨tokKind ((s.take (i+zwb s i)).drop i) s[i],(s.take (i+zwb s i)).drop i,line⟩]⟩):=by
 obtain⟨h1,h2,h3,n,h4,h5⟩:=h;simp only at h1 h2 h3 h4 h5;obtain⟨n,rfl⟩:∃m,n=m+1:=⟨n-1,by omega⟩
 have hnl:¬s[i]=10:=by intro h;exact hp.nl (by rw[h];rfl)
 have hpos:0<zwb s i:=by
  unfold zwb;rw[zPa hi,ywa];simp[hn]
 have hle:=runLen_le s i h1;have e:(s[i]::s.drop (i+1)).takeWhile zF=(s.take (i+zwb s i)).drop i:=by
  rw[<-zPa hi,takeWhile_eq_take];rw[List.drop_take];congr 1;unfold zwb;omega
 have el:((s.take (i+zwb s i)).drop i).length=zwb s i:=by simp;omega
 have hs:∀k:Nat,zpb (k+1) (s[i]::s.drop (i+1)) line ac=if tokBad ((s.take (i+zwb s i)).drop i) s[i]then([],20,(line:Int))else zpb k (s.drop (i+zwb s i)) line (ac++[⟨tokKind ((s.take (i+zwb s i)).drop i) s[i],(s.take (i+zwb s i)).drop i,line⟩]):=by
  intro k;simp only[zpb];rw[if_neg hnl,if_neg (by rw[hp.blank];decide),if_neg hp.com,if_pos hn,e,el];rw[<-zPa hi,List.drop_drop]
 refine⟨fun hb=>by rw[h5,zPa hi,hs,if_pos hb],fun hb=>⟨by simp only;omega,by simp only;omega,by simp only[yi,yj,yn];omega,n,by simp only;omega,?_⟩⟩;rw[h5,zPa hi,hs,if_neg (by rw[hb];decide)]
theorem road_sign{s:List UInt8}{i line:Nat}{ac:List Tok}(h:OnRoad s ⟨i,line,ac⟩)(hi:i<s.length)(hp:Plain s i hi)(hn:zF s[i]=false):
  (zle (s.drop i)=[]->zpb (s.length+1) s 1 []=([],20,(line:Int)))∧
  (¬zle (s.drop i)=[]->OnRoad s ⟨i+(zle (s.drop i)).length,line,ac++[⟨2,zle (s.drop i),line⟩]⟩):=by
 obtain⟨h1,h2,h3,n,h4,h5⟩:=h;simp only at h1 h2 h3 h4 h5;obtain⟨n,rfl⟩:∃m,n=m+1:=⟨n-1,by omega⟩
 have hnl:¬s[i]=10:=by intro h;exact hp.nl (by rw[h];rfl)
 have hle:=sign_len (s.drop i);rw[yva]at hle;have hs:∀k:Nat,zpb (k+1) (s.drop i) line ac=if zle (s.drop i)=[]then([],20,(line:Int))else zpb k (s.drop (i+(zle (s.drop i)).length)) line (ac++[⟨2,zle (s.drop i),line⟩]):=by
  intro k;rw[<-List.drop_drop];rw[zPa hi];simp only[zpb];rw[if_neg hnl,if_neg (by rw[hp.blank];decide),if_neg hp.com,if_neg (by rw[hn];decide)]
 refine⟨fun hb=>by rw[h5,hs,if_pos hb],fun hb=>?_⟩;have hpos:0<(zle (s.drop i)).length:=yha.2 hb;refine⟨by simp only;omega,by simp only;omega,by simp only[yi,yj,yn];omega,n,by simp only;omega,?_⟩;rw[h5,hs,if_neg hb]
theorem ub_eq(b:UInt8)(n:Nat)(h:n<256):(b==yw n)=decide ((b.toNat:Int)=n):=by
 rw[Bool.eq_iff_iff];simp only[beq_iff_eq,decide_eq_true_eq];constructor
 ·rintro rfl;simp;omega
 ·intro h2;apply yJa.1;simp;omega
theorem blank_eq(b:UInt8):blank b=(decide ((b.toNat:Int)=32)||(decide ((b.toNat:Int)=9)||decide ((b.toNat:Int)=13))):=by
 unfold blank;rw[show(32:UInt8)=yw 32 from rfl,show(9:UInt8)=yw 9 from rfl,show(13:UInt8)=yw 13 from rfl,ub_eq _ _ (by omega),ub_eq _ _ (by omega),ub_eq _ _ (by omega),Bool.or_assoc];rfl
theorem run_zero{s:List UInt8}{i:Nat}(hi:i<s.length):zwb s i=0<->zF s[i]=false:=by
 unfold zwb;rw[zPa hi,ywa];cases zF s[i]<;>simp
set_option maxHeartbeats 4000000 in
set_option maxRecDepth 3000 in
theorem tokens_spec(s:List UInt8):zj E 33 [.str s] []=some (.ret (.tup (encTokR (zM s))),[]):=by
 refine zc rfl rfl rfl (by simp) ?_;by_cases hlong:100000<s.length
 ·have e:zM s=([],2,0):=by unfold zM;rw[if_pos hlong]
  have hlong':(100000:Int)<s.length:=by omega
  simp[F33,hlong',e,encTokR,toks]
 have e0:zM s=zpb (s.length+1) s 1 []:=by unfold zM;rw[if_neg hlong]
 have hlong':¬(100000:Int)<s.length:=by omega
 simp[F33,hlong',encTokR,toks];refine zU K33_2 B33_2 (fun c:TS=>s.length-c.at') (fun c=>[(7,.int .i64 c.at'),(6,.int .i64 c.line),(5,acc 3 (c.acc.map zx))]) (fun _=>[]) (fun _=>[]) (OnRoad s) ⟨0,1,[]⟩ ⟨?_,?_,?_,?_⟩ ?_
 ·simp
 ·simp
 ·simp
 ·exact⟨by simp,by simp,by simp,s.length+1,by simp,by simp⟩
 rintro⟨i,line,ac⟩ s1 ⟨hi,hline,hac,n,hn,hg⟩ h1 h2 h3 _ h4
 simp at hi hline hac hn hg h1 h3;have w0:zA .i64 ((i:Int)+1)=(i:Int)+1:=zi (by omega) (by omega);have w1:zA .i64 ((line:Int)+1)=(line:Int)+1:=zi (by omega) (by omega);have hroad:OnRoad s ⟨i,line,ac⟩:=⟨hi,hline,hac,n,hn,hg⟩
 obtain⟨n,rfl⟩:∃m,n=m+1:=⟨n-1,by omega⟩
 by_cases hend:¬i<s.length
 ·have he:i=s.length:=by omega
  subst he;have e1:zM s=(ac++[⟨3,[],line⟩],0,0):=by rw[e0,hg];simp[zpb]
  have q4:(ac.length+1)*32<=zn:=by simp only[zn];omega
  clear hg e0 hroad
  (simp[*,zx])<;>(repeat' (first|((first|refine sP _ ?_ ?_|refine gP _ ?_ ?_|refine sN _ ?_ ?_|refine gN _ ?_ ?_)<;>intro hc<;>(first|replace hc:=eqn hc|replace hc:=eqp hc)<;>simp[*,zx])|((first|refine sM _ ?_ ?_|refine gM _ ?_ ?_|refine sB _ ?_ ?_|refine gB _ ?_ ?_)<;>intro hc<;>simp[*,zx])))
 have hend:=Decidable.of_not_not hend;have hi2:(i:Int)<s.length:=by omega
 have hgi:=getD_idx hend;clear hg hn;have hget:s[i]? =some s[i]:=by simp[hend]
 have hrun:∀(s2:St) (Q:Ex->St->Prop),(∀t∈K33_0,s2.fr t=s2.fr t)->True:=fun _ _ _=>trivial
 clear hrun;have hrl:=runLen_le s i hi;have hri:=runLen_in s i;have hre:=runLen_end s i;generalize hk:zwb s i=k at*;simp[h1,h3,h4,hend];refine zD (yD k) K33_0 B33_0 (fun d=>[(9,.int .i64 d.length)]) (fun _=>[]) (fun d=>True) (by simp;omega) (by simp;try exact h4) ?_ ?_
 ·intros d x r s3 hl' hlt hget2 hget' hw hp h1' h2' h3' h4';simp at h1' h3' hlt;simp at h2';clear hget2 hget' hl';have hq:i+d.length<s.length:=by omega
  have hcb:=hri d.length hlt hq;have hgc:s[i+d.length]? =some s[i+d.length]:=by simp[hq]
  generalize s[i+d.length]=c at hcb hgc;have l1:=zEa c.toNat [];have l2:=zjb c.toNat [];have wi:zA .i64 ((i:Int)+d.length)=((i+d.length:Nat):Int):=zi (by omega) (by omega);clear h1 h2 h3 e0 hgi hget hre hri hroad;generalize i+d.length=q at*;have hgc':s[q]'hq=c:=by simpa[hq]using hgc
  simp only[zF,yP]at hcb;cases hx:zIa c.toNat
  ·have hy:zLb c.toNat=true:=by simpa[hx]using hcb
   clear hcb
   (simp[*])<;>(repeat' (first|((first|refine sP _ ?_ ?_|refine gP _ ?_ ?_|refine sN _ ?_ ?_|refine gN _ ?_ ?_)<;>intro hc<;>(first|replace hc:=eqn hc|replace hc:=eqp hc)<;>simp[*])|((first|refine sM _ ?_ ?_|refine gM _ ?_ ?_|refine sB _ ?_ ?_|refine gB _ ?_ ?_)<;>intro hc<;>simp[*])))
   all_goals(try grind)
  ·clear hcb
   (simp[*])<;>(repeat' (first|((first|refine sP _ ?_ ?_|refine gP _ ?_ ?_|refine sN _ ?_ ?_|refine gN _ ?_ ?_)<;>intro hc<;>(first|replace hc:=eqn hc|replace hc:=eqp hc)<;>simp[*])|((first|refine sM _ ?_ ?_|refine gM _ ?_ ?_|refine sB _ ?_ ?_|refine gB _ ?_ ?_)<;>intro hc<;>simp[*])))
   all_goals(try grind)
 ·intros s3 hp h1' h2' h3' h4';simp at h1' h2' h3';clear h1 h2 h3 hri hp;have wk:∃q:Nat,q=i+k/\zA .i64 ((i:Int)+k)=(q:Int)/\(q=s.length\/∃c,∃h:q<s.length,s[q]'h=c/\s[q]? =some c/\zIa c.toNat=false/\zLb c.toNat=false):=by
   refine⟨i+k,rfl,zi (by omega) (by omega),?_⟩;by_cases h:i+k<s.length
   ·have:=hre h;simp only[zF,yBa]at this;exact yUa ⟨s[i+k],h,rfl,by simp[h],this.1,this.2⟩
   ·exact yOa (by omega)
  obtain⟨q,hq,wk,hstop⟩:=wk;clear hre;have hz:=run_zero hend;rw[hk]at hz;have b10:=fun h=>road_nl hroad hend h
  have bbl:=fun h=>road_blank hroad hend h
  have bcom:=fun h=>road_com hroad hend h
  have bname:=fun hp h=>road_name hroad hend hp h
  have bsign:=fun hp h=>road_sign hroad hend hp h
  rw[hk]at bname;have hle:=comLen_le s i hi;have hci:=comLen_in s i;have hce:=comLen_end s i;generalize hbb:s[i]=b at*;have l1:=zEa b.toNat [];have hbl:blank b=(decide ((b.toNat:Int)=32)||(decide ((b.toNat:Int)=9)||decide ((b.toNat:Int)=13))):=blank_eq b;by_cases c10:(b.toNat:Int)=10
  ·have r:=b10 c10;clear b10 bbl bcom bname bsign hz hroad e0 hle hci hce hq hbl;replace c10:=eqp c10;rcases hstop with hst|⟨c,hst,g1,g2,g3,g4⟩
   ·(simp[*])<;>(repeat' (first|((first|refine sP _ ?_ ?_|refine gP _ ?_ ?_|refine sN _ ?_ ?_|refine gN _ ?_ ?_)<;>intro hc<;>(first|replace hc:=eqn hc|replace hc:=eqp hc)<;>simp[*])|((first|refine sM _ ?_ ?_|refine gM _ ?_ ?_|refine sB _ ?_ ?_|refine gB _ ?_ ?_)<;>intro hc<;>simp[*])))
    all_goals exact⟨⟨i+1,line+1,ac⟩,by simp only;omega,⟨by simp,by simp,rfl⟩,r⟩
   ·have l2:=zEa c.toNat [];have l3:=zjb c.toNat []
    (simp[*])<;>(repeat' (first|((first|refine sP _ ?_ ?_|refine gP _ ?_ ?_|refine sN _ ?_ ?_|refine gN _ ?_ ?_)<;>intro hc<;>(first|replace hc:=eqn hc|replace hc:=eqp hc)<;>simp[*])|((first|refine sM _ ?_ ?_|refine gM _ ?_ ?_|refine sB _ ?_ ?_|refine gB _ ?_ ?_)<;>intro hc<;>simp[*])))
    all_goals exact⟨⟨i+1,line+1,ac⟩,by simp only;omega,⟨by simp,by simp,rfl⟩,r⟩
  replace c10:=eqn c10;cases hcb:blank b
  ·rw[hcb]at hbl;replace hbl:=hbl.symm;simp only[yBa,decide_eq_false_iff_not]at hbl;obtain⟨c1,c2,c3⟩:=hbl;have hpl:¬(b=47/\(s.drop (i+1)).head? =some 47)->Plain s i hend:=fun h=>⟨by rw[hbb];simpa using c10,by rw[hbb];exact hcb,by rw[hbb];exact h⟩
   replace c1:=eqn c1;replace c2:=eqn c2;replace c3:=eqn c3;have w1':zA .i64 ((i:Int)+1)=((i+1:Nat):Int):=by rw[w0];simp
   by_cases hcom:(b.toNat:Int)=47/\∃h:i+1<s.length,(s[i+1].toNat:Int)=47
   ·obtain⟨c4,hj,c5⟩:=hcom;obtain⟨r,hpos⟩:=bcom c4 hj c5;clear b10 bbl bcom bname bsign hz hroad e0 hq hpl hcb;replace c4:=eqp c4;have gj:s[i+1]? =some s[i+1]:=by simp[hj]
    have gj':s[i+1]'hj=s[i+1]:=rfl;generalize hm:comLen s i=m at*;generalize hbj:s[i+1]=bj at*;have hj':(i:Int)+1<s.length:=by omega
    have tj:((i:Int)+1).toNat=i+1:=by omega
    have nj:(0:Int)<=(i:Int)+1:=by omega
    replace c5:=eqp c5;clear w1';rcases hstop with hst|⟨c,hst,g1,g2,g3,g4⟩
    ·(simp[*])<;>(repeat' (first|((first|refine sP _ ?_ ?_|refine gP _ ?_ ?_|refine sN _ ?_ ?_|refine gN _ ?_ ?_)<;>intro hc<;>(first|replace hc:=eqn hc|replace hc:=eqp hc)<;>simp[*])|((first|refine sM _ ?_ ?_|refine gM _ ?_ ?_|refine sB _ ?_ ?_|refine gB _ ?_ ?_)<;>intro hc<;>simp[*])))
     refine zD (yD m) K33_1 B33_1 (fun d=>[(7,.int .i64 ((i+d.length:Nat):Int))]) (fun _=>[]) (fun _=>True) (by simp;omega) (by simp) ?_ ?_
     ·intros d x r' s4 hl' hlt hget2 hget' hw hp h1'' h2'' h3'' h4'';simp at h1'' h3'' hlt;have hq2:i+d.length<s.length:=by omega
      have hcb:=hci d.length hlt hq2;have hgc:s[i+d.length]? =some s[i+d.length]:=by simp[hq2]
      have hcb':¬(s[i+d.length].toNat:Int)=10:=fun h=>hcb (yJa.1 (by simp;omega))
      have wi:zA .i64 ((i:Int)+d.length+1)=((i:Int)+d.length)+1:=zi (by omega) (by omega);have a0:(0:Int)<=(i:Int)+d.length:=by omega
      have a1:((i:Int)+d.length).toNat=i+d.length:=by omega
      have a2:(i:Int)+d.length<s.length:=by omega
      have a3:(i:Int)+(d.length+1)=(i:Int)+d.length+1:=by omega
      obtain⟨c2,hgc'⟩:∃c2,s[i+d.length]'hq2=c2:=⟨_,rfl⟩
      rw[hgc']at hcb hgc hcb';replace hcb':=eqn hcb';clear hci hce hget2 hget' hl' hbb hgi hget gj gj' h2'' hcb;simp[*]
     ·intros s4 hp h1'' h2'' h3'' h4'';simp at h1'' h3'';have a0:(0:Int)<=(i:Int)+m:=by omega
      have a1:((i:Int)+m).toNat=i+m:=by omega
      clear hci hbb hgi hget gj gj' h2'';by_cases hmm:i+m<s.length
      ·have hcb:=hce hmm;have hgc:s[i+m]? =some s[i+m]:=by simp[hmm]
       have a2:(i:Int)+m<s.length:=by omega
       rw[hcb]at hgc;clear hce;simp[*];exact⟨⟨i+m,line,ac⟩,by simp only;omega,⟨by simp,by simp,rfl⟩,r⟩
      ·have a2:¬(i:Int)+m<s.length:=by omega
       clear hce;simp[*];exact⟨⟨i+m,line,ac⟩,by simp only;omega,⟨by simp,by simp,rfl⟩,r⟩
    ·have l2:=zEa c.toNat [];have l3:=zjb c.toNat []
     (simp[*])<;>(repeat' (first|((first|refine sP _ ?_ ?_|refine gP _ ?_ ?_|refine sN _ ?_ ?_|refine gN _ ?_ ?_)<;>intro hc<;>(first|replace hc:=eqn hc|replace hc:=eqp hc)<;>simp[*])|((first|refine sM _ ?_ ?_|refine gM _ ?_ ?_|refine sB _ ?_ ?_|refine gB _ ?_ ?_)<;>intro hc<;>simp[*])))
     refine zD (yD m) K33_1 B33_1 (fun d=>[(7,.int .i64 ((i+d.length:Nat):Int))]) (fun _=>[]) (fun _=>True) (by simp;omega) (by simp) ?_ ?_
     ·intros d x r' s4 hl' hlt hget2 hget' hw hp h1'' h2'' h3'' h4'';simp at h1'' h3'' hlt;have hq2:i+d.length<s.length:=by omega
      have hcb:=hci d.length hlt hq2;have hgc:s[i+d.length]? =some s[i+d.length]:=by simp[hq2]
      have hcb':¬(s[i+d.length].toNat:Int)=10:=fun h=>hcb (yJa.1 (by simp;omega))
      have wi:zA .i64 ((i:Int)+d.length+1)=((i:Int)+d.length)+1:=zi (by omega) (by omega);have a0:(0:Int)<=(i:Int)+d.length:=by omega
      have a1:((i:Int)+d.length).toNat=i+d.length:=by omega
      have a2:(i:Int)+d.length<s.length:=by omega
      have a3:(i:Int)+(d.length+1)=(i:Int)+d.length+1:=by omega
      obtain⟨c2,hgc'⟩:∃c2,s[i+d.length]'hq2=c2:=⟨_,rfl⟩
      rw[hgc']at hcb hgc hcb';replace hcb':=eqn hcb';clear hci hce hget2 hget' hl' hbb hgi hget gj gj' h2'' hcb;simp[*]
     ·intros s4 hp h1'' h2'' h3'' h4'';simp at h1'' h3'';have a0:(0:Int)<=(i:Int)+m:=by omega
      have a1:((i:Int)+m).toNat=i+m:=by omega
      clear hci hbb hgi hget gj gj' h2'';by_cases hmm:i+m<s.length
      ·have hcb:=hce hmm;have hgc:s[i+m]? =some s[i+m]:=by simp[hmm]
       have a2:(i:Int)+m<s.length:=by omega
       rw[hcb]at hgc;clear hce;simp[*];exact⟨⟨i+m,line,ac⟩,by simp only;omega,⟨by simp,by simp,rfl⟩,r⟩
      ·have a2:¬(i:Int)+m<s.length:=by omega
       clear hce;simp[*];exact⟨⟨i+m,line,ac⟩,by simp only;omega,⟨by simp,by simp,rfl⟩,r⟩
   ·clear bcom hci hce hle;replace hpl:=hpl (by
     rintro⟨h1,h2⟩
     apply hcom;refine⟨by rw[h1];rfl,?_⟩;by_cases hj:i+1<s.length
     ·refine⟨hj,?_⟩;rw[zPa hj]at h2;simp at h2;have h3:s[i+1]=47:=by
       have:s[i+1]? =some s[i+1]:=by simp[hj]
       rw[this]at h2;simpa using h2
      rw[h3];rfl
     ·rw[List.drop_eq_nil_of_le (by omega)]at h2;simp at h2)
    have q4:(ac.length+1)*32<=zn:=by simp only[zn];omega
    cases hnb:zF b
    ·obtain⟨s0,s1⟩:=bsign hpl hnb;have hk0:k=0:=hz.2 hnb;have hs:=sign_spec (s.drop i) (by simp;omega);have hsl:=sign_len (s.drop i);simp at hsl;generalize hsg:zle (s.drop i)=sg at*;have hcc:(¬(b.toNat:Int)=47)\/((b.toNat:Int)=47/\(i+1=s.length\/∃h:i+1<s.length,¬(s[i+1].toNat:Int)=47)):=by
      by_cases c4:(b.toNat:Int)=47
      ·right;refine⟨c4,?_⟩;by_cases hj:i+1<s.length
       ·exact yUa ⟨hj,fun h=>hcom ⟨c4,hj,h⟩⟩
       ·exact yOa (by omega)
      ·exact yOa c4
     have he:sg=[]->zM s=([],20,(line:Int)):=fun h=>by rw[e0];exact s0 h
     have hnb':=hnb;clear b10 bbl bname bsign hz hcb hcom hpl hroad s0 hnb e0 hk hrl hsg;subst hk0;have hwi:zA .i64 ((i:Int)+sg.length)=((i+sg.length:Nat):Int):=zi (by omega) (by omega);have hii:i<=s.length:=hi;generalize hq2:i+sg.length=q2 at*;have wi0:zA .i64 (i:Int)=i:=zi (by omega) (by omega);have l3:=zjb b.toNat [];simp only[zF,yBa]at hnb';obtain⟨g3,g4⟩:=hnb';clear hq hstop wk;rcases hcc with c4|⟨c4,hj|⟨hj,c5⟩⟩
     ·replace c4:=eqn c4;by_cases hsn:sg=[]
      ·replace he:=he hsn;subst hsn;clear s1
       (simp[*])<;>(repeat' (first|((first|refine sP _ ?_ ?_|refine gP _ ?_ ?_|refine sN _ ?_ ?_|refine gN _ ?_ ?_)<;>intro hc<;>(first|replace hc:=eqn hc|replace hc:=eqp hc)<;>simp[*])|((first|refine sM _ ?_ ?_|refine gM _ ?_ ?_|refine sB _ ?_ ?_|refine gB _ ?_ ?_)<;>intro hc<;>simp[*])))
      ·replace s1:=s1 hsn;have hpos:0<sg.length:=yha.2 hsn;replace hsn:=eqn hsn;clear he
       (simp[*,zx])<;>(repeat' (first|((first|refine sP _ ?_ ?_|refine gP _ ?_ ?_|refine sN _ ?_ ?_|refine gN _ ?_ ?_)<;>intro hc<;>(first|replace hc:=eqn hc|replace hc:=eqp hc)<;>simp[*,zx])|((first|refine sM _ ?_ ?_|refine gM _ ?_ ?_|refine sB _ ?_ ?_|refine gB _ ?_ ?_)<;>intro hc<;>simp[*,zx])))
       all_goals exact⟨⟨q2,line,ac++[⟨2,sg,line⟩]⟩,by simp only;omega,⟨by first|rfl|omega|(simp only;omega),by simp,by simp[zx]⟩,s1⟩
     ·replace c4:=eqp c4;have hj1:¬(i:Int)+1<s.length:=by omega
      by_cases hsn:sg=[]
      ·replace he:=he hsn;subst hsn;clear s1
       (simp[*])<;>(repeat' (first|((first|refine sP _ ?_ ?_|refine gP _ ?_ ?_|refine sN _ ?_ ?_|refine gN _ ?_ ?_)<;>intro hc<;>(first|replace hc:=eqn hc|replace hc:=eqp hc)<;>simp[*])|((first|refine sM _ ?_ ?_|refine gM _ ?_ ?_|refine sB _ ?_ ?_|refine gB _ ?_ ?_)<;>intro hc<;>simp[*])))
      ·replace s1:=s1 hsn;have hpos:0<sg.length:=yha.2 hsn;replace hsn:=eqn hsn;clear he
       (simp[*,zx])<;>(repeat' (first|((first|refine sP _ ?_ ?_|refine gP _ ?_ ?_|refine sN _ ?_ ?_|refine gN _ ?_ ?_)<;>intro hc<;>(first|replace hc:=eqn hc|replace hc:=eqp hc)<;>simp[*,zx])|((first|refine sM _ ?_ ?_|refine gM _ ?_ ?_|refine sB _ ?_ ?_|refine gB _ ?_ ?_)<;>intro hc<;>simp[*,zx])))
       all_goals exact⟨⟨q2,line,ac++[⟨2,sg,line⟩]⟩,by simp only;omega,⟨by first|rfl|omega|(simp only;omega),by simp,by simp[zx]⟩,s1⟩
     ·replace c4:=eqp c4;have hj1:(i:Int)+1<s.length:=by omega
      have tj:((i:Int)+1).toNat=i+1:=by omega
      have nj:(0:Int)<=(i:Int)+1:=by omega
      obtain⟨bj,gj'⟩:∃bj,s[i+1]'hj=bj:=⟨_,rfl⟩
      rw[gj']at c5;replace c5:=eqn c5;clear w1';by_cases hsn:sg=[]
      ·replace he:=he hsn;subst hsn;clear s1
       (simp[*])<;>(repeat' (first|((first|refine sP _ ?_ ?_|refine gP _ ?_ ?_|refine sN _ ?_ ?_|refine gN _ ?_ ?_)<;>intro hc<;>(first|replace hc:=eqn hc|replace hc:=eqp hc)<;>simp[*])|((first|refine sM _ ?_ ?_|refine gM _ ?_ ?_|refine sB _ ?_ ?_|refine gB _ ?_ ?_)<;>intro hc<;>simp[*])))
      ·replace s1:=s1 hsn;have hpos:0<sg.length:=yha.2 hsn;replace hsn:=eqn hsn;clear he
       (simp[*,zx])<;>(repeat' (first|((first|refine sP _ ?_ ?_|refine gP _ ?_ ?_|refine sN _ ?_ ?_|refine gN _ ?_ ?_)<;>intro hc<;>(first|replace hc:=eqn hc|replace hc:=eqp hc)<;>simp[*,zx])|((first|refine sM _ ?_ ?_|refine gM _ ?_ ?_|refine sB _ ?_ ?_|refine gB _ ?_ ?_)<;>intro hc<;>simp[*,zx])))
       all_goals exact⟨⟨q2,line,ac++[⟨2,sg,line⟩]⟩,by simp only;omega,⟨by first|rfl|omega|(simp only;omega),by simp,by simp[zx]⟩,s1⟩
    ·obtain⟨s0,s1⟩:=bname hpl hnb;have hk0:0<k:=by
      rcases Nat.eq_zero_or_pos k with h|h
      ·rw[hz.1 h]at hnb;cases hnb
      ·exact h
     have c4:¬(b.toNat:Int)=47:=by
      intro h;have:b=47:=yJa.1 (by simp;omega);rw[this]at hnb;exact absurd hnb (by decide)
     rw[<-hq]at s0 s1;have hqi:i<=q:=by omega
     have hqs:q<=s.length:=by omega
     have hwl:((s.take q).drop i).length=k:=by simp;omega
     have hqk:i<q:=by omega
     clear hz hcom hpl hroad b10 bbl bname bsign hcb hk hrl;have hw1:=rword_spec ((s.take q).drop i) [];have hw2:=zFc ((s.take q).drop i) [];have hw3:=number_spec ((s.take q).drop i) (by simp;omega);have he:tokBad ((s.take q).drop i) b=true->zM s=([],20,(line:Int)):=fun h=>by rw[e0];exact s0 h
     clear s0 e0;have ww:zA .i64 ((i:Int)+k)=q:=wk;have hki:i+k=q:=hq.symm;clear hq;generalize hww:(s.take q).drop i=w at*;replace c4:=eqn c4;have hnbb:zF b=(zIa b.toNat||zLb b.toNat):=rfl;rw[hnb]at hnbb;replace hnbb:=hnbb.symm;have hkn:tokKind w b=if wordM w then 2 else if zIa b.toNat then 1 else 0:=rfl
     have hbn:tokBad w b=((decide (tokKind w b=1)&& !zbc w)||(decide (tokKind w b=0)&& !zge w)):=rfl;rcases hstop with hst|⟨c,hst,g1,g2,g3,g4⟩
     ·rw[hst,List.take_length]at hww;cases f1:wordM w
      ·cases f2:zIa b.toNat
       ·rw[f1,f2]at hkn;simp at hkn;rw[hkn]at hbn s1;cases f3:zge w
        ·rw[f3]at hbn;simp at hbn;replace he:=he hbn;clear s1 hkn hnbb hbn
         (simp[*])<;>(repeat' (first|((first|refine sP _ ?_ ?_|refine gP _ ?_ ?_|refine sN _ ?_ ?_|refine gN _ ?_ ?_)<;>intro hc<;>(first|replace hc:=eqn hc|replace hc:=eqp hc)<;>simp[*])|((first|refine sM _ ?_ ?_|refine gM _ ?_ ?_|refine sB _ ?_ ?_|refine gB _ ?_ ?_)<;>intro hc<;>simp[*])))
        ·rw[f3]at hbn;simp at hbn;replace s1:=s1 hbn;clear he hkn hnbb hbn
         (simp[*,zx])<;>(repeat' (first|((first|refine sP _ ?_ ?_|refine gP _ ?_ ?_|refine sN _ ?_ ?_|refine gN _ ?_ ?_)<;>intro hc<;>(first|replace hc:=eqn hc|replace hc:=eqp hc)<;>simp[*,zx])|((first|refine sM _ ?_ ?_|refine gM _ ?_ ?_|refine sB _ ?_ ?_|refine gB _ ?_ ?_)<;>intro hc<;>simp[*,zx])))
         all_goals exact⟨⟨q,line,ac++[⟨0,w,line⟩]⟩,by simp only;omega,⟨by first|rfl|omega|(simp only;omega),by simp,by simp[zx]⟩,s1⟩
       ·rw[f1,f2]at hkn;simp at hkn;rw[hkn]at hbn s1;cases f3:zbc w
        ·rw[f3]at hbn;simp at hbn;replace he:=he hbn;clear s1 hkn hnbb hbn
         (simp[*])<;>(repeat' (first|((first|refine sP _ ?_ ?_|refine gP _ ?_ ?_|refine sN _ ?_ ?_|refine gN _ ?_ ?_)<;>intro hc<;>(first|replace hc:=eqn hc|replace hc:=eqp hc)<;>simp[*])|((first|refine sM _ ?_ ?_|refine gM _ ?_ ?_|refine sB _ ?_ ?_|refine gB _ ?_ ?_)<;>intro hc<;>simp[*])))
        ·rw[f3]at hbn;simp at hbn;replace s1:=s1 hbn;clear he hkn hnbb hbn
         (simp[*,zx])<;>(repeat' (first|((first|refine sP _ ?_ ?_|refine gP _ ?_ ?_|refine sN _ ?_ ?_|refine gN _ ?_ ?_)<;>intro hc<;>(first|replace hc:=eqn hc|replace hc:=eqp hc)<;>simp[*,zx])|((first|refine sM _ ?_ ?_|refine gM _ ?_ ?_|refine sB _ ?_ ?_|refine gB _ ?_ ?_)<;>intro hc<;>simp[*,zx])))
         all_goals exact⟨⟨q,line,ac++[⟨1,w,line⟩]⟩,by simp only;omega,⟨by first|rfl|omega|(simp only;omega),by simp,by simp[zx]⟩,s1⟩
      ·rw[f1]at hkn;simp at hkn;rw[hkn]at hbn s1;simp at hbn;replace s1:=s1 hbn;clear he hkn hnbb hbn;cases f2:zIa b.toNat
       ·(simp[*,zx])<;>(repeat' (first|((first|refine sP _ ?_ ?_|refine gP _ ?_ ?_|refine sN _ ?_ ?_|refine gN _ ?_ ?_)<;>intro hc<;>(first|replace hc:=eqn hc|replace hc:=eqp hc)<;>simp[*,zx])|((first|refine sM _ ?_ ?_|refine gM _ ?_ ?_|refine sB _ ?_ ?_|refine gB _ ?_ ?_)<;>intro hc<;>simp[*,zx])))
        all_goals exact⟨⟨q,line,ac++[⟨2,w,line⟩]⟩,by simp only;omega,⟨by first|rfl|omega|(simp only;omega),by simp,by simp[zx]⟩,s1⟩
       ·(simp[*,zx])<;>(repeat' (first|((first|refine sP _ ?_ ?_|refine gP _ ?_ ?_|refine sN _ ?_ ?_|refine gN _ ?_ ?_)<;>intro hc<;>(first|replace hc:=eqn hc|replace hc:=eqp hc)<;>simp[*,zx])|((first|refine sM _ ?_ ?_|refine gM _ ?_ ?_|refine sB _ ?_ ?_|refine gB _ ?_ ?_)<;>intro hc<;>simp[*,zx])))
        all_goals exact⟨⟨q,line,ac++[⟨2,w,line⟩]⟩,by simp only;omega,⟨by first|rfl|omega|(simp only;omega),by simp,by simp[zx]⟩,s1⟩
     ·have l2:=zEa c.toNat [];have l3:=zjb c.toNat [];cases f1:wordM w
      ·cases f2:zIa b.toNat
       ·rw[f1,f2]at hkn;simp at hkn;rw[hkn]at hbn s1;cases f3:zge w
        ·rw[f3]at hbn;simp at hbn;replace he:=he hbn;clear s1 hkn hnbb hbn
         (simp[*])<;>(repeat' (first|((first|refine sP _ ?_ ?_|refine gP _ ?_ ?_|refine sN _ ?_ ?_|refine gN _ ?_ ?_)<;>intro hc<;>(first|replace hc:=eqn hc|replace hc:=eqp hc)<;>simp[*])|((first|refine sM _ ?_ ?_|refine gM _ ?_ ?_|refine sB _ ?_ ?_|refine gB _ ?_ ?_)<;>intro hc<;>simp[*])))
        ·rw[f3]at hbn;simp at hbn;replace s1:=s1 hbn;clear he hkn hnbb hbn
         (simp[*,zx])<;>(repeat' (first|((first|refine sP _ ?_ ?_|refine gP _ ?_ ?_|refine sN _ ?_ ?_|refine gN _ ?_ ?_)<;>intro hc<;>(first|replace hc:=eqn hc|replace hc:=eqp hc)<;>simp[*,zx])|((first|refine sM _ ?_ ?_|refine gM _ ?_ ?_|refine sB _ ?_ ?_|refine gB _ ?_ ?_)<;>intro hc<;>simp[*,zx])))
         all_goals exact⟨⟨q,line,ac++[⟨0,w,line⟩]⟩,by simp only;omega,⟨by first|rfl|omega|(simp only;omega),by simp,by simp[zx]⟩,s1⟩
       ·rw[f1,f2]at hkn;simp at hkn;rw[hkn]at hbn s1;cases f3:zbc w
        ·rw[f3]at hbn;simp at hbn;replace he:=he hbn;clear s1 hkn hnbb hbn
         (simp[*])<;>(repeat' (first|((first|refine sP _ ?_ ?_|refine gP _ ?_ ?_|refine sN _ ?_ ?_|refine gN _ ?_ ?_)<;>intro hc<;>(first|replace hc:=eqn hc|replace hc:=eqp hc)<;>simp[*])|((first|refine sM _ ?_ ?_|refine gM _ ?_ ?_|refine sB _ ?_ ?_|refine gB _ ?_ ?_)<;>intro hc<;>simp[*])))
        ·rw[f3]at hbn;simp at hbn;replace s1:=s1 hbn;clear he hkn hnbb hbn
         (simp[*,zx])<;>(repeat' (first|((first|refine sP _ ?_ ?_|refine gP _ ?_ ?_|refine sN _ ?_ ?_|refine gN _ ?_ ?_)<;>intro hc<;>(first|replace hc:=eqn hc|replace hc:=eqp hc)<;>simp[*,zx])|((first|refine sM _ ?_ ?_|refine gM _ ?_ ?_|refine sB _ ?_ ?_|refine gB _ ?_ ?_)<;>intro hc<;>simp[*,zx])))
         all_goals exact⟨⟨q,line,ac++[⟨1,w,line⟩]⟩,by simp only;omega,⟨by first|rfl|omega|(simp only;omega),by simp,by simp[zx]⟩,s1⟩
      ·rw[f1]at hkn;simp at hkn;rw[hkn]at hbn s1;simp at hbn;replace s1:=s1 hbn;clear he hkn hnbb hbn;cases f2:zIa b.toNat
       ·(simp[*,zx])<;>(repeat' (first|((first|refine sP _ ?_ ?_|refine gP _ ?_ ?_|refine sN _ ?_ ?_|refine gN _ ?_ ?_)<;>intro hc<;>(first|replace hc:=eqn hc|replace hc:=eqp hc)<;>simp[*,zx])|((first|refine sM _ ?_ ?_|refine gM _ ?_ ?_|refine sB _ ?_ ?_|refine gB _ ?_ ?_)<;>intro hc<;>simp[*,zx])))
        all_goals exact⟨⟨q,line,ac++[⟨2,w,line⟩]⟩,by simp only;omega,⟨by first|rfl|omega|(simp only;omega),by simp,by simp[zx]⟩,s1⟩
       ·(simp[*,zx])<;>(repeat' (first|((first|refine sP _ ?_ ?_|refine gP _ ?_ ?_|refine sN _ ?_ ?_|refine gN _ ?_ ?_)<;>intro hc<;>(first|replace hc:=eqn hc|replace hc:=eqp hc)<;>simp[*,zx])|((first|refine sM _ ?_ ?_|refine gM _ ?_ ?_|refine sB _ ?_ ?_|refine gB _ ?_ ?_)<;>intro hc<;>simp[*,zx])))
        all_goals exact⟨⟨q,line,ac++[⟨2,w,line⟩]⟩,by simp only;omega,⟨by first|rfl|omega|(simp only;omega),by simp,by simp[zx]⟩,s1⟩
  ·have r:=bbl hcb;rw[hcb]at hbl;replace hbl:=hbl.symm;simp only[yP,decide_eq_true_eq]at hbl;clear b10 bbl bcom bname bsign hz hroad e0 hle hci hce hq hcb;rcases hbl with c1|c1|c1
   all_goals
    replace c1:=eqp c1;rcases hstop with hst|⟨c,hst,g1,g2,g3,g4⟩
    ·(simp[*])<;>(repeat' (first|((first|refine sP _ ?_ ?_|refine gP _ ?_ ?_|refine sN _ ?_ ?_|refine gN _ ?_ ?_)<;>intro hc<;>(first|replace hc:=eqn hc|replace hc:=eqp hc)<;>simp[*])|((first|refine sM _ ?_ ?_|refine gM _ ?_ ?_|refine sB _ ?_ ?_|refine gB _ ?_ ?_)<;>intro hc<;>simp[*])))
     all_goals exact⟨⟨i+1,line,ac⟩,by simp only;omega,⟨by simp,by simp,rfl⟩,r⟩
    ·have l2:=zEa c.toNat [];have l3:=zjb c.toNat []
     (simp[*])<;>(repeat' (first|((first|refine sP _ ?_ ?_|refine gP _ ?_ ?_|refine sN _ ?_ ?_|refine gN _ ?_ ?_)<;>intro hc<;>(first|replace hc:=eqn hc|replace hc:=eqp hc)<;>simp[*])|((first|refine sM _ ?_ ?_|refine gM _ ?_ ?_|refine sB _ ?_ ?_|refine gB _ ?_ ?_)<;>intro hc<;>simp[*])))
     all_goals exact⟨⟨i+1,line,ac⟩,by simp only;omega,⟨by simp,by simp,rfl⟩,r⟩
@[simp] theorem rebuild_agg(a l:List PV):zGa (.agg a) l= .agg l:=yd rfl rfl
structure PS where
 at':Nat
 bad:Bool
 deep:Bool
def pob(T:List Tok)(p:PS):zd:=[.arr 4 [.agg [toks T,.int .i64 p.at',.bool p.bad,.bool p.deep]]]
def tk(T:List Tok)(i:Nat):Tok:=T[i]?.getD ⟨3,[],0⟩
def zSa(p:PS):Bool:=p.bad||p.deep
def isF(T:List Tok)(s:List UInt8)(p:PS):Bool:= !zSa p&&(decide ((tk T p.at').kind=2)&&decide ((tk T p.at').text=s))
def takeF(T:List Tok)(s:List UInt8)(p:PS):Bool×PS:=if isF T s p then(true,{p with at':=p.at'+1})else(false,p)
def zAa(T:List Tok)(s:List UInt8)(p:PS):PS:=if isF T s p then{p with at':=p.at'+1}else if p.deep then p else{p with bad:=true}
def zga(T:List Tok)(k:Int)(p:PS):List UInt8×PS:=if zSa p then([],p)else if(tk T p.at').kind=k then((tk T p.at').text,{p with at':=p.at'+1})else([],{p with bad:=true})
def zja(T:List Tok)(p:PS):Int×PS:=if isF T [105,110,116] p then(1,{p with at':=p.at'+1})else(2,zAa T [98,111,111,108] p)
structure Inv1(T:List Tok)(p:PS):Prop where
 lt:p.at'<T.length
 last:∃t,T[T.length-1]? =some t/\t.kind=3
 sm:T.length<1000000
 num:∀t∈T,t.kind=0->digs t.text=true/\t.text.length<1000000
theorem tk_get{T:List Tok}{i:Nat}(h:i<T.length):T[i]? =some (tk T i):=by unfold tk;simp[h]
theorem tk_get'{T:List Tok}{i:Nat}(h:i<T.length):T[i]'h=tk T i:=by unfold tk;simp[h]
theorem Inv1.next{T:List Tok}{p:PS}(h:Inv1 T p)(hk:(tk T p.at').kind≠3)(b d:Bool):Inv1 T ⟨p.at'+1,b,d⟩:=by
 obtain⟨h1,⟨t,h2,h3⟩,h4,h5⟩:=h;refine⟨?_,⟨t,h2,h3⟩,h4,h5⟩;show p.at'+1<T.length
 rcases yA (p.at'+1) T.length with h|h
 ·exact h
 ·have:p.at'=T.length-1:=by omega
  unfold tk at hk;rw[this,h2]at hk;exact absurd h3 hk
theorem isF_kind{T:List Tok}{s:List UInt8}{p:PS}(h:isF T s p=true):(tk T p.at').kind=2/\(tk T p.at').text=s/\p.bad=false/\p.deep=false:=by
 simp[isF,zSa]at h;grind
def adv(p:PS):PS:={p with at':=p.at'+1}
theorem zV(T:List Tok)(s:List UInt8)(p:PS):takeF T s p=if isF T s p then(true,adv p)else(false,p):=rfl
theorem Inv1.adv{T:List Tok}{p:PS}(I:Inv1 T p)(s:List UInt8)(h:isF T s p=true):Inv1 T (adv p):=I.next (by rw[(isF_kind h).1];decide) _ _
section
variable {T:List Tok} {p:PS}
theorem zqc(I:Inv1 T p):zj E 63 [.ptr 0 0 0] (pob T p)=some (.ret (.bool (zSa p)),pob T p):=by
 refine zc rfl rfl rfl (by simp) ?_;unfold zSa;cases hb:p.bad<;>(simp[*,F63,pob,toks])<;>(repeat' ((first|refine sP _ ?_ ?_|refine gP _ ?_ ?_|refine sN _ ?_ ?_|refine gN _ ?_ ?_|refine sM _ ?_ ?_|refine gM _ ?_ ?_|refine sB _ ?_ ?_|refine gB _ ?_ ?_)<;>intro hc<;>simp[*,F63,pob,toks]))
theorem is_spec(I:Inv1 T p)(s:List UInt8):zj E 94 [.ptr 0 0 0,.str s] (pob T p)=some (.ret (.bool (isF T s p)),pob T p):=by
 refine zc rfl rfl rfl (by simp) ?_;have h1:=zqc I;have hlt:=I.lt;have hg:=tk_get hlt;have hg':=tk_get' hlt;unfold isF;cases ho:zSa p
 ·rw[ho]at h1;by_cases hk:(tk T p.at').kind=2
  ·have hk':decide ((tk T p.at').kind=2)=true:=decide_eq_true hk;replace hk:=eqp hk;simp[pob,toks]at h1
   (simp[*,F94,pob,toks,zx])<;>(repeat' (first|((first|refine sP _ ?_ ?_|refine gP _ ?_ ?_|refine sN _ ?_ ?_|refine gN _ ?_ ?_)<;>intro hc<;>(first|replace hc:=eqn hc|replace hc:=eqp hc)<;>simp[*,F94,pob,toks,zx])|((first|refine sM _ ?_ ?_|refine gM _ ?_ ?_|refine sB _ ?_ ?_|refine gB _ ?_ ?_)<;>intro hc<;>simp[*,F94,pob,toks,zx])))
  ·have hk':decide ((tk T p.at').kind=2)=false:=decide_eq_false hk;replace hk:=eqn hk;simp[pob,toks]at h1
   (simp[*,F94,pob,toks,zx])<;>(repeat' (first|((first|refine sP _ ?_ ?_|refine gP _ ?_ ?_|refine sN _ ?_ ?_|refine gN _ ?_ ?_)<;>intro hc<;>(first|replace hc:=eqn hc|replace hc:=eqp hc)<;>simp[*,F94,pob,toks,zx])|((first|refine sM _ ?_ ?_|refine gM _ ?_ ?_|refine sB _ ?_ ?_|refine gB _ ?_ ?_)<;>intro hc<;>simp[*,F94,pob,toks,zx])))
 ·rw[ho]at h1;simp[pob,toks]at h1
  (simp[*,F94,pob,toks,zx])<;>(repeat' (first|((first|refine sP _ ?_ ?_|refine gP _ ?_ ?_|refine sN _ ?_ ?_|refine gN _ ?_ ?_)<;>intro hc<;>(first|replace hc:=eqn hc|replace hc:=eqp hc)<;>simp[*,F94,pob,toks,zx])|((first|refine sM _ ?_ ?_|refine gM _ ?_ ?_|refine sB _ ?_ ?_|refine gB _ ?_ ?_)<;>intro hc<;>simp[*,F94,pob,toks,zx])))
theorem Inv1.bad'(I:Inv1 T p):Inv1 T {p with bad:=true}:=⟨I.lt,I.last,I.sm,I.num⟩
theorem Inv1.deep'(I:Inv1 T p):Inv1 T {p with deep:=true}:=⟨I.lt,I.last,I.sm,I.num⟩
theorem Inv1.must(I:Inv1 T p)(s:List UInt8):Inv1 T (zAa T s p):=by
 unfold zAa;split
 ·rename_i h;exact I.next (by rw[(isF_kind h).1];decide) _ _
 ·split
  ·exact I
  ·exact I.bad'
theorem Inv1.text(I:Inv1 T p)(k:Int)(hk:k≠3):Inv1 T (zga T k p).2:=by
 unfold zga;split
 ·exact I
 ·split
  ·rename_i h;exact I.next (by rw[h];exact hk) _ _
  ·exact I.bad'
theorem Inv1.typed(I:Inv1 T p):Inv1 T (zja T p).2:=by
 unfold zja;split
 ·rename_i h;exact I.next (by rw[(isF_kind h).1];decide) _ _
 ·exact I.must _
theorem zG(I:Inv1 T p)(s:List UInt8):zj E 66 [.ptr 0 0 0,.str s] (pob T p)=some (.ret (.bool (takeF T s p).1),pob T (takeF T s p).2):=by
 refine zc rfl rfl rfl (by simp) ?_;have h1:=is_spec I s;have hw:zA .i64 ((p.at':Int)+1)=(p.at':Int)+1:=zi (by omega) (by have:=I.lt;have:=I.sm;omega);unfold takeF;cases ho:isF T s p
 ·rw[ho]at h1;simp[pob,toks]at h1
  (simp[*,F66,pob,toks])<;>(repeat' (first|((first|refine sP _ ?_ ?_|refine gP _ ?_ ?_|refine sN _ ?_ ?_|refine gN _ ?_ ?_)<;>intro hc<;>(first|replace hc:=eqn hc|replace hc:=eqp hc)<;>simp[*,F66,pob,toks])|((first|refine sM _ ?_ ?_|refine gM _ ?_ ?_|refine sB _ ?_ ?_|refine gB _ ?_ ?_)<;>intro hc<;>simp[*,F66,pob,toks])))
 ·rw[ho]at h1;simp[pob,toks]at h1
  (simp[*,F66,pob,toks])<;>(repeat' (first|((first|refine sP _ ?_ ?_|refine gP _ ?_ ?_|refine sN _ ?_ ?_|refine gN _ ?_ ?_)<;>intro hc<;>(first|replace hc:=eqn hc|replace hc:=eqp hc)<;>simp[*,F66,pob,toks])|((first|refine sM _ ?_ ?_|refine gM _ ?_ ?_|refine sB _ ?_ ?_|refine gB _ ?_ ?_)<;>intro hc<;>simp[*,F66,pob,toks])))
theorem zB(I:Inv1 T p)(s:List UInt8):zj E 67 [.ptr 0 0 0,.str s] (pob T p)=some (.ret (.tup []),pob T (zAa T s p)):=by
 refine zc rfl rfl rfl (by simp) ?_;have h1:=zG I s;unfold zAa;unfold takeF at h1;cases ho:isF T s p
 ·rw[ho]at h1;simp[pob,toks]at h1;cases hd:p.deep
  ·rw[hd]at h1
   (simp[*,F67,pob,toks])<;>(repeat' (first|((first|refine sP _ ?_ ?_|refine gP _ ?_ ?_|refine sN _ ?_ ?_|refine gN _ ?_ ?_)<;>intro hc<;>(first|replace hc:=eqn hc|replace hc:=eqp hc)<;>simp[*,F67,pob,toks])|((first|refine sM _ ?_ ?_|refine gM _ ?_ ?_|refine sB _ ?_ ?_|refine gB _ ?_ ?_)<;>intro hc<;>simp[*,F67,pob,toks])))
  ·rw[hd]at h1
   (simp[*,F67,pob,toks])<;>(repeat' (first|((first|refine sP _ ?_ ?_|refine gP _ ?_ ?_|refine sN _ ?_ ?_|refine gN _ ?_ ?_)<;>intro hc<;>(first|replace hc:=eqn hc|replace hc:=eqp hc)<;>simp[*,F67,pob,toks])|((first|refine sM _ ?_ ?_|refine gM _ ?_ ?_|refine sB _ ?_ ?_|refine gB _ ?_ ?_)<;>intro hc<;>simp[*,F67,pob,toks])))
 ·rw[ho]at h1;simp[pob,toks]at h1
  (simp[*,F67,pob,toks])<;>(repeat' (first|((first|refine sP _ ?_ ?_|refine gP _ ?_ ?_|refine sN _ ?_ ?_|refine gN _ ?_ ?_)<;>intro hc<;>(first|replace hc:=eqn hc|replace hc:=eqp hc)<;>simp[*,F67,pob,toks])|((first|refine sM _ ?_ ?_|refine gM _ ?_ ?_|refine sB _ ?_ ?_|refine gB _ ?_ ?_)<;>intro hc<;>simp[*,F67,pob,toks])))
theorem zVc(I:Inv1 T p)(k:Int):zj E 65 [.ptr 0 0 0,.int .i64 k] (pob T p)=some (.ret (.str (zga T k p).1),pob T (zga T k p).2):=by
 refine zc rfl rfl rfl (by simp) ?_;have h1:=zqc I;have hlt:=I.lt;have hg:=tk_get hlt;have hg':=tk_get' hlt;have hw:zA .i64 ((p.at':Int)+1)=(p.at':Int)+1:=zi (by omega) (by have:=I.lt;have:=I.sm;omega);unfold zga;cases ho:zSa p
 ·rw[ho]at h1;simp[pob,toks]at h1;by_cases hk:(tk T p.at').kind=k
  ·replace hk:=eqp hk
   (simp[*,F65,pob,toks,zx])<;>(repeat' (first|((first|refine sP _ ?_ ?_|refine gP _ ?_ ?_|refine sN _ ?_ ?_|refine gN _ ?_ ?_)<;>intro hc<;>(first|replace hc:=eqn hc|replace hc:=eqp hc)<;>simp[*,F65,pob,toks,zx])|((first|refine sM _ ?_ ?_|refine gM _ ?_ ?_|refine sB _ ?_ ?_|refine gB _ ?_ ?_)<;>intro hc<;>simp[*,F65,pob,toks,zx])))
  ·replace hk:=eqn hk
   (simp[*,F65,pob,toks,zx])<;>(repeat' (first|((first|refine sP _ ?_ ?_|refine gP _ ?_ ?_|refine sN _ ?_ ?_|refine gN _ ?_ ?_)<;>intro hc<;>(first|replace hc:=eqn hc|replace hc:=eqp hc)<;>simp[*,F65,pob,toks,zx])|((first|refine sM _ ?_ ?_|refine gM _ ?_ ?_|refine sB _ ?_ ?_|refine gB _ ?_ ?_)<;>intro hc<;>simp[*,F65,pob,toks,zx])))
 ·rw[ho]at h1;simp[pob,toks]at h1
  (simp[*,F65,pob,toks,zx])<;>(repeat' (first|((first|refine sP _ ?_ ?_|refine gP _ ?_ ?_|refine sN _ ?_ ?_|refine gN _ ?_ ?_)<;>intro hc<;>(first|replace hc:=eqn hc|replace hc:=eqp hc)<;>simp[*,F65,pob,toks,zx])|((first|refine sM _ ?_ ?_|refine gM _ ?_ ?_|refine sB _ ?_ ?_|refine gB _ ?_ ?_)<;>intro hc<;>simp[*,F65,pob,toks,zx])))
theorem typed_spec(I:Inv1 T p):zj E 64 [.ptr 0 0 0] (pob T p)=some (.ret (.int .i64 (zja T p).1),pob T (zja T p).2):=by
 refine zc rfl rfl rfl (by simp) ?_;have h1:=zG I [105,110,116];have h2:=zB I [98,111,111,108];unfold zja;unfold takeF at h1;cases ho:isF T [105,110,116] p
 ·rw[ho]at h1
  (simp[*,F64])<;>(repeat' (first|((first|refine sP _ ?_ ?_|refine gP _ ?_ ?_|refine sN _ ?_ ?_|refine gN _ ?_ ?_)<;>intro hc<;>(first|replace hc:=eqn hc|replace hc:=eqp hc)<;>simp[*,F64])|((first|refine sM _ ?_ ?_|refine gM _ ?_ ?_|refine sB _ ?_ ?_|refine gB _ ?_ ?_)<;>intro hc<;>simp[*,F64])))
 ·rw[ho]at h1
  (simp[*,F64])<;>(repeat' (first|((first|refine sP _ ?_ ?_|refine gP _ ?_ ?_|refine sN _ ?_ ?_|refine gN _ ?_ ?_)<;>intro hc<;>(first|replace hc:=eqn hc|replace hc:=eqp hc)<;>simp[*,F64])|((first|refine sM _ ?_ ?_|refine gM _ ?_ ?_|refine sB _ ?_ ?_|refine gB _ ?_ ?_)<;>intro hc<;>simp[*,F64])))
end
def signsR:List (List UInt8):=[[43],[45],[42],[47],[37],[38],[124],[94],[60,60],[62,62],[62,62,62],[60],[60,61],[62],[62,61],[61,61],[33,61],[38,38],[124,124],[45],[126],[33],[105,56],[105,49,54],[105,51,50],[117,56],[117,49,54],[117,51,50]]
def signR(op:Int):List UInt8:=if op<1\/28<op then[]else signsR[(op-1).toNat]?.getD []
def zse(op:Int):Int:=
 if op=19 then 1 else if op=18 then 2 else if op=7 then 3 else if op=8 then 4 else if op=6 then 5
 else if op=16\/op=17 then 6 else if op=12\/op=13\/op=14\/op=15 then 7 else if op=9\/op=10\/op=11 then 8
 else if op=1\/op=2 then 9 else if op=3\/op=4\/op=5 then 10 else 0
def oneR(op:Int):Bool:=decide (20<=op)&&decide (op<=28)
theorem signs_spec:zj E 201 [] []=some (.ret (.slice .plain 1 (signsR.map PV.str)),[]):=by
 refine zc rfl rfl rfl (by simp) ?_;have:signsR.map PV.str=[PV.str [43],PV.str [45],PV.str [42],PV.str [47],PV.str [37],PV.str [38],PV.str [124],PV.str [94],PV.str [60,60],PV.str [62,62],PV.str [62,62,62],PV.str [60],PV.str [60,61],PV.str [62],PV.str [62,61],PV.str [61,61],PV.str [33,61],PV.str [38,38],PV.str [124,124],PV.str [45],PV.str [126],PV.str [33],PV.str [105,56],PV.str [105,49,54],PV.str [105,51,50],PV.str [117,56],PV.str [117,49,54],PV.str [117,51,50]]:=rfl;rw[this];simp[F201]
theorem rsign_spec(op:Int):zj E 194 [.int .i64 op] []=some (.ret (.str (signR op)),[]):=by
 refine zc rfl rfl rfl (by simp) ?_;have hs:=signs_spec;unfold signR;by_cases h1:op<1
 ·(simp[*,F194])<;>(repeat' ((first|refine sP _ ?_ ?_|refine gP _ ?_ ?_|refine sN _ ?_ ?_|refine gN _ ?_ ?_|refine sM _ ?_ ?_|refine gM _ ?_ ?_|refine sB _ ?_ ?_|refine gB _ ?_ ?_)<;>intro hc<;>simp[*,F194]))
 ·by_cases h2:28<op
  ·(simp[*,F194])<;>(repeat' ((first|refine sP _ ?_ ?_|refine gP _ ?_ ?_|refine sN _ ?_ ?_|refine gN _ ?_ ?_|refine sM _ ?_ ?_|refine gM _ ?_ ?_|refine sB _ ?_ ?_|refine gB _ ?_ ?_)<;>intro hc<;>simp[*,F194]))
  ·have hw:zA .i64 (op-1)=op-1:=zi (by omega) (by omega);have h3:0<=op-1:=by omega
   have hl:signsR.length=28:=rfl;have h4:op.toNat-1<signsR.length:=by omega
   have h6:(op-1).toNat=op.toNat-1:=by omega
   rw[h6];have h5:signsR[op.toNat-1]? =some (signsR[op.toNat-1]'h4):=by simp[h4]
   clear h6;generalize hx:op.toNat-1=n at*;have h3':1<=op:=by omega
   clear hl;generalize signsR=l at*
   (simp[*,F194])<;>(repeat' ((first|refine sP _ ?_ ?_|refine gP _ ?_ ?_|refine sN _ ?_ ?_|refine gN _ ?_ ?_|refine sM _ ?_ ?_|refine gM _ ?_ ?_|refine sB _ ?_ ?_|refine gB _ ?_ ?_)<;>intro hc<;>simp[*,F194]))
theorem rlevel_spec(op:Int):zj E 122 [.int .i64 op] []=some (.ret (.int .i64 (zse op)),[]):=by
 refine zc rfl rfl rfl (by simp) ?_;unfold zse
 (simp[*,F122])<;>(repeat' ((first|refine sP _ ?_ ?_|refine gP _ ?_ ?_|refine sN _ ?_ ?_|refine gN _ ?_ ?_|refine sM _ ?_ ?_|refine gM _ ?_ ?_|refine sB _ ?_ ?_|refine gB _ ?_ ?_)<;>intro hc<;>simp[*,F122]))
theorem roneR_spec(op:Int):zj E 121 [.int .i64 op] []=some (.ret (.bool (oneR op)),[]):=by
 refine zc rfl rfl rfl (by simp) ?_;unfold oneR
 (simp[*,F121])<;>(repeat' ((first|refine sP _ ?_ ?_|refine gP _ ?_ ?_|refine sN _ ?_ ?_|refine gN _ ?_ ?_|refine sM _ ?_ ?_|refine gM _ ?_ ?_|refine sB _ ?_ ?_|refine gB _ ?_ ?_)<;>intro hc<;>simp[*,F121]))
def opHere(T:List Tok)(L:Int)(p:PS)(i:Nat):Bool:=decide (zse (i+1:Nat)=L)&&isF T (signR (i+1:Nat)) p
def opF(T:List Tok)(L:Int)(p:PS):Int:=match(yD 19).find? (opHere T L p)with
 |some i=>((i+1:Nat):Int)
 |none=>0
theorem op_spec{T:List Tok}{p:PS}(I:Inv1 T p)(L:Int):zj E 176 [.ptr 0 0 0,.int .i64 L] (pob T p)=some (.ret (.int .i64 (opF T L p)),pob T p):=by
 refine zc rfl rfl rfl (by simp) ?_;simp[F176];refine zD (yD 19) K176_0 B176_0 (fun d=>[(5,.int .i64 ((d.length+1:Nat):Int))]) (fun _=>pob T p) (fun d=>∀i∈d,opHere T L p i=false) (by simp) (by simp) ?_ ?_
 ·intros d x r s1 hl' hlt hget hget' hw hp h1 h2 h3 h4;simp at h1 h3 hlt;have hx:x=d.length:=by rw[<-hget',List.getElem_range]
  subst hx;have e1:=rlevel_spec ((d.length+1:Nat):Int);have e2:=rsign_spec ((d.length+1:Nat):Int);have e3:=is_spec I (signR ((d.length+1:Nat):Int));have hle:(d.length:Int)+1<=19:=by omega
  have hw2:zA .i64 ((d.length:Int)+1+1)=(d.length:Int)+1+1:=zi (by omega) (by omega);have hf:opHere T L p d.length=true->opF T L p=((d.length+1:Nat):Int):=by
   intro h;unfold opF;rw[hl'.eq,yXa];have:d.find? (opHere T L p)=none:=by rw[yba];intro y hy;simp[hp y hy]
   rw[this];simp[yfb,h]
  have ho:opHere T L p d.length=(decide (zse ((d.length+1:Nat):Int)=L)&&isF T (signR ((d.length+1:Nat):Int)) p):=rfl;have hn:=fun(h:opHere T L p d.length=false)=>(fun i (hi:i∈d++[d.length])=>by
   rcases yx.1 hi with h'|h'
   ·exact hp i h'
   ·rw[yI.1 h'];exact h:∀i∈d++[d.length],opHere T L p i=false)
  clear h2 hget hget' hl' hp;simp at e1 e2 e3 ho hf;by_cases hL:zse ((d.length:Int)+1)=L
  ·have hL':decide (zse ((d.length:Int)+1)=L)=true:=decide_eq_true hL;rw[hL',yma]at ho;replace hL:=eqp hL;cases hi:isF T (signR ((d.length:Int)+1)) p
   ·replace hn:=hn (ho.trans hi);rw[hi]at ho e3;clear hf ho;simp[*];grind
   ·replace hf:=hf (ho.trans hi);rw[hi]at ho e3;clear hn ho;simp[*]
  ·have hL':decide (zse ((d.length:Int)+1)=L)=false:=decide_eq_false hL;rw[hL',Bool.false_and]at ho;replace hL:=eqn hL;replace hn:=hn ho;clear hf ho;simp[*];grind
 ·intros s1 hp h1 h2 h3 h4;simp at h1 h3;have hf:opF T L p=0:=by
   unfold opF;have:(yD 19).find? (opHere T L p)=none:=by rw[yba];intro y hy;simp[hp y hy]
   rw[this]
  clear h2 hp;simp[*]
def zOb(T:List Tok)(p:PS)(i:Nat):Bool:=isF T (signR ((i+20:Nat):Int)) p
def deepF(d:Int)(p:PS):PS:=if 100<d then if p.bad then p else{p with deep:=true}else p
theorem Inv1.deepF{T:List Tok}{p:PS}(I:Inv1 T p)(d:Int):Inv1 T (deepF d p):=by
 unfold PE.U.deepF;split
 ·split
  ·exact I
  ·exact I.deep'
 ·exact I
def unF(T:List Tok)(p:PS):Option Nat:=(yD 9).find? (zOb T p)
mutual
def zUc(T:List Tok):Nat->Int->PS->Option (Expr×PS)
 |0,_,_=>none
 |n+1,d,p=>
  if zSa p then some (⟨0,0,0,[],[]⟩,p)
  else if isF T [40] p then
   match zuc T n 1 (d+1) (adv p)with
   |none=>none
   |some q=>some (q.1,zAa T [41] q.2)
  else if isF T [116,114,117,101] p then some (⟨2,0,1,[],[]⟩,adv p)
  else if isF T [102,97,108,115,101] p then some (⟨2,0,0,[],[]⟩,adv p)
  else if isF T [114,101,97,100] p then some (⟨8,0,0,[],[]⟩,zAa T [41] (zAa T [40] (adv p)))
  else if(tk T p.at').kind=0 then some (⟨1,0,zLd (tk T p.at').text,[],[]⟩,adv p)
  else if isF T [40] (zga T 1 p).2 then
   match argsF T n (d+1) (adv (zga T 1 p).2)with
   |none=>none
   |some q=>some (⟨7,0,0,(zga T 1 p).1,q.1⟩,q.2)
  else if isF T [91] (zga T 1 p).2 then
   match zuc T n 1 (d+1) (adv (zga T 1 p).2)with
   |none=>none
   |some q=>some (⟨6,0,0,(zga T 1 p).1,[q.1]⟩,zAa T [93] q.2)
  else some (⟨3,0,0,(zga T 1 p).1,[]⟩,(zga T 1 p).2)
def unaryF(T:List Tok):Nat->Int->PS->Option (Expr×PS)
 |0,_,_=>none
 |n+1,d,p=>
  match unF T (deepF d p)with
  |some i=>
   if 3<=i then
    match zuc T n 1 (d+1) (zAa T [40] (adv (deepF d p)))with
    |none=>none
    |some q=>some (⟨4,((i+20:Nat):Int),0,[],[q.1]⟩,zAa T [41] q.2)
   else
    match unaryF T n (d+1) (adv (deepF d p))with
    |none=>none
    |some q=>some (⟨4,((i+20:Nat):Int),0,[],[q.1]⟩,q.2)
  |none=>zUc T n d (deepF d p)
def zuc(T:List Tok):Nat->Int->Int->PS->Option (Expr×PS)
 |0,_,_,_=>none
 |n+1,L,d,p=>
  if 10<L then unaryF T n d p
  else match zuc T n (L+1) d p with
   |none=>none
   |some q=>zYa T n L d q.1 q.2
def zYa(T:List Tok):Nat->Int->Int->Expr->PS->Option (Expr×PS)
 |0,_,_,_,_=>none
 |n+1,L,d,a,p=>
  if opF T L p=0 then some (a,p)
  else match zuc T n (L+1) d (adv p)with
   |none=>none
   |some q=>zYa T n L d ⟨5,opF T L p,0,[],[a,q.1]⟩ q.2
def argsF(T:List Tok):Nat->Int->PS->Option (List Expr×PS)
 |0,_,_=>none
 |n+1,d,p=>
  if isF T [41] p then some ([],adv p)
  else match zqa T n d [] true p with
   |none=>none
   |some q=>some (q.1,zAa T [41] q.2)
def zqa(T:List Tok):Nat->Int->List Expr->Bool->PS->Option (List Expr×PS)
 |0,_,_,_,_=>none
 |n+1,d,l,first,p=>
  if first||isF T [44] p then
   if zSa (if first then p else adv p)then some (l,if first then p else adv p)
   else match zuc T n 1 d (if first then p else adv p)with
    |none=>none
    |some q=>zqa T n d (l++[q.1]) false q.2
  else some (l,p)
end
structure ESpec(T:List Tok)(n:Nat):Prop where
 primary:∀d p v p',zUc T n d p=some (v,p')->Inv1 T p->0<=d->d+n<=1000000000->zj E 195 [.ptr 0 0 0,.int .i64 d] (pob T p)=some (.ret (zo v),pob T p')/\Inv1 T p'
 unary:∀d p v p',unaryF T n d p=some (v,p')->Inv1 T p->0<=d->d+n<=1000000000->zj E 175 [.ptr 0 0 0,.int .i64 d] (pob T p)=some (.ret (zo v),pob T p')/\Inv1 T p'
 expr:∀L d p v p',zuc T n L d p=some (v,p')->Inv1 T p->1<=L->L<=11->0<=d->d+n<=1000000000->zj E 152 [.ptr 0 0 0,.int .i64 L,.int .i64 d] (pob T p)=some (.ret (zo v),pob T p')/\Inv1 T p'
 args:∀d p v p',argsF T n d p=some (v,p')->Inv1 T p->0<=d->d+n<=1000000000->zj E 177 [.ptr 0 0 0,.int .i64 d] (pob T p)=some (.ret (zf v),pob T p')/\Inv1 T p'
set_option maxHeartbeats 4000000 in
theorem primary_of{T:List Tok}{n:Nat}(S:ESpec T n):∀d p v p',zUc T (n+1) d p=some (v,p')->Inv1 T p->0<=d->d+(n+1:Nat)<=1000000000->zj E 195 [.ptr 0 0 0,.int .i64 d] (pob T p)=some (.ret (zo v),pob T p')/\Inv1 T p':=by
 intro d p v p' h I hd hn;have hw:zA .i64 (d+1)=d+1:=zi (by omega) (by omega);simp only[zUc]at h;have ho:=zqc I;cases o:zSa p
 case true=>
  rw[if_pos o]at h;cases h;refine⟨?_,I⟩;refine zc rfl rfl rfl (by simp) ?_;rw[o]at ho;simp[pob,toks]at ho;simp[*,F195,zo,encEs,pob,toks]
 rw[if_neg (by rw[o];decide)]at h;rw[o]at ho;have t1:=zG I [40];rw[zV]at t1;cases c1:isF T [40] p
 case true=>
  rw[if_pos c1]at h;rw[c1]at t1;split at h
  ·cases h
  ·rename_i q hq;obtain⟨e,p2⟩:=q;cases h;have IA:=I.adv _ c1;obtain⟨x1,I3⟩:=S.expr 1 (d+1) _ e p2 hq IA (by omega) (by omega) (by omega) (by omega);have m2:=zB I3 [41];refine⟨?_,I3.must _⟩;refine zc rfl rfl rfl (by simp) ?_;clear hq o c1;rw[za]at x1 ⊢;simp[pob,toks,adv,zf]at ho t1 x1 m2;simp[*,F195,zf,pob,toks]
 rw[if_neg (by rw[c1];decide)]at h;rw[c1]at t1;have t2:=zG I [116,114,117,101];rw[zV]at t2;cases c2:isF T [116,114,117,101] p
 case true=>
  rw[if_pos c2]at h;rw[c2]at t2;cases h;refine⟨?_,I.adv _ c2⟩;refine zc rfl rfl rfl (by simp) ?_;clear o c1 c2;simp[pob,toks,adv]at ho t1 t2;simp[*,F195,zo,encEs,pob,toks,adv]
 rw[if_neg (by rw[c2];decide)]at h;rw[c2]at t2;have t3:=zG I [102,97,108,115,101];rw[zV]at t3;cases c3:isF T [102,97,108,115,101] p
 case true=>
  rw[if_pos c3]at h;rw[c3]at t3;cases h;refine⟨?_,I.adv _ c3⟩;refine zc rfl rfl rfl (by simp) ?_;clear o c1 c2 c3;simp[pob,toks,adv]at ho t1 t2 t3;simp[*,F195,zo,encEs,pob,toks,adv]
 rw[if_neg (by rw[c3];decide)]at h;rw[c3]at t3;have t4:=zG I [114,101,97,100];rw[zV]at t4;cases c4:isF T [114,101,97,100] p
 case true=>
  rw[if_pos c4]at h;rw[c4]at t4;cases h;have IA:=I.adv _ c4;have m1:=zB IA [40];have m2:=zB (IA.must [40]) [41];refine⟨?_,(IA.must _).must _⟩;refine zc rfl rfl rfl (by simp) ?_;clear o c1 c2 c3 c4;simp[pob,toks,adv]at ho t1 t2 t3 t4 m1 m2;simp[*,F195,zo,encEs,pob,toks,adv]
 rw[if_neg (by rw[c4];decide)]at h;rw[c4]at t4;have hlt:=I.lt;have hg:=tk_get hlt;have hg':=tk_get' hlt;by_cases c5:(tk T p.at').kind=0
 ·rw[if_pos c5]at h;have tx:=zVc I 0;have hnum:=I.num (tk T p.at') (by rw[<-hg'];exact List.getElem_mem hlt) c5;have vv:=zxe (tk T p.at').text [] hnum.1 (by omega);have htx:zga T 0 p=((tk T p.at').text,adv p):=by unfold zga;rw[if_neg (by rw[o];decide),if_pos c5];rfl
  have IA:Inv1 T (adv p):=I.next (by rw[c5];decide) _ _;rw[htx]at tx;cases h;refine⟨?_,IA⟩;refine zc rfl rfl rfl (by simp) ?_;clear o c1 c2 c3 c4 htx;replace c5:=eqp c5;simp[pob,toks,adv]at ho t1 t2 t3 t4 tx;simp[*,F195,zo,encEs,pob,toks,adv,zx]
 rw[if_neg c5]at h;replace c5:=eqn c5;have tx:=zVc I 1;have I1:=I.text 1 (by decide);have t6:=zG I1 [40];rw[zV]at t6;generalize htt:zga T 1 p=tt at*;obtain⟨s,p1⟩:=tt;simp only at h tx I1 t6;clear htt;cases c6:isF T [40] p1
 case true=>
  rw[if_pos c6]at h;rw[c6]at t6;split at h
  ·cases h
  ·rename_i q hq;obtain⟨l,p2⟩:=q;cases h;have IA:=I1.adv _ c6;obtain⟨x1,I3⟩:=S.args (d+1) _ l p2 hq IA (by omega) (by omega);refine⟨?_,I3⟩;refine zc rfl rfl rfl (by simp) ?_;clear hq o c1 c2 c3 c4 c6;rw[za];simp[pob,toks,adv,zf]at ho t1 t2 t3 t4 tx t6 x1;simp[*,F195,zf,pob,toks,zx]
 rw[if_neg (by rw[c6];decide)]at h;rw[c6]at t6;have t7:=zG I1 [91];rw[zV]at t7;cases c7:isF T [91] p1
 case true=>
  rw[if_pos c7]at h;rw[c7]at t7;split at h
  ·cases h
  ·rename_i q hq;obtain⟨e,p2⟩:=q;cases h;have IA:=I1.adv _ c7;obtain⟨x1,I3⟩:=S.expr 1 (d+1) _ e p2 hq IA (by omega) (by omega) (by omega) (by omega);have m2:=zB I3 [93];refine⟨?_,I3.must _⟩;refine zc rfl rfl rfl (by simp) ?_;clear hq o c1 c2 c3 c4 c6 c7;rw[za]at x1;rw[za];simp[pob,toks,adv,zf]at ho t1 t2 t3 t4 tx t6 t7 x1 m2;simp[*,F195,zf,pob,toks,zx,za]
 rw[if_neg (by rw[c7];decide)]at h;rw[c7]at t7;cases h;refine⟨?_,I1⟩;refine zc rfl rfl rfl (by simp) ?_;clear o c1 c2 c3 c4 c6 c7;simp[pob,toks,adv]at ho t1 t2 t3 t4 tx t6 t7;simp[*,F195,zo,encEs,pob,toks,zx]
structure LS where
 m:Nat
 a:Expr
 p:PS
theorem opF_pos{T:List Tok}{L:Int}{p:PS}(h:¬opF T L p=0):∃s,isF T s p=true:=by
 unfold opF at h;cases hf:(yD 19).find? (opHere T L p)with
 |none=>rw[hf]at h;exact absurd rfl h
 |some i=>
  have:=List.find?_some hf;simp only[opHere,yb]at this;exact⟨_,this.2⟩
set_option maxHeartbeats 2000000 in
theorem expr_of{T:List Tok}{n:Nat}(S:∀k,k<=n->ESpec T k):∀L d p v p',zuc T (n+1) L d p=some (v,p')->Inv1 T p->1<=L->L<=11->0<=d->d+(n+1:Nat)<=1000000000->zj E 152 [.ptr 0 0 0,.int .i64 L,.int .i64 d] (pob T p)=some (.ret (zo v),pob T p')/\Inv1 T p':=by
 intro L d p v p' h I h1 h11 hd hn;have hw:zA .i64 (L+1)=L+1:=zi (by omega) (by omega);simp only[zuc]at h;by_cases hL:10<L
 ·rw[if_pos hL]at h;obtain⟨e,I'⟩:=(S n (by omega)).unary d p v p' h I hd (by omega);refine⟨?_,I'⟩;refine zc rfl rfl rfl (by simp) ?_;rw[za]at e ⊢
  (simp[*,F152])<;>(repeat' (first|((first|refine sP _ ?_ ?_|refine gP _ ?_ ?_|refine sN _ ?_ ?_|refine gN _ ?_ ?_)<;>intro hc<;>(first|replace hc:=eqn hc|replace hc:=eqp hc)<;>simp[*,F152])|((first|refine sM _ ?_ ?_|refine gM _ ?_ ?_|refine sB _ ?_ ?_|refine gB _ ?_ ?_)<;>intro hc<;>simp[*,F152])))
 rw[if_neg hL]at h;cases hx:zuc T n (L+1) d p with
 |none=>rw[hx]at h;cases h
 |some q=>
  obtain⟨a,p1⟩:=q;rw[hx]at h;simp only at h;obtain⟨e1,I1⟩:=(S n (by omega)).expr (L+1) d p a p1 hx I (by omega) (by omega) hd (by omega);have hI:∀m a p v p',m<=n->zYa T m L d a p=some (v,p')->Inv1 T p->Inv1 T p':=by
   intro m
   induction m with
   |zero=>intro a p v p' _ h;simp[zYa]at h
   |succ m ih=>
    intro a p v p' hm h I;simp only[zYa]at h;split at h
    ·cases h;exact I
    ·rename_i hne;obtain⟨s,hs⟩:=opF_pos hne;split at h
     ·cases h
     ·rename_i q hq;exact ih _ _ _ _ (by omega) h ((S m (by omega)).expr _ _ _ _ _ hq (I.adv s hs) (by omega) (by omega) hd (by omega)).2
  have I':=hI n a p1 v p' (by omega) h I1;refine⟨?_,I'⟩;refine zc rfl rfl rfl (by simp) ?_;rw[za]at e1 ⊢;simp[F152,hL,hw,e1,zf];refine zU K152_0 B152_0 (fun c:LS=>c.m) (fun c=>[]) (fun c=>[(6,.cells [.int .i64 0,.int .i64 0,.int .i64 0,.str [],.slice .fit 5 []]),(7,.cells [.int .i64 c.a.kind,.int .i64 c.a.op,.int .i64 c.a.n,.str c.a.name,zf c.a.args])]) (fun c=>pob T c.p) (fun c=>c.m<=n/\zYa T c.m L d c.a c.p=some (v,p')/\Inv1 T c.p) ⟨n,a,p1⟩ ⟨by simp,by simp[zf],by simp,ye _,h,I1⟩ ?_
  rintro⟨m,a,p⟩ s1 ⟨hm,hr,I⟩ g1 g2 g3 g4 g5
  simp at g1 g4 g5 hm hr I;clear g2 g3 e1 hx h I1 I' hI;cases m with
  |zero=>simp[zYa]at hr
  |succ m=>
   simp only[zYa]at hr;have ho:=op_spec I L;by_cases hne:opF T L p=0
   ·rw[if_pos hne]at hr;cases hr;replace hne:=eqp hne;simp[pob,toks,zf]at ho g4 g5 ⊢
    (simp[*])<;>(repeat' (first|((first|refine sP _ ?_ ?_|refine gP _ ?_ ?_|refine sN _ ?_ ?_|refine gN _ ?_ ?_)<;>intro hc<;>(first|replace hc:=eqn hc|replace hc:=eqp hc)<;>simp[*])|((first|refine sM _ ?_ ?_|refine gM _ ?_ ?_|refine sB _ ?_ ?_|refine gB _ ?_ ?_)<;>intro hc<;>simp[*])))
   ·rw[if_neg hne]at hr;obtain⟨s,hs⟩:=opF_pos hne;split at hr
    ·cases hr
    ·rename_i q hq;obtain⟨b,p2⟩:=q;simp only at hr;obtain⟨e2,I2⟩:=(S m (by omega)).expr (L+1) d _ b p2 hq (I.adv s hs) (by omega) (by omega) hd (by omega);have hwa:zA .i64 ((p.at':Int)+1)=(p.at':Int)+1:=zi (by omega) (by have:=I.lt;have:=I.sm;omega);replace hne:=eqn hne;rw[za]at e2;simp[pob,toks,zf,adv]at ho g4 g5 e2 ⊢;clear hq hs
     (simp[*])<;>(repeat' (first|((first|refine sP _ ?_ ?_|refine gP _ ?_ ?_|refine sN _ ?_ ?_|refine gN _ ?_ ?_)<;>intro hc<;>(first|replace hc:=eqn hc|replace hc:=eqp hc)<;>simp[*])|((first|refine sM _ ?_ ?_|refine gM _ ?_ ?_|refine sB _ ?_ ?_|refine gB _ ?_ ?_)<;>intro hc<;>simp[*])))
     refine⟨⟨m,⟨5,opF T L p,0,[],[a,b]⟩,p2⟩,yY m,⟨rfl,rfl,rfl,rfl,?_⟩,⟨rfl,rfl,rfl⟩,by simp only;omega,hr,I2⟩;simp[za,zf]
theorem unF_get{T:List Tok}{p:PS}{i:Nat}(h:unF T p=some i):i<9/\zOb T p i=true/\∀j,j<i->zOb T p j=false:=by
 unfold unF at h;refine⟨List.mem_range.1 (List.mem_of_find?_eq_some h),List.find?_some h,?_⟩;intro j hj;rw[List.find?_eq_some_iff_getElem]at h;obtain⟨_,k,hk,h1,h2⟩:=h;simp at h1;have:=h2 j (by omega);simpa using this
set_option maxHeartbeats 2000000 in
theorem unary_of{T:List Tok}{n:Nat}(S:ESpec T n):∀d p v p',unaryF T (n+1) d p=some (v,p')->Inv1 T p->0<=d->d+(n+1:Nat)<=1000000000->zj E 175 [.ptr 0 0 0,.int .i64 d] (pob T p)=some (.ret (zo v),pob T p')/\Inv1 T p':=by
 intro d p v p' h I hd hn;have hw:zA .i64 (d+1)=d+1:=zi (by omega) (by omega);simp only[unaryF]at h;have key:∀q,Inv1 T q->q=deepF d p->∃Q:Prop,True:=fun _ _ _=>⟨True,trivial⟩
 clear key;have I2:Inv1 T (deepF d p):=I.deepF d;have hI:Inv1 T p':=by
  cases hu:unF T (deepF d p)with
  |none=>rw[hu]at h;exact(S.primary _ _ _ _ h I2 hd (by omega)).2
  |some i=>
   rw[hu]at h;simp only at h;have hi:=(unF_get hu).2.1;split at h
   ·split at h
    ·cases h
    ·rename_i q hq;cases h;exact(S.expr _ _ _ _ _ hq ((I2.adv _ hi).must _) (by omega) (by omega) (by omega) (by omega)).2.must _
   ·split at h
    ·cases h
    ·rename_i q hq;cases h;exact(S.unary _ _ _ _ hq (I2.adv _ hi) (by omega) (by omega)).2
 refine⟨?_,hI⟩;refine zc rfl rfl rfl (by simp) ?_;rw[za];have hdp:deepF d p=if 100<d then if p.bad then p else{p with deep:=true}else p:=rfl
 obtain⟨pa,pb,pd⟩:=p;by_cases h100:100<d
 ·cases pb
  ·simp[h100]at hdp;rw[hdp]at h I2;clear hdp I;replace h100:=eqp h100;simp[F175,h100,hw,pob,toks];refine zTc (yD 9) K175_0 B175_0 (fun c=>[(5,.int .i64 ((c.length+20:Nat):Int))]) (fun _=>[(4,.cells [.int .i64 0,.int .i64 0,.int .i64 0,.str [],.slice .fit 5 []])]) (fun _=>pob T ⟨pa,false,true⟩) (fun c=>∀i∈c,zOb T ⟨pa,false,true⟩ i=false) (by simp) (by simp[pob,toks]) ?_ ?_
   ·intros c x r s1 hl' hlt hget hget' hw1 hp g1 g2 g3 g3' g4;simp at g1 g3 g3' hlt;have hx:x=c.length:=by rw[<-hget',List.getElem_range]
    subst hx;have e2:=rsign_spec ((c.length+20:Nat):Int);have e3:=zG I2 (signR ((c.length+20:Nat):Int));rw[zV]at e3;have hle:(c.length:Int)+20<=28:=by omega
    have hw2:zA .i64 ((c.length:Int)+20+1)=(c.length:Int)+1+20:=by rw[zi (by omega) (by omega)];omega
    have hf:zOb T ⟨pa,false,true⟩ c.length=true->unF T ⟨pa,false,true⟩=some c.length:=by
     intro h;unfold unF;rw[hl'.eq,yXa];have:c.find? (zOb T ⟨pa,false,true⟩)=none:=by rw[yba];intro y hy;simp[hp y hy]
     rw[this];simp[yfb,h]
    have hu:zOb T ⟨pa,false,true⟩ c.length=isF T (signR ((c.length+20:Nat):Int)) ⟨pa,false,true⟩:=rfl;have hnx:=fun(h:zOb T ⟨pa,false,true⟩ c.length=false)=>(fun i (hi:i∈c++[c.length])=>by
     rcases yx.1 hi with h'|h'
     ·exact hp i h'
     ·rw[yI.1 h'];exact h:∀i∈c++[c.length],zOb T ⟨pa,false,true⟩ i=false)
    clear g2 hget hget' hl' hp;cases hi:isF T (signR ((c.length+20:Nat):Int)) ⟨pa,false,true⟩
    ·replace hnx:=hnx (hu.trans hi);rw[hi]at e3;clear hf hu h;simp[pob,toks]at e2 e3 g4;simp[*];exact⟨rfl,fun i hi=>hnx i (by simpa using hi)⟩
    ·replace hf:=hf (hu.trans hi);have IA:=I2.adv _ hi;rw[hi]at e3;rw[hf]at h;simp only at h;clear hnx hu hf;by_cases h3:3<=c.length
     ·rw[if_pos h3]at h;have h23:(23:Int)<=(c.length:Int)+20:=by omega
      have m1:=zB IA [40];split at h
      ·cases h
      ·rename_i x hq;obtain⟨e,p2⟩:=x;cases h;obtain⟨x1,I3⟩:=S.expr 1 (d+1) _ e p2 hq (IA.must _) (by omega) (by omega) (by omega) (by omega);have m2:=zB I3 [41];clear hi;rw[za]at x1;simp[pob,toks,zf,adv]at e2 e3 g4 m1 m2 x1;clear hq;simp[*,zf,pob,toks,za]
     ·rw[if_neg h3]at h;have h23:¬(23:Int)<=(c.length:Int)+20:=by omega
      split at h
      ·cases h
      ·rename_i x hq;obtain⟨e,p2⟩:=x;cases h;obtain⟨x1,I3⟩:=S.unary (d+1) _ e p2 hq IA (by omega) (by omega);clear hi;rw[za]at x1;simp[pob,toks,zf,adv]at e2 e3 g4 x1;clear hq;simp[*,zf,pob,toks,za]
   ·intros s1 hp g1 g2 g3 g3' g4;simp at g1 g3 g3';have hf:unF T ⟨pa,false,true⟩=none:=by
     unfold unF;rw[yba];intro y hy;simp[hp y hy]
    rw[hf]at h;simp only at h;obtain⟨x1,I3⟩:=S.primary _ _ _ _ h I2 hd (by omega);rw[za]at x1;clear g2 hp hf h;simp[pob,toks,zf]at x1 g4;simp[*,zf]
  ·simp[h100]at hdp;rw[hdp]at h I2;clear hdp I;replace h100:=eqp h100;simp[F175,h100,hw,pob,toks];refine zTc (yD 9) K175_0 B175_0 (fun c=>[(5,.int .i64 ((c.length+20:Nat):Int))]) (fun _=>[(4,.cells [.int .i64 0,.int .i64 0,.int .i64 0,.str [],.slice .fit 5 []])]) (fun _=>pob T ⟨pa,true,pd⟩) (fun c=>∀i∈c,zOb T ⟨pa,true,pd⟩ i=false) (by simp) (by simp[pob,toks]) ?_ ?_
   ·intros c x r s1 hl' hlt hget hget' hw1 hp g1 g2 g3 g3' g4;simp at g1 g3 g3' hlt;have hx:x=c.length:=by rw[<-hget',List.getElem_range]
    subst hx;have e2:=rsign_spec ((c.length+20:Nat):Int);have e3:=zG I2 (signR ((c.length+20:Nat):Int));rw[zV]at e3;have hle:(c.length:Int)+20<=28:=by omega
    have hw2:zA .i64 ((c.length:Int)+20+1)=(c.length:Int)+1+20:=by rw[zi (by omega) (by omega)];omega
    have hf:zOb T ⟨pa,true,pd⟩ c.length=true->unF T ⟨pa,true,pd⟩=some c.length:=by
     intro h;unfold unF;rw[hl'.eq,yXa];have:c.find? (zOb T ⟨pa,true,pd⟩)=none:=by rw[yba];intro y hy;simp[hp y hy]
     rw[this];simp[yfb,h]
    have hu:zOb T ⟨pa,true,pd⟩ c.length=isF T (signR ((c.length+20:Nat):Int)) ⟨pa,true,pd⟩:=rfl;have hnx:=fun(h:zOb T ⟨pa,true,pd⟩ c.length=false)=>(fun i (hi:i∈c++[c.length])=>by
     rcases yx.1 hi with h'|h'
     ·exact hp i h'
     ·rw[yI.1 h'];exact h:∀i∈c++[c.length],zOb T ⟨pa,true,pd⟩ i=false)
    clear g2 hget hget' hl' hp;cases hi:isF T (signR ((c.length+20:Nat):Int)) ⟨pa,true,pd⟩
    ·replace hnx:=hnx (hu.trans hi);rw[hi]at e3;clear hf hu h;simp[pob,toks]at e2 e3 g4;simp[*];exact⟨rfl,fun i hi=>hnx i (by simpa using hi)⟩
    ·replace hf:=hf (hu.trans hi);have IA:=I2.adv _ hi;rw[hi]at e3;rw[hf]at h;simp only at h;clear hnx hu hf;by_cases h3:3<=c.length
     ·rw[if_pos h3]at h;have h23:(23:Int)<=(c.length:Int)+20:=by omega
      have m1:=zB IA [40];split at h
      ·cases h
      ·rename_i x hq;obtain⟨e,p2⟩:=x;cases h;obtain⟨x1,I3⟩:=S.expr 1 (d+1) _ e p2 hq (IA.must _) (by omega) (by omega) (by omega) (by omega);have m2:=zB I3 [41];clear hi;rw[za]at x1;simp[pob,toks,zf,adv]at e2 e3 g4 m1 m2 x1;clear hq;simp[*,zf,pob,toks,za]
     ·rw[if_neg h3]at h;have h23:¬(23:Int)<=(c.length:Int)+20:=by omega
      split at h
      ·cases h
      ·rename_i x hq;obtain⟨e,p2⟩:=x;cases h;obtain⟨x1,I3⟩:=S.unary (d+1) _ e p2 hq IA (by omega) (by omega);clear hi;rw[za]at x1;simp[pob,toks,zf,adv]at e2 e3 g4 x1;clear hq;simp[*,zf,pob,toks,za]
   ·intros s1 hp g1 g2 g3 g3' g4;simp at g1 g3 g3';have hf:unF T ⟨pa,true,pd⟩=none:=by
     unfold unF;rw[yba];intro y hy;simp[hp y hy]
    rw[hf]at h;simp only at h;obtain⟨x1,I3⟩:=S.primary _ _ _ _ h I2 hd (by omega);rw[za]at x1;clear g2 hp hf h;simp[pob,toks,zf]at x1 g4;simp[*,zf]
 ·simp[h100]at hdp;rw[hdp]at h I2;clear hdp I;replace h100:=eqn h100;simp[F175,h100,hw,pob,toks];refine zTc (yD 9) K175_0 B175_0 (fun c=>[(5,.int .i64 ((c.length+20:Nat):Int))]) (fun _=>[(4,.cells [.int .i64 0,.int .i64 0,.int .i64 0,.str [],.slice .fit 5 []])]) (fun _=>pob T ⟨pa,pb,pd⟩) (fun c=>∀i∈c,zOb T ⟨pa,pb,pd⟩ i=false) (by simp) (by simp[pob,toks]) ?_ ?_
  ·intros c x r s1 hl' hlt hget hget' hw1 hp g1 g2 g3 g3' g4;simp at g1 g3 g3' hlt;have hx:x=c.length:=by rw[<-hget',List.getElem_range]
   subst hx;have e2:=rsign_spec ((c.length+20:Nat):Int);have e3:=zG I2 (signR ((c.length+20:Nat):Int));rw[zV]at e3;have hle:(c.length:Int)+20<=28:=by omega
   have hw2:zA .i64 ((c.length:Int)+20+1)=(c.length:Int)+1+20:=by rw[zi (by omega) (by omega)];omega
   have hf:zOb T ⟨pa,pb,pd⟩ c.length=true->unF T ⟨pa,pb,pd⟩=some c.length:=by
    intro h;unfold unF;rw[hl'.eq,yXa];have:c.find? (zOb T ⟨pa,pb,pd⟩)=none:=by rw[yba];intro y hy;simp[hp y hy]
    rw[this];simp[yfb,h]
   have hu:zOb T ⟨pa,pb,pd⟩ c.length=isF T (signR ((c.length+20:Nat):Int)) ⟨pa,pb,pd⟩:=rfl;have hnx:=fun(h:zOb T ⟨pa,pb,pd⟩ c.length=false)=>(fun i (hi:i∈c++[c.length])=>by
    rcases yx.1 hi with h'|h'
    ·exact hp i h'
    ·rw[yI.1 h'];exact h:∀i∈c++[c.length],zOb T ⟨pa,pb,pd⟩ i=false)
   clear g2 hget hget' hl' hp;cases hi:isF T (signR ((c.length+20:Nat):Int)) ⟨pa,pb,pd⟩
   ·replace hnx:=hnx (hu.trans hi);rw[hi]at e3;clear hf hu h;simp[pob,toks]at e2 e3 g4;simp[*];exact⟨rfl,fun i hi=>hnx i (by simpa using hi)⟩
   ·replace hf:=hf (hu.trans hi);have IA:=I2.adv _ hi;rw[hi]at e3;rw[hf]at h;simp only at h;clear hnx hu hf;by_cases h3:3<=c.length
    ·rw[if_pos h3]at h;have h23:(23:Int)<=(c.length:Int)+20:=by omega
     have m1:=zB IA [40];split at h
     ·cases h
     ·rename_i x hq;obtain⟨e,p2⟩:=x;cases h;obtain⟨x1,I3⟩:=S.expr 1 (d+1) _ e p2 hq (IA.must _) (by omega) (by omega) (by omega) (by omega);have m2:=zB I3 [41];clear hi;rw[za]at x1;simp[pob,toks,zf,adv]at e2 e3 g4 m1 m2 x1;clear hq;simp[*,zf,pob,toks,za]
    ·rw[if_neg h3]at h;have h23:¬(23:Int)<=(c.length:Int)+20:=by omega
     split at h
     ·cases h
     ·rename_i x hq;obtain⟨e,p2⟩:=x;cases h;obtain⟨x1,I3⟩:=S.unary (d+1) _ e p2 hq IA (by omega) (by omega);clear hi;rw[za]at x1;simp[pob,toks,zf,adv]at e2 e3 g4 x1;clear hq;simp[*,zf,pob,toks,za]
  ·intros s1 hp g1 g2 g3 g3' g4;simp at g1 g3 g3';have hf:unF T ⟨pa,pb,pd⟩=none:=by
    unfold unF;rw[yba];intro y hy;simp[hp y hy]
   rw[hf]at h;simp only at h;obtain⟨x1,I3⟩:=S.primary _ _ _ _ h I2 hd (by omega);rw[za]at x1;clear g2 hp hf h;simp[pob,toks,zf]at x1 g4;simp[*,zf]
structure AS where
 m:Nat
 l:List Expr
 f:Bool
 p:PS
set_option maxHeartbeats 2000000 in
theorem args_of{T:List Tok}{n:Nat}(S:∀k,k<=n->ESpec T k):∀d p v p',argsF T (n+1) d p=some (v,p')->Inv1 T p->0<=d->d+(n+1:Nat)<=1000000000->zj E 177 [.ptr 0 0 0,.int .i64 d] (pob T p)=some (.ret (zf v),pob T p')/\Inv1 T p':=by
 intro d p v p' h I hd hn;simp only[argsF]at h;have t1:=zG I [41];rw[zV]at t1;cases c1:isF T [41] p
 case true=>
  rw[if_pos c1]at h;rw[c1]at t1;cases h;refine⟨?_,I.adv _ c1⟩;refine zc rfl rfl rfl (by simp) ?_;clear c1;simp[*,F177,zf]
 rw[if_neg (by rw[c1];decide)]at h;rw[c1]at t1;split at h
 ·cases h
 rename_i q hq;obtain⟨l',p1⟩:=q;cases h;have hI:∀m l f p v p',m<=n->zqa T m d l f p=some (v,p')->Inv1 T p->Inv1 T p':=by
  intro m
  induction m with
  |zero=>intro l f p v p' _ h;simp[zqa]at h
  |succ m ih=>
   intro l f p v p' hm h I;simp only[zqa]at h;have fin:∀q:PS,Inv1 T q->(if zSa q then some (l,q)else match zuc T m 1 d q with|none=>none|some x=>zqa T m d (l++[x.1]) false x.2)=some (v,p')->Inv1 T p':=by
    intro q Iq h;cases ho:zSa q
    ·rw[if_neg (by rw[ho];decide)]at h;split at h
     ·cases h
     ·rename_i x hx;exact ih _ _ _ _ _ (by omega) h ((S m (by omega)).expr _ _ _ _ _ hx Iq (by omega) (by omega) hd (by omega)).2
    ·rw[if_pos ho]at h;cases h;exact Iq
   cases f
   ·cases c2:isF T [44] p
    ·rw[c2]at h;simp at h;exact h.2 ▸ I
    ·rw[c2]at h;simp at h;exact fin _ (I.adv _ c2) h
   ·simp at h;exact fin _ I h
 have I':=hI n _ _ _ _ _ (ye _) hq I;refine⟨?_,I'.must _⟩;refine zc rfl rfl rfl (by simp) ?_;have m1:=zB I' [41];simp[*,F177,zf];refine zU K177_0 B177_0 (fun c:AS=>c.m) (fun c=>[(5,acc 5 (c.l.map zo)),(6,.bool c.f)]) (fun c=>[]) (fun c=>pob T c.p) (fun c=>c.m<=n/\c.l.length+c.m<=n/\zqa T c.m d c.l c.f c.p=some (l',p1)/\Inv1 T c.p) ⟨n,[],true,p⟩ ⟨by simp,by simp,by simp,ye _,by simp,hq,I⟩ ?_
 rintro⟨m,l,f,p⟩ s1 ⟨hm,hlm,hr,I⟩ g1 g2 g3 g4 g5
 simp at g1 g3 g5 hm hlm hr I;clear g2 g4 t1 hq I' hI;cases m with
 |zero=>simp[zqa]at hr
 |succ m=>
  simp only[zqa]at hr;have hroom:(l.length+1)*64<=zn:=by simp only[zn];omega
  have t2:=zG I [44];rw[zV]at t2;have key:∀q:PS,Inv1 T q->(if zSa q then some (l,q)else match zuc T m 1 d q with|none=>none|some x=>zqa T m d (l++[x.1]) false x.2)=some (l',p1)→
    (zSa q=true/\l=l'/\q=p1)\/(zSa q=false/\∃e p2,zj E 152 [.ptr 0 0 0,.int .i64 1,.int .i64 d] (pob T q)=some (.ret (zo e),pob T p2)/\Inv1 T p2/\zqa T m d (l++[e]) false p2=some (l',p1)):=by
   intro q Iq h;cases ho:zSa q
   ·right;rw[if_neg (by rw[ho];decide)]at h;split at h
    ·cases h
    ·rename_i x hx;obtain⟨e,p2⟩:=x;obtain⟨x1,I3⟩:=(S m (by omega)).expr 1 d _ e p2 hx Iq (by omega) (by omega) hd (by omega);exact⟨rfl,e,p2,x1,I3,h⟩
   ·left;rw[if_pos ho]at h;cases h;exact⟨rfl,rfl,rfl⟩
  cases f
  ·cases c2:isF T [44] p
   ·rw[c2]at hr t2;simp at hr;obtain⟨rfl,rfl⟩:=hr;clear key c2;simp[*]
   ·have IA:=I.adv _ c2;rw[c2]at hr t2;simp at hr;have ho:=zqc IA;rcases key _ IA hr with⟨k1,rfl,rfl⟩|⟨k1,e,p2,x1,I3,hr2⟩
    ·rw[k1]at ho;clear key c2 hr;simp[*]
    ·rw[k1]at ho;rw[za]at x1;clear key c2 hr k1;simp[*];exact⟨⟨m,l++[e],false,p2⟩,yY m,⟨by simp[za],rfl⟩,rfl,by simp only;omega,by simp only[yi,yj,yn];omega,hr2,I3⟩
  ·simp at hr;have ho:=zqc I;rcases key _ I hr with⟨k1,rfl,rfl⟩|⟨k1,e,p2,x1,I3,hr2⟩
   ·rw[k1]at ho;clear key hr t2;simp[*]
   ·rw[k1]at ho;rw[za]at x1;clear key hr k1 t2;simp[*];exact⟨⟨m,l++[e],false,p2⟩,yY m,⟨by simp[za],rfl⟩,rfl,by simp only;omega,by simp only[yi,yj,yn];omega,hr2,I3⟩
theorem espec_all(T:List Tok):∀n k,k<=n->ESpec T k
 |0,k,h=>by
  have:k=0:=by omega
  subst this;exact⟨fun _ _ _ _ h=>by simp[zUc]at h,fun _ _ _ _ h=>by simp[unaryF]at h,fun _ _ _ _ _ h=>by simp[zuc]at h,fun _ _ _ _ h=>by simp[argsF]at h⟩
 |n+1,k,h=>by
  have ih:=espec_all T n;rcases yA k (n+1)with h1|h1
  ·exact ih k (by omega)
  ·have:k=n+1:=by omega
   subst this;exact⟨primary_of (ih n (ye n)),unary_of (ih n (ye n)),expr_of ih,args_of ih⟩
theorem espec(T:List Tok)(n:Nat):ESpec T n:=espec_all T n n (ye n)
theorem zhc{T:List Tok}{n:Nat}{p p':PS}{v:Expr}(h:zuc T n 1 1 p=some (v,p'))(I:Inv1 T p)(hn:n<=999999990):zj E 152 [.ptr 0 0 0,.int .i64 1,.int .i64 1] (pob T p)=some (.ret (zo v),pob T p')/\Inv1 T p':=
 (espec T n).expr 1 1 p v p' h I (by omega) (by omega) (by omega) (by omega)
def zLe(T:List Tok)(n:Nat)(p:PS):Option (Expr×PS):=
 match zuc T n 1 1 (zAa T [40] p)with
 |none=>none
 |some q=>some (q.1,zAa T [41] q.2)
theorem zIc{T:List Tok}{n:Nat}{p p':PS}{v:Expr}(h:zLe T n p=some (v,p'))(I:Inv1 T p)(hn:n<=999999990):zj E 153 [.ptr 0 0 0] (pob T p)=some (.ret (zf [v]),pob T p')/\Inv1 T p':=by
 unfold zLe at h;split at h
 ·cases h
 ·rename_i q hq;obtain⟨e,p1⟩:=q;cases h;have m1:=zB I [40];obtain⟨x1,I1⟩:=zhc hq (I.must _) hn;have m2:=zB I1 [41];refine⟨?_,I1.must _⟩;refine zc rfl rfl rfl (by simp) ?_;clear hq;rw[za]at x1;simp[*,F153,zf,za]
def namedF(T:List Tok)(n:Nat)(p:PS):Option (Stmt×PS):=
 if isF T [40] (zga T 1 p).2 then
  match argsF T n 2 (adv (zga T 1 p).2)with
  |none=>none
  |some q=>some (⟨10,0,[],[⟨7,0,0,(zga T 1 p).1,q.1⟩],[],[]⟩,q.2)
 else if isF T [91] (zga T 1 p).2 then
  match zuc T n 1 1 (adv (zga T 1 p).2)with
  |none=>none
  |some q=>match zuc T n 1 1 (zAa T [61] (zAa T [93] q.2))with
   |none=>none
   |some r=>some (⟨3,0,(zga T 1 p).1,[q.1,r.1],[],[]⟩,r.2)
 else match zuc T n 1 1 (zAa T [61] (zga T 1 p).2)with
  |none=>none
  |some q=>some (⟨2,0,(zga T 1 p).1,[q.1],[],[]⟩,q.2)
theorem named_spec{T:List Tok}{n:Nat}{p p':PS}{v:Stmt}(h:namedF T n p=some (v,p'))(I:Inv1 T p)(hn:n<=999999990):zj E 154 [.ptr 0 0 0] (pob T p)=some (.ret (zu v),pob T p')/\Inv1 T p':=by
 unfold namedF at h;have tx:=zVc I 1;have I1:=I.text 1 (by decide);have t6:=zG I1 [40];rw[zV]at t6;generalize htt:zga T 1 p=tt at*;obtain⟨s,p1⟩:=tt;simp only at h tx I1 t6;clear htt;cases c6:isF T [40] p1
 case true=>
  rw[if_pos c6]at h;rw[c6]at t6;split at h
  ·cases h
  ·rename_i q hq;obtain⟨l,p2⟩:=q;cases h;have IA:=I1.adv _ c6;obtain⟨x1,I3⟩:=(espec T n).args 2 _ l p2 hq IA (by omega) (by omega);refine⟨?_,I3⟩;refine zc rfl rfl rfl (by simp) ?_;clear hq c6;rw[zb];simp[zf]at x1;simp[*,F154,zf,zg,za]
 rw[if_neg (by rw[c6];decide)]at h;rw[c6]at t6;have t7:=zG I1 [91];rw[zV]at t7;cases c7:isF T [91] p1
 case true=>
  rw[if_pos c7]at h;rw[c7]at t7;split at h
  ·cases h
  ·rename_i q hq;obtain⟨e,p2⟩:=q;simp only at h;have IA:=I1.adv _ c7;obtain⟨x1,I3⟩:=zhc hq IA hn;have m2:=zB I3 [93];have I4:=I3.must [93];have m3:=zB I4 [61];have I5:=I4.must [61];split at h
   ·cases h
   ·rename_i r hr;obtain⟨e2,p3⟩:=r;cases h;obtain⟨x2,I6⟩:=zhc hr I5 hn;refine⟨?_,I6⟩;refine zc rfl rfl rfl (by simp) ?_;clear hq hr c6 c7;rw[za]at x1 x2;rw[zb];simp[*,F154,zf,zg,za]
 rw[if_neg (by rw[c7];decide)]at h;rw[c7]at t7;split at h
 ·cases h
 ·rename_i q hq;obtain⟨e,p2⟩:=q;cases h;have m1:=zB I1 [61];obtain⟨x1,I3⟩:=zhc hq (I1.must _) hn;refine⟨?_,I3⟩;refine zc rfl rfl rfl (by simp) ?_;clear hq c6 c7;rw[za]at x1;rw[zb];simp[*,F154,zf,zg,za]
def deepS(d:Int)(p:PS):PS:=if 100<d then{p with deep:=true}else p
theorem Inv1.deepS{T:List Tok}{p:PS}(I:Inv1 T p)(d:Int):Inv1 T (deepS d p):=by
 unfold PE.U.deepS;split
 ·exact I.deep'
 ·exact I
mutual
def stmtF(T:List Tok):Nat->Int->PS->Option (Stmt×PS)
 |0,_,_=>none
 |n+1,d,p=>
  if isF T [105,110,116] (deepS d p)||isF T [98,111,111,108] (deepS d p)then
   match zuc T n 1 1 (zAa T [61] (zga T 1 (zja T (deepS d p)).2).2)with
   |none=>none
   |some q=>some (⟨1,(zja T (deepS d p)).1,(zga T 1 (zja T (deepS d p)).2).1,[q.1],[],[]⟩,zAa T [59] q.2)
  else if isF T [105,102] (deepS d p)then
   match zLe T n (adv (deepS d p))with
   |none=>none
   |some q=>match zMb T n (d+1) [] (zAa T [123] q.2)with
    |none=>none
    |some r=>
     if isF T [101,108,115,101] r.2 then
      match zMb T n (d+1) [] (zAa T [123] (adv r.2))with
      |none=>none
      |some t=>some (⟨4,0,[],[q.1],r.1,t.1⟩,t.2)
     else some (⟨4,0,[],[q.1],r.1,[]⟩,r.2)
  else if isF T [119,104,105,108,101] (deepS d p)then
   match zLe T n (adv (deepS d p))with
   |none=>none
   |some q=>match zMb T n (d+1) [] (zAa T [123] q.2)with
    |none=>none
    |some r=>some (⟨5,0,[],[q.1],r.1,[]⟩,r.2)
  else if isF T [98,114,101,97,107] (deepS d p)then some (⟨6,0,[],[],[],[]⟩,zAa T [59] (adv (deepS d p)))
  else if isF T [99,111,110,116,105,110,117,101] (deepS d p)then some (⟨7,0,[],[],[],[]⟩,zAa T [59] (adv (deepS d p)))
  else if isF T [114,101,116,117,114,110] (deepS d p)then
   match zuc T n 1 1 (adv (deepS d p))with
   |none=>none
   |some q=>some (⟨8,0,[],[q.1],[],[]⟩,zAa T [59] q.2)
  else if isF T [112,114,105,110,116] (deepS d p)then
   match zLe T n (adv (deepS d p))with
   |none=>none
   |some q=>some (⟨9,0,[],[q.1],[],[]⟩,zAa T [59] q.2)
  else match namedF T n (deepS d p)with
   |none=>none
   |some q=>some (q.1,zAa T [59] q.2)
def zMb(T:List Tok):Nat->Int->List Stmt->PS->Option (List Stmt×PS)
 |0,_,_,_=>none
 |n+1,d,l,p=>
  if zSa p then some (l,p)
  else if isF T [125] p then some (l,adv p)
  else match stmtF T n d p with
   |none=>none
   |some q=>zMb T n d (l++[q.1]) q.2
end
structure SSpec(T:List Tok)(n:Nat):Prop where
 stmt:∀d p v p',stmtF T n d p=some (v,p')->Inv1 T p->0<=d->d+n<=999999990->zj E 120 [.ptr 0 0 0,.int .i64 d] (pob T p)=some (.ret (zu v),pob T p')/\Inv1 T p'
 block:∀d p v p',zMb T n d [] (zAa T [123] p)=some (v,p')->Inv1 T p->0<=d->d+n<=999999990->zj E 95 [.ptr 0 0 0,.int .i64 d] (pob T p)=some (.ret (zg v),pob T p')/\Inv1 T p'
structure BS where
 m:Nat
 l:List Stmt
 p:PS
set_option maxHeartbeats 2000000 in
theorem block_of{T:List Tok}{n:Nat}(S:∀k,k<n->SSpec T k):∀d p v p',zMb T n d [] (zAa T [123] p)=some (v,p')->Inv1 T p->0<=d->d+n<=999999990->zj E 95 [.ptr 0 0 0,.int .i64 d] (pob T p)=some (.ret (zg v),pob T p')/\Inv1 T p':=by
 intro d p v p' h I hd hn;have hI:∀m l p v p',m<=n->zMb T m d l p=some (v,p')->Inv1 T p->Inv1 T p':=by
  intro m
  induction m with
  |zero=>intro l p v p' _ h;simp[zMb]at h
  |succ m ih=>
   intro l p v p' hm h I;simp only[zMb]at h;split at h
   ·cases h;exact I
   ·split at h
    ·rename_i hc;cases h;exact I.adv _ hc
    ·split at h
     ·cases h
     ·rename_i x hx;exact ih _ _ _ _ (by omega) h ((S m (by omega)).stmt _ _ _ _ hx I hd (by omega)).2
 have m1:=zB I [123];have I1:=I.must [123];have I':=hI n _ _ _ _ (ye _) h I1;refine⟨?_,I'⟩;refine zc rfl rfl rfl (by simp) ?_;simp[*,F95,zg];refine zU K95_0 B95_0 (fun c:BS=>c.m) (fun c=>[(5,acc 6 (c.l.map zu))]) (fun c=>[]) (fun c=>pob T c.p) (fun c=>c.m<=n/\c.l.length+c.m<=n/\zMb T c.m d c.l c.p=some (v,p')/\Inv1 T c.p) ⟨n,[],zAa T [123] p⟩ ⟨by simp,by simp,by simp,ye _,by simp,h,I1⟩ ?_
 rintro⟨m,l,p⟩ s1 ⟨hm,hlm,hr,I⟩ g1 g2 g3 g4 g5
 simp at g1 g3 g5 hm hlm hr I;clear g2 g4 m1 h I' hI I1;cases m with
 |zero=>simp[zMb]at hr
 |succ m=>
  simp only[zMb]at hr;have hroom:(l.length+1)*104<=zn:=by simp only[zn];omega
  have ho:=zqc I;have t2:=zG I [125];rw[zV]at t2;cases o:zSa p
  ·rw[if_neg (by rw[o];decide)]at hr;rw[o]at ho;cases c2:isF T [125] p
   ·rw[if_neg (by rw[c2];decide)]at hr;rw[c2]at t2;split at hr
    ·cases hr
    ·rename_i x hx;obtain⟨e,p2⟩:=x;simp only at hr;obtain⟨x1,I3⟩:=(S m (by omega)).stmt _ _ _ _ hx I hd (by omega);rw[zb]at x1;clear hx o c2;simp[*];exact⟨⟨m,l++[e],p2⟩,yY m,by simp[zb],rfl,by simp only;omega,by simp only[yi,yj,yn];omega,hr,I3⟩
   ·rw[if_pos c2]at hr;rw[c2]at t2;cases hr;clear o c2;simp[*]
  ·rw[if_pos o]at hr;rw[o]at ho;cases hr;clear o t2;simp[*]
set_option maxHeartbeats 8000000 in
theorem stmt_of{T:List Tok}{n:Nat}(S:SSpec T n):∀d p v p',stmtF T (n+1) d p=some (v,p')->Inv1 T p->0<=d->d+(n+1:Nat)<=999999990->zj E 120 [.ptr 0 0 0,.int .i64 d] (pob T p)=some (.ret (zu v),pob T p')/\Inv1 T p':=by
 intro d p v p' h I0 hd hn;have hw:zA .i64 (d+1)=d+1:=zi (by omega) (by omega);simp only[stmtF]at h;have I:=I0.deepS d;have hn':n<=999999990:=by omega
 obtain⟨pa,pb,pd⟩:=p;by_cases h100:100<d
 ·have hdp:deepS d ⟨pa,pb,pd⟩=⟨pa,pb,true⟩:=by unfold deepS;rw[if_pos h100]
  rw[hdp]at h I;clear hdp I0;replace h100:=eqp h100;have i1:=is_spec I [105,110,116];have i2:=is_spec I [98,111,111,108];cases c0:(isF T [105,110,116] ⟨pa,pb,true⟩||isF T [98,111,111,108] ⟨pa,pb,true⟩)
  case true=>
   rw[if_pos c0]at h;have ty:=typed_spec I;have I1:=I.typed;generalize hty:zja T ⟨pa,pb,true⟩=tt at*;obtain⟨t,p1⟩:=tt;simp only at h ty I1;have tx:=zVc I1 1;have I2:=I1.text 1 (by decide);generalize htx:zga T 1 p1=tt at*;obtain⟨s,p2⟩:=tt;simp only at h tx I2;have m1:=zB I2 [61];split at h
   ·cases h
   rename_i x hq;obtain⟨e,p3⟩:=x;cases h;obtain⟨x1,I3⟩:=zhc hq (I2.must _) hn';have m2:=zB I3 [59];refine⟨?_,I3.must _⟩;clear htx hty hq;rw[za]at x1;simp[pob,toks,adv,zf]at i1 i2 ty tx m1 m2 x1;refine zc rfl rfl rfl (by simp) ?_;rw[zb];cases c1:isF T [105,110,116] ⟨pa,pb,true⟩
   ·rw[c1]at c0 i1;have c0:isF T [98,111,111,108] ⟨pa,pb,true⟩=true:=c0;rw[c0]at i2;clear c0 c1;simp[*,F120,zf,zg,pob,toks,zb,za]
   ·rw[c1]at i1;clear c0 c1;simp[*,F120,zf,zg,pob,toks,zb,za]
  rw[if_neg (by rw[c0];decide)]at h;simp only[yBa]at c0;rw[c0.1]at i1;rw[c0.2]at i2;clear c0;have t1:=zG I [105,102];rw[zV]at t1;cases c_t1:isF T [105,102] ⟨pa,pb,true⟩
  case true=>
   rw[if_pos c_t1]at h;rw[c_t1]at t1;have IA:=I.adv _ c_t1;clear c_t1;split at h
   ·cases h
   rename_i x hq;obtain⟨e,p1⟩:=x;simp only at h;obtain⟨x1,I1⟩:=zIc hq IA hn';split at h
   ·cases h
   rename_i x hr;obtain⟨l1,p2⟩:=x;simp only at h;obtain⟨x2,I2⟩:=S.block (d+1) _ l1 p2 hr I1 (by omega) (by omega);have te:=zG I2 [101,108,115,101];rw[zV]at te;cases ce:isF T [101,108,115,101] p2
   case true=>
    rw[if_pos ce]at h;rw[ce]at te;split at h
    ·cases h
    rename_i x hs;obtain⟨l2,p3⟩:=x;cases h;obtain⟨x3,I3⟩:=S.block (d+1) _ l2 p3 hs (I2.adv _ ce) (by omega) (by omega);refine⟨?_,I3⟩;clear hq hr hs ce;simp[pob,toks,adv,zf,zg]at i1 i2 t1 x1 x2 x3 te;refine zc rfl rfl rfl (by simp) ?_;rw[zb];simp[*,F120,zf,zg,pob,toks,zb,za]
   rw[if_neg (by rw[ce];decide)]at h;rw[ce]at te;cases h;refine⟨?_,I2⟩;clear hq hr ce;simp[pob,toks,adv,zf,zg]at i1 i2 t1 x1 x2 te;refine zc rfl rfl rfl (by simp) ?_;rw[zb];simp[*,F120,zf,zg,pob,toks,zb,za]
  rw[if_neg (by rw[c_t1];decide)]at h;rw[c_t1]at t1;clear c_t1;have t2:=zG I [119,104,105,108,101];rw[zV]at t2;cases c_t2:isF T [119,104,105,108,101] ⟨pa,pb,true⟩
  case true=>
   rw[if_pos c_t2]at h;rw[c_t2]at t2;have IA:=I.adv _ c_t2;clear c_t2;split at h
   ·cases h
   rename_i x hq;obtain⟨e,p1⟩:=x;simp only at h;obtain⟨x1,I1⟩:=zIc hq IA hn';split at h
   ·cases h
   rename_i x hr;obtain⟨l1,p2⟩:=x;cases h;obtain⟨x2,I2⟩:=S.block (d+1) _ l1 p2 hr I1 (by omega) (by omega);refine⟨?_,I2⟩;clear hq hr;simp[pob,toks,adv,zf,zg]at i1 i2 t1 t2 x1 x2;refine zc rfl rfl rfl (by simp) ?_;rw[zb];simp[*,F120,zf,zg,pob,toks,zb,za]
  rw[if_neg (by rw[c_t2];decide)]at h;rw[c_t2]at t2;clear c_t2;have t3:=zG I [98,114,101,97,107];rw[zV]at t3;cases c_t3:isF T [98,114,101,97,107] ⟨pa,pb,true⟩
  case true=>
   rw[if_pos c_t3]at h;rw[c_t3]at t3;have IA:=I.adv _ c_t3;clear c_t3;cases h;have m1:=zB IA [59];refine⟨?_,IA.must _⟩;simp[pob,toks,adv,zf,zg]at i1 i2 t1 t2 t3 m1;refine zc rfl rfl rfl (by simp) ?_;rw[zb];simp[*,F120,zf,zg,pob,toks,zb,za];exact⟨rfl,rfl,rfl⟩
  rw[if_neg (by rw[c_t3];decide)]at h;rw[c_t3]at t3;clear c_t3;have t4:=zG I [99,111,110,116,105,110,117,101];rw[zV]at t4;cases c_t4:isF T [99,111,110,116,105,110,117,101] ⟨pa,pb,true⟩
  case true=>
   rw[if_pos c_t4]at h;rw[c_t4]at t4;have IA:=I.adv _ c_t4;clear c_t4;cases h;have m1:=zB IA [59];refine⟨?_,IA.must _⟩;simp[pob,toks,adv,zf,zg]at i1 i2 t1 t2 t3 t4 m1;refine zc rfl rfl rfl (by simp) ?_;rw[zb];simp[*,F120,zf,zg,pob,toks,zb,za];exact⟨rfl,rfl,rfl⟩
  rw[if_neg (by rw[c_t4];decide)]at h;rw[c_t4]at t4;clear c_t4;have t5:=zG I [114,101,116,117,114,110];rw[zV]at t5;cases c_t5:isF T [114,101,116,117,114,110] ⟨pa,pb,true⟩
  case true=>
   rw[if_pos c_t5]at h;rw[c_t5]at t5;have IA:=I.adv _ c_t5;clear c_t5;split at h
   ·cases h
   rename_i x hq;obtain⟨e,p1⟩:=x;cases h;obtain⟨x1,I1⟩:=zhc hq IA hn';have m1:=zB I1 [59];refine⟨?_,I1.must _⟩;clear hq;rw[za]at x1;simp[pob,toks,adv,zf,zg]at i1 i2 t1 t2 t3 t4 t5 x1 m1;refine zc rfl rfl rfl (by simp) ?_;rw[zb];simp[*,F120,zf,zg,pob,toks,zb,za]
  rw[if_neg (by rw[c_t5];decide)]at h;rw[c_t5]at t5;clear c_t5;have t6:=zG I [112,114,105,110,116];rw[zV]at t6;cases c_t6:isF T [112,114,105,110,116] ⟨pa,pb,true⟩
  case true=>
   rw[if_pos c_t6]at h;rw[c_t6]at t6;have IA:=I.adv _ c_t6;clear c_t6;split at h
   ·cases h
   rename_i x hq;obtain⟨e,p1⟩:=x;cases h;obtain⟨x1,I1⟩:=zIc hq IA hn';have m1:=zB I1 [59];refine⟨?_,I1.must _⟩;clear hq;simp[pob,toks,adv,zf,zg]at i1 i2 t1 t2 t3 t4 t5 t6 x1 m1;refine zc rfl rfl rfl (by simp) ?_;rw[zb];simp[*,F120,zf,zg,pob,toks,zb,za]
  rw[if_neg (by rw[c_t6];decide)]at h;rw[c_t6]at t6;clear c_t6;split at h
  ·cases h
  rename_i x hq;obtain⟨w,p1⟩:=x;cases h;obtain⟨x1,I1⟩:=named_spec hq I hn';have m1:=zB I1 [59];refine⟨?_,I1.must _⟩;clear hq;rw[zb]at x1;simp[pob,toks,adv,zf,zg]at i1 i2 t1 t2 t3 t4 t5 t6 x1 m1;refine zc rfl rfl rfl (by simp) ?_;rw[zb];simp[*,F120,zf,zg,pob,toks,zb,za]
 ·have hdp:deepS d ⟨pa,pb,pd⟩=⟨pa,pb,pd⟩:=by unfold deepS;rw[if_neg h100]
  rw[hdp]at h I;clear hdp I0;replace h100:=eqn h100;have i1:=is_spec I [105,110,116];have i2:=is_spec I [98,111,111,108];cases c0:(isF T [105,110,116] ⟨pa,pb,pd⟩||isF T [98,111,111,108] ⟨pa,pb,pd⟩)
  case true=>
   rw[if_pos c0]at h;have ty:=typed_spec I;have I1:=I.typed;generalize hty:zja T ⟨pa,pb,pd⟩=tt at*;obtain⟨t,p1⟩:=tt;simp only at h ty I1;have tx:=zVc I1 1;have I2:=I1.text 1 (by decide);generalize htx:zga T 1 p1=tt at*;obtain⟨s,p2⟩:=tt;simp only at h tx I2;have m1:=zB I2 [61];split at h
   ·cases h
   rename_i x hq;obtain⟨e,p3⟩:=x;cases h;obtain⟨x1,I3⟩:=zhc hq (I2.must _) hn';have m2:=zB I3 [59];refine⟨?_,I3.must _⟩;clear htx hty hq;rw[za]at x1;simp[pob,toks,adv,zf]at i1 i2 ty tx m1 m2 x1;refine zc rfl rfl rfl (by simp) ?_;rw[zb];cases c1:isF T [105,110,116] ⟨pa,pb,pd⟩
   ·rw[c1]at c0 i1;have c0:isF T [98,111,111,108] ⟨pa,pb,pd⟩=true:=c0;rw[c0]at i2;clear c0 c1;simp[*,F120,zf,zg,pob,toks,zb,za]
   ·rw[c1]at i1;clear c0 c1;simp[*,F120,zf,zg,pob,toks,zb,za]
  rw[if_neg (by rw[c0];decide)]at h;simp only[yBa]at c0;rw[c0.1]at i1;rw[c0.2]at i2;clear c0;have t1:=zG I [105,102];rw[zV]at t1;cases c_t1:isF T [105,102] ⟨pa,pb,pd⟩
  case true=>
   rw[if_pos c_t1]at h;rw[c_t1]at t1;have IA:=I.adv _ c_t1;clear c_t1;split at h
   ·cases h
   rename_i x hq;obtain⟨e,p1⟩:=x;simp only at h;obtain⟨x1,I1⟩:=zIc hq IA hn';split at h
   ·cases h
   rename_i x hr;obtain⟨l1,p2⟩:=x;simp only at h;obtain⟨x2,I2⟩:=S.block (d+1) _ l1 p2 hr I1 (by omega) (by omega);have te:=zG I2 [101,108,115,101];rw[zV]at te;cases ce:isF T [101,108,115,101] p2
   case true=>
    rw[if_pos ce]at h;rw[ce]at te;split at h
    ·cases h
    rename_i x hs;obtain⟨l2,p3⟩:=x;cases h;obtain⟨x3,I3⟩:=S.block (d+1) _ l2 p3 hs (I2.adv _ ce) (by omega) (by omega);refine⟨?_,I3⟩;clear hq hr hs ce;simp[pob,toks,adv,zf,zg]at i1 i2 t1 x1 x2 x3 te;refine zc rfl rfl rfl (by simp) ?_;rw[zb];simp[*,F120,zf,zg,pob,toks,zb,za]
   rw[if_neg (by rw[ce];decide)]at h;rw[ce]at te;cases h;refine⟨?_,I2⟩;clear hq hr ce;simp[pob,toks,adv,zf,zg]at i1 i2 t1 x1 x2 te;refine zc rfl rfl rfl (by simp) ?_;rw[zb];simp[*,F120,zf,zg,pob,toks,zb,za]
  rw[if_neg (by rw[c_t1];decide)]at h;rw[c_t1]at t1;clear c_t1;have t2:=zG I [119,104,105,108,101];rw[zV]at t2;cases c_t2:isF T [119,104,105,108,101] ⟨pa,pb,pd⟩
  case true=>
   rw[if_pos c_t2]at h;rw[c_t2]at t2;have IA:=I.adv _ c_t2;clear c_t2;split at h
   ·cases h
   rename_i x hq;obtain⟨e,p1⟩:=x;simp only at h;obtain⟨x1,I1⟩:=zIc hq IA hn';split at h
   ·cases h
   rename_i x hr;obtain⟨l1,p2⟩:=x;cases h;obtain⟨x2,I2⟩:=S.block (d+1) _ l1 p2 hr I1 (by omega) (by omega);refine⟨?_,I2⟩;clear hq hr;simp[pob,toks,adv,zf,zg]at i1 i2 t1 t2 x1 x2;refine zc rfl rfl rfl (by simp) ?_;rw[zb];simp[*,F120,zf,zg,pob,toks,zb,za]
  rw[if_neg (by rw[c_t2];decide)]at h;rw[c_t2]at t2;clear c_t2;have t3:=zG I [98,114,101,97,107];rw[zV]at t3;cases c_t3:isF T [98,114,101,97,107] ⟨pa,pb,pd⟩
  case true=>
   rw[if_pos c_t3]at h;rw[c_t3]at t3;have IA:=I.adv _ c_t3;clear c_t3;cases h;have m1:=zB IA [59];refine⟨?_,IA.must _⟩;simp[pob,toks,adv,zf,zg]at i1 i2 t1 t2 t3 m1;refine zc rfl rfl rfl (by simp) ?_;rw[zb];simp[*,F120,zf,zg,pob,toks,zb,za];exact⟨rfl,rfl,rfl⟩
  rw[if_neg (by rw[c_t3];decide)]at h;rw[c_t3]at t3;clear c_t3;have t4:=zG I [99,111,110,116,105,110,117,101];rw[zV]at t4;cases c_t4:isF T [99,111,110,116,105,110,117,101] ⟨pa,pb,pd⟩
  case true=>
   rw[if_pos c_t4]at h;rw[c_t4]at t4;have IA:=I.adv _ c_t4;clear c_t4;cases h;have m1:=zB IA [59];refine⟨?_,IA.must _⟩;simp[pob,toks,adv,zf,zg]at i1 i2 t1 t2 t3 t4 m1;refine zc rfl rfl rfl (by simp) ?_;rw[zb];simp[*,F120,zf,zg,pob,toks,zb,za];exact⟨rfl,rfl,rfl⟩
  rw[if_neg (by rw[c_t4];decide)]at h;rw[c_t4]at t4;clear c_t4;have t5:=zG I [114,101,116,117,114,110];rw[zV]at t5;cases c_t5:isF T [114,101,116,117,114,110] ⟨pa,pb,pd⟩
  case true=>
   rw[if_pos c_t5]at h;rw[c_t5]at t5;have IA:=I.adv _ c_t5;clear c_t5;split at h
   ·cases h
   rename_i x hq;obtain⟨e,p1⟩:=x;cases h;obtain⟨x1,I1⟩:=zhc hq IA hn';have m1:=zB I1 [59];refine⟨?_,I1.must _⟩;clear hq;rw[za]at x1;simp[pob,toks,adv,zf,zg]at i1 i2 t1 t2 t3 t4 t5 x1 m1;refine zc rfl rfl rfl (by simp) ?_;rw[zb];simp[*,F120,zf,zg,pob,toks,zb,za]
  rw[if_neg (by rw[c_t5];decide)]at h;rw[c_t5]at t5;clear c_t5;have t6:=zG I [112,114,105,110,116];rw[zV]at t6;cases c_t6:isF T [112,114,105,110,116] ⟨pa,pb,pd⟩
  case true=>
   rw[if_pos c_t6]at h;rw[c_t6]at t6;have IA:=I.adv _ c_t6;clear c_t6;split at h
   ·cases h
   rename_i x hq;obtain⟨e,p1⟩:=x;cases h;obtain⟨x1,I1⟩:=zIc hq IA hn';have m1:=zB I1 [59];refine⟨?_,I1.must _⟩;clear hq;simp[pob,toks,adv,zf,zg]at i1 i2 t1 t2 t3 t4 t5 t6 x1 m1;refine zc rfl rfl rfl (by simp) ?_;rw[zb];simp[*,F120,zf,zg,pob,toks,zb,za]
  rw[if_neg (by rw[c_t6];decide)]at h;rw[c_t6]at t6;clear c_t6;split at h
  ·cases h
  rename_i x hq;obtain⟨w,p1⟩:=x;cases h;obtain⟨x1,I1⟩:=named_spec hq I hn';have m1:=zB I1 [59];refine⟨?_,I1.must _⟩;clear hq;rw[zb]at x1;simp[pob,toks,adv,zf,zg]at i1 i2 t1 t2 t3 t4 t5 t6 x1 m1;refine zc rfl rfl rfl (by simp) ?_;rw[zb];simp[*,F120,zf,zg,pob,toks,zb,za]
theorem sspec_all(T:List Tok):∀n k,k<=n->SSpec T k
 |0,k,h=>by
  have:k=0:=by omega
  subst this;exact⟨fun _ _ _ _ h=>by simp[stmtF]at h,block_of (fun k hk=>absurd hk (by omega))⟩
 |n+1,k,h=>by
  have ih:=sspec_all T n;rcases yA k (n+1)with h1|h1
  ·exact ih k (by omega)
  ·have:k=n+1:=by omega
   subst this;exact⟨stmt_of (ih n (ye n)),block_of (fun k hk=>ih k (by omega))⟩
theorem sspec(T:List Tok)(n:Nat):SSpec T n:=sspec_all T n n (ye n)
theorem acc_snoc(sz:Nat)(l:List PV)(x:PV):acc sz (l++[x])= .slice .own sz (l++[x]):=acc_ne (by simp)
@[simp] theorem isOwn_acc_snoc(sz:Nat)(l:List PV)(x:PV):isOwn (acc sz (l++[x]))=some (sz,l++[x]):=by rw[acc_snoc];rfl
def zkb(T:List Tok):Nat->List Par->Bool->PS->Option (List Par×PS)
 |0,_,_,_=>none
 |n+1,l,first,p=>
  if first||isF T [44] p then
   if zSa (if first then p else adv p)then some (l,if first then p else adv p)
   else zkb T n (l++[⟨(zga T 1 (zja T (if first then p else adv p)).2).1,(zja T (if first then p else adv p)).1⟩]) false (zga T 1 (zja T (if first then p else adv p)).2).2
  else some (l,p)
def zBd(T:List Tok)(n:Nat)(t:Int)(s:List UInt8)(p:PS):Option (Func×PS):=
 if isF T [41] (zAa T [40] p)then
  match zMb T n 1 [] (zAa T [123] (adv (zAa T [40] p)))with
  |none=>none
  |some q=>some (⟨s,t,[],q.1⟩,q.2)
 else match zkb T n [] true (zAa T [40] p)with
  |none=>none
  |some r=>match zMb T n 1 [] (zAa T [123] (zAa T [41] r.2))with
   |none=>none
   |some q=>some (⟨s,t,r.1,q.1⟩,q.2)
structure FS where
 m:Nat
 l:List Par
 f:Bool
 p:PS
theorem paramsF_inv{T:List Tok}:∀m l f p v p',zkb T m l f p=some (v,p')->Inv1 T p->Inv1 T p':=by
 intro m
 induction m with
 |zero=>intro l f p v p' h;simp[zkb]at h
 |succ m ih=>
  intro l f p v p' h I;simp only[zkb]at h;have fin:∀q:PS,Inv1 T q->(if zSa q then some (l,q)else zkb T m (l++[⟨(zga T 1 (zja T q).2).1,(zja T q).1⟩]) false (zga T 1 (zja T q).2).2)=some (v,p')->Inv1 T p':=by
   intro q Iq h;split at h
   ·cases h;exact Iq
   ·exact ih _ _ _ _ _ h (Iq.typed.text 1 (by decide))
  cases f
  ·cases c2:isF T [44] p
   ·rw[c2]at h;simp at h;exact h.2 ▸ I
   ·rw[c2]at h;simp at h;exact fin _ (I.adv _ c2) h
  ·simp at h;exact fin _ I h
set_option maxHeartbeats 4000000 in
theorem zMe{T:List Tok}{n:Nat}{t:Int}{s:List UInt8}{p p':PS}{v:Func}(h:zBd T n t s p=some (v,p'))(I:Inv1 T p)(hn:n<=999999980):zj E 68 [.ptr 0 0 0,.int .i64 t,.str s] (pob T p)=some (.ret (zl v),pob T p')/\Inv1 T p':=by
 unfold zBd at h;have m1:=zB I [40];have I1:=I.must [40];have t1:=zG I1 [41];rw[zV]at t1;cases c1:isF T [41] (zAa T [40] p)
 case true=>
  rw[if_pos c1]at h;rw[c1]at t1;split at h
  ·cases h
  rename_i q hq;obtain⟨l,p2⟩:=q;cases h;obtain⟨x1,I3⟩:=(sspec T n).block 1 _ l p2 hq (I1.adv _ c1) (by omega) (by omega);refine⟨?_,I3⟩;refine zc rfl rfl rfl (by simp) ?_;clear hq c1;simp[zg]at x1;simp[*,F68,zl,parsV,zg]
 rw[if_neg (by rw[c1];decide)]at h;rw[c1]at t1;split at h
 ·cases h
 rename_i r hr;obtain⟨ps,p1⟩:=r;simp only at h;split at h
 ·cases h
 rename_i q hq;obtain⟨l,p2⟩:=q;cases h;have Ip:=paramsF_inv _ _ _ _ _ _ hr I1;have m2:=zB Ip [41];obtain⟨x1,I3⟩:=(sspec T n).block 1 _ l p2 hq (Ip.must [41]) (by omega) (by omega);refine⟨?_,I3⟩;refine zc rfl rfl rfl (by simp) ?_;clear hq c1;simp[zg]at x1;simp[*,F68,zl,parsV,zg];refine zU K68_0 B68_0 (fun c:FS=>c.m) (fun c=>[(8,.bool c.f)]) (fun c=>[(7,.cells [.str s,.int .i64 t,acc 2 (c.l.map encPar),.slice .fit 6 []])]) (fun c=>pob T c.p) (fun c=>c.m<=n/\c.l.length+c.m<=n/\zkb T c.m c.l c.f c.p=some (ps,p1)/\Inv1 T c.p) ⟨n,[],true,zAa T [40] p⟩ ⟨by simp,by simp,by simp,ye _,by simp,hr,I1⟩ ?_
 rintro⟨m,l2,f,p⟩ s1 ⟨hm,hlm,hr,I⟩ g1 g2 g3 g4 g5
 simp at g1 g2 g3 g4 g5 hm hlm hr I;clear t1 I1 I3 Ip;cases m with
 |zero=>simp[zkb]at hr
 |succ m=>
  simp only[zkb]at hr;have hroom:(l2.length+1)*24<=zn:=by simp only[zn];omega
  have t2:=zG I [44];rw[zV]at t2;have key:∀q:PS,Inv1 T q->(if zSa q then some (l2,q)else zkb T m (l2++[⟨(zga T 1 (zja T q).2).1,(zja T q).1⟩]) false (zga T 1 (zja T q).2).2)=some (ps,p1)→
    (zSa q=true/\l2=ps/\q=p1)\/(zSa q=false/\∃ty pt tx p3,zj E 64 [.ptr 0 0 0] (pob T q)=some (.ret (.int .i64 ty),pob T pt)/\zj E 65 [.ptr 0 0 0,.int .i64 1] (pob T pt)=some (.ret (.str tx),pob T p3)/\Inv1 T p3/\zkb T m (l2++[⟨tx,ty⟩]) false p3=some (ps,p1)):=by
   intro q Iq h;cases ho:zSa q
   ·right;rw[if_neg (by rw[ho];decide)]at h;exact⟨rfl,_,_,_,_,typed_spec Iq,zVc Iq.typed 1,Iq.typed.text 1 (by decide),h⟩
   ·left;rw[if_pos ho]at h;cases h;exact⟨rfl,rfl,rfl⟩
  cases f
  ·cases c2:isF T [44] p
   ·rw[c2]at hr t2;simp at hr;obtain⟨rfl,rfl⟩:=hr;clear key c2;simp[*]
   ·have IA:=I.adv _ c2;rw[c2]at hr t2;simp at hr;have ho:=zqc IA;rcases key _ IA hr with⟨k1,rfl,rfl⟩|⟨k1,ty,pt,tx,p3,x2,x3,I3,hr2⟩
    ·rw[k1]at ho;clear key c2 hr;simp[*]
    ·rw[k1]at ho;clear key c2 hr k1;simp[*];exact⟨⟨m,l2++[⟨tx,ty⟩],false,p3⟩,yY m,rfl,by simp[encPar,acc_snoc],rfl,by simp only;omega,by simp only[yi,yj,yn];omega,hr2,I3⟩
  ·simp at hr;have ho:=zqc I;rcases key _ I hr with⟨k1,rfl,rfl⟩|⟨k1,ty,pt,tx,p3,x2,x3,I3,hr2⟩
   ·rw[k1]at ho;clear key hr t2;simp[*]
   ·rw[k1]at ho;clear key hr k1 t2;simp[*];exact⟨⟨m,l2++[⟨tx,ty⟩],false,p3⟩,yY m,rfl,by simp[encPar,acc_snoc],rfl,by simp only;omega,by simp only[yi,yj,yn];omega,hr2,I3⟩
def progF(T:List Tok):Nat->List PArr->List Func->PS->Option (Prog×PS)
 |0,_,_,_=>none
 |n+1,ars,fs,p=>
  if zSa p then some (⟨ars,fs⟩,p)
  else if(tk T p.at').kind=3 then some (⟨ars,fs⟩,p)
  else if(zja T p).1=1/\fs=[]/\isF T [91] (zga T 1 (zja T p).2).2=true then
   progF T n (ars++[⟨(zga T 1 (zja T p).2).1,zLd (zga T 0 (adv (zga T 1 (zja T p).2).2)).1⟩]) fs (zAa T [59] (zAa T [93] (zga T 0 (adv (zga T 1 (zja T p).2).2)).2))
  else match zBd T n (zja T p).1 (zga T 1 (zja T p).2).1 (zga T 1 (zja T p).2).2 with
   |none=>none
   |some q=>progF T n ars (fs++[q.1]) q.2
structure GS where
 m:Nat
 ars:List PArr
 fs:List Func
 p:PS
theorem text0_num{T:List Tok}{p:PS}(I:Inv1 T p):digs (zga T 0 p).1=true/\(zga T 0 p).1.length<1000000:=by
 unfold zga;split
 ·exact⟨rfl,by simp⟩
 ·split
  ·rename_i h;refine I.num _ ?_ h;rw[<-tk_get' I.lt];exact List.getElem_mem I.lt
  ·exact⟨rfl,by simp⟩
theorem progF_inv{T:List Tok}:∀m ars fs p v p',m<=999999980->progF T m ars fs p=some (v,p')->Inv1 T p->Inv1 T p':=by
 intro m
 induction m with
 |zero=>intro ars fs p v p' _ h;simp[progF]at h
 |succ m ih=>
  intro ars fs p v p' hm h I;simp only[progF]at h;have I2:=I.typed.text 1 (by decide);split at h
  ·cases h;exact I
  ·split at h
   ·cases h;exact I
   ·split at h
    ·rename_i hc;exact ih _ _ _ _ _ (by omega) h ((((I2.adv _ hc.2.2).text 0 (by decide)).must _).must _)
    ·split at h
     ·cases h
     ·rename_i q hq;exact ih _ _ _ _ _ (by omega) h (zMe hq I2 (by omega)).2
set_option maxHeartbeats 4000000 in
theorem prog_spec{T:List Tok}{n:Nat}{p p':PS}{v:Prog}(h:progF T n [] [] p=some (v,p'))(I:Inv1 T p)(hn:n<=999999980):zj E 34 [.ptr 0 0 0] (pob T p)=some (.ret (ze v),pob T p')/\Inv1 T p':=by
 refine⟨?_,progF_inv _ _ _ _ _ _ hn h I⟩;refine zc rfl rfl rfl (by simp) ?_;simp[F34,ze,zZ,funcs];refine zU K34_0 B34_0 (fun c:GS=>c.m) (fun c=>[]) (fun c=>[(3,.cells [acc 2 (c.ars.map zH),acc 4 (c.fs.map zl)])]) (fun c=>pob T c.p) (fun c=>c.m<=n/\c.ars.length+c.m<=n/\c.fs.length+c.m<=n/\progF T c.m c.ars c.fs c.p=some (v,p')/\Inv1 T c.p) ⟨n,[],[],p⟩ ⟨by simp,by simp,by simp,ye _,by simp,by simp,h,I⟩ ?_;clear h I
 rintro⟨m,ars,fs,p⟩ s1 ⟨hm,hla,hlf,hr,I⟩ g1 g2 g3 g4 g5
 simp at g1 g2 g4 g5 hm hla hlf hr I;clear g3;cases m with
 |zero=>simp[progF]at hr
 |succ m=>
  simp only[progF]at hr;have hrm1:(ars.length+1)*24<=zn:=by simp only[zn];omega
  have hrm2:(fs.length+1)*72<=zn:=by simp only[zn];omega
  have ho:=zqc I;have hlt:=I.lt;have hg:=tk_get hlt;have hg':=tk_get' hlt;cases o:zSa p
  case true=>
   rw[if_pos o]at hr;rw[o]at ho;cases hr;clear o;simp[*]
  rw[if_neg (by rw[o];decide)]at hr;rw[o]at ho;clear o;by_cases hk:(tk T p.at').kind=3
  ·rw[if_pos hk]at hr;replace hk:=eqp hk;cases hr;simp[pob,toks]at ho g5;simp[*,pob,toks,zx]
  rw[if_neg hk]at hr;replace hk:=eqn hk;have ty:=typed_spec I;have I1:=I.typed;generalize zja T p=tt at*;obtain⟨t,p1⟩:=tt;simp only at ty I1 hr;have tx:=zVc I1 1;have I2:=I1.text 1 (by decide);generalize zga T 1 p1=tt at*;obtain⟨s,p2⟩:=tt;simp only at tx I2 hr;have t2:=zG I2 [91];rw[zV]at t2;by_cases hc:t=1/\fs=[]/\isF T [91] p2=true
  ·rw[if_pos hc]at hr;obtain⟨rfl,rfl,hc⟩:=hc;have IA:=I2.adv _ hc;rw[hc]at t2;have x1:=zVc IA 0;obtain⟨n1,n2⟩:=text0_num IA;have I3:=IA.text 0 (by decide);generalize zga T 0 (adv p2)=tt at*;obtain⟨x,p3⟩:=tt;simp only at x1 I3 hr n1 n2;have vv:=zxe x [] n1 (by omega);have m1:=zB I3 [93];have m2:=zB (I3.must [93]) [59];have I4:=(I3.must [93]).must [59];clear hc;simp[pob,toks]at ho g5 ty tx t2 x1 m1 m2;simp[*,pob,toks,zx];exact⟨⟨m,ars++[⟨s,zLd x⟩],[],_⟩,yY m,by simp[zH,acc_snoc],⟨rfl,rfl,rfl⟩,by simp only;omega,by simp only[yi,yj,yn];omega,by simp only[yn];omega,hr,I4⟩
  ·rw[if_neg hc]at hr;split at hr
   ·cases hr
   rename_i q hq;obtain⟨fn,p3⟩:=q;simp only at hr;obtain⟨x1,I3⟩:=zMe hq I2 (by omega);clear hq;have hs:=is_spec I2 [91];simp[zl,parsV,zg]at x1;simp[pob,toks]at ho g5 ty tx t2 x1;by_cases h1:t=1
   ·by_cases h2:fs=[]
    ·have h3:isF T [91] p2=false:=by
      cases h3:isF T [91] p2
      ·rfl
      ·exact absurd ⟨h1,h2,h3⟩ hc
     rw[h3]at t2;subst h1 h2;clear hc h3 hs hrm2;have hrm2:72<=zn:=by simp only[zn];omega
     simp at g4 hr;simp[*,pob,toks,zx];exact⟨⟨m,ars,[fn],p3⟩,yY m,⟨rfl,by simp[zl,parsV,zg]⟩,⟨rfl,rfl,rfl⟩,by simp only;omega,by simp only;omega,by simp only[yj,yn]at hlf ⊢;omega,hr,I3⟩
    ·have h2':¬fs.length=0:=by simpa using h2
     clear hc h2 t2 hs;subst h1;simp[*,pob,toks,zx];exact⟨⟨m,ars,fs++[fn],p3⟩,yY m,⟨rfl,by simp[zl,parsV,zg,acc_snoc]⟩,⟨rfl,rfl,rfl⟩,by simp only;omega,by simp only;omega,by simp only[yi,yj,yn];omega,hr,I3⟩
   ·clear hc t2 hs;replace h1:=eqn h1;simp[*,pob,toks,zx];exact⟨⟨m,ars,fs++[fn],p3⟩,yY m,⟨rfl,by simp[zl,parsV,zg,acc_snoc]⟩,⟨rfl,rfl,rfl⟩,by simp only;omega,by simp only;omega,by simp only[yi,yj,yn];omega,hr,I3⟩
def kindR(k o n:Int)(s:List UInt8)(a:Nat):Bool:=
 if k=1 then decide (o=0)&&(decide (0<=n)&&(decide (s=[])&&decide (a=0)))
 else if k=2 then decide (o=0)&&((decide (n=0)||decide (n=1))&&(decide (s=[])&&decide (a=0)))
 else if k=3 then(decide (o=0)&&decide (n=0))&&(zbc s&&decide (a=0))
 else if k=4 then oneR o&&(decide (n=0)&&(decide (s=[])&&decide (a=1)))
 else if k=5 then decide (0<zse o)&&(decide (n=0)&&(decide (s=[])&&decide (a=2)))
 else if k=6 then(decide (o=0)&&decide (n=0))&&(zbc s&&decide (a=1))
 else if k=7 then(decide (o=0)&&decide (n=0))&&(zbc s&&decide (a<=8))
 else if k=8 then(decide (o=0)&&decide (n=0))&&(decide (s=[])&&decide (a=0))
 else false
mutual
def zmb:Expr->Int->Bool
 |⟨k,o,n,s,a⟩,m=>zWb a m&&kindR k o n s a.length
def zWb:List Expr->Int->Bool
 | [],_=>true
 |x::r,m=>(decide (2<=m)&&zmb x (m-1))&&zWb r m
end
theorem exprR_eq(e:Expr)(m:Int):zmb e m=(zWb e.args m&&kindR e.kind e.op e.n e.name e.args.length):=by cases e;rw[zmb]
theorem zPe(a b:List Expr)(m:Int):zWb (a++b) m=(zWb a m&&zWb b m):=by
 induction a with
 |nil=>simp[zWb]
 |cons x r ih=>simp[zWb,ih,Bool.and_assoc]
set_option maxHeartbeats 4000000 in
theorem exprR_spec':∀w (e:Expr) (m:Int),wtE e<=w->w<1099511000000->m<=1000000->zj E 97 [zo e,.int .i64 m] []=some (.ret (.bool (zmb e m)),[])
 |0,e,m,h,_,_=>by rw[zed]at h;omega
 |w+1,e,m,h,hw,hm=>by
  refine zc rfl rfl rfl (by simp[za]) ?_;have hlen:=zxb e.args;rw[zed]at h;simp[F97,za,zf];refine zD e.args K97_0 B97_0 (fun d=>[(5,.int .i64 d.length)]) (fun _=>[]) (fun d=>zWb d m=true) (by omega) (by simp[zWb]) ?_ ?_
  ·intros d x r s1 hl' hlt hget hget' hw1 hp h1 h2 h3 h4;simp at h1 h2 h3;have hwx:=zzb hl'.mem;have hf:zmb e m=false\/(2<=m/\zmb x (m-1)=true):=by
    by_cases h2m:2<=m
    ·cases hx:zmb x (m-1)
     ·left;rw[exprR_eq,hl'.eq,zPe];simp[zWb,hx]
     ·exact yUa ⟨h2m,rfl⟩
    ·left;rw[exprR_eq,hl'.eq,zPe];simp[zWb,h2m]
   have hnx:2<=m->zmb x (m-1)=true->zWb (d++[x]) m=true:=by
    intro a b;rw[zPe,hp];simp[zWb,a,b]
   by_cases h2m:m<2
   ·rcases hf with hf|hf
    ·clear hnx hl' hp
     (simp[*])<;>(repeat' (first|((first|refine sP _ ?_ ?_|refine gP _ ?_ ?_|refine sN _ ?_ ?_|refine gN _ ?_ ?_)<;>intro hc<;>(first|replace hc:=eqn hc|replace hc:=eqp hc)<;>simp[*])|((first|refine sM _ ?_ ?_|refine gM _ ?_ ?_|refine sB _ ?_ ?_|refine gB _ ?_ ?_)<;>intro hc<;>simp[*])))
    ·omega
   ·have ih:=exprR_spec' w x (m-1) (by omega) (by omega) (by omega);have hwm:zA .i64 (m-1)=m-1:=zi (by omega) (by omega);rw[za]at ih;cases hx:zmb x (m-1)
    ·rcases hf with hf|hf
     ·rw[hx]at ih;clear hnx hl' hp;simp[zf]at ih
      (simp[*,za,zf])<;>(repeat' (first|((first|refine sP _ ?_ ?_|refine gP _ ?_ ?_|refine sN _ ?_ ?_|refine gN _ ?_ ?_)<;>intro hc<;>(first|replace hc:=eqn hc|replace hc:=eqp hc)<;>simp[*,za,zf])|((first|refine sM _ ?_ ?_|refine gM _ ?_ ?_|refine sB _ ?_ ?_|refine gB _ ?_ ?_)<;>intro hc<;>simp[*,za,zf])))
     ·rw[hx]at hf;exact absurd hf.2 (by decide)
    ·replace hnx:=hnx (by omega) hx;rw[hx]at ih;clear hf hl' hp;simp[zf]at ih
     (simp[*,za,zf])<;>(repeat' (first|((first|refine sP _ ?_ ?_|refine gP _ ?_ ?_|refine sN _ ?_ ?_|refine gN _ ?_ ?_)<;>intro hc<;>(first|replace hc:=eqn hc|replace hc:=eqp hc)<;>simp[*,za,zf])|((first|refine sM _ ?_ ?_|refine gM _ ?_ ?_|refine sB _ ?_ ?_|refine gB _ ?_ ?_)<;>intro hc<;>simp[*,za,zf])))
  ·intros s1 hp h1 h2 h3 h4;simp at h1 h2 h3;rw[exprR_eq,hp,yma];have hn:=zFc e.name [];have h5:=rlevel_spec e.op;have h6:=roneR_spec e.op;clear h hlen hp;generalize hal:e.args.length=al at*;unfold kindR;by_cases k1:e.kind=1
   ·replace k1:=eqp k1
    (simp[*])<;>(repeat' (first|((first|refine sP _ ?_ ?_|refine gP _ ?_ ?_|refine sN _ ?_ ?_|refine gN _ ?_ ?_)<;>intro hc<;>(first|replace hc:=eqn hc|replace hc:=eqp hc)<;>simp[*])|((first|refine sM _ ?_ ?_|refine gM _ ?_ ?_|refine sB _ ?_ ?_|refine gB _ ?_ ?_)<;>intro hc<;>simp[*])))
    all_goals(try omega)
   by_cases k2:e.kind=2
   ·replace k1:=eqn k1;replace k2:=eqp k2
    (simp[*])<;>(repeat' (first|((first|refine sP _ ?_ ?_|refine gP _ ?_ ?_|refine sN _ ?_ ?_|refine gN _ ?_ ?_)<;>intro hc<;>(first|replace hc:=eqn hc|replace hc:=eqp hc)<;>simp[*])|((first|refine sM _ ?_ ?_|refine gM _ ?_ ?_|refine sB _ ?_ ?_|refine gB _ ?_ ?_)<;>intro hc<;>simp[*])))
    all_goals(try omega)
   by_cases k3:e.kind=3
   ·replace k1:=eqn k1;replace k2:=eqn k2;replace k3:=eqp k3
    (simp[*])<;>(repeat' (first|((first|refine sP _ ?_ ?_|refine gP _ ?_ ?_|refine sN _ ?_ ?_|refine gN _ ?_ ?_)<;>intro hc<;>(first|replace hc:=eqn hc|replace hc:=eqp hc)<;>simp[*])|((first|refine sM _ ?_ ?_|refine gM _ ?_ ?_|refine sB _ ?_ ?_|refine gB _ ?_ ?_)<;>intro hc<;>simp[*])))
    all_goals(try omega)
   by_cases k4:e.kind=4
   ·replace k1:=eqn k1;replace k2:=eqn k2;replace k3:=eqn k3;replace k4:=eqp k4
    (simp[*])<;>(repeat' (first|((first|refine sP _ ?_ ?_|refine gP _ ?_ ?_|refine sN _ ?_ ?_|refine gN _ ?_ ?_)<;>intro hc<;>(first|replace hc:=eqn hc|replace hc:=eqp hc)<;>simp[*])|((first|refine sM _ ?_ ?_|refine gM _ ?_ ?_|refine sB _ ?_ ?_|refine gB _ ?_ ?_)<;>intro hc<;>simp[*])))
    all_goals(try omega)
   by_cases k5:e.kind=5
   ·replace k1:=eqn k1;replace k2:=eqn k2;replace k3:=eqn k3;replace k4:=eqn k4;replace k5:=eqp k5
    (simp[*])<;>(repeat' (first|((first|refine sP _ ?_ ?_|refine gP _ ?_ ?_|refine sN _ ?_ ?_|refine gN _ ?_ ?_)<;>intro hc<;>(first|replace hc:=eqn hc|replace hc:=eqp hc)<;>simp[*])|((first|refine sM _ ?_ ?_|refine gM _ ?_ ?_|refine sB _ ?_ ?_|refine gB _ ?_ ?_)<;>intro hc<;>simp[*])))
    all_goals(try omega)
   replace k1:=eqn k1;replace k2:=eqn k2;replace k3:=eqn k3;replace k4:=eqn k4;replace k5:=eqn k5;by_cases k6:e.kind=6
   ·replace k6:=eqp k6
    (simp[*])<;>(repeat' (first|((first|refine sP _ ?_ ?_|refine gP _ ?_ ?_|refine sN _ ?_ ?_|refine gN _ ?_ ?_)<;>intro hc<;>(first|replace hc:=eqn hc|replace hc:=eqp hc)<;>simp[*])|((first|refine sM _ ?_ ?_|refine gM _ ?_ ?_|refine sB _ ?_ ?_|refine gB _ ?_ ?_)<;>intro hc<;>simp[*])))
    all_goals(try omega)
   replace k6:=eqn k6;by_cases k7:e.kind=7
   ·replace k7:=eqp k7
    (simp[*])<;>(repeat' (first|((first|refine sP _ ?_ ?_|refine gP _ ?_ ?_|refine sN _ ?_ ?_|refine gN _ ?_ ?_)<;>intro hc<;>(first|replace hc:=eqn hc|replace hc:=eqp hc)<;>simp[*])|((first|refine sM _ ?_ ?_|refine gM _ ?_ ?_|refine sB _ ?_ ?_|refine gB _ ?_ ?_)<;>intro hc<;>simp[*])))
    all_goals(try omega)
   replace k7:=eqn k7;by_cases k8:e.kind=8
   ·replace k8:=eqp k8
    (simp[*])<;>(repeat' (first|((first|refine sP _ ?_ ?_|refine gP _ ?_ ?_|refine sN _ ?_ ?_|refine gN _ ?_ ?_)<;>intro hc<;>(first|replace hc:=eqn hc|replace hc:=eqp hc)<;>simp[*])|((first|refine sM _ ?_ ?_|refine gM _ ?_ ?_|refine sB _ ?_ ?_|refine gB _ ?_ ?_)<;>intro hc<;>simp[*])))
    all_goals(try omega)
   replace k8:=eqn k8
   (simp[*])<;>(repeat' (first|((first|refine sP _ ?_ ?_|refine gP _ ?_ ?_|refine sN _ ?_ ?_|refine gN _ ?_ ?_)<;>intro hc<;>(first|replace hc:=eqn hc|replace hc:=eqp hc)<;>simp[*])|((first|refine sM _ ?_ ?_|refine gM _ ?_ ?_|refine sB _ ?_ ?_|refine gB _ ?_ ?_)<;>intro hc<;>simp[*])))
   all_goals(try omega)
theorem exprR_spec(e:Expr)(m:Int)(h:wtE e<1099510000000)(hm:m<=1000000):zj E 97 [zo e,.int .i64 m] []=some (.ret (.bool (zmb e m)),[]):=exprR_spec' (wtE e) e m (ye _) (by omega) hm
theorem digits_spec':∀(k n:Nat),n<10^(k+1)->n<=9223372036854775807->k<=100->zj E 80 [.int .i64 n] []=some (.ret (.str (digF (k+1) n)),[])
 |k,n,h,hn,hk=>by
  refine zc rfl rfl rfl (by simp) ?_;have hm:n%10<10:=yna _ (by omega);obtain⟨z,hz,z0,z9⟩:∃z:Int,z=((n%10:Nat):Int)/\0<=z/\z<10:=⟨_,rfl,by omega,by omega⟩
  have hr:remK (n:Int) 10=z:=by rw[hz,remK_eq];rfl
  have hw:zA .i64 (48+z)=48+z:=by rw[zi]<;>omega
  have hw8:zA .u8 (48+z)=48+z:=by rw[zKd,IntKind.wrap_u8];omega
  have hu:yw (48+z).toNat=yw (48+n%10):=by congr 1;omega
  by_cases h10:n<10
  ·have c1:((n:Int)<10)=True:=eqp (by omega);have hd:digF (k+1) n=[yw (48+n%10)]:=by rw[digF,if_pos h10,Nat.mod_eq_of_lt h10]
   rw[hd];generalize yw (48+n%10)=y at*;clear hz hd h h10 hm;simp[*,F80]
  ·cases k with
   |zero=>simp at h;omega
   |succ k=>
    have c1:((n:Int)<10)=False:=eqn (by omega);have hd:digF (k+1+1) n=digF (k+1) (n/10)++[yw (48+n%10)]:=by rw[digF,if_neg h10]
    rw[hd];have ih:=digits_spec' k (n/10) (by rw[yhb]at h;omega) (by omega) (by omega);have hl:=zZd (k+1) (n/10);have hl2:(digF (k+1) (n/10)).length+1<=9223372036854775807:=by omega
    have hl3:(digF (k+1) (n/10)).length<=9223372036854775806:=by omega
    have hq:(n:Int).tdiv 10=((n/10:Nat):Int):=rfl;have hwq:zA .i64 ((n/10:Nat):Int)=((n/10:Nat):Int):=by rw[zi]<;>omega
    obtain⟨q,hq2⟩:∃q:Int,q=((n/10:Nat):Int):=⟨_,rfl⟩
    rw[<-hq2]at ih hq hwq;generalize yw (48+n%10)=y at*;generalize digF (k+1) (n/10)=dg at*;clear hz hd h h10 hm hl hq2;simp[*,F80]
theorem digits_spec(n:Nat)(hn:n<=9223372036854775807):zj E 80 [.int .i64 n] []=some (.ret (.str (zR n)),[]):=
 digits_spec' 19 n (Nat.lt_of_le_of_lt hn (by decide)) hn (by omega)
abbrev Nm:=List (List UInt8×List UInt8)
def zLa(nm:List UInt8):Nm->List UInt8
 | []=>nm
 |x::r=>if x.1=nm then x.2 else zLa nm r
def encPr(x:List UInt8×List UInt8):PV:= .agg [.str x.1,.str x.2]
@[simp] theorem below_prs(k:Nat)(N:Nm):zO k (N.map encPr).reverse=true:=by
 rw[zqd];intro x hx;simp only[List.mem_reverse,List.mem_map]at hx;obtain⟨y,_,rfl⟩:=hx;rfl
def prs(N:Nm):PV:= .slice .plain 2 (N.reverse.map encPr)
set_option maxHeartbeats 1000000 in
theorem findN_spec(N:Nm)(nm:List UInt8)(hN:N.length<9000000000000):zj E 93 [prs N,.str nm] []=some (.ret (.str (zLa nm N)),[]):=by
 refine zc rfl rfl rfl (by simp[prs]) ?_;have hw:zA .i64 ((N.length:Int)-1)=(N.length:Int)-1:=by rw[zi]<;>omega
 simp[*,F93,prs];refine zU K93_0 B93_0 (fun c:Nm=>c.length) (fun c=>[(5,.int .i64 ((c.length:Int)-1))]) (fun c=>[]) (fun c=>[]) (fun c=>∃a,N=a++c/\zLa nm N=zLa nm c) N ⟨by simp,by simp,by simp,[],rfl,rfl⟩ ?_
 rintro c s1 ⟨a,rfl,hf⟩ q1 q2 q3 q4 q5
 simp at q1 q3 q5;cases c with
 |nil=>
  have e0:((0:Int)<=((0:Nat):Int)-1)=False:=eqn (by omega);simp at q3;rw[hf];clear hf q2 hw;simp[*,zLa]
 |cons x r=>
  have hr:((a++x::r).reverse.map encPr)[r.length]? =some (encPr x):=by
   rw[yo,List.reverse_append,yGa];simp
  have hlt:r.length<(a++x::r).length:=by simp;omega
  have hd:decide (r.length<(a++x::r).length)=true:=decide_eq_true hlt;have e0:((0:Int)<=(r.length:Int))=True:=eqp (by omega);have hw2:zA .i64 ((r.length:Int)-1)=(r.length:Int)-1:=by rw[zi]<;>omega
  obtain⟨o,nw⟩:=x;by_cases hx:o=nm
  ·subst hx;have hv:zLa o (a++(o,nw)::r)=nw:=by rw[hf];simp[zLa]
   rw[hv];clear hf hw q2 hN;generalize hL:a++(o,nw)::r=L at*;simp[encPr]at hr q1 q3 hd;simp[*]
  ·have hv:zLa nm ((o,nw)::r)=zLa nm r:=by simp[zLa,hx]
   rw[hv]at hf;replace hx:=eqn hx;have hsplit:a++(o,nw)::r=(a++[(o,nw)])++r:=by simp
   clear hw q2 hN hv;generalize hL:a++(o,nw)::r=L at*;simp[encPr]at hr q1 q3 hd;replace hL:Nonempty (PLift (a++(o,nw)::r=L)):=⟨⟨hL⟩⟩
   simp[*];obtain⟨⟨hL⟩⟩:=hL;exact⟨r,by simp,rfl,rfl,⟨a++[(o,nw)],by simp⟩,by rw[hL];exact hf⟩
mutual
def renE(N:Nm):Expr->Expr
 |⟨k,op,n,nm,ar⟩=>⟨k,op,n,if k=3 then zLa nm N else nm,zua N ar⟩
def zua(N:Nm):List Expr->List Expr
 | []=>[]
 |x::r=>renE N x::zua N r
end
theorem renEs_append(N:Nm)(a b:List Expr):zua N (a++b)=zua N a++zua N b:=by
 induction a with
 |nil=>simp[zua]
 |cons x r ih=>simp[zua,ih]
theorem renEs_len(N:Nm)(a:List Expr):(zua N a).length=a.length:=by
 induction a with
 |nil=>simp[zua]
 |cons x r ih=>simp[zua,ih]
set_option maxHeartbeats 2000000 in
theorem rexprs_spec':∀(w:Nat) (l:List Expr) (N:Nm),wtEs l<=w->w<1099511000000->N.length<9000000000000->zj E 92 [zf l,prs N] []=some (.ret (zf (zua N l)),[])
 |w,l,N,h,hw,hN=>by
  refine zc rfl rfl rfl (by simp[zf,prs]) ?_;have hlen:=zxb l;simp[F92,zf,prs];refine zD l K92_0 B92_0 (fun d=>[(5,acc 5 ((zua N d).map zo)),(6,.int .i64 d.length)]) (fun _=>[]) (fun d=>True) (by omega) (by simp[zua]) ?_ ?_
  ·intros d x r s1 hl' hlt hget hget' hw1 hp h1 h2 h3 h4;simp at h1 h2 h3;have hwx:=zzb hl'.mem;have hroom:((zua N d).length+1)*64<=zn:=by rw[renEs_len];simp only[zn];omega
   have hfi:=findN_spec N x.name hN;have ih:zj E 92 [zf x.args,prs N] []=some (.ret (zf (zua N x.args)),[]):=by
    have hx:wtEs x.args<wtEs l:=by have:=zed x;omega
    exact rexprs_spec' (wtEs x.args) x.args N (ye _) (by omega) hN
   have hap:zua N (d++[x])=zua N d++[renE N x]:=by rw[renEs_append];simp[zua]
   have hdec:decide (d.length<l.length)=true:=decide_eq_true hlt;rw[hap];obtain⟨k,op,n,nm,ar⟩:=x;simp only at ih hfi hwx;by_cases hk:k=3
   ·subst hk;clear hl' hwx hap h2;simp[prs]at ih hfi;simp[*,za,renE]
   ·replace hk:=eqn hk;clear hl' hwx hap h2 hfi;simp[prs]at ih;simp[*,za,renE]
  ·intros s1 hp h1 h2 h3 h4;simp at h1 h2 h3;simp[*,zf]
 termination_by w l N=>wtEs l
def newN(c:Nat):List UInt8:=118::zR c
def cobj(c:Nat):Obj:= .arr 1 [.agg [.int .i64 c]]
def cst(σ:zd)(j c:Nat):zd:=σ.set j (cobj c)
theorem cst_get{σ:zd}{j:Nat}(h:j<σ.length)(c:Nat):(cst σ j c)[j]? =some (.arr 1 [.agg [.int .i64 c]]):=by
 unfold cst;rw[ym (by simpa using h)];rfl
theorem cst_set(σ:zd)(j c d:Nat):(cst σ j c).set j (.arr 1 [.agg [.int .i64 d]])=cst σ j d:=by
 unfold cst;rw[yWa];rfl
theorem next_spec{σ:zd}{j:Nat}(h:j<σ.length)(c:Nat)(hc:c<=9000000000000):zj E 57 [.ptr j 0 0] (cst σ j c)=some (.ret (.str (newN c)),cst σ j (c+1)):=by
 refine zc rfl rfl rfl (by simp) ?_;have g:=cst_get h c;have g1:=cst_get h (c+1);have s1:=cst_set σ j c (c+1);have hw:zA .i64 ((c:Int)+1)=(c:Int)+1:=by rw[zi]<;>omega
 have hw0:zA .i64 (c:Int)=(c:Int):=by rw[zi]<;>omega
 have hd:=digits_spec c (by omega);have hl:=zZd 20 c;have hl1:1+(zR c).length<=9223372036854775807:=by unfold zR;omega
 have e1:(((c+1:Nat):Int))=(c:Int)+1:=by omega
 rw[e1]at g1 s1;generalize cst σ j (c+1)=σ1 at*;generalize cst σ j c=σ0 at*;clear hl h e1;simp[*,F57,newN]
mutual
def renS:Stmt->Nm->Nat->Stmt×Nm×Nat
 |⟨k,ty,nm,ar,th,el⟩,N,c=>
  let N1:=if k=1 then(nm,newN c)::N else N
  let c1:=if k=1 then c+1 else c
  let t:=renB th N1 c1
  let e:=renB el N1 t.2.2
  (⟨k,ty,if k=1\/k=2 then zLa nm N1 else nm,zua N ar,t.1,e.1⟩,N1,e.2.2)
def renB:List Stmt->Nm->Nat->List Stmt×Nm×Nat
 | [],N,c=>([],N,c)
 |x::r,N,c=>
  let y:=renS x N c
  let z:=renB r y.2.1 y.2.2
  (y.1::z.1,z.2)
end
theorem renB_append:∀(a b:List Stmt) (N:Nm) (c:Nat),renB (a++b) N c=((renB a N c).1++(renB b (renB a N c).2.1 (renB a N c).2.2).1,(renB b (renB a N c).2.1 (renB a N c).2.2).2)
 | [],b,N,c=>by simp[renB]
 |x::r,b,N,c=>by simp[renB,renB_append r b]
theorem renB_len:∀(a:List Stmt) (N:Nm) (c:Nat),(renB a N c).1.length=a.length
 | [],N,c=>by simp[renB]
 |x::r,N,c=>by simp[renB,renB_len r]
mutual
theorem renS_bd:∀(s:Stmt) (N:Nm) (c:Nat),(renS s N c).2.1.length<=N.length+1/\c<=(renS s N c).2.2/\(renS s N c).2.2<=c+wtS s
 |⟨k,ty,nm,ar,th,el⟩,N,c=>by
  have h1:=zib th (if k=1 then(nm,newN c)::N else N) (if k=1 then c+1 else c);have h2:=zib el (if k=1 then(nm,newN c)::N else N) (renB th (if k=1 then(nm,newN c)::N else N) (if k=1 then c+1 else c)).2.2;have hw:=zCa ⟨k,ty,nm,ar,th,el⟩;simp only[renS];simp only at hw;refine⟨by split<;>simp,?_,?_⟩
  ·split at h1<;>split at h2<;>simp_all<;>omega
  ·split at h1<;>split at h2<;>simp_all<;>omega
theorem zib:∀(l:List Stmt) (N:Nm) (c:Nat),(renB l N c).2.1.length<=N.length+l.length/\c<=(renB l N c).2.2/\(renB l N c).2.2<=c+wtSs l
 | [],N,c=>by simp[renB,wtSs]
 |x::r,N,c=>by
  have h1:=renS_bd x N c;have h2:=zib r (renS x N c).2.1 (renS x N c).2.2;have hw:wtSs (x::r)=wtS x+1+wtSs r:=by simp[wtSs];omega
  simp only[renB,yj];omega
end
set_option maxHeartbeats 4000000 in
theorem rblock_spec:∀(w:Nat) (l:List Stmt) (N:Nm) (c:Nat) (σ:zd) (j:Nat),wtSs l<=w->w<=1099510000000->N.length+wtSs l<=4000000000000->c+wtSs l<=4000000000000->j<σ.length→
  zj E 58 [.ptr j 0 0,zg l,prs N] (cst σ j c)=some (.ret (zg (renB l N c).1),cst σ j (renB l N c).2.2):=by
  intro w
  induction w using yia with
  |_ w IH=>
  intro l N c σ j hw hw0 hN hc hj;refine zc rfl rfl rfl (by simp[zg,prs]) ?_;have hlen:=zia l;have hrN:N.length*32<=zn:=by simp only[zn];omega
  simp[*,F58,zg,prs];refine zD l K58_0 B58_0 (fun d=>[(7,acc 6 ((renB d N c).1.map zu)),(8,acc 2 ((renB d N c).2.1.map encPr).reverse),(9,.int .i64 d.length)]) (fun d=>cst σ j (renB d N c).2.2) (fun d=>True) (by omega) (by simp[renB]) ?_ ?_
  ·intros d x r s1 hl' hlt hget hget' hw1 hp h1 h2 h3 h4;simp at h1 h2 h3;have hwx:=zmc hl'.mem;have hwe:=zCa x;have hbd:=zib d N c;have hsum:wtSs l=wtSs d+(1+wtS x)+wtSs r:=by rw[hl'.eq,zCc];simp[wtSs];omega
   have hdl:=zia d;have hap:=renB_append d [x] N c;have hol:=renB_len d N c;generalize renB d N c=q at*;obtain⟨out,N0,c0⟩:=q;simp only at hbd hap hol;have hroom:(out.length+1)*104<=zn:=by rw[hol];simp only[zn];omega
   have hroom2:(N0.length+1)*32<=zn:=by simp only[zn];omega
   have hex:=rexprs_spec' (wtEs x.args) x.args N0 (ye _) (by omega) (by omega);have hnx:=next_spec hj c0 (by omega);have hbd1:=renS_bd x N0 c0;have hdec:decide (d.length<l.length)=true:=decide_eq_true hlt;rw[hap];obtain⟨k,ty,nm,ar,th,el⟩:=x;simp only at hwe hex;simp only[renB,renS]at hbd1 ⊢;by_cases hk:k=1
   ·subst hk;simp only[if_true,true_or]at hbd1 ⊢;have hfi:=findN_spec ((nm,newN c0)::N0) nm (by simp;omega);have hb1:=zib th ((nm,newN c0)::N0) (c0+1);have ih1:=IH (wtSs th) (by omega) th ((nm,newN c0)::N0) (c0+1) σ j (ye _) (by omega) (by simp;omega) (by omega) hj;have ih2:=IH (wtSs el) (by omega) el ((nm,newN c0)::N0) (renB th ((nm,newN c0)::N0) (c0+1)).2.2 σ j (ye _) (by omega) (by simp;omega) (by omega) hj;generalize renB th ((nm,newN c0)::N0) (c0+1)=q1 at*;obtain⟨o1,N1,c1⟩:=q1;simp only at ih1 ih2 hb1 ⊢;generalize renB el ((nm,newN c0)::N0) c1=q2 at*;obtain⟨o2,N2,c2⟩:=q2;simp only at ih2 ⊢;generalize zLa nm ((nm,newN c0)::N0)=fn at*;generalize newN c0=nw at*;clear IH hl' hwx hap h2 hw hw0 hc hN hbd hbd1 hwe hb1 hsum hol;simp[prs,encPr]at hex hfi ih1 ih2;simp[*,zb,encPr]
   ·simp only[hk,if_false,false_or]at hbd1 ⊢;have hfi:=findN_spec N0 nm (by omega);have hb1:=zib th N0 c0;have ih1:=IH (wtSs th) (by omega) th N0 c0 σ j (ye _) (by omega) (by omega) (by omega) hj;have ih2:=IH (wtSs el) (by omega) el N0 (renB th N0 c0).2.2 σ j (ye _) (by omega) (by omega) (by omega) hj;generalize renB th N0 c0=q1 at*;obtain⟨o1,N1,c1⟩:=q1;simp only at ih1 ih2 hb1 ⊢;generalize renB el N0 c1=q2 at*;obtain⟨o2,N2,c2⟩:=q2;simp only at ih2 ⊢;generalize zLa nm N0=fn at*;replace hk:=eqn hk;by_cases hk2:k=2
    ·subst hk2;clear IH hl' hwx hap h2 hw hw0 hc hN hbd hbd1 hwe hb1 hsum hol hnx hk;simp[prs]at hex hfi ih1 ih2;simp[*,zb]
    ·replace hk2:=eqn hk2;simp only[hk2,if_false];clear IH hl' hwx hap h2 hw hw0 hc hN hbd hbd1 hwe hb1 hsum hol hnx hfi;simp[prs]at hex ih1 ih2;simp[*,zb]
  ·intros s1 hp h1 h2 h3 h4;simp at h1 h2 h3;simp[*,zg]
theorem itoa_spec(c:Nat)(h:c<=9223372036854775807):zj E 78 [.int .i64 c] []=some (.ret (.str (zR c)),[]):=by
 rw[zqb (E:=E) (f:=78) (g:=itoaX) rfl];unfold itoaX;simp only;rw[if_pos (by omega),itoa_dig c (by omega)]
theorem mclone_spec{σ:zd}{r:Nat}{es:List (PV×PV)}(h:σ[r]? =some (.mp es)):zj E 116 [.mp r] σ=some (.ret (.mp σ.length),σ++[.mp es]):=by
 rw[zqb (E:=E) (f:=116) (g:=cloneX) rfl];simp[cloneX,h]
theorem sclX_nil(sz by_:Nat)(k:SK)(σ:zd):sclX sz by_ [.slice k sz []] σ=some (.ret (.slice .plain sz []),σ):=by simp[sclX]
theorem sclX_cons(sz by_:Nat)(k:SK)(σ:zd){l:List PV}(hne:l≠ [])(hb:l.length*by_<=zn):sclX sz by_ [.slice k sz l] σ=some (.ret (.mslice σ.length 0 l.length sz),σ++[.arr sz l]):=by
 simp[sclX,hne,hb]
theorem eclone_nil(σ:zd):zj E 91 [.slice .plain 5 []] σ=some (.ret (.slice .plain 5 []),σ):=by
 rw[zqb (E:=E) (f:=91) (g:=sclX 5 64) rfl];exact sclX_nil ..
theorem eclone(σ:zd){l:List PV}(hne:l≠ [])(hb:l.length*64<=zn):zj E 91 [.slice .plain 5 l] σ=some (.ret (.mslice σ.length 0 l.length 5),σ++[.arr 5 l]):=by
 rw[zqb (E:=E) (f:=91) (g:=sclX 5 64) rfl];exact sclX_cons _ _ _ _ hne hb
theorem tclone_nil(σ:zd):zj E 54 [.slice .plain 6 []] σ=some (.ret (.slice .plain 6 []),σ):=by
 rw[zqb (E:=E) (f:=54) (g:=sclX 6 104) rfl];exact sclX_nil ..
theorem tclone(σ:zd){l:List PV}(hne:l≠ [])(hb:l.length*104<=zn):zj E 54 [.slice .plain 6 l] σ=some (.ret (.mslice σ.length 0 l.length 6),σ++[.arr 6 l]):=by
 rw[zqb (E:=E) (f:=54) (g:=sclX 6 104) rfl];exact sclX_cons _ _ _ _ hne hb
theorem pclone_nil(σ:zd):zj E 88 [.slice .plain 2 []] σ=some (.ret (.slice .plain 2 []),σ):=by
 rw[zqb (E:=E) (f:=88) (g:=sclX 2 24) rfl];exact sclX_nil ..
theorem pclone(σ:zd){l:List PV}(hne:l≠ [])(hb:l.length*24<=zn):zj E 88 [.slice .plain 2 l] σ=some (.ret (.mslice σ.length 0 l.length 2),σ++[.arr 2 l]):=by
 rw[zqb (E:=E) (f:=88) (g:=sclX 2 24) rfl];exact sclX_cons _ _ _ _ hne hb
theorem aclone_nil(σ:zd):zj E 52 [.slice .plain 2 []] σ=some (.ret (.slice .plain 2 []),σ):=by
 rw[zqb (E:=E) (f:=52) (g:=sclX 2 24) rfl];exact sclX_nil ..
theorem aclone(σ:zd){l:List PV}(hne:l≠ [])(hb:l.length*24<=zn):zj E 52 [.slice .plain 2 l] σ=some (.ret (.mslice σ.length 0 l.length 2),σ++[.arr 2 l]):=by
 rw[zqb (E:=E) (f:=52) (g:=sclX 2 24) rfl];exact sclX_cons _ _ _ _ hne hb
def kobj(c:Nat):Obj:= .arr 1 [.int .i64 ((c:Int)-1)]
def kst(σ:zd)(j c:Nat):zd:=σ.set j (kobj c)
theorem kst_get{σ:zd}{j:Nat}(h:j<σ.length)(c:Nat):(kst σ j c)[j]? =some (.arr 1 [.int .i64 ((c:Int)-1)]):=by
 unfold kst;rw[ym (by simpa using h)];rfl
theorem kst_set(σ:zd)(j c d:Nat):(kst σ j c).set j (kobj d)=kst σ j d:=by
 unfold kst;rw[yWa]
theorem zBa(σ:zd)(j c:Nat):(kst σ j c).length=σ.length:=by unfold kst;simp
theorem kst_append{σ:zd}{j:Nat}(h:j<σ.length)(c:Nat)(τ:zd):kst (σ++τ) j c=kst σ j c++τ:=by
 unfold kst;rw[List.set_append_left _ _ h]
theorem kst_other{σ:zd}{j r:Nat}(h:r≠j)(c d:Nat):(kst σ j c)[r]? =(kst σ j d)[r]? :=by
 unfold kst;rw[yl (Ne.symm h),yl (Ne.symm h)]
theorem sameBig_kst(σ τ:zd)(j c d:Nat):sameBig (kst σ j c++τ) (kst σ j d++τ)=true:=by
 rw[sameBig_iff];intro l;unfold bigAt;by_cases hl:l<σ.length
 ·rw[yh (by rw[zBa];exact hl),yh (by rw[zBa];exact hl)];by_cases e:l=j
  ·subst e;rw[kst_get hl,kst_get hl];rfl
  ·rw[kst_other e c d]
 ·rw[yg (by rw[zBa];omega),yg (by rw[zBa];omega),zBa,zBa]
@[simp] theorem rebuild_intN(k:IntKind)(n:Int)(v:PV):zGa (.int k n) [v]=v:=yd rfl rfl
theorem fresh_spec{σ:zd}{j:Nat}(h:j<σ.length)(c:Nat)(hc:c<=9000000000000):zj E 115 [.ptr j 0 0] (kst σ j c)=some (.ret (.str (newN c)),kst σ j (c+1)):=by
 refine zc rfl rfl rfl (by simp) ?_;have g:=kst_get h c;have g1:=kst_get h (c+1);have s1:=kst_set σ j c (c+1);have hw:zA .i64 (c:Int)=(c:Int):=by rw[zi]<;>omega
 have hd:=itoa_spec c (by omega);have hl:=zZd 20 c;have hl1:1+(zR c).length<=9223372036854775807:=by unfold zR;omega
 have e1:(((c+1:Nat):Int))-1=(c:Int):=by omega
 unfold kobj at s1;rw[e1]at g1 s1;generalize kst σ j (c+1)=σ1 at*;generalize kst σ j c=σ0 at*;clear hl h e1;simp[*,F115,newN]
def strKN(es:List (PV×PV)):Prop:=∀q∈es,∃s,q.1= .str s
theorem mapSet_findN(nm:List UInt8)(u:PV):∀(es:List (PV×PV)),strKN es->∃es',zCb true (.str nm) u es=some es'/\strKN es'/\(∀n,zAc n es=true->zz n u=true->zAc n es'=true)/\∀x,zW true (.str x) es'=if nm=x then some (some u)else zW true (.str x) es
 | [],_=>⟨_,rfl,fun q h=>by simp at h;exact⟨nm,by rw[h]⟩,fun n _ h=>by simp[zAc,h],fun x=>by by_cases h:nm=x<;>simp[zW,zlc,h,eq_comm]⟩
 |(k,u0)::r,hk=>by
  obtain⟨s,hs⟩:=hk (k,u0) (by simp);simp only at hs;subst hs;by_cases hs:nm=s
  ·subst hs;refine⟨(.str nm,u)::r,by simp[zCb,zlc],?_,?_,fun x=>?_⟩
   ·intro q hq;rcases yB.1 hq with rfl|hq
    ·exact⟨nm,rfl⟩
    ·exact hk q (by simp[hq])
   ·intro n h1 h2;simp[zAc]at h1 ⊢;exact⟨h2,h1.2⟩
   ·by_cases hx:nm=x
    ·subst hx;simp[zW,zlc]
    ·have hx':¬x=nm:=fun e=>hx e.symm
     rw[if_neg hx];simp[zW,zlc,hx']
  ·obtain⟨es',e1,e2,e3,e4⟩:=mapSet_findN nm u r (fun q hq=>hk q (by simp[hq]));refine⟨(.str s,u0)::es',by simp[zCb,zlc,hs,e1],?_,?_,fun x=>?_⟩
   ·intro q hq;rcases yB.1 hq with rfl|hq
    ·exact⟨s,rfl⟩
    ·exact e2 q hq
   ·intro n h1 h2;simp[zAc]at h1 ⊢;exact⟨h1.1,e3 n h1.2 h2⟩
   ·by_cases hx:x=s
    ·subst hx;rw[if_neg hs];simp[zW,zlc]
    ·simp[zW,zlc,hx,e4]
structure MapN(es:List (PV×PV))(N:Nm):Prop where
 keys:strKN es
 flat:∀n,zAc n es=true
 find:∀x,zW true (.str x) es=some (if x∈N.map (·.1)then some (.str (zLa x N))else none)
theorem MapN.nil:MapN [] []:=⟨fun q h=>by simp at h,fun n=>rfl,fun x=>rfl⟩
theorem MapN.get{es:List (PV×PV)}{N:Nm}(h:MapN es N){x:List UInt8}(hx:x∈N.map (·.1)):zW true (.str x) es=some (some (.str (zLa x N))):=by
 rw[h.find,if_pos hx]
theorem MapN.set{es:List (PV×PV)}{N:Nm}(h:MapN es N)(nm v:List UInt8):∃es',zCb true (.str nm) (.str v) es=some es'/\MapN es' ((nm,v)::N):=by
 obtain⟨es',e1,e2,e3,e4⟩:=mapSet_findN nm (.str v) es h.keys;refine⟨es',e1,e2,fun n=>e3 n (h.flat n) rfl,fun x=>?_⟩;rw[e4];by_cases hx:nm=x
 ·subst hx;simp[zLa]
 ·rw[if_neg hx,h.find];have hx':¬x=nm:=fun e=>hx e.symm
  have hf:zLa x ((nm,v)::N)=zLa x N:=by simp[zLa,hx]
  rw[hf];simp only[yv,yB,hx',false_or]
def WfS(σ:zd):Prop:=∀n,σ.length<=n->zd.wf n σ=true
theorem WfS.add{σ:zd}(h:WfS σ){τ:zd}(hτ:∀n,zd.wf n τ=true):WfS (σ++τ):=by
 intro n hn;have:=h n (by simp at hn;omega);have h2:=hτ n;unfold zd.wf at*;rw[yX,this,h2];rfl
theorem WfS.count{σ:zd}(h:WfS σ)(j c:Nat):WfS (kst σ j c):=by
 intro n hn;have:=h n (by rw[zBa]at hn;exact hn);unfold zd.wf at*;rw[yu]at this ⊢;intro o ho;unfold kst at ho;rcases List.mem_or_eq_of_mem_set ho with ho|rfl
 ·exact this o ho
 ·rfl
theorem WfS.at{σ:zd}(h:WfS σ):zd.wf σ.length σ=true:=h _ (ye _)
theorem wf_mp{es:List (PV×PV)}(h:∀n,zAc n es=true)(n:Nat):zd.wf n [.mp es]=true:=by simp[zd.wf,Obj.below,h n]
theorem wf_arr{sz:Nat}{l:List PV}(h:∀n,zO n l=true)(n:Nat):zd.wf n [.arr sz l]=true:=by simp[zd.wf,Obj.below,h n]
theorem strip_exprF:stripA ∘ zo=zo:=funext fun e=>by show stripA (zo e)=_;rw[za];simp
theorem strip_stmtF:stripA ∘ zu=zu:=funext fun e=>by show stripA (zu e)=_;rw[zb];simp
theorem mid_get{α:Type}(A R:List α)(e:α):(A++e::R)[A.length]? =some e:=by simp
theorem mid_set{α:Type}(A R:List α)(e e':α):(A++e::R).set A.length e'=A++e'::R:=by simp
mutual
def scE(A:List (List UInt8)):Expr->Prop
 |⟨k,_,_,nm,ar⟩=>(k=3->nm∈A)/\scEs A ar
def scEs(A:List (List UInt8)):List Expr->Prop
 | []=>True
 |x::r=>scE A x/\scEs A r
end
theorem scEs_mem{A:List (List UInt8)}:∀{l:List Expr},scEs A l->∀x∈l,scE A x
 | [],_,x,hx=>by simp at hx
 |y::r,h,x,hx=>by
  simp only[scEs]at h;rcases yB.1 hx with rfl|hx
  ·exact h.1
  ·exact scEs_mem h.2 x hx
theorem scE_iff{A:List (List UInt8)}(e:Expr):scE A e<->(e.kind=3->e.name∈A)/\scEs A e.args:=by
 obtain⟨k,op,n,nm,ar⟩:=e;simp[scE]
mutual
def scS:List (List UInt8)->Stmt->Prop
 |A,⟨k,_,nm,ar,th,el⟩=>scEs A ar/\(k=2->nm∈A)/\scSs (if k=1 then nm::A else A) th/\scSs (if k=1 then nm::A else A) el
def scSs:List (List UInt8)->List Stmt->Prop
 |_,[]=>True
 |A,x::r=>scS A x/\scSs (if x.kind=1 then x.name::A else A) r
end
set_option maxHeartbeats 4000000 in
theorem pexprs_spec:∀(w:Nat) (l:List Expr) (N:Nm) (es:List (PV×PV)) (σ:zd) (r:Nat),wtEs l<=w->w<1099511000000->MapN es N->scEs (N.map (·.1)) l->σ[r]? =some (.mp es)->WfS σ→
  zj E 117 [.mp r,zf l] σ=some (.ret (zf (zua N l)),σ):=by
 intro w
 induction w using yia with
 |_ w IH=>
 intro l N es σ r h hw hM hsc hr hwf;refine zc rfl rfl rfl (by simp[zf]) ?_;have hlen:=zxb l;by_cases hl:l=[]
 ·subst hl;have hc:=eclone_nil σ;have hwa:=hwf.at;clear IH hM hsc h hw hlen hwf;simp[*,F117,zf];refine zU K117_0 B117_0 (fun _:Unit=>0) (fun _=>[(10,.int .i64 0)]) (fun _=>[]) (fun _=>σ) (fun _=>True) () ⟨by simp,by simp,by simp,trivial⟩ ?_
  rintro⟨⟩ s1-q1 q2 q3 q4 q5
  simp at q1 q3 q5;simp[*,zua,fin]
 ·have hne:l.map zo≠ []:=by simpa using hl
  have hroom:(l.map zo).length*64<=zn:=by simp only[zn,yr];omega
  have hc:=eclone σ hne hroom;have hrl:r<σ.length:=(ya.1 hr).1;simp only[yr]at hc;have hwa:=hwf.at;simp[*,F117,zf];refine zD l K117_0 B117_0 (fun d=>[(10,.int .i64 d.length)]) (fun d=>σ++[.arr 5 ((zua N d).map zo++(l.drop d.length).map zo)]) (fun d=>True) (by omega) (by simp[zua]) ?_ ?_
  ·intros d q rr s1 hl' hlt hget hget' hw1 hp h1 h2 h3 h4;simp at h1 h2 h3;have hwx:=zzb hl'.mem;have hwe:=zed q;have hsq:=scEs_mem hsc q hl'.mem;rw[scE_iff]at hsq;have hap:zua N (d++[q])=zua N d++[renE N q]:=by rw[renEs_append];simp[zua]
   have hd1:l.drop d.length=q::rr:=by rw[hl'.eq];simp
   have hd2:l.drop (d.length+1)=rr:=by rw[<-List.drop_drop,hd1];rfl
   have hdec:decide (d.length<l.length)=true:=decide_eq_true hlt;have ih:∀e:Expr,zj E 117 [.mp r,zf q.args] (σ++[.arr 5 ((zua N d).map zo++zo e::rr.map zo)])=some (.ret (zf (zua N q.args)),σ++[.arr 5 ((zua N d).map zo++zo e::rr.map zo)]):=by
    intro e;refine IH (wtEs q.args) (by omega) q.args N es _ r (ye _) (by omega) hM hsq.2 (by rw[yh hrl];exact hr) (hwf.add (wf_arr fun n=>?_));have:(zua N d).map zo++zo e::rr.map zo=(zua N d++e::rr).map zo:=by simp
    rw[this];exact pl_expr n _
   have hr1:∀x,(σ++[x])[r]? =some (.mp es):=fun x=>by rw[yh hrl];exact hr
   have hA:((zua N d).map zo).length=d.length:=by rw[yr,renEs_len]
   have h4':s1.st=σ++[.arr 5 ((zua N d).map zo++zo q::rr.map zo)]:=by rw[h4];simp only[hd1,yv]
   clear h4;rw[hap,yca];simp only[yi,yH,hd2,yv,yxa,yO,List.singleton_append];generalize(zua N d).map zo=A at*;generalize rr.map zo=R at*;have hg:∀e,(A++e::R)[d.length]? =some e:=fun e=>by rw[<-hA];exact mid_get A R e
   have hs:∀e e',(A++e::R).set d.length e'=A++e'::R:=fun e e'=>by rw[<-hA];exact mid_set A R e e'
   obtain⟨k,op,n,nm,ar⟩:=q;simp only at ih hsq;by_cases hk:k=3
   ·subst hk;have hfi:=hM.get (hsq.1 rfl);have ih1:=ih ⟨3,op,n,zLa nm N,ar⟩;clear IH hl' hwx hwe h2 hM hsc hsq hp ih hd1 hd2 hap hwf hget hget' h hw;simp[za,zf]at ih1;simp[*,za,renE,zf]
   ·have ih1:=ih ⟨k,op,n,nm,ar⟩;replace hk:=eqn hk;clear IH hl' hwx hwe h2 hM hsc hsq hp ih hd1 hd2 hap hwf hget hget' h hw;simp[za,zf]at ih1;simp[*,za,renE,zf]
  ·intros s1 hp h1 h2 h3 h4;simp at h1 h2 h3;clear IH hM hsc h hwf;have htk:((zua N l).map zo).take l.length=(zua N l).map zo:=yy (by rw[yr,renEs_len];omega);simp[*,zf,fin,frA_mslice,fr1_mslice,renEs_len,strip_exprF]
def bst(σ:zd)(j c:Nat)(es:List (PV×PV))(row:List PV):zd:=kst σ j c++[.mp es,.arr 6 row]
section
variable (σ:zd) (j c c':Nat) (es es':List (PV×PV)) (row row':List PV)
@[simp] theorem bst_len:(bst σ j c es row).length=σ.length+2:=by simp[bst,zBa]
@[simp high] theorem bst_mp:(bst σ j c es row)[σ.length]? =some (.mp es):=by
 unfold bst;rw[yg (by rw[zBa];exact ye _),zBa];simp
@[simp high] theorem bst_row:(bst σ j c es row)[σ.length+1]? =some (.arr 6 row):=by
 unfold bst;rw[yg (by rw[zBa];omega),zBa];simp
@[simp high] theorem bst_big:bigAt (bst σ j c es row) (σ.length+1)=some row:=by
 unfold bigAt;rw[bst_row];rfl
@[simp high] theorem bst_setmp:(bst σ j c es row).set σ.length (.mp es')=bst σ j c es' row:=by
 unfold bst;rw[yda _ _ (by rw[zBa];exact ye _),zBa];simp
@[simp high] theorem bst_setrow:(bst σ j c es row).set (σ.length+1) (.arr 6 row')=bst σ j c es row':=by
 unfold bst;rw[yda _ _ (by rw[zBa];omega),zBa];simp
@[simp] theorem bst_same:sameBig (bst σ j c es row) (bst σ j c' es row)=true:=sameBig_kst σ _ j c c'
theorem bst_take:(bst σ j c es row).take σ.length=kst σ j c:=by
 unfold bst;rw[List.take_append_of_le_length (by rw[zBa];exact ye _)];exact yy (by rw[zBa];exact ye _)
theorem bst_eq(h:j<σ.length):bst σ j c es row=kst (σ++[.mp es,.arr 6 row]) j c:=(kst_append h c _).symm
end
theorem bst_wf{σ:zd}(h:WfS σ){es:List (PV×PV)}{N:Nm}(hM:MapN es N)(l:List Stmt):WfS (σ++[.mp es,.arr 6 (l.map zu)]):=by
 refine h.add fun n=>?_
 have h1:=wf_mp hM.flat n;have h2:=wf_arr (sz:=6) (l:=l.map zu) (fun n=>pl_stmt n l) n;unfold zd.wf at*;simp only[yta,List.all_nil,Bool.and_true,yb]at*;exact⟨h1,h2⟩
set_option maxHeartbeats 8000000 in
theorem pblock_spec:∀(w:Nat) (l:List Stmt) (N:Nm) (c:Nat) (es:List (PV×PV)) (σ:zd) (r j:Nat),wtSs l<=w->w<=1099510000000->N.length+wtSs l<=4000000000000->c+wtSs l<=4000000000000→
  MapN es N->scSs (N.map (·.1)) l->j<σ.length->r≠j->σ[r]? =some (.mp es)->WfS σ→
  zj E 89 [.mp r,zg l,.fn 115 [] [.ptr j 0 0]] (kst σ j c)=some (.ret (zg (renB l N c).1),kst σ j (renB l N c).2.2):=by
 intro w
 induction w using yia with
 |_ w IH=>
 intro l N c es σ r j hw hw0 hN hc hM hsc hj hrj hr hwf;refine zc rfl rfl rfl (by simp[zg]) ?_;rw[zBa];have hlen:=zia l;have hrk:∀c,(kst σ j c)[r]? =some (.mp es):=fun c=>by
  unfold kst;rw[yl (Ne.symm hrj)];exact hr
 have hmc:=mclone_spec (hrk c);have hwk:∀c,zd.wf σ.length (kst σ j c)=true:=fun c=>(hwf.count j c) _ (by rw[zBa];exact ye _)
 have htk:∀c,(kst σ j c).take σ.length=kst σ j c:=fun c=>yy (by rw[zBa];exact ye _)
 rw[zBa]at hmc;by_cases hl:l=[]
 ·subst hl;have htc:=tclone_nil (kst σ j c++[.mp es]);have hwa:=hwk c;have hta:=htk c;have hkl:=zBa σ j c;clear IH hM hsc hw hlen hwf hw0 hN hc hwk htk hr;simp[*,F89,zg];refine zU K89_0 B89_0 (fun _:Unit=>0) (fun _=>[(15,.int .i64 0)]) (fun _=>[]) (fun _=>kst σ j c++[.mp es]) (fun _=>True) () ⟨by simp,by simp,by simp,trivial⟩ ?_
  rintro⟨⟩ s1-q1 q2 q3 q4 q5
  simp at q1 q3 q5;simp[*,renB,fin]
 ·have hne:l.map zu≠ []:=by simpa using hl
  have hroom:(l.map zu).length*104<=zn:=by simp only[zn,yr];omega
  have htc:=tclone (kst σ j c++[.mp es]) hne hroom;simp only[yr,yi,zBa,yH,yO,List.singleton_append]at htc;simp[*,F89,zg];refine zU K89_0 B89_0 (fun q:List Stmt×List (PV×PV)=>l.length-q.1.length) (fun q=>[(15,.int .i64 q.1.length)]) (fun _=>[])
   (fun q=>bst σ j (renB q.1 N c).2.2 q.2 ((renB q.1 N c).1.map zu++(l.drop q.1.length).map zu))
   (fun q=>q.1.length<=l.length/\q.1=l.take q.1.length/\MapN q.2 (renB q.1 N c).2.1/\scSs ((renB q.1 N c).2.1.map (·.1)) (l.drop q.1.length)) ([],es) ⟨by simp,by simp,by simp[renB,bst],by simp,by simp,by simpa[renB]using hM,by simpa[renB]using hsc⟩ ?_
  rintro⟨d,es0⟩ s1 ⟨hdl,hdt,hM0,hs0⟩ h1 h2 h3 h2b h4
  simp only at hdl hdt hM0 hs0;simp at h1 h3;clear hmc htc hrk h2 h2b;by_cases hend:d.length=l.length
  ·have hdd:d=l:=by rw[hdt,hend,List.take_length]
   subst hdd;have hdec:decide (d.length<d.length)=false:=by simp
   clear IH hw hw0 hN hc hM hsc hdt hs0;simp only[List.drop_length,yxa,List.append_nil]at h4;have hol:=renB_len d N c;have htk2:((renB d N c).1.map zu).take d.length=(renB d N c).1.map zu:=yy (by rw[yr,hol];exact ye _);have hwa:=hwk (renB d N c).2.2;have hbt:=bst_take σ j (renB d N c).2.2 es0 ((renB d N c).1.map zu);simp[*,zg,fin,frA_mslice,fr1_mslice,strip_stmtF,zBa]
  ·obtain⟨x,rr,hd1⟩:∃x rr,l.drop d.length=x::rr:=by
    cases hq:l.drop d.length with
    |nil=>have:=congrArg List.length hq;simp at this;omega
    |cons x rr=>exact⟨x,rr,rfl⟩
   have hlt:d.length<l.length:=by omega
   have hdec:decide (d.length<l.length)=true:=decide_eq_true hlt;have hd2:l.drop (d.length+1)=rr:=by rw[<-List.drop_drop,hd1];rfl
   have heq:l=d++x::rr:=by
    have:=List.take_append_drop d.length l;rw[hd1,<-hdt]at this;exact this.symm
   have hdt2:d++[x]=l.take (d++[x]).length:=by
    have hg0:l[d.length]? =some x:=by rw[heq];simp
    rw[yi,yH,yPa,<-hdt,hg0];rfl
   have hmem:x∈l:=by rw[heq];simp
   have hwx:=zmc hmem;have hwe:=zCa x;have hbd:=zib d N c;have hsum:wtSs l=wtSs d+(1+wtS x)+wtSs rr:=by rw[heq,zCc];simp[wtSs];omega
   have hdl2:=zia d;have hw1:zA .i64 ((d.length:Int)+1)=(d.length:Int)+1:=by rw[zi]<;>omega
   have hap:=renB_append d [x] N c;have hol:=renB_len d N c;rw[hd1]at hs0;simp only[hd1,yv]at h4;have hbd1:=fun N0 c0=>renS_bd x N0 c0
   generalize hq:renB d N c=q at*;obtain⟨out,N0,c0⟩:=q;simp only at hbd hap hol hM0 hs0 h4;have hA:(out.map zu).length=d.length:=by rw[yr];exact hol
   have hwfr:=fun(e:List (PV×PV)) (N:Nm) (h:MapN e N) (s:Stmt)=>bst_wf hwf h (out++s::rr)
   simp only[yca,yv]at hwfr;have hjl:∀τ:zd,j<(σ++τ).length:=fun τ=>by rw[yi];omega
   rw[scSs]at hs0;obtain⟨hsx,hsr⟩:=hs0;generalize hAe:out.map zu=A at*;generalize hR:rr.map zu=R at*;have hg:∀e,(A++e::R)[d.length]? =some e:=fun e=>by rw[<-hA];exact mid_get A R e
   have hs:∀e e',(A++e::R).set d.length e'=A++e'::R:=fun e e'=>by rw[<-hA];exact mid_set A R e e'
   obtain⟨k,ty,nm,ar,th,el⟩:=x;rw[scS]at hsx;obtain⟨sx1,sx2,sx3,sx4⟩:=hsx;simp only at hwe hsr;have hex:∀s:Stmt,zj E 117 [.mp σ.length,zf ar] (bst σ j c0 es0 (A++zu s::R))=some (.ret (zf (zua N0 ar)),bst σ j c0 es0 (A++zu s::R)):=by
    intro s;refine pexprs_spec (wtEs ar) ar N0 es0 _ σ.length (ye _) (by omega) hM0 sx1 (bst_mp ..) ?_;rw[bst_eq σ j c0 es0 _ hj];exact(hwfr es0 N0 hM0 s).count j c0
   have hnx:∀e row,zj E 115 [.ptr j 0 0] (bst σ j c0 e row)=some (.ret (.str (newN c0)),bst σ j (c0+1) e row):=by
    intro e row;rw[bst_eq σ j c0 e row hj,bst_eq σ j (c0+1) e row hj];exact fresh_spec (hjl _) c0 (by omega)
   have hbl:∀(y:List Stmt) (e1:List (PV×PV)) (N1:Nm) (c1:Nat) (s:Stmt),wtSs y<wtSs l->N1.length+wtSs y<=4000000000000->c1+wtSs y<=4000000000000->MapN e1 N1->scSs (N1.map (·.1)) y→
     zj E 89 [.mp σ.length,zg y,.fn 115 [] [.ptr j 0 0]] (bst σ j c1 e1 (A++zu s::R))=some (.ret (zg (renB y N1 c1).1),bst σ j (renB y N1 c1).2.2 e1 (A++zu s::R)):=by
    intro y e1 N1 c1 s k1 k2 k3 k4 k5;rw[bst_eq σ j c1 e1 _ hj,bst_eq σ j _ e1 _ hj];exact IH (wtSs y) (by omega) y N1 c1 e1 _ σ.length j (ye _) (by omega) k2 k3 k4 k5 (hjl _) (by omega) (by rw[yg (ye _)];simp) (hwfr e1 N1 k4 s)
   clear IH hwfr hjl hA hwk htk hrj hr hwf heq hmem hdt;by_cases hk:k=1
   ·subst hk;obtain⟨es1,hms,hM1⟩:=hM0.set nm (newN c0);have hfi:zW true (.str nm) es1=some (some (.str (newN c0))):=by
     have:=hM1.get (x:=nm) (by simp);rw[this];simp[zLa]
    have hfn:zLa nm ((nm,newN c0)::N0)=newN c0:=by simp[zLa]
    have hb1:=zib th ((nm,newN c0)::N0) (c0+1);have e0:=hex ⟨1,ty,nm,ar,th,el⟩;have e1:=hbl th es1 ((nm,newN c0)::N0) (c0+1) ⟨1,ty,newN c0,zua N0 ar,th,el⟩ (by omega) (by simp;omega) (by omega) hM1 (by simpa using sx3);have e2:=hbl el es1 ((nm,newN c0)::N0) (renB th ((nm,newN c0)::N0) (c0+1)).2.2 ⟨1,ty,newN c0,zua N0 ar,th,el⟩ (by omega) (by simp;omega) (by omega) hM1 (by simpa using sx4);have hren:renB [⟨1,ty,nm,ar,th,el⟩] N0 c0=([⟨1,ty,newN c0,zua N0 ar,(renB th ((nm,newN c0)::N0) (c0+1)).1,(renB el ((nm,newN c0)::N0) (renB th ((nm,newN c0)::N0) (c0+1)).2.2).1⟩],(nm,newN c0)::N0,(renB el ((nm,newN c0)::N0) (renB th ((nm,newN c0)::N0) (c0+1)).2.2).2.2):=by
     simp[renB,renS,zLa]
    rw[hren]at hap;clear hex hbl hbd1 hfn hbd hb1 hren hw hw0 hc hN hwe hsum hdl2 hwx sx1 sx2 sx3 sx4 hM0;generalize renB th ((nm,newN c0)::N0) (c0+1)=q1 at*;obtain⟨o1,N1,c1⟩:=q1;simp only at e1 e2 hap;generalize renB el ((nm,newN c0)::N0) c1=q2 at*;obtain⟨o2,N2,c2⟩:=q2;simp only at e2 hap;simp[zb,zf,zg]at e0 e1 e2 h4;generalize newN c0=nw at*;replace hq:Nonempty (PLift (renB d N c=(out,N0,c0))):=⟨⟨hq⟩⟩
    replace hap:=PLift.up hap;replace hap:=Nonempty.intro hap;replace hdt2:=Nonempty.intro (PLift.up hdt2);replace hsr:=Nonempty.intro (PLift.up hsr);replace hAe:=Nonempty.intro (PLift.up hAe);replace hR:=Nonempty.intro (PLift.up hR);simp[*];obtain⟨⟨hap⟩⟩:=hap;obtain⟨⟨hdt2⟩⟩:=hdt2;obtain⟨⟨hsr⟩⟩:=hsr;obtain⟨⟨hAe⟩⟩:=hAe;obtain⟨⟨hR⟩⟩:=hR;refine⟨d++[⟨1,ty,nm,ar,th,el⟩],by simp;omega,by simp,es1,?_,by simp;omega,hdt2,by rw[hap];exact hM1,?_⟩
    ·rw[hap];simp[<-List.map_drop,hd2,hAe,hR,zb,zf,zg]
    ·rw[hap,yi,yH,hd2];simpa using hsr
   ·have hb1:=zib th N0 c0;have e0:=hex ⟨k,ty,nm,ar,th,el⟩;simp only[hk,if_false]at sx3 sx4 hsr;have e1:=hbl th es0 N0 c0 ⟨k,ty,if k=2 then zLa nm N0 else nm,zua N0 ar,th,el⟩ (by omega) (by omega) (by omega) hM0 sx3;have e2:=hbl el es0 N0 (renB th N0 c0).2.2 ⟨k,ty,if k=2 then zLa nm N0 else nm,zua N0 ar,th,el⟩ (by omega) (by omega) (by omega) hM0 sx4;have hren:renB [⟨k,ty,nm,ar,th,el⟩] N0 c0=([⟨k,ty,if k=2 then zLa nm N0 else nm,zua N0 ar,(renB th N0 c0).1,(renB el N0 (renB th N0 c0).2.2).1⟩],N0,(renB el N0 (renB th N0 c0).2.2).2.2):=by
     simp[renB,renS,hk]
    rw[hren]at hap;have hk0:=hk;by_cases hk2:k=2
    ·subst hk2;have hfi:=hM0.get (sx2 rfl);simp only[if_true]at e1 e2 hap;clear hex hbl hbd1 hbd hb1 hren hw hw0 hc hN hwe hsum hdl2 hwx sx1 sx2 sx3 sx4 hk;generalize renB th N0 c0=q1 at*;obtain⟨o1,N1,c1⟩:=q1;simp only at e1 e2 hap;generalize renB el N0 c1=q2 at*;obtain⟨o2,N2,c2⟩:=q2;simp only at e2 hap;simp[zb,zf,zg]at e0 e1 e2 h4;generalize zLa nm N0=nw at*;replace hM0:=Nonempty.intro (PLift.up hM0);replace hq:Nonempty (PLift (renB d N c=(out,N0,c0))):=⟨⟨hq⟩⟩
     replace hap:=PLift.up hap;replace hap:=Nonempty.intro hap;replace hdt2:=Nonempty.intro (PLift.up hdt2);replace hsr:=Nonempty.intro (PLift.up hsr);replace hAe:=Nonempty.intro (PLift.up hAe);replace hR:=Nonempty.intro (PLift.up hR);simp[*];obtain⟨⟨hM0⟩⟩:=hM0;obtain⟨⟨hap⟩⟩:=hap;obtain⟨⟨hdt2⟩⟩:=hdt2;obtain⟨⟨hsr⟩⟩:=hsr;obtain⟨⟨hAe⟩⟩:=hAe;obtain⟨⟨hR⟩⟩:=hR;refine⟨d++[⟨2,ty,nm,ar,th,el⟩],by simp;omega,by simp,es0,?_,by simp;omega,hdt2,by rw[hap];exact hM0,?_⟩
     ·rw[hap];simp[<-List.map_drop,hd2,hAe,hR,zb,zf,zg]
     ·rw[hap,yi,yH,hd2];simpa using hsr
    ·simp only[hk2,if_false]at e1 e2 hap;replace hk:=eqn hk;replace hk2:=eqn hk2;clear hex hbl hbd1 hbd hb1 hren hw hw0 hc hN hwe hsum hdl2 hwx sx1 sx2 sx3 sx4 hnx hk0;generalize renB th N0 c0=q1 at*;obtain⟨o1,N1,c1⟩:=q1;simp only at e1 e2 hap;generalize renB el N0 c1=q2 at*;obtain⟨o2,N2,c2⟩:=q2;simp only at e2 hap;simp[zb,zf,zg]at e0 e1 e2 h4;replace hM0:=Nonempty.intro (PLift.up hM0);replace hq:Nonempty (PLift (renB d N c=(out,N0,c0))):=⟨⟨hq⟩⟩
     replace hap:=PLift.up hap;replace hap:=Nonempty.intro hap;replace hdt2:=Nonempty.intro (PLift.up hdt2);replace hsr:=Nonempty.intro (PLift.up hsr);replace hAe:=Nonempty.intro (PLift.up hAe);replace hR:=Nonempty.intro (PLift.up hR);simp[*];obtain⟨⟨hM0⟩⟩:=hM0;obtain⟨⟨hap⟩⟩:=hap;obtain⟨⟨hdt2⟩⟩:=hdt2;obtain⟨⟨hsr⟩⟩:=hsr;obtain⟨⟨hAe⟩⟩:=hAe;obtain⟨⟨hR⟩⟩:=hR;refine⟨d++[⟨k,ty,nm,ar,th,el⟩],by simp;omega,by simp,es0,?_,by simp;omega,hdt2,by rw[hap];exact hM0,?_⟩
     ·rw[hap];simp[<-List.map_drop,hd2,hAe,hR,zb,zf,zg]
     ·rw[hap,yi,yH,hd2];simpa using hsr
def idx{α:Type}(p:α->Bool)(l:List α):Int:=match l.findIdx? p with
 |some i=>(i:Int)
 |none=> -1
theorem idx_hit{α:Type}{p:α->Bool}{l d:List α}{x:α}{r:List α}(h:Split l d x r)(hd:∀y∈d,p y=false)(hx:p x=true):idx p l=d.length:=by
 have:l.findIdx? p=some d.length:=by
  rw[h.eq,List.findIdx?_append];have:d.findIdx? p=none:=by rw[ybb];exact hd
  rw[this];simp[List.findIdx?_cons,hx]
 simp[idx,this]
theorem zWd{α:Type}{p:α->Bool}{l:List α}(hd:∀y∈l,p y=false):idx p l= -1:=by
 have:l.findIdx? p=none:=by rw[ybb];exact hd
 simp[idx,this]
theorem idx_ge{α:Type}(p:α->Bool)(l:List α):decide (0<=idx p l)=l.any p:=by
 unfold idx;cases h:l.findIdx? p with
 |none=>
  rw[ybb]at h;simp;exact h
 |some i=>
  have:(l.findIdx? p).isSome=true:=by rw[h];rfl
  rw[List.findIdx?_isSome]at this;simp[this]
theorem indexFuncFunc(l:List (Func))(p:Func->Bool)(k:Nat)(first caps:List PV)(σ:zd)(hl:l.length<1099511627776)(hf:∀x∈l,zj E k (first++[zl x]++caps) σ=some (.ret (.bool (p x)),σ)):
  zj E 134 [.slice .plain 4 (l.map (zl)),.fn k first caps] σ=some (.ret (.int .i64 (idx p l)),σ):=by
 refine zc rfl rfl rfl (by simp) ?_;simp[F134];refine zD l K134_0 B134_0 (fun d=>[(8,.int .i64 d.length)]) (fun _=>σ) (fun d=>∀y∈d,p y=false) (by omega) (by simp) ?_ ?_
 ·intros d x r s hl' hlt hget hget' hw hp h1 h2 h3 h4;have hfx:=hf x hl'.mem;simp[zl]at h1 h3 hfx;clear h2 hf;cases hx:p x
  ·(simp[*,zl])<;>(repeat' ((first|refine sP _ ?_ ?_|refine gP _ ?_ ?_|refine sN _ ?_ ?_|refine gN _ ?_ ?_|refine sM _ ?_ ?_|refine gM _ ?_ ?_|refine sB _ ?_ ?_|refine gB _ ?_ ?_)<;>intro hc<;>simp[*,zl]))
   all_goals grind
  ·have:=idx_hit hl' hp hx
   (simp[*,zl])<;>(repeat' ((first|refine sP _ ?_ ?_|refine gP _ ?_ ?_|refine sN _ ?_ ?_|refine gN _ ?_ ?_|refine sM _ ?_ ?_|refine gM _ ?_ ?_|refine sB _ ?_ ?_|refine gB _ ?_ ?_)<;>intro hc<;>simp[*,zl]))
 ·intros s hp h1 h2 h3 h4;have:=zWd hp;simp at h1 h3
  (simp[*,zl])<;>(repeat' ((first|refine sP _ ?_ ?_|refine gP _ ?_ ?_|refine sN _ ?_ ?_|refine gN _ ?_ ?_|refine sM _ ?_ ?_|refine gM _ ?_ ?_|refine sB _ ?_ ?_|refine gB _ ?_ ?_)<;>intro hc<;>simp[*,zl]))
theorem containsFuncFunc(l:List (Func))(p:Func->Bool)(k:Nat)(first caps:List PV)(σ:zd)(hl:l.length<1099511627776)(hc:(first.map stripA)=first/\(caps.map stripA)=caps)(hf:∀x∈l,zj E k (first++[zl x]++caps) σ=some (.ret (.bool (p x)),σ)):
  zj E 106 [.slice .plain 4 (l.map (zl)),.fn k first caps] σ=some (.ret (.bool (l.any p)),σ):=by
 refine zc rfl rfl rfl (by simp) ?_;have h:=indexFuncFunc l p k first caps σ hl hf;have h2:=idx_ge p l;clear hf
 (simp[*,F106])<;>(repeat' ((first|refine sP _ ?_ ?_|refine gP _ ?_ ?_|refine sN _ ?_ ?_|refine gN _ ?_ ?_|refine sM _ ?_ ?_|refine gM _ ?_ ?_|refine sB _ ?_ ?_|refine gB _ ?_ ?_)<;>intro hc<;>simp[*,F106]))
theorem indexFuncPArr(l:List (PArr))(p:PArr->Bool)(k:Nat)(first caps:List PV)(σ:zd)(hl:l.length<1099511627776)(hf:∀x∈l,zj E k (first++[zH x]++caps) σ=some (.ret (.bool (p x)),σ)):
  zj E 133 [.slice .plain 2 (l.map (zH)),.fn k first caps] σ=some (.ret (.int .i64 (idx p l)),σ):=by
 refine zc rfl rfl rfl (by simp) ?_;simp[F133];refine zD l K133_0 B133_0 (fun d=>[(8,.int .i64 d.length)]) (fun _=>σ) (fun d=>∀y∈d,p y=false) (by omega) (by simp) ?_ ?_
 ·intros d x r s hl' hlt hget hget' hw hp h1 h2 h3 h4;have hfx:=hf x hl'.mem;simp[zH]at h1 h3 hfx;clear h2 hf;cases hx:p x
  ·(simp[*,zH])<;>(repeat' ((first|refine sP _ ?_ ?_|refine gP _ ?_ ?_|refine sN _ ?_ ?_|refine gN _ ?_ ?_|refine sM _ ?_ ?_|refine gM _ ?_ ?_|refine sB _ ?_ ?_|refine gB _ ?_ ?_)<;>intro hc<;>simp[*,zH]))
   all_goals grind
  ·have:=idx_hit hl' hp hx
   (simp[*,zH])<;>(repeat' ((first|refine sP _ ?_ ?_|refine gP _ ?_ ?_|refine sN _ ?_ ?_|refine gN _ ?_ ?_|refine sM _ ?_ ?_|refine gM _ ?_ ?_|refine sB _ ?_ ?_|refine gB _ ?_ ?_)<;>intro hc<;>simp[*,zH]))
 ·intros s hp h1 h2 h3 h4;have:=zWd hp;simp at h1 h3
  (simp[*,zH])<;>(repeat' ((first|refine sP _ ?_ ?_|refine gP _ ?_ ?_|refine sN _ ?_ ?_|refine gN _ ?_ ?_|refine sM _ ?_ ?_|refine gM _ ?_ ?_|refine sB _ ?_ ?_|refine gB _ ?_ ?_)<;>intro hc<;>simp[*,zH]))
theorem containsFuncPArr(l:List (PArr))(p:PArr->Bool)(k:Nat)(first caps:List PV)(σ:zd)(hl:l.length<1099511627776)(hc:(first.map stripA)=first/\(caps.map stripA)=caps)(hf:∀x∈l,zj E k (first++[zH x]++caps) σ=some (.ret (.bool (p x)),σ)):
  zj E 105 [.slice .plain 2 (l.map (zH)),.fn k first caps] σ=some (.ret (.bool (l.any p)),σ):=by
 refine zc rfl rfl rfl (by simp) ?_;have h:=indexFuncPArr l p k first caps σ hl hf;have h2:=idx_ge p l;clear hf
 (simp[*,F105])<;>(repeat' ((first|refine sP _ ?_ ?_|refine gP _ ?_ ?_|refine sN _ ?_ ?_|refine gN _ ?_ ?_|refine sM _ ?_ ?_|refine gM _ ?_ ?_|refine sB _ ?_ ?_|refine gB _ ?_ ?_)<;>intro hc<;>simp[*,F105]))
theorem indexFuncExpr(l:List (Expr))(p:Expr->Bool)(k:Nat)(first caps:List PV)(σ:zd)(hl:l.length<1099511627776)(hf:∀x∈l,zj E k (first++[zo x]++caps) σ=some (.ret (.bool (p x)),σ)):
  zj E 198 [.slice .plain 5 (l.map (zo)),.fn k first caps] σ=some (.ret (.int .i64 (idx p l)),σ):=by
 refine zc rfl rfl rfl (by simp) ?_;simp[F198];refine zD l K198_0 B198_0 (fun d=>[(8,.int .i64 d.length)]) (fun _=>σ) (fun d=>∀y∈d,p y=false) (by omega) (by simp) ?_ ?_
 ·intros d x r s hl' hlt hget hget' hw hp h1 h2 h3 h4;have hfx:=hf x hl'.mem;simp[za]at h1 h3 hfx;clear h2 hf;cases hx:p x
  ·(simp[*,za])<;>(repeat' ((first|refine sP _ ?_ ?_|refine gP _ ?_ ?_|refine sN _ ?_ ?_|refine gN _ ?_ ?_|refine sM _ ?_ ?_|refine gM _ ?_ ?_|refine sB _ ?_ ?_|refine gB _ ?_ ?_)<;>intro hc<;>simp[*,za]))
   all_goals grind
  ·have:=idx_hit hl' hp hx
   (simp[*,za])<;>(repeat' ((first|refine sP _ ?_ ?_|refine gP _ ?_ ?_|refine sN _ ?_ ?_|refine gN _ ?_ ?_|refine sM _ ?_ ?_|refine gM _ ?_ ?_|refine sB _ ?_ ?_|refine gB _ ?_ ?_)<;>intro hc<;>simp[*,za]))
 ·intros s hp h1 h2 h3 h4;have:=zWd hp;simp at h1 h3
  (simp[*,za])<;>(repeat' ((first|refine sP _ ?_ ?_|refine gP _ ?_ ?_|refine sN _ ?_ ?_|refine gN _ ?_ ?_|refine sM _ ?_ ?_|refine gM _ ?_ ?_|refine sB _ ?_ ?_|refine gB _ ?_ ?_)<;>intro hc<;>simp[*,za]))
theorem containsFuncExpr(l:List (Expr))(p:Expr->Bool)(k:Nat)(first caps:List PV)(σ:zd)(hl:l.length<1099511627776)(hc:(first.map stripA)=first/\(caps.map stripA)=caps)(hf:∀x∈l,zj E k (first++[zo x]++caps) σ=some (.ret (.bool (p x)),σ)):
  zj E 185 [.slice .plain 5 (l.map (zo)),.fn k first caps] σ=some (.ret (.bool (l.any p)),σ):=by
 refine zc rfl rfl rfl (by simp) ?_;have h:=indexFuncExpr l p k first caps σ hl hf;have h2:=idx_ge p l;clear hf
 (simp[*,F185])<;>(repeat' ((first|refine sP _ ?_ ?_|refine gP _ ?_ ?_|refine sN _ ?_ ?_|refine gN _ ?_ ?_|refine sM _ ?_ ?_|refine gM _ ?_ ?_|refine sB _ ?_ ?_|refine gB _ ?_ ?_)<;>intro hc<;>simp[*,F185]))
theorem indexFuncStmt(l:List (Stmt))(p:Stmt->Bool)(k:Nat)(first caps:List PV)(σ:zd)(hl:l.length<1099511627776)(hf:∀x∈l,zj E k (first++[zu x]++caps) σ=some (.ret (.bool (p x)),σ)):
  zj E 144 [.slice .plain 6 (l.map (zu)),.fn k first caps] σ=some (.ret (.int .i64 (idx p l)),σ):=by
 refine zc rfl rfl rfl (by simp) ?_;simp[F144];refine zD l K144_0 B144_0 (fun d=>[(8,.int .i64 d.length)]) (fun _=>σ) (fun d=>∀y∈d,p y=false) (by omega) (by simp) ?_ ?_
 ·intros d x r s hl' hlt hget hget' hw hp h1 h2 h3 h4;have hfx:=hf x hl'.mem;simp[zb]at h1 h3 hfx;clear h2 hf;cases hx:p x
  ·(simp[*,zb])<;>(repeat' ((first|refine sP _ ?_ ?_|refine gP _ ?_ ?_|refine sN _ ?_ ?_|refine gN _ ?_ ?_|refine sM _ ?_ ?_|refine gM _ ?_ ?_|refine sB _ ?_ ?_|refine gB _ ?_ ?_)<;>intro hc<;>simp[*,zb]))
   all_goals grind
  ·have:=idx_hit hl' hp hx
   (simp[*,zb])<;>(repeat' ((first|refine sP _ ?_ ?_|refine gP _ ?_ ?_|refine sN _ ?_ ?_|refine gN _ ?_ ?_|refine sM _ ?_ ?_|refine gM _ ?_ ?_|refine sB _ ?_ ?_|refine gB _ ?_ ?_)<;>intro hc<;>simp[*,zb]))
 ·intros s hp h1 h2 h3 h4;have:=zWd hp;simp at h1 h3
  (simp[*,zb])<;>(repeat' ((first|refine sP _ ?_ ?_|refine gP _ ?_ ?_|refine sN _ ?_ ?_|refine gN _ ?_ ?_|refine sM _ ?_ ?_|refine gM _ ?_ ?_|refine sB _ ?_ ?_|refine gB _ ?_ ?_)<;>intro hc<;>simp[*,zb]))
theorem zMa(l:List (Stmt))(p:Stmt->Bool)(k:Nat)(first caps:List PV)(σ:zd)(hl:l.length<1099511627776)(hc:(first.map stripA)=first/\(caps.map stripA)=caps)(hf:∀x∈l,zj E k (first++[zu x]++caps) σ=some (.ret (.bool (p x)),σ)):
  zj E 112 [.slice .plain 6 (l.map (zu)),.fn k first caps] σ=some (.ret (.bool (l.any p)),σ):=by
 refine zc rfl rfl rfl (by simp) ?_;have h:=indexFuncStmt l p k first caps σ hl hf;have h2:=idx_ge p l;clear hf
 (simp[*,F112])<;>(repeat' ((first|refine sP _ ?_ ?_|refine gP _ ?_ ?_|refine sN _ ?_ ?_|refine gN _ ?_ ?_|refine sM _ ?_ ?_|refine gM _ ?_ ?_|refine sB _ ?_ ?_|refine gB _ ?_ ?_)<;>intro hc<;>simp[*,F112]))
theorem indexFuncPar(l:List (Par))(p:Par->Bool)(k:Nat)(first caps:List PV)(σ:zd)(hl:l.length<1099511627776)(hf:∀x∈l,zj E k (first++[encPar x]++caps) σ=some (.ret (.bool (p x)),σ)):
  zj E 164 [.slice .plain 2 (l.map (encPar)),.fn k first caps] σ=some (.ret (.int .i64 (idx p l)),σ):=by
 refine zc rfl rfl rfl (by simp) ?_;simp[F164];refine zD l K164_0 B164_0 (fun d=>[(8,.int .i64 d.length)]) (fun _=>σ) (fun d=>∀y∈d,p y=false) (by omega) (by simp) ?_ ?_
 ·intros d x r s hl' hlt hget hget' hw hp h1 h2 h3 h4;have hfx:=hf x hl'.mem;simp[encPar]at h1 h3 hfx;clear h2 hf;cases hx:p x
  ·(simp[*,encPar])<;>(repeat' ((first|refine sP _ ?_ ?_|refine gP _ ?_ ?_|refine sN _ ?_ ?_|refine gN _ ?_ ?_|refine sM _ ?_ ?_|refine gM _ ?_ ?_|refine sB _ ?_ ?_|refine gB _ ?_ ?_)<;>intro hc<;>simp[*,encPar]))
   all_goals grind
  ·have:=idx_hit hl' hp hx
   (simp[*,encPar])<;>(repeat' ((first|refine sP _ ?_ ?_|refine gP _ ?_ ?_|refine sN _ ?_ ?_|refine gN _ ?_ ?_|refine sM _ ?_ ?_|refine gM _ ?_ ?_|refine sB _ ?_ ?_|refine gB _ ?_ ?_)<;>intro hc<;>simp[*,encPar]))
 ·intros s hp h1 h2 h3 h4;have:=zWd hp;simp at h1 h3
  (simp[*,encPar])<;>(repeat' ((first|refine sP _ ?_ ?_|refine gP _ ?_ ?_|refine sN _ ?_ ?_|refine gN _ ?_ ?_|refine sM _ ?_ ?_|refine gM _ ?_ ?_|refine sB _ ?_ ?_|refine gB _ ?_ ?_)<;>intro hc<;>simp[*,encPar]))
theorem containsFuncPar(l:List (Par))(p:Par->Bool)(k:Nat)(first caps:List PV)(σ:zd)(hl:l.length<1099511627776)(hc:(first.map stripA)=first/\(caps.map stripA)=caps)(hf:∀x∈l,zj E k (first++[encPar x]++caps) σ=some (.ret (.bool (p x)),σ)):
  zj E 137 [.slice .plain 2 (l.map (encPar)),.fn k first caps] σ=some (.ret (.bool (l.any p)),σ):=by
 refine zc rfl rfl rfl (by simp) ?_;have h:=indexFuncPar l p k first caps σ hl hf;have h2:=idx_ge p l;clear hf
 (simp[*,F137])<;>(repeat' ((first|refine sP _ ?_ ?_|refine gP _ ?_ ?_|refine sN _ ?_ ?_|refine gN _ ?_ ?_|refine sM _ ?_ ?_|refine gM _ ?_ ?_|refine sB _ ?_ ?_|refine gB _ ?_ ?_)<;>intro hc<;>simp[*,F137]))
def signList:List (List UInt8):=[[],[43],[45],[42],[47],[37],[38],[124],[94],[60,60],[62,62],[62,62,62],[60],[60,61],[62],[62,61],[61,61],[33,61],[38,38],[124,124],[45],[126],[33],[105,56],[105,49,54],[105,51,50],[117,56],[117,49,54],[117,51,50]]
def zyd:List Int:=[0,9,9,10,10,10,5,3,4,8,8,8,7,7,7,7,6,6,2,1,0,0,0,0,0,0,0,0,0]
def sgn(op:Int):List UInt8:=if op<0 then[]else(signList[op.toNat]?).getD []
def lvl(op:Int):Int:=if op<0 then 0 else(zyd[op.toNat]?).getD 0
theorem rowCells:∀n:Nat,n<29->List.take 2 (List.drop (n*2) [.str [],.int .i64 0,.str [43],.int .i64 9,.str [45],.int .i64 9,.str [42],.int .i64 10,.str [47],.int .i64 10,.str [37],.int .i64 10,.str [38],.int .i64 5,.str [124],.int .i64 3,.str [94],.int .i64 4,.str [60,60],.int .i64 8,.str [62,62],.int .i64 8,.str [62,62,62],.int .i64 8,.str [60],.int .i64 7,.str [60,61],.int .i64 7,.str [62],.int .i64 7,.str [62,61],.int .i64 7,.str [61,61],.int .i64 6,.str [33,61],.int .i64 6,.str [38,38],.int .i64 2,.str [124,124],.int .i64 1,.str [45],.int .i64 0,.str [126],.int .i64 0,.str [33],.int .i64 0,.str [105,56],.int .i64 0,.str [105,49,54],.int .i64 0,.str [105,51,50],.int .i64 0,.str [117,56],.int .i64 0,.str [117,49,54],.int .i64 0,.str [117,51,50],.int .i64 0])=[PV.str ((signList[n]?).getD []),PV.int .i64 ((zyd[n]?).getD 0)]
 |0,_=>rfl
 |1,_=>rfl
 |2,_=>rfl
 |3,_=>rfl
 |4,_=>rfl
 |5,_=>rfl
 |6,_=>rfl
 |7,_=>rfl
 |8,_=>rfl
 |9,_=>rfl
 |10,_=>rfl
 |11,_=>rfl
 |12,_=>rfl
 |13,_=>rfl
 |14,_=>rfl
 |15,_=>rfl
 |16,_=>rfl
 |17,_=>rfl
 |18,_=>rfl
 |19,_=>rfl
 |20,_=>rfl
 |21,_=>rfl
 |22,_=>rfl
 |23,_=>rfl
 |24,_=>rfl
 |25,_=>rfl
 |26,_=>rfl
 |27,_=>rfl
 |28,_=>rfl
 |n+29,h=>by omega
set_option maxHeartbeats 4000000 in
theorem rowOf_spec(op:Int)(σ:zd):zj E 204 [.int .i64 op] σ=some (.ret (.agg [.str (sgn op),.int .i64 (lvl op)]),σ):=by
 refine zc rfl rfl rfl (by simp) ?_;by_cases h0:op<0
 ·simp[F204,h0,sgn,lvl]
 by_cases h1:29<=op
 ·have:29<=op.toNat:=by omega
  simp[F204,h0,h1,sgn,lvl,signList,zyd,yZ,this]
 have h2:op.toNat<29:=by omega
 have h3:0<=op:=by omega
 have h4:op.toNat*2<=56:=by omega
 have e1:sgn op=((signList[op.toNat]?).getD []):=by simp[sgn,h0]
 have e2:lvl op=((zyd[op.toNat]?).getD 0):=by simp[lvl,h0]
 rw[e1,e2];have e3:=rowCells op.toNat h2;generalize((signList[op.toNat]?).getD [])=s at*;generalize((zyd[op.toNat]?).getD 0)=l at*;simp[F204,h0,h1,h2,h3,h4,e3]
theorem level_spec(op:Int)(σ:zd):zj E 203 [.int .i64 op] σ=some (.ret (.int .i64 (lvl op)),σ):=by
 refine zc rfl rfl rfl (by simp) ?_
 (simp[*,F203,rowOf_spec])<;>(repeat' ((first|refine sP _ ?_ ?_|refine gP _ ?_ ?_|refine sN _ ?_ ?_|refine gN _ ?_ ?_|refine sM _ ?_ ?_|refine gM _ ?_ ?_|refine sB _ ?_ ?_|refine gB _ ?_ ?_)<;>intro hc<;>simp[*,F203,rowOf_spec]))
theorem lvl_eq(op:Int):lvl op=zse op:=by
 unfold lvl zse;by_cases h0:op<0
 ·rw[if_pos h0]
  repeat(rw[if_neg (by omega)])
 ·rw[if_neg h0];by_cases h1:29<=op
  ·have:29<=op.toNat:=by omega
   rw[yZ (by simpa[zyd]using this)]
   repeat(rw[if_neg (by omega)])
   rfl
  ·obtain⟨n,rfl⟩:∃n:Nat,op=n:=⟨op.toNat,by omega⟩
   have hn:n<29:=by omega
   have key:∀n:Nat,n<29->(zyd[((n:Int)).toNat]?).getD 0=zse (n:Int):=by decide
   have:=key n hn;unfold zse at this;exact this
def zP(k:Int):Bool×Bool×Int×Bool×Bool:=
 if k=1 then(true,true,1,false,false)
 else if k=2 then(false,true,1,false,false)
 else if k=3 then(false,true,2,false,false)
 else if k=4 then(false,false,1,true,true)
 else if k=5 then(false,false,1,true,false)
 else if k=6\/k=7 then(false,false,0,false,false)
 else if k=8\/k=9\/k=10 then(false,false,1,false,false)
 else(false,false,-1,false,false)
theorem shape_spec(k:Int):zj E 96 [.int .i64 k] []=some (.ret (.tup [.bool (zP k).1,.bool (zP k).2.1,.int .i64 (zP k).2.2.1,.bool (zP k).2.2.2.1,.bool (zP k).2.2.2.2]),[]):=by
 refine zc rfl rfl rfl (by simp) ?_;unfold zP
 (simp[*,F96])<;>(repeat' ((first|refine sP _ ?_ ?_|refine gP _ ?_ ?_|refine sN _ ?_ ?_|refine gN _ ?_ ?_|refine sM _ ?_ ?_|refine gM _ ?_ ?_|refine sB _ ?_ ?_|refine gB _ ?_ ?_)<;>intro hc<;>simp[*,F96]))
def headR(s:Stmt)(m:Int):Bool:=
 !(decide (m<1)||(decide (¬(s.args.length:Int)=(zP s.kind).2.2.1)||((zP s.kind).1 !=(decide (s.type=1)||decide (s.type=2))||((!(zP s.kind).1&&decide (¬s.type=0))||((zP s.kind).2.1 !=zbc s.name||(!(zP s.kind).2.1&&decide (¬s.name=[])))))))
def argsR(l:List Expr):Bool:=l.all fun e=>zmb e 100
def doR(k:Int)(l:List Expr):Bool:= !(decide (k=10)&&(match l with| []=>false|e::_=>decide (¬e.kind=7)))
mutual
def zRb:Stmt->Int->Bool
 |⟨k,t,s,a,th,el⟩,m=>headR ⟨k,t,s,a,th,el⟩ m&&(argsR a&&(doR k a&&((((zP k).2.2.2.1||th.isEmpty)&&((zP k).2.2.2.2||el.isEmpty))&&(zS th (m-1)&&zS el (m-1)))))
def zS:List Stmt->Int->Bool
 | [],_=>true
 |x::r,m=>zRb x m&&zS r m
end
theorem stmtR_eq(s:Stmt)(m:Int):zRb s m=(headR s m&&(argsR s.args&&(doR s.kind s.args&&((((zP s.kind).2.2.2.1||s.thn.isEmpty)&&((zP s.kind).2.2.2.2||s.els.isEmpty))&&(zS s.thn (m-1)&&zS s.els (m-1)))))):=by cases s;rw[zRb]
theorem stmtsR_append(a b:List Stmt)(m:Int):zS (a++b) m=(zS a m&&zS b m):=by
 induction a with
 |nil=>simp[zS]
 |cons x r ih=>simp[zS,ih,Bool.and_assoc]
theorem rtype_spec(t:Int):zj E 69 [.int .i64 t] []=some (.ret (.bool (decide (t=1)||decide (t=2))),[]):=by
 refine zc rfl rfl rfl (by simp) ?_
 (simp[*,F69])<;>(repeat' ((first|refine sP _ ?_ ?_|refine gP _ ?_ ?_|refine sN _ ?_ ?_|refine gN _ ?_ ?_|refine sM _ ?_ ?_|refine gM _ ?_ ?_|refine sB _ ?_ ?_|refine gB _ ?_ ?_)<;>intro hc<;>simp[*,F69]))
set_option maxHeartbeats 8000000 in
theorem stmtsR_spec':∀w (l:List Stmt) (m:Int),wtSs l<=w->w<1099509000000->m<=1000000->zj E 70 [zg l,.int .i64 m] []=some (.ret (.bool (zS l m)),[]):=by
 intro w
 induction w with
 |zero=>
  intro l m h hw hm;have:l=[]:=by
   cases l with
   |nil=>rfl
   |cons x r=>simp[wtSs]at h
  subst this;refine zc rfl rfl rfl (by simp) ?_;simp[F70,zg,zS];refine zD ([]:List Stmt) K70_1 B70_1 (fun d=>[(5,.int .i64 d.length)]) (fun _=>[]) (fun _=>True) (by simp) (by simp) ?_ ?_
  ·intros d x r s1 hl' hlt;simp at hlt
  ·intros s1 hp h1 h2 h3 h4;simp at h1 h3;clear h2;simp[*]
 |succ w ih=>
  intro l m h hw hm;refine zc rfl rfl rfl (by simp) ?_;have hlen:=zia l;simp[F70,zg];refine zD l K70_1 B70_1 (fun d=>[(5,.int .i64 d.length)]) (fun _=>[]) (fun d=>zS d m=true) (by omega) (by simp[zS]) ?_ ?_
  ·intros d x r s1 hl' hlt hget hget' hw1 hp h1 h2 h3 h4;simp at h1 h3;clear h2;have hwx:=zmc hl'.mem;have hwe:=zCa x;have hf:zRb x m=false->zS l m=false:=fun hx=>by
    rw[hl'.eq,stmtsR_append];simp[zS,hx]
   have hnx:zRb x m=true->zS (d++[x]) m=true:=fun hx=>by
    rw[stmtsR_append,hp];simp[zS,hx]
   clear hl' hp;have e1:=shape_spec x.kind;have e2:=zFc x.name [];have hlw:=zxb x.args;cases hh:headR x m
   ·
    replace hf:=hf (by rw[stmtR_eq,hh];rfl);clear hnx;simp only[headR,Bool.not_eq_false',yP,decide_eq_true_eq,yb,yJ,bne_iff_ne]at hh;generalize zP x.kind=sh at*;obtain⟨t,nm,n,th,ot⟩:=sh;simp only at hh e1;have hh2:=hh;clear hh;cases hnn:zbc x.name<;>rw[hnn]at e2 hh2<;>cases t<;>cases nm<;>
    ·simp at e1 hh2
     (simp[*,zb,zf,zg])<;>(repeat' (first|((first|refine sP _ ?_ ?_|refine gP _ ?_ ?_|refine sN _ ?_ ?_|refine gN _ ?_ ?_)<;>intro hc<;>(first|replace hc:=eqn hc|replace hc:=eqp hc)<;>simp[*,zb,zf,zg])|((first|refine sM _ ?_ ?_|refine gM _ ?_ ?_|refine sB _ ?_ ?_|refine gB _ ?_ ?_)<;>intro hc<;>simp[*,zb,zf,zg])))
     all_goals(exfalso;grind)
   ·
    have hs:=stmtR_eq x m;rw[hh,yma]at hs;simp only[headR,yJ,Bool.not_eq_false',yBa,decide_eq_false_iff_not,Bool.and_eq_false_iff,bne_eq_false_iff_eq,Decidable.not_not,Bool.not_eq_true]at hh;generalize hsh:zP x.kind=sh at*;obtain⟨t,nm,n,th,ot⟩:=sh;simp only at hh hs e1;obtain⟨a1,a2,a3,a4,a5,a6⟩:=hh;subst a2;rw[<-a5]at e2;have hm1:zA .i64 (m-1)=m-1:=zi (by omega) (by omega);rcases(show(t=true/\x.type=1)\/(t=true/\x.type=2)\/(t=false/\x.type=0) by
     cases t
     ·right;right;exact⟨rfl,by simpa using a4⟩
     ·have:=a3.symm;simp only[yP,decide_eq_true_eq]at this;rcases this with h|h
      ·exact yOa ⟨rfl,h⟩
      ·exact yUa (yOa ⟨rfl,h⟩))with⟨rfl,ht⟩|⟨rfl,ht⟩|⟨rfl,ht⟩
    all_goals
     clear a3 a4 a5;cases nm
     ·replace a6:x.name=[]:=by simpa using a6
      rw[a6]at e2;simp[*,zb,zf,zg];have hlt0:x.args.length<2^62:=by omega
      refine zD x.args K70_0 B70_0 (fun d=>[(12,.int .i64 d.length)]) (fun _=>[]) (fun d=>argsR d=true) hlt0 (by simp[argsR]) ?_ ?_
      ·intros d2 y r2 s2 hl2 hlt2 hget2 hget2' hw2 hp2 g1 g2 g3 g4;simp at g1 g2 g3;have hwy:=zzb hl2.mem;have ey:=exprR_spec y 100 (by omega) (by omega);rw[za]at ey;simp[zf]at ey;have hlt2':(d2.length:Int)<x.args.length:=by omega
       cases hy:zmb y 100
       ·have ha:argsR x.args=false:=by
         rw[hl2.eq];simp[argsR,hy]
        replace hf:=hf (by rw[hs,ha];rfl);rw[hy]at ey;clear hnx hs hp2 hl2 e1 e2 ht;simp[*,za,zf]
       ·have ha:argsR (d2++[y])=true:=by
         simp only[argsR]at hp2 ⊢;rw[yX,hp2];simp[hy]
        rw[hy]at ey;clear hnx hs hf hp2 hl2 e1 e2 ht;simp[*,za,zf]
      ·intros s2 hp2 g1 g2 g3 g4;simp at g1 g2 g3;rw[hp2,yma]at hs;have i1:=ih x.thn (m-1) (by omega) (by omega) (by omega);have i2:=ih x.els (m-1) (by omega) (by omega) (by omega);simp[zg]at i1 i2;have k1:(x.kind=10/\∃e,x.args=[e])\/¬x.kind=10:=by
        by_cases hk:x.kind=10
        ·refine yOa ⟨hk,?_⟩;have hn1:(x.args.length:Int)=1:=by
          have:=congrArg (fun p=>p.2.2.1) hsh;rw[hk]at this;exact this.symm
         have:x.args.length=1:=by omega
         exact yN.1 this
        ·exact yUa hk
       clear hp2 hsh;clear e1 e2 a6;rcases k1 with⟨hk,e,hae⟩|hk
       ·have hdo:doR x.kind x.args=decide (e.kind=7):=by
         rw[hk,hae];simp[doR]
        rw[hdo]at hs;by_cases h7:e.kind=7
        ·have hd7:decide (e.kind=7)=true:=decide_eq_true h7;rw[hd7,yma]at hs;replace hk:=eqp hk;replace h7:=eqp h7;clear hdo hd7 ht a1;have e3:(x.thn.isEmpty=true<->x.thn.length=0):=by cases x.thn<;>simp
         have e4:(x.els.isEmpty=true<->x.els.length=0):=by cases x.els<;>simp
         have tree:zRb x m=true\/zRb x m=false:=by cases zRb x m<;>simp
         by_cases b1:th=false/\0<x.thn.length
         ·have hb:(th||x.thn.isEmpty)=false:=by
           rw[b1.1,yL];cases hx:x.thn.isEmpty
           ·rfl
           ·have:=e3.1 hx;omega
          rw[hb]at hs;replace hf:=hf (by rw[hs];rfl);obtain⟨rfl,b1⟩:=b1;clear hs hnx tree e3 e4 i1 i2 hb;simp[*,zg,za]
         by_cases b2:ot=false/\0<x.els.length
         ·have hb:(ot||x.els.isEmpty)=false:=by
           rw[b2.1,yL];cases hx:x.els.isEmpty
           ·rfl
           ·have:=e4.1 hx;omega
          rw[hb]at hs;replace hf:=hf (by rw[hs];simp);obtain⟨rfl,b2⟩:=b2;clear hs hnx tree e3 e4 i1 i2 hb;cases th
          ·have b1':¬0<x.thn.length:=fun h=>b1 ⟨rfl,h⟩
           clear b1;simp[*,zg,za]
          ·clear b1;simp[*,zg,za]
         have hb1:(th||x.thn.isEmpty)=true:=by
          cases th
          ·rw[yL];exact e3.2 (by by_cases h:0<x.thn.length;exact absurd ⟨rfl,h⟩ b1;omega)
          ·rfl
         have hb2:(ot||x.els.isEmpty)=true:=by
          cases ot
          ·rw[yL];exact e4.2 (by by_cases h:0<x.els.length;exact absurd ⟨rfl,h⟩ b2;omega)
          ·rfl
         rw[hb1,hb2]at hs;clear e3 e4 tree hb1 hb2;have b1':th=true\/(th=false/\¬0<x.thn.length):=by
          cases th
          ·exact yUa ⟨rfl,fun h=>b1 ⟨rfl,h⟩⟩
          ·exact yOa rfl
         have b2':ot=true\/(ot=false/\¬0<x.els.length):=by
          cases ot
          ·exact yUa ⟨rfl,fun h=>b2 ⟨rfl,h⟩⟩
          ·exact yOa rfl
         clear b1 b2;cases q1:zS x.thn (m-1)
         ·rw[q1]at i1 hs;replace hf:=hf (by rw[hs];rfl);clear hs hnx i2 q1;rcases b1' with rfl|⟨rfl,b1⟩<;>rcases b2' with rfl|⟨rfl,b2⟩<;>simp[*,zg,za]
         ·rw[q1]at i1 hs;cases q2:zS x.els (m-1)
          ·rw[q2]at i2 hs;replace hf:=hf (by rw[hs];rfl);clear hs hnx q1 q2;rcases b1' with rfl|⟨rfl,b1⟩<;>rcases b2' with rfl|⟨rfl,b2⟩<;>simp[*,zg,za]
          ·rw[q2]at i2 hs;replace hnx:=hnx (by rw[hs];rfl);clear hs hf q1 q2;rcases b1' with rfl|⟨rfl,b1⟩<;>rcases b2' with rfl|⟨rfl,b2⟩<;>simp[*,zg,za]
        ·have hd7:decide (e.kind=7)=false:=decide_eq_false h7;rw[hd7,Bool.false_and]at hs;replace hf:=hf hs;replace hk:=eqp hk;replace h7:=eqn h7;clear hdo hd7 hs hnx ht a1;simp[*,za]
       ·have hdo:doR x.kind x.args=true:=by simp[doR,hk]
        rw[hdo,yma]at hs;replace hk:=eqn hk;clear hdo ht a1;have e3:(x.thn.isEmpty=true<->x.thn.length=0):=by cases x.thn<;>simp
        have e4:(x.els.isEmpty=true<->x.els.length=0):=by cases x.els<;>simp
        have tree:zRb x m=true\/zRb x m=false:=by cases zRb x m<;>simp
        by_cases b1:th=false/\0<x.thn.length
        ·have hb:(th||x.thn.isEmpty)=false:=by
          rw[b1.1,yL];cases hx:x.thn.isEmpty
          ·rfl
          ·have:=e3.1 hx;omega
         rw[hb]at hs;replace hf:=hf (by rw[hs];rfl);obtain⟨rfl,b1⟩:=b1;clear hs hnx tree e3 e4 i1 i2 hb;simp[*,zg,za]
        by_cases b2:ot=false/\0<x.els.length
        ·have hb:(ot||x.els.isEmpty)=false:=by
          rw[b2.1,yL];cases hx:x.els.isEmpty
          ·rfl
          ·have:=e4.1 hx;omega
         rw[hb]at hs;replace hf:=hf (by rw[hs];simp);obtain⟨rfl,b2⟩:=b2;clear hs hnx tree e3 e4 i1 i2 hb;cases th
         ·have b1':¬0<x.thn.length:=fun h=>b1 ⟨rfl,h⟩
          clear b1;simp[*,zg,za]
         ·clear b1;simp[*,zg,za]
        have hb1:(th||x.thn.isEmpty)=true:=by
         cases th
         ·rw[yL];exact e3.2 (by by_cases h:0<x.thn.length;exact absurd ⟨rfl,h⟩ b1;omega)
         ·rfl
        have hb2:(ot||x.els.isEmpty)=true:=by
         cases ot
         ·rw[yL];exact e4.2 (by by_cases h:0<x.els.length;exact absurd ⟨rfl,h⟩ b2;omega)
         ·rfl
        rw[hb1,hb2]at hs;clear e3 e4 tree hb1 hb2;have b1':th=true\/(th=false/\¬0<x.thn.length):=by
         cases th
         ·exact yUa ⟨rfl,fun h=>b1 ⟨rfl,h⟩⟩
         ·exact yOa rfl
        have b2':ot=true\/(ot=false/\¬0<x.els.length):=by
         cases ot
         ·exact yUa ⟨rfl,fun h=>b2 ⟨rfl,h⟩⟩
         ·exact yOa rfl
        clear b1 b2;cases q1:zS x.thn (m-1)
        ·rw[q1]at i1 hs;replace hf:=hf (by rw[hs];rfl);clear hs hnx i2 q1;rcases b1' with rfl|⟨rfl,b1⟩<;>rcases b2' with rfl|⟨rfl,b2⟩<;>simp[*,zg,za]
        ·rw[q1]at i1 hs;cases q2:zS x.els (m-1)
         ·rw[q2]at i2 hs;replace hf:=hf (by rw[hs];rfl);clear hs hnx q1 q2;rcases b1' with rfl|⟨rfl,b1⟩<;>rcases b2' with rfl|⟨rfl,b2⟩<;>simp[*,zg,za]
         ·rw[q2]at i2 hs;replace hnx:=hnx (by rw[hs];rfl);clear hs hf q1 q2;rcases b1' with rfl|⟨rfl,b1⟩<;>rcases b2' with rfl|⟨rfl,b2⟩<;>simp[*,zg,za]
     ·clear a6;have a6:True:=trivial;simp[*,zb,zf,zg];have hlt0:x.args.length<2^62:=by omega
      refine zD x.args K70_0 B70_0 (fun d=>[(12,.int .i64 d.length)]) (fun _=>[]) (fun d=>argsR d=true) hlt0 (by simp[argsR]) ?_ ?_
      ·intros d2 y r2 s2 hl2 hlt2 hget2 hget2' hw2 hp2 g1 g2 g3 g4;simp at g1 g2 g3;have hwy:=zzb hl2.mem;have ey:=exprR_spec y 100 (by omega) (by omega);rw[za]at ey;simp[zf]at ey;have hlt2':(d2.length:Int)<x.args.length:=by omega
       cases hy:zmb y 100
       ·have ha:argsR x.args=false:=by
         rw[hl2.eq];simp[argsR,hy]
        replace hf:=hf (by rw[hs,ha];rfl);rw[hy]at ey;clear hnx hs hp2 hl2 e1 e2 ht;simp[*,za,zf]
       ·have ha:argsR (d2++[y])=true:=by
         simp only[argsR]at hp2 ⊢;rw[yX,hp2];simp[hy]
        rw[hy]at ey;clear hnx hs hf hp2 hl2 e1 e2 ht;simp[*,za,zf]
      ·intros s2 hp2 g1 g2 g3 g4;simp at g1 g2 g3;rw[hp2,yma]at hs;have i1:=ih x.thn (m-1) (by omega) (by omega) (by omega);have i2:=ih x.els (m-1) (by omega) (by omega) (by omega);simp[zg]at i1 i2;have k1:(x.kind=10/\∃e,x.args=[e])\/¬x.kind=10:=by
        by_cases hk:x.kind=10
        ·refine yOa ⟨hk,?_⟩;have hn1:(x.args.length:Int)=1:=by
          have:=congrArg (fun p=>p.2.2.1) hsh;rw[hk]at this;exact this.symm
         have:x.args.length=1:=by omega
         exact yN.1 this
        ·exact yUa hk
       clear hp2 hsh;clear e1 e2 a6;rcases k1 with⟨hk,e,hae⟩|hk
       ·have hdo:doR x.kind x.args=decide (e.kind=7):=by
         rw[hk,hae];simp[doR]
        rw[hdo]at hs;by_cases h7:e.kind=7
        ·have hd7:decide (e.kind=7)=true:=decide_eq_true h7;rw[hd7,yma]at hs;replace hk:=eqp hk;replace h7:=eqp h7;clear hdo hd7 ht a1;have e3:(x.thn.isEmpty=true<->x.thn.length=0):=by cases x.thn<;>simp
         have e4:(x.els.isEmpty=true<->x.els.length=0):=by cases x.els<;>simp
         have tree:zRb x m=true\/zRb x m=false:=by cases zRb x m<;>simp
         by_cases b1:th=false/\0<x.thn.length
         ·have hb:(th||x.thn.isEmpty)=false:=by
           rw[b1.1,yL];cases hx:x.thn.isEmpty
           ·rfl
           ·have:=e3.1 hx;omega
          rw[hb]at hs;replace hf:=hf (by rw[hs];rfl);obtain⟨rfl,b1⟩:=b1;clear hs hnx tree e3 e4 i1 i2 hb;simp[*,zg,za]
         by_cases b2:ot=false/\0<x.els.length
         ·have hb:(ot||x.els.isEmpty)=false:=by
           rw[b2.1,yL];cases hx:x.els.isEmpty
           ·rfl
           ·have:=e4.1 hx;omega
          rw[hb]at hs;replace hf:=hf (by rw[hs];simp);obtain⟨rfl,b2⟩:=b2;clear hs hnx tree e3 e4 i1 i2 hb;cases th
          ·have b1':¬0<x.thn.length:=fun h=>b1 ⟨rfl,h⟩
           clear b1;simp[*,zg,za]
          ·clear b1;simp[*,zg,za]
         have hb1:(th||x.thn.isEmpty)=true:=by
          cases th
          ·rw[yL];exact e3.2 (by by_cases h:0<x.thn.length;exact absurd ⟨rfl,h⟩ b1;omega)
          ·rfl
         have hb2:(ot||x.els.isEmpty)=true:=by
          cases ot
          ·rw[yL];exact e4.2 (by by_cases h:0<x.els.length;exact absurd ⟨rfl,h⟩ b2;omega)
          ·rfl
         rw[hb1,hb2]at hs;clear e3 e4 tree hb1 hb2;have b1':th=true\/(th=false/\¬0<x.thn.length):=by
          cases th
          ·exact yUa ⟨rfl,fun h=>b1 ⟨rfl,h⟩⟩
          ·exact yOa rfl
         have b2':ot=true\/(ot=false/\¬0<x.els.length):=by
          cases ot
          ·exact yUa ⟨rfl,fun h=>b2 ⟨rfl,h⟩⟩
          ·exact yOa rfl
         clear b1 b2;cases q1:zS x.thn (m-1)
         ·rw[q1]at i1 hs;replace hf:=hf (by rw[hs];rfl);clear hs hnx i2 q1;rcases b1' with rfl|⟨rfl,b1⟩<;>rcases b2' with rfl|⟨rfl,b2⟩<;>simp[*,zg,za]
         ·rw[q1]at i1 hs;cases q2:zS x.els (m-1)
          ·rw[q2]at i2 hs;replace hf:=hf (by rw[hs];rfl);clear hs hnx q1 q2;rcases b1' with rfl|⟨rfl,b1⟩<;>rcases b2' with rfl|⟨rfl,b2⟩<;>simp[*,zg,za]
          ·rw[q2]at i2 hs;replace hnx:=hnx (by rw[hs];rfl);clear hs hf q1 q2;rcases b1' with rfl|⟨rfl,b1⟩<;>rcases b2' with rfl|⟨rfl,b2⟩<;>simp[*,zg,za]
        ·have hd7:decide (e.kind=7)=false:=decide_eq_false h7;rw[hd7,Bool.false_and]at hs;replace hf:=hf hs;replace hk:=eqp hk;replace h7:=eqn h7;clear hdo hd7 hs hnx ht a1;simp[*,za]
       ·have hdo:doR x.kind x.args=true:=by simp[doR,hk]
        rw[hdo,yma]at hs;replace hk:=eqn hk;clear hdo ht a1;have e3:(x.thn.isEmpty=true<->x.thn.length=0):=by cases x.thn<;>simp
        have e4:(x.els.isEmpty=true<->x.els.length=0):=by cases x.els<;>simp
        have tree:zRb x m=true\/zRb x m=false:=by cases zRb x m<;>simp
        by_cases b1:th=false/\0<x.thn.length
        ·have hb:(th||x.thn.isEmpty)=false:=by
          rw[b1.1,yL];cases hx:x.thn.isEmpty
          ·rfl
          ·have:=e3.1 hx;omega
         rw[hb]at hs;replace hf:=hf (by rw[hs];rfl);obtain⟨rfl,b1⟩:=b1;clear hs hnx tree e3 e4 i1 i2 hb;simp[*,zg,za]
        by_cases b2:ot=false/\0<x.els.length
        ·have hb:(ot||x.els.isEmpty)=false:=by
          rw[b2.1,yL];cases hx:x.els.isEmpty
          ·rfl
          ·have:=e4.1 hx;omega
         rw[hb]at hs;replace hf:=hf (by rw[hs];simp);obtain⟨rfl,b2⟩:=b2;clear hs hnx tree e3 e4 i1 i2 hb;cases th
         ·have b1':¬0<x.thn.length:=fun h=>b1 ⟨rfl,h⟩
          clear b1;simp[*,zg,za]
         ·clear b1;simp[*,zg,za]
        have hb1:(th||x.thn.isEmpty)=true:=by
         cases th
         ·rw[yL];exact e3.2 (by by_cases h:0<x.thn.length;exact absurd ⟨rfl,h⟩ b1;omega)
         ·rfl
        have hb2:(ot||x.els.isEmpty)=true:=by
         cases ot
         ·rw[yL];exact e4.2 (by by_cases h:0<x.els.length;exact absurd ⟨rfl,h⟩ b2;omega)
         ·rfl
        rw[hb1,hb2]at hs;clear e3 e4 tree hb1 hb2;have b1':th=true\/(th=false/\¬0<x.thn.length):=by
         cases th
         ·exact yUa ⟨rfl,fun h=>b1 ⟨rfl,h⟩⟩
         ·exact yOa rfl
        have b2':ot=true\/(ot=false/\¬0<x.els.length):=by
         cases ot
         ·exact yUa ⟨rfl,fun h=>b2 ⟨rfl,h⟩⟩
         ·exact yOa rfl
        clear b1 b2;cases q1:zS x.thn (m-1)
        ·rw[q1]at i1 hs;replace hf:=hf (by rw[hs];rfl);clear hs hnx i2 q1;rcases b1' with rfl|⟨rfl,b1⟩<;>rcases b2' with rfl|⟨rfl,b2⟩<;>simp[*,zg,za]
        ·rw[q1]at i1 hs;cases q2:zS x.els (m-1)
         ·rw[q2]at i2 hs;replace hf:=hf (by rw[hs];rfl);clear hs hnx q1 q2;rcases b1' with rfl|⟨rfl,b1⟩<;>rcases b2' with rfl|⟨rfl,b2⟩<;>simp[*,zg,za]
         ·rw[q2]at i2 hs;replace hnx:=hnx (by rw[hs];rfl);clear hs hf q1 q2;rcases b1' with rfl|⟨rfl,b1⟩<;>rcases b2' with rfl|⟨rfl,b2⟩<;>simp[*,zg,za]
  ·intros s1 hp h1 h2 h3 h4;simp at h1 h3;clear h2;simp[*]
def arrR(a:PArr):Bool:=zbc a.name&&(decide (1<=a.size)&&decide (a.size<=1000))
def parR(p:Par):Bool:=zbc p.name&&(decide (p.type=1)||decide (p.type=2))
def zhe(f:Func):Bool:=zbc f.name&&((decide (f.type=1)||decide (f.type=2))&&(decide (f.params.length<=8)&&(zS f.body 100&&f.params.all parR)))
def zdc(p:Prog):Bool:=p.arrays.all arrR&&p.funcs.all zhe
theorem stmtsR_spec(l:List Stmt)(m:Int)(h:wtSs l<1099508000000)(hm:m<=1000000):zj E 70 [zg l,.int .i64 m] []=some (.ret (.bool (zS l m)),[]):=stmtsR_spec' (wtSs l) l m (ye _) (by omega) hm
def PSz(p:Prog):Prop:=p.arrays.length<1099509000000/\p.funcs.length<1099509000000/\∀f∈p.funcs,wtSs f.body<1099508000000/\f.params.length<1099509000000
set_option maxHeartbeats 4000000 in
theorem right_spec(p:Prog)(hz:PSz p):zj E 35 [ze p] []=some (.ret (.bool (zdc p)),[]):=by
 obtain⟨z1,z2,z3⟩:=hz;refine zc rfl rfl rfl (by simp[ze]) ?_;simp[F35,ze,zZ,funcs];refine zD p.arrays K35_0 B35_0 (fun d=>[(3,.int .i64 d.length)]) (fun _=>[]) (fun d=>d.all arrR=true) (by omega) (by simp) ?_ ?_
 ·intros d x r s1 hl' hlt hget hget' hw hp h1 h2 h3 h4;simp at h1 h2 h3;have hf:arrR x=false->zdc p=false:=fun h=>by
   unfold zdc;rw[hl'.eq];simp[h]
  have hnx:arrR x=true->(d++[x]).all arrR=true:=fun h=>by rw[yX,hp];simp[h]
  have e1:=zFc x.name [];clear hl' hp;cases c1:zbc x.name
  ·replace hf:=hf (by unfold arrR;rw[c1];rfl);rw[c1]at e1;clear hnx;simp[*,zH]
  ·rw[c1]at e1;by_cases c2:x.size<1
   ·replace hf:=hf (by unfold arrR;simp;omega);clear hnx;simp[*,zH]
   ·by_cases c3:1000<x.size
    ·replace hf:=hf (by unfold arrR;simp;omega);clear hnx;simp[*,zH]
    ·replace hnx:=hnx (by unfold arrR;rw[c1];simp;omega);clear hf;simp[*,zH]
     all_goals(try grind)
 intros s1 hp h1 h2 h3 h4;simp at h1 h2 h3;have har:p.arrays.all arrR=true:=hp;clear hp;simp[*];refine zD p.funcs K35_2 B35_2 (fun d=>[(4,.int .i64 d.length)]) (fun _=>[]) (fun d=>d.all zhe=true) (by omega) (by simp) ?_ ?_
 ·intros d x r s2 hl' hlt hget hget' hw hp g1 g2 g3 g4;simp at g1 g2 g3;obtain⟨y1,y2⟩:=z3 x hl'.mem;have hf:zhe x=false->zdc p=false:=fun h=>by
   unfold zdc;rw[har,hl'.eq];simp[h]
  have hnx:zhe x=true->(d++[x]).all zhe=true:=fun h=>by rw[yX,hp];simp[h]
  have e1:=zFc x.name [];have e2:=rtype_spec x.type;have e3:=stmtsR_spec x.body 100 y1 (by omega);have hp0:True->d.all zhe=true:=fun _=>hp
  clear hl' hp har;simp[zg]at e3;generalize htt:(decide (x.type=1)||decide (x.type=2))=tt at*;have hq:zhe x=(zbc x.name&&(tt&&(decide (x.params.length<=8)&&(zS x.body 100&&x.params.all parR)))):=by unfold zhe;rw[htt]
  clear htt;cases c1:zbc x.name
  ·replace hf:=hf (by rw[hq,c1];rfl);rw[c1]at e1;clear hnx hq;simp[*,zl,parsV,zg]
  rw[c1]at e1;cases tt
  ·replace hf:=hf (by rw[hq];simp);clear hnx hq;simp[*,zl,parsV,zg]
  by_cases c2:8<x.params.length
  ·replace hf:=hf (by rw[hq];simp;omega);have c2':(8:Int)<x.params.length:=by omega
   clear hnx hq;simp[*,zl,parsV,zg]
  have c2':¬(8:Int)<x.params.length:=by omega
  cases c3:zS x.body 100
  ·replace hf:=hf (by rw[hq,c3];simp);rw[c3]at e3;clear hnx hq;simp[*,zl,parsV,zg]
  rw[c3]at e3;have hd8:decide (x.params.length<=8)=true:=decide_eq_true (by omega);rw[c1,c3,hd8,yma,yma,yma,yma]at hq;clear hd8;simp[*,zl,parsV,zg];refine zD x.params K35_1 B35_1 (fun d=>[(6,.int .i64 d.length)]) (fun _=>[]) (fun d=>d.all parR=true) (by omega) (by simp) ?_ ?_
  ·intros d2 y r2 s3 hl2 hlt2 hget2 hget2' hw2 hp2 k1 k2 k3 k4;simp at k1 k2 k3;have hfy:parR y=false->zdc p=false:=fun h=>hf (by rw[hq,hl2.eq];simp[h])
   have hny:parR y=true->(d2++[y]).all parR=true:=fun h=>by rw[yX,hp2];simp[h]
   have i1:=zFc y.name [];have i2:=rtype_spec y.type;generalize htt:(decide (y.type=1)||decide (y.type=2))=tt at*;have hqy:parR y=(zbc y.name&&tt):=by unfold parR;rw[htt]
   clear htt hl2 hp2 hq hf hnx e1 e2 e3;cases c4:zbc y.name
   ·rw[c4]at i1;replace hfy:=hfy (by rw[hqy,c4];rfl);clear hny hqy;simp[*,encPar]
   ·rw[c4]at i1;cases tt
    ·replace hfy:=hfy (by rw[hqy];simp);clear hny hqy;simp[*,encPar]
    ·replace hny:=hny (by rw[hqy,c4];rfl);clear hfy hqy;simp[*,encPar]
     all_goals(try grind)
  ·intros s3 hp2 k1 k2 k3 k4;simp at k1 k2 k3;replace hnx:=hnx (by rw[hq];exact hp2);replace hp0:=hp0 trivial;clear hf hq e1 e2 e3;simp only[yu]at hp0 hp2;simp[*]
   first|exact hp2|exact⟨hp0,hp2⟩
 ·intros s2 hp g1 g2 g3 g4;simp at g1 g2 g3;have hr:zdc p=true:=by unfold zdc;rw[har,hp];rfl
  clear hp har;simp[*]
theorem tblank_spec(k o n:Int)(s:List UInt8)(a:List Expr):zj E 202 [.agg [.int .i64 k,.int .i64 o,.int .i64 n,.str s,zf a]] []=some (.ret (.bool (decide (o=0)&&(decide (n=0)&&(decide (s=[])&&decide (a=[]))))),[]):=by
 refine zc rfl rfl rfl (by simp) ?_;have hl:((a.length:Int)=0)=(a=[]):=by simp
 (simp[*,F202,zf])<;>(repeat' ((first|refine sP _ ?_ ?_|refine gP _ ?_ ?_|refine sN _ ?_ ?_|refine gN _ ?_ ?_|refine sM _ ?_ ?_|refine gM _ ?_ ?_|refine sB _ ?_ ?_|refine gB _ ?_ ?_)<;>intro hc<;>simp[*,F202,zf]))
def ownT(k o n:Int)(s:List UInt8)(a:Nat):Int×Bool:=
 if k=1 then(0,decide (0<=n)&&(decide (o=0)&&decide (s=[])))
 else if k=2 then(0,(decide (n=0)||decide (n=1))&&(decide (o=0)&&decide (s=[])))
 else if k=4 then(1,oneR o&&(decide (n=0)&&decide (s=[])))
 else if k=5 then(2,decide (0<zse o)&&(decide (n=0)&&decide (s=[])))
 else if k=8 then(0,decide (o=0)&&(decide (n=0)&&decide (s=[])))
 else if k=3 then(0,zbc s&&(decide (o=0)&&decide (n=0)))
 else if k=6 then(1,zbc s&&(decide (o=0)&&decide (n=0)))
 else if k=7 then(a,(zbc s&&(decide (o=0)&&decide (n=0)))&&decide (a<=8))
 else(0,false)
set_option maxHeartbeats 4000000 in
theorem town_spec(e:Expr):zj E 199 [zo e] []=some (.ret (.tup [.int .i64 (ownT e.kind e.op e.n e.name e.args.length).1,.bool (ownT e.kind e.op e.n e.name e.args.length).2]),[]):=by
 obtain⟨k,o,n,s,a⟩:=e;have hn:=name_spec s [];have hlv:=level_spec o [];rw[lvl_eq]at hlv;have hb:∀k o n s,zj E 202 [.agg [.int .i64 k,.int .i64 o,.int .i64 n,.str s,.slice .plain 5 []]] []=some (.ret (.bool (decide (o=0)&&(decide (n=0)&&decide (s=[])))),[]):=by
  intro k o n s;have:=tblank_spec k o n s [];simpa[zf]using this
 refine zc rfl rfl rfl (by simp[za]) ?_;simp only;unfold ownT;by_cases k1:k=1
 ·replace k1:=eqp k1
  (simp[*,F199,za,zf])<;>(repeat' (first|((first|refine sP _ ?_ ?_|refine gP _ ?_ ?_|refine sN _ ?_ ?_|refine gN _ ?_ ?_)<;>intro hc<;>(first|replace hc:=eqn hc|replace hc:=eqp hc)<;>simp[*,F199,za,zf])|((first|refine sM _ ?_ ?_|refine gM _ ?_ ?_|refine sB _ ?_ ?_|refine gB _ ?_ ?_)<;>intro hc<;>simp[*,F199,za,zf])))
 replace k1:=eqn k1;by_cases k2:k=2
 ·replace k2:=eqp k2
  (simp[*,F199,za,zf])<;>(repeat' (first|((first|refine sP _ ?_ ?_|refine gP _ ?_ ?_|refine sN _ ?_ ?_|refine gN _ ?_ ?_)<;>intro hc<;>(first|replace hc:=eqn hc|replace hc:=eqp hc)<;>simp[*,F199,za,zf])|((first|refine sM _ ?_ ?_|refine gM _ ?_ ?_|refine sB _ ?_ ?_|refine gB _ ?_ ?_)<;>intro hc<;>simp[*,F199,za,zf])))
 replace k2:=eqn k2;by_cases k4:k=4
 ·replace k4:=eqp k4
  (simp[*,F199,za,zf,oneR])<;>(repeat' (first|((first|refine sP _ ?_ ?_|refine gP _ ?_ ?_|refine sN _ ?_ ?_|refine gN _ ?_ ?_)<;>intro hc<;>(first|replace hc:=eqn hc|replace hc:=eqp hc)<;>simp[*,F199,za,zf,oneR])|((first|refine sM _ ?_ ?_|refine gM _ ?_ ?_|refine sB _ ?_ ?_|refine gB _ ?_ ?_)<;>intro hc<;>simp[*,F199,za,zf,oneR])))
 replace k4:=eqn k4;by_cases k5:k=5
 ·replace k5:=eqp k5
  (simp[*,F199,za,zf])<;>(repeat' (first|((first|refine sP _ ?_ ?_|refine gP _ ?_ ?_|refine sN _ ?_ ?_|refine gN _ ?_ ?_)<;>intro hc<;>(first|replace hc:=eqn hc|replace hc:=eqp hc)<;>simp[*,F199,za,zf])|((first|refine sM _ ?_ ?_|refine gM _ ?_ ?_|refine sB _ ?_ ?_|refine gB _ ?_ ?_)<;>intro hc<;>simp[*,F199,za,zf])))
 replace k5:=eqn k5;by_cases k8:k=8
 ·replace k8:=eqp k8
  (simp[*,F199,za,zf])<;>(repeat' (first|((first|refine sP _ ?_ ?_|refine gP _ ?_ ?_|refine sN _ ?_ ?_|refine gN _ ?_ ?_)<;>intro hc<;>(first|replace hc:=eqn hc|replace hc:=eqp hc)<;>simp[*,F199,za,zf])|((first|refine sM _ ?_ ?_|refine gM _ ?_ ?_|refine sB _ ?_ ?_|refine gB _ ?_ ?_)<;>intro hc<;>simp[*,F199,za,zf])))
 replace k8:=eqn k8;by_cases k3:k=3
 ·replace k3:=eqp k3
  (simp[*,F199,za,zf])<;>(repeat' (first|((first|refine sP _ ?_ ?_|refine gP _ ?_ ?_|refine sN _ ?_ ?_|refine gN _ ?_ ?_)<;>intro hc<;>(first|replace hc:=eqn hc|replace hc:=eqp hc)<;>simp[*,F199,za,zf])|((first|refine sM _ ?_ ?_|refine gM _ ?_ ?_|refine sB _ ?_ ?_|refine gB _ ?_ ?_)<;>intro hc<;>simp[*,F199,za,zf])))
 replace k3:=eqn k3;by_cases k6:k=6
 ·replace k6:=eqp k6
  (simp[*,F199,za,zf])<;>(repeat' (first|((first|refine sP _ ?_ ?_|refine gP _ ?_ ?_|refine sN _ ?_ ?_|refine gN _ ?_ ?_)<;>intro hc<;>(first|replace hc:=eqn hc|replace hc:=eqp hc)<;>simp[*,F199,za,zf])|((first|refine sM _ ?_ ?_|refine gM _ ?_ ?_|refine sB _ ?_ ?_|refine gB _ ?_ ?_)<;>intro hc<;>simp[*,F199,za,zf])))
 replace k6:=eqn k6;by_cases k7:k=7
 ·replace k7:=eqp k7
  (simp[*,F199,za,zf])<;>(repeat' (first|((first|refine sP _ ?_ ?_|refine gP _ ?_ ?_|refine sN _ ?_ ?_|refine gN _ ?_ ?_)<;>intro hc<;>(first|replace hc:=eqn hc|replace hc:=eqp hc)<;>simp[*,F199,za,zf])|((first|refine sM _ ?_ ?_|refine gM _ ?_ ?_|refine sB _ ?_ ?_|refine gB _ ?_ ?_)<;>intro hc<;>simp[*,F199,za,zf])))
  all_goals(try omega)
 replace k7:=eqn k7
 (simp[*,F199,za,zf])<;>(repeat' (first|((first|refine sP _ ?_ ?_|refine gP _ ?_ ?_|refine sN _ ?_ ?_|refine gN _ ?_ ?_)<;>intro hc<;>(first|replace hc:=eqn hc|replace hc:=eqp hc)<;>simp[*,F199,za,zf])|((first|refine sM _ ?_ ?_|refine gM _ ?_ ?_|refine sB _ ?_ ?_|refine gB _ ?_ ?_)<;>intro hc<;>simp[*,F199,za,zf])))
theorem own_kind(k o n:Int)(s:List UInt8)(a:Nat):((ownT k o n s a).2&&decide ((a:Int)=(ownT k o n s a).1))=kindR k o n s a:=by
 rw[Bool.eq_iff_iff];unfold ownT kindR;by_cases k1:k=1
 ·subst k1;simp;grind
 by_cases k2:k=2
 ·subst k2;simp;grind
 by_cases k4:k=4
 ·subst k4;simp;grind
 by_cases k5:k=5
 ·subst k5;simp;grind
 by_cases k8:k=8
 ·subst k8;simp;grind
 by_cases k3:k=3
 ·subst k3;simp;grind
 by_cases k6:k=6
 ·subst k6;simp;grind
 by_cases k7:k=7
 ·subst k7;simp;grind
 simp[*]
theorem exprsR_all(l:List Expr)(m:Int):zWb l m=l.all fun x=>decide (2<=m)&&zmb x (m-1):=by
 induction l with
 |nil=>rfl
 |cons x r ih=>simp[zWb,ih]
set_option maxHeartbeats 4000000 in
theorem texpr_spec':∀w (e:Expr) (m:Int),wtE e<=w->w<1099511000000->m<=1000000->zj E 187 [zo e,.int .i64 m] []=some (.ret (.bool (decide (0<m)&&zmb e m)),[])
 |0,e,m,h,_,_=>by rw[zed]at h;omega
 |w+1,e,m,h,hw,hm=>by
  refine zc rfl rfl rfl (by simp[za]) ?_;have hlen:=zxb e.args;rw[zed]at h;have ho:=town_spec e;have hk:=own_kind e.kind e.op e.n e.name e.args.length;have hR:=exprR_eq e m;rw[<-hk]at hR;generalize ownT e.kind e.op e.n e.name e.args.length=q at*;obtain⟨n,ok⟩:=q;simp only at ho hk hR;clear hk;by_cases h0:0<m
  ·have hcl:∀x∈e.args,zj E 200 ([]++[zo x]++[.iptr [.int .i64 m] 0]) []=some (.ret (.bool (!(decide (0<m-1)&&zmb x (m-1)))),[]):=by
    intro x hx;have hwx:=zzb hx;have ih:=texpr_spec' w x (m-1) (by omega) (by omega) (by omega);have hwm:zA .i64 (m-1)=m-1:=zi (by omega) (by omega);refine zc rfl rfl rfl (by simp[za]) ?_;rw[za]at ih;clear hR ho h hlen hwx hx;simp[zf]at ih
    (simp[*,F200,za,zf])<;>(repeat' ((first|refine sP _ ?_ ?_|refine gP _ ?_ ?_|refine sN _ ?_ ?_|refine gN _ ?_ ?_|refine sM _ ?_ ?_|refine gM _ ?_ ?_|refine sB _ ?_ ?_|refine gB _ ?_ ?_)<;>intro hc<;>simp[*,F200,za,zf]))
   have hc:=containsFuncExpr e.args (fun x=> !(decide (0<m-1)&&zmb x (m-1))) 200 [] [.iptr [.int .i64 m] 0] [] (by omega) (by simp) hcl;have hany:(!(e.args.any fun x=> !(decide (0<m-1)&&zmb x (m-1))))=zWb e.args m:=by
    have h2:decide (0<m-1)=decide (2<=m):=by rw[decide_eq_decide];omega
    rw[exprsR_all,List.not_any_eq_all_not,h2];simp
   generalize(e.args.any fun x=> !(decide (0<m-1)&&zmb x (m-1)))=b at*;rw[<-hany]at hR;clear hcl h hlen hany;rw[za]at ho;simp[zf]at ho hc;generalize hal:e.args.length=al at*
   (simp[*,F187,za,zf])<;>(repeat' (first|((first|refine sP _ ?_ ?_|refine gP _ ?_ ?_|refine sN _ ?_ ?_|refine gN _ ?_ ?_)<;>intro hc<;>(first|replace hc:=eqn hc|replace hc:=eqp hc)<;>simp[*,F187,za,zf])|((first|refine sM _ ?_ ?_|refine gM _ ?_ ?_|refine sB _ ?_ ?_|refine gB _ ?_ ?_)<;>intro hc<;>simp[*,F187,za,zf])))
  ·clear hlen h;rw[za]at ho;simp[zf]at ho
   (simp[*,F187,za,zf])<;>(repeat' (first|((first|refine sP _ ?_ ?_|refine gP _ ?_ ?_|refine sN _ ?_ ?_|refine gN _ ?_ ?_)<;>intro hc<;>(first|replace hc:=eqn hc|replace hc:=eqp hc)<;>simp[*,F187,za,zf])|((first|refine sM _ ?_ ?_|refine gM _ ?_ ?_|refine sB _ ?_ ?_|refine gB _ ?_ ?_)<;>intro hc<;>simp[*,F187,za,zf])))
theorem texpr_spec(e:Expr)(m:Int)(h:wtE e<1099510000000)(hm:m<=1000000):zj E 187 [zo e,.int .i64 m] []=some (.ret (.bool (decide (0<m)&&zmb e m)),[]):=texpr_spec' (wtE e) e m (ye _) (by omega) hm
def zSb(t n:Bool)(a:Int)(th o:Bool):PV:= .agg [.bool t,.bool n,.int .i64 a,.bool th,.bool o]
def shapesL:List (PV×PV):=[(.int .i64 1,zSb true true 1 false false),(.int .i64 2,zSb false true 1 false false),(.int .i64 3,zSb false true 2 false false),(.int .i64 4,zSb false false 1 true true),(.int .i64 5,zSb false false 1 true false),
 (.int .i64 6,zSb false false 0 false false),(.int .i64 7,zSb false false 0 false false),(.int .i64 8,zSb false false 1 false false),(.int .i64 9,zSb false false 1 false false),(.int .i64 10,zSb false false 1 false false)]
set_option maxHeartbeats 1000000 in
theorem shapes_spec(σ:zd):zj E 184 [] σ=some (.ret (.mp σ.length),σ++[.mp shapesL]):=by
 refine zc rfl rfl rfl (by simp) ?_;simp[F184,shapesL,zSb]
theorem shapes_find(k:Int):zW false (.int .i64 k) shapesL=some (if 1<=k/\k<=10 then some (zSb (zP k).1 (zP k).2.1 (zP k).2.2.1 (zP k).2.2.2.1 (zP k).2.2.2.2)else none):=by
 by_cases h:1<=k/\k<=10
 ·have:k=1\/k=2\/k=3\/k=4\/k=5\/k=6\/k=7\/k=8\/k=9\/k=10:=by omega
  rcases this with h|h|h|h|h|h|h|h|h|h<;>subst h<;>simp[shapesL,zP,zSb]
 ·have h1:¬k=1:=by omega
  have h2:¬k=2:=by omega
  have h3:¬k=3:=by omega
  have h4:¬k=4:=by omega
  have h5:¬k=5:=by omega
  have h6:¬k=6:=by omega
  have h7:¬k=7:=by omega
  have h8:¬k=8:=by omega
  have h9:¬k=9:=by omega
  have h10:¬k=10:=by omega
  rw[if_neg h];simp[shapesL, *]
theorem tisType_spec(t:Int)(σ:zd):zj E 136 [.int .i64 t] σ=some (.ret (.bool (decide (t=1)||decide (t=2))),σ):=by
 refine zc rfl rfl rfl (by simp) ?_
 (simp[*,F136])<;>(repeat' ((first|refine sP _ ?_ ?_|refine gP _ ?_ ?_|refine sN _ ?_ ?_|refine gN _ ?_ ?_|refine sM _ ?_ ?_|refine gM _ ?_ ?_|refine sB _ ?_ ?_|refine gB _ ?_ ?_)<;>intro hc<;>simp[*,F136]))
theorem argsR_all(l:List Expr)(st:zd)(h:wtEs l<1099509000000):zj E 185 [zf l,.fn 186 [] []] st=some (.ret (.bool (!argsR l)),st):=by
 have hlen:=zxb l;have hcl:∀x∈l,zj E 186 ([]++[zo x]++[]) st=some (.ret (.bool (!zmb x 100)),st):=by
  intro x hx;have hwx:=zzb hx;have ih:=texpr_spec x 100 (by omega) (by omega);rw[za]at ih;refine zc rfl rfl rfl (by simp[za]) ?_;simp[zf]at ih
  (simp[*,F186,za,zf])<;>(repeat' ((first|refine sP _ ?_ ?_|refine gP _ ?_ ?_|refine sN _ ?_ ?_|refine gN _ ?_ ?_|refine sM _ ?_ ?_|refine gM _ ?_ ?_|refine sB _ ?_ ?_|refine gB _ ?_ ?_)<;>intro hc<;>simp[*,F186,za,zf]))
 have hc:=containsFuncExpr l (fun x=> !zmb x 100) 186 [] [] st (by omega) (by simp) hcl;have:(l.any fun x=> !zmb x 100)= !argsR l:=by
  unfold argsR;rw[yTa]
 rw[this]at hc;exact hc
set_option maxHeartbeats 16000000 in
theorem tstmt_of(s:Stmt)(m:Int)(hm:m<=1000000)(hw:wtS s<1099509000000)
  (h1:∀m',m'<=1000000->zj E 138 [zg s.thn,.int .i64 m'] []=some (.ret (.bool (zS s.thn m')),[]))
  (h2:∀m',m'<=1000000->zj E 138 [zg s.els,.int .i64 m'] []=some (.ret (.bool (zS s.els m')),[])):
  zj E 166 [zu s,.int .i64 m] []=some (.ret (.bool (zRb s m)),[]):=by
 refine zc rfl rfl rfl (by simp[zb]) ?_;have hs:=shapes_spec [];have hf:=shapes_find s.kind;have ht:=tisType_spec s.type;have hn:=name_spec s.name;have ha:=argsR_all s.args [.mp shapesL] (by rw[zCa]at hw;omega);rw[zCa]at hw;have hla:=zxb s.args;have hlt:=zia s.thn;have hle:=zia s.els;rw[stmtR_eq];unfold headR;have hk:(1<=s.kind/\s.kind<=10)\/(zP s.kind).2.2.1= -1:=by
  by_cases h:1<=s.kind/\s.kind<=10
  ·exact yOa h
  ·right;unfold zP
   repeat' (first|rw[if_neg (by omega)]|rfl)
 by_cases hin:1<=s.kind/\s.kind<=10
 case neg=>
  rw[if_neg hin]at hf;have hneg:(zP s.kind).2.2.1= -1:=by rcases hk with h|h;exact absurd h hin;exact h
  have hne:¬(s.args.length:Int)= -1:=by omega
  have hR:(decide (¬(s.args.length:Int)=(zP s.kind).2.2.1))=true:=by rw[hneg];simp[hne]
  rw[hR];clear hk h1 h2 hR hneg hne hla hlt hle hw ht hn ha hin;simp[*,F166,zb,zf,zg]
 rw[if_pos hin]at hf;have hd:(s.kind=10)->∃e r,s.args=e::r\/¬(s.args.length:Int)=(zP s.kind).2.2.1:=by
  intro hk;rcases he:s.args with _|⟨e,r⟩
  ·refine⟨⟨0,0,0,[],[]⟩,[],yUa ?_⟩;rw[hk];simp[zP]
  ·exact⟨e,r,yOa rfl⟩
 clear hk hin;generalize zP s.kind=q at*;obtain⟨t,nm,n,th,ot⟩:=q;simp only at hf ⊢;have h1':=h1 (m-1) (by omega);have h2':=h2 (m-1) (by omega);clear h1 h2;by_cases hm1:m<1
 ·replace hm1:=eqp hm1;clear h1' h2' ht hn ha hd hla hlt hle hw;simp[*,F166,zb,zf,zg,zSb]
 have hwm:zA .i64 (m-1)=m-1:=zi (by omega) (by omega);replace hm1:=eqn hm1;by_cases hlen:(s.args.length:Int)=n
 case neg=>
  replace hlen:=eqn hlen;clear h1' h2' ht hn ha hd hla hlt hle hw;simp[*,F166,zb,zf,zg,zSb]
 replace hd:(s.kind=10)->∃e r,s.args=e::r:=by
  intro hk;obtain⟨e,r,h|h⟩:=hd hk
  ·exact⟨e,r,h⟩
  ·exact absurd hlen h
 replace hlen:=eqp hlen;have g1:(0<s.thn.length)=¬(s.thn=[]):=by
  rcases s.thn with _|⟨x,r⟩<;>simp
 have g2:(0<s.els.length)=¬(s.els=[]):=by
  rcases s.els with _|⟨x,r⟩<;>simp
 have i1:s.thn.isEmpty=decide (s.thn=[]):=by
  rcases s.thn with _|⟨x,r⟩<;>rfl
 have i2:s.els.isEmpty=decide (s.els=[]):=by
  rcases s.els with _|⟨x,r⟩<;>rfl
 clear hla hlt hle hw;have ht0:(s.type=0)=True->(decide (s.type=1)||decide (s.type=2))=false:=by intro h;rw[of_eq_true h];decide
 generalize(decide (s.type=1)||decide (s.type=2))=tt at*;have hn0:(s.name=[])=True->zbc s.name=false:=by intro h;rw[of_eq_true h];decide
 by_cases hk:s.kind=10
 ·obtain⟨e,r,hel⟩:=hd hk;have hD:doR s.kind s.args=decide (e.kind=7):=by rw[hel];unfold doR;simp[hk]
  have hget:s.args[0]? =some e:=by rw[hel];rfl
  clear hd hel;replace hk:=eqp hk;rw[hD];clear hD;simp[zf,zg]at ha h1' h2'
  (simp[*,F166,zb,zf,zg,zSb,za])<;>(repeat' (first|((first|refine sP _ ?_ ?_|refine gP _ ?_ ?_|refine sN _ ?_ ?_|refine gN _ ?_ ?_)<;>intro hc<;>(first|replace hc:=eqn hc|replace hc:=eqp hc)<;>simp[*,F166,zb,zf,zg,zSb,za])|((first|refine sM _ ?_ ?_|refine gM _ ?_ ?_|refine sB _ ?_ ?_|refine gB _ ?_ ?_)<;>intro hc<;>simp[*,F166,zb,zf,zg,zSb,za])))
  all_goals(intros;first|exact hn0 (by assumption)|exact ht0 (by assumption)|exact⟨ht0 (by assumption),hn0 (by assumption)⟩)
 ·clear hd;replace hk:=eqn hk;have hD:doR s.kind s.args=true:=by unfold doR;simp[hk]
  simp[zf,zg]at ha h1' h2'
  (simp[*,F166,zb,zf,zg,zSb])<;>(repeat' (first|((first|refine sP _ ?_ ?_|refine gP _ ?_ ?_|refine sN _ ?_ ?_|refine gN _ ?_ ?_)<;>intro hc<;>(first|replace hc:=eqn hc|replace hc:=eqp hc)<;>simp[*,F166,zb,zf,zg,zSb])|((first|refine sM _ ?_ ?_|refine gM _ ?_ ?_|refine sB _ ?_ ?_|refine gB _ ?_ ?_)<;>intro hc<;>simp[*,F166,zb,zf,zg,zSb])))
  all_goals(intros;first|exact hn0 (by assumption)|exact ht0 (by assumption)|exact⟨ht0 (by assumption),hn0 (by assumption)⟩)
theorem tstmts_spec':∀w (l:List Stmt) (m:Int),wtSs l<=w->w<1099508500000->m<=1000000->zj E 138 [zg l,.int .i64 m] []=some (.ret (.bool (zS l m)),[])
 |0,l,m,h,hw,hm=>by
  have hl:l=[]:=by
   have:=zia l;exact yz (by omega)
  subst hl;refine zc rfl rfl rfl (by simp[zg]) ?_;have hc:=zMa [] (fun _=>true) 165 [] [.iptr [.int .i64 m] 0] [] (by simp) (by simp) (by simp);simp at hc;simp[*,F138,zg,zS]
 |w+1,l,m,h,hw,hm=>by
  have hlen:=zia l;refine zc rfl rfl rfl (by simp[zg]) ?_;have hcl:∀x∈l,zj E 165 ([]++[zu x]++[.iptr [.int .i64 m] 0]) []=some (.ret (.bool (!zRb x m)),[]):=by
   intro x hx;have hwx:=zmc hx;have hwe:=zCa x;have ih:=tstmt_of x m hm (by omega) (fun m' hm'=>tstmts_spec' w x.thn m' (by omega) (by omega) hm') (fun m' hm'=>tstmts_spec' w x.els m' (by omega) (by omega) hm');rw[zb]at ih;clear hwe hwx hx h hlen;refine zc rfl rfl rfl (by simp[zb]) ?_;simp[zf,zg]at ih
   (simp[*,F165,zb,zf,zg])<;>(repeat' ((first|refine sP _ ?_ ?_|refine gP _ ?_ ?_|refine sN _ ?_ ?_|refine gN _ ?_ ?_|refine sM _ ?_ ?_|refine gM _ ?_ ?_|refine sB _ ?_ ?_|refine gB _ ?_ ?_)<;>intro hc<;>simp[*,F165,zb,zf,zg]))
  have hc:=zMa l (fun x=> !zRb x m) 165 [] [.iptr [.int .i64 m] 0] [] (by omega) (by simp) hcl;have hR:(l.any fun x=> !zRb x m)= !zS l m:=by
   clear hcl hc h hlen
   induction l with
   |nil=>rfl
   |cons x r ih=>simp[zS,ih]
  rw[hR]at hc;clear hcl hR;simp[*,F138,zg]
theorem tstmts_spec(l:List Stmt)(m:Int)(h:wtSs l<1099508000000)(hm:m<=1000000):zj E 138 [zg l,.int .i64 m] []=some (.ret (.bool (zS l m)),[]):=tstmts_spec' (wtSs l) l m (ye _) (by omega) hm
theorem tparam_spec(p:Par)(σ:zd):zj E 135 [encPar p] σ=some (.ret (.bool (!parR p)),σ):=by
 refine zc rfl rfl rfl (by simp[encPar]) ?_;have hn:=name_spec p.name;have ht:=tisType_spec p.type;unfold parR;generalize(decide (p.type=1)||decide (p.type=2))=tt at*
 (simp[*,F135,encPar])<;>(repeat' ((first|refine sP _ ?_ ?_|refine gP _ ?_ ?_|refine sN _ ?_ ?_|refine gN _ ?_ ?_|refine sM _ ?_ ?_|refine gM _ ?_ ?_|refine sB _ ?_ ?_|refine gB _ ?_ ?_)<;>intro hc<;>simp[*,F135,encPar]))
theorem tarr_spec(a:PArr)(σ:zd):zj E 103 [zH a] σ=some (.ret (.bool (!arrR a)),σ):=by
 refine zc rfl rfl rfl (by simp[zH]) ?_;have hn:=name_spec a.name;unfold arrR
 (simp[*,F103,zH])<;>(repeat' ((first|refine sP _ ?_ ?_|refine gP _ ?_ ?_|refine sN _ ?_ ?_|refine gN _ ?_ ?_|refine sM _ ?_ ?_|refine gM _ ?_ ?_|refine sB _ ?_ ?_|refine gB _ ?_ ?_)<;>intro hc<;>simp[*,F103,zH]))
 all_goals(try grind)
theorem tfunc_spec(f:Func)(h:wtSs f.body<1099508000000/\f.params.length<1099509000000):zj E 108 [zl f] []=some (.ret (.bool (zhe f)),[]):=by
 refine zc rfl rfl rfl (by simp[zl]) ?_;have hn:=name_spec f.name;have ht:=tisType_spec f.type;have hc:=containsFuncPar f.params (fun p=> !parR p) 135 [] [] [] (by omega) (by simp) (fun x _=>by simpa using tparam_spec x []);have hs:=tstmts_spec f.body 100 h.1 (by omega);have hp:(f.params.any fun p=> !parR p)= !f.params.all parR:=by rw[yTa]
 rw[hp]at hc;unfold zhe;have h8:decide (f.params.length<=8)=decide ((f.params.length:Int)<=8):=by rw[decide_eq_decide];omega
 rw[h8];generalize(decide (f.type=1)||decide (f.type=2))=tt at*;generalize f.params.all parR=pp at*;clear h hp h8;simp[zg]at hs hc
 (simp[*,F108,zl,parsV,zg])<;>(repeat' (first|((first|refine sP _ ?_ ?_|refine gP _ ?_ ?_|refine sN _ ?_ ?_|refine gN _ ?_ ?_)<;>intro hc<;>(first|replace hc:=eqn hc|replace hc:=eqp hc)<;>simp[*,F108,zl,parsV,zg])|((first|refine sM _ ?_ ?_|refine gM _ ?_ ?_|refine sB _ ?_ ?_|refine gB _ ?_ ?_)<;>intro hc<;>simp[*,F108,zl,parsV,zg])))
theorem tright_spec(p:Prog)(hz:PSz p):zj E 81 [ze p] []=some (.ret (.bool (zdc p)),[]):=by
 obtain⟨z1,z2,z3⟩:=hz;refine zc rfl rfl rfl (by simp[ze]) ?_;have ha:=containsFuncPArr p.arrays (fun a=> !arrR a) 103 [] [] [] (by omega) (by simp) (fun x _=>by simpa using tarr_spec x []);have hcl:∀x∈p.funcs,zj E 107 ([]++[zl x]++[]) []=some (.ret (.bool (!zhe x)),[]):=by
  intro x hx;have:=tfunc_spec x (z3 x hx);refine zc rfl rfl rfl (by simp[zl]) ?_;simp[zl,parsV,zg]at this;clear ha
  (simp[*,F107,zl,parsV,zg])<;>(repeat' ((first|refine sP _ ?_ ?_|refine gP _ ?_ ?_|refine sN _ ?_ ?_|refine gN _ ?_ ?_|refine sM _ ?_ ?_|refine gM _ ?_ ?_|refine sB _ ?_ ?_|refine gB _ ?_ ?_)<;>intro hc<;>simp[*,F107,zl,parsV,zg]))
 have hf:=containsFuncFunc p.funcs (fun x=> !zhe x) 107 [] [] [] (by omega) (by simp) hcl;have e1:(p.arrays.any fun p=> !arrR p)= !p.arrays.all arrR:=by rw[yTa]
 have e2:(p.funcs.any fun p=> !zhe p)= !p.funcs.all zhe:=by rw[yTa]
 rw[e1]at ha;rw[e2]at hf;unfold zdc;generalize p.arrays.all arrR=x at*;generalize p.funcs.all zhe=y at*;clear e1 e2 hcl z1 z2 z3
 (simp[*,F81,ze,zZ,funcs])<;>(repeat' ((first|refine sP _ ?_ ?_|refine gP _ ?_ ?_|refine sN _ ?_ ?_|refine gN _ ?_ ?_|refine sM _ ?_ ?_|refine gM _ ?_ ?_|refine sB _ ?_ ?_|refine gB _ ?_ ?_)<;>intro hc<;>simp[*,F81,ze,zZ,funcs]))
structure Vr where
 name:List UInt8
 type:Int
 depth:Int
def znb:List Vr->PV
 | []=> .nilp
 |v::r=> .iptr [.str v.name,.int .i64 v.type,znb r,.int .i64 v.depth] 0
@[simp] theorem encVs_nil:znb []= .nilp:=yd rfl rfl
theorem zjc(v:Vr)(r:List Vr):znb (v::r)= .iptr [.str v.name,.int .i64 v.type,znb r,.int .i64 v.depth] 0:=yd rfl rfl
section
variable (l:List Vr)
@[simp high] theorem isVar_vs:zE (znb l)=true:=by cases l<;>rfl
@[simp high] theorem canon1_vs:canon1 (znb l)=znb l:=by cases l<;>rfl
@[simp high] theorem strip_vs:strip (znb l)=znb l:=by cases l<;>rfl
@[simp high] theorem stripA_vs:stripA (znb l)=znb l:=by cases l<;>rfl
@[simp high] theorem cellsOf_vs:cellsOf (znb l)=[znb l]:=by cases l<;>rfl
@[simp high] theorem avoids_vs(dead:List Nat):zBc dead (znb l)=true:=by cases l<;>rfl
@[simp high] theorem below_vs(n:Nat):zz n (znb l)=true:=by
 induction l with
 |nil=>rfl
 |cons v r ih=>rw[zjc];simp[ih]
@[simp] theorem vs_ne_nil(ks:List Nat):zla 3 ks .neq (znb l) .nilp=some (.bool (!decide (l=[]))):=by cases l<;>simp[zjc]
end
def zKa(s:List Vr)(nm:List UInt8):List Vr:=s.dropWhile fun v=>decide (¬v.name=nm)
theorem zgc(v:Vr)(r:List Vr)(nm:List UInt8):zKa (v::r) nm=if v.name=nm then v::r else zKa r nm:=by
 unfold zKa;by_cases h:v.name=nm<;>simp[h]
theorem find_spec(s:List Vr)(nm:List UInt8)(σ:zd):zj E 170 [znb s,.str nm] σ=some (.ret (znb (zKa s nm)),σ):=by
 refine zc rfl rfl rfl (by simp) ?_;simp[F170];refine zU K170_0 B170_0 (fun c:List Vr=>c.length) (fun c=>[(0,znb c)]) (fun c=>[]) (fun c=>σ) (fun c=>zKa c nm=zKa s nm) s (by simp) ?_
 rintro c s1 hc h1 h2 h3 h4 h5
 simp at h1 h3 h5;clear h2 h4;cases c with
 |nil=>
  rw[<-hc];simp at h3;clear hc;simp[*,zKa]
 |cons v r=>
  rw[zjc]at h3;rw[zgc]at hc;by_cases hn:v.name=nm
  ·rw[if_pos hn]at hc;rw[<-hc,zjc];replace hn:=eqp hn;clear hc
   (simp[*])<;>(repeat' (first|((first|refine sP _ ?_ ?_|refine gP _ ?_ ?_|refine sN _ ?_ ?_|refine gN _ ?_ ?_)<;>intro hc<;>(first|replace hc:=eqn hc|replace hc:=eqp hc)<;>simp[*])|((first|refine sM _ ?_ ?_|refine gM _ ?_ ?_|refine sB _ ?_ ?_|refine gB _ ?_ ?_)<;>intro hc<;>simp[*])))
  ·rw[if_neg hn]at hc;replace hn:=eqn hn;simp[*];exact⟨r,by simp,rfl,hc⟩
theorem with_spec(s:List Vr)(p:Par)(d:Int)(σ:zd):zj E 111 [znb s,encPar p,.int .i64 d] σ=some (.ret (znb (⟨p.name,p.type,d⟩::s)),σ):=by
 refine zc rfl rfl rfl (by simp[encPar]) ?_;simp[F111,encPar,zjc]
def zca(l:List Par):List Vr:=l.foldl (fun s p=>⟨p.name,p.type,0⟩::s) []
theorem zQd(l:List Par)(p:Par):zca (l++[p])=⟨p.name,p.type,0⟩::zca l:=by simp[zca]
theorem scoped_spec(l:List Par)(σ:zd)(hl:l.length<1099511627776):zj E 85 [parsV l] σ=some (.ret (znb (zca l)),σ):=by
 refine zc rfl rfl rfl (by simp[parsV]) ?_;simp[F85,parsV];refine zD l K85_0 B85_0 (fun d=>[(2,znb (zca d)),(7,.int .i64 d.length)]) (fun _=>σ) (fun d=>True) (by omega) (by simp[zca]) ?_ ?_
 ·intros d x r s1 hl' hlt hget hget' hw hp h1 h2 h3 h4;simp at h1 h2 h3;have hwi:=with_spec (zca d) x 0 σ;simp[encPar]at hwi;simp[*,encPar,zQd]
 ·intros s1 hp h1 h2 h3 h4;simp at h1 h2 h3;simp[*]
theorem zve(ok:Bool)(e:Int)(σ:zd):zj E 142 [.bool ok,.int .i64 e] σ=some (.ret (.int .i64 (if ok then 0 else e)),σ):=by
 refine zc rfl rfl rfl (by simp) ?_
 (simp[*,F142])<;>(repeat' ((first|refine sP _ ?_ ?_|refine gP _ ?_ ?_|refine sN _ ?_ ?_|refine gN _ ?_ ?_|refine sM _ ?_ ?_|refine gM _ ?_ ?_|refine sB _ ?_ ?_|refine gB _ ?_ ?_)<;>intro hc<;>simp[*,F142]))
def takesT(op t:Int):Int×Bool:=
 if op=18\/op=19\/op=22 then(2,decide (t=2))
 else if op=16\/op=17 then(2,true)
 else if op=12\/op=13\/op=14\/op=15 then(2,decide (t=1))
 else(1,decide (t=1))
set_option maxHeartbeats 1000000 in
theorem takes_spec(op t:Int)(σ:zd):zj E 188 [.int .i64 op,.int .i64 t] σ=some (.ret (.tup [.int .i64 (takesT op t).1,.bool (takesT op t).2]),σ):=by
 refine zc rfl rfl rfl (by simp) ?_;unfold takesT
 (simp[*,F188])<;>(repeat' (first|((first|refine sP _ ?_ ?_|refine gP _ ?_ ?_|refine sN _ ?_ ?_|refine gN _ ?_ ?_)<;>intro hc<;>(first|replace hc:=eqn hc|replace hc:=eqp hc)<;>simp[*,F188])|((first|refine sM _ ?_ ?_|refine gM _ ?_ ?_|refine sB _ ?_ ?_|refine gB _ ?_ ?_)<;>intro hc<;>simp[*,F188])))
theorem zAd{α:Type}(p:α->Bool)(l:List α):(idx p l= -1/\l.find? p=none)\/∃(n:Nat) (f:α),idx p l=n/\l[n]? =some f/\l.find? p=some f/\n<l.length/\p f=true:=by
 induction l with
 |nil=>left;exact⟨rfl,rfl⟩
 |cons x r ih=>
  cases hx:p x
  ·rcases ih with⟨h1,h2⟩|⟨n,f,h1,h2,h3,h4,h5⟩
   ·left;refine⟨?_,by simp[hx,h2]⟩;refine zWd fun y hy=>?_
    rcases yB.1 hy with rfl|hy
    ·exact hx
    ·have:=yba.1 h2 y hy;simpa using this
   ·right;refine⟨n+1,f,?_,by simpa using h2,by simp[hx,h3],by simp;omega,h5⟩;have:(x::r).findIdx? p=(r.findIdx? p).map (· +1):=by simp[List.findIdx?_cons,hx]
    unfold idx at h1 ⊢;rw[this];cases h:r.findIdx? p with
    |none=>rw[h]at h1;simp at h1<;>omega
    |some i=>rw[h]at h1;simp at h1 ⊢ <;>omega
  ·right;refine⟨0,x,?_,rfl,by simp[hx],by simp,hx⟩;unfold idx;simp[List.findIdx?_cons,hx]
def zya(p:Prog)(nm:List UInt8):Int:=idx (fun f:Func=>decide (f.name=nm)) p.funcs
def zdb(p:Prog)(nm:List UInt8):Int:=idx (fun f:PArr=>decide (f.name=nm)) p.arrays
theorem place_spec(p:Prog)(nm:List UInt8)(σ:zd)(hl:p.funcs.length<1099511627776):zj E 109 [ze p,.str nm] σ=some (.ret (.int .i64 (zya p nm)),σ):=by
 refine zc rfl rfl rfl (by simp[ze]) ?_;have hcl:∀x∈p.funcs,zj E 139 ([]++[zl x]++[.iptr [.str nm] 0]) σ=some (.ret (.bool (decide (x.name=nm))),σ):=by
  intro x hx;refine zc rfl rfl rfl (by simp[zl]) ?_;simp[F139,zl]
 have h:=indexFuncFunc p.funcs _ 139 [] [.iptr [.str nm] 0] σ hl hcl;clear hcl;simp[*,F109,ze,zZ,funcs,zya]
theorem array_spec(p:Prog)(nm:List UInt8)(σ:zd)(hl:p.arrays.length<1099511627776):zj E 171 [ze p,.str nm] σ=some (.ret (.int .i64 (zdb p nm)),σ):=by
 refine zc rfl rfl rfl (by simp[ze]) ?_;have hcl:∀x∈p.arrays,zj E 191 ([]++[zH x]++[.iptr [.str nm] 0]) σ=some (.ret (.bool (decide (x.name=nm))),σ):=by
  intro x hx;refine zc rfl rfl rfl (by simp[zH]) ?_;simp[F191,zH]
 have h:=indexFuncPArr p.arrays _ 191 [] [.iptr [.str nm] 0] σ hl hcl;clear hcl;simp[*,F171,ze,zZ,funcs,zdb]
def zfc(p:Prog)(nm:List UInt8):Option Func:=p.funcs.find? fun f:Func=>decide (f.name=nm)
def zUb(p:Prog)(nm:List UInt8):Bool:=p.arrays.any fun a:PArr=>decide (a.name=nm)
def zec(p:Prog)(s:List Vr)(k:Int)(nm:List UInt8)(a:Nat):Int:=
 if k=3 then(if zKa s nm=[]then 50 else 0)
 else if k=6 then(if zUb p nm then 0 else 50)
 else if k=7 then(match zfc p nm with
  |none=>50
  |some f=>if f.params.length=a then 0 else 51)
 else 0
structure Fit(p:Prog):Prop where
 a:p.arrays.length<1099509000000
 f:p.funcs.length<1099509000000
 p:∀f∈p.funcs,f.params.length<1099509000000
theorem namedT_spec(p:Prog)(s:List Vr)(e:Expr)(σ:zd)(hz:Fit p)(hw:wtE e<1099510000000):zj E 167 [ze p,znb s,zo e] σ=some (.ret (.int .i64 (zec p s e.kind e.name e.args.length)),σ):=by
 have hla:=zxb e.args;rw[zed]at hw;refine zc rfl rfl rfl (by simp[ze,za]) ?_;unfold zec;by_cases k3:e.kind=3
 ·replace k3:=eqp k3;have h1:=find_spec s e.name σ;have h2:=zve (!decide (zKa s e.name=[])) 50 [];by_cases hn:zKa s e.name=[]
  ·replace hn:=eqp hn;simp[hn]at h2
   (simp[*,F167,ze,za])<;>(repeat' (first|((first|refine sP _ ?_ ?_|refine gP _ ?_ ?_|refine sN _ ?_ ?_|refine gN _ ?_ ?_)<;>intro hc<;>(first|replace hc:=eqn hc|replace hc:=eqp hc)<;>simp[*,F167,ze,za])|((first|refine sM _ ?_ ?_|refine gM _ ?_ ?_|refine sB _ ?_ ?_|refine gB _ ?_ ?_)<;>intro hc<;>simp[*,F167,ze,za])))
  ·replace hn:=eqn hn;simp[hn]at h2
   (simp[*,F167,ze,za])<;>(repeat' (first|((first|refine sP _ ?_ ?_|refine gP _ ?_ ?_|refine sN _ ?_ ?_|refine gN _ ?_ ?_)<;>intro hc<;>(first|replace hc:=eqn hc|replace hc:=eqp hc)<;>simp[*,F167,ze,za])|((first|refine sM _ ?_ ?_|refine gM _ ?_ ?_|refine sB _ ?_ ?_|refine gB _ ?_ ?_)<;>intro hc<;>simp[*,F167,ze,za])))
 replace k3:=eqn k3;by_cases k6:e.kind=6
 ·replace k6:=eqp k6;have h1:=array_spec p e.name [] (by have:=hz.a;omega);have h3:=idx_ge (fun f:PArr=>decide (f.name=e.name)) p.arrays;have h2:=zve (zUb p e.name) 50 [];have h4:decide (0<=zdb p e.name)=zUb p e.name:=h3;simp[ze]at h1;generalize zUb p e.name=b at*;clear h3;cases b
  ·simp at h2 h4;replace h4:(0<=zdb p e.name)=False:=by simpa using h4
   (simp[*,F167,ze,za])<;>(repeat' (first|((first|refine sP _ ?_ ?_|refine gP _ ?_ ?_|refine sN _ ?_ ?_|refine gN _ ?_ ?_)<;>intro hc<;>(first|replace hc:=eqn hc|replace hc:=eqp hc)<;>simp[*,F167,ze,za])|((first|refine sM _ ?_ ?_|refine gM _ ?_ ?_|refine sB _ ?_ ?_|refine gB _ ?_ ?_)<;>intro hc<;>simp[*,F167,ze,za])))
  ·simp at h2 h4;replace h4:(0<=zdb p e.name)=True:=by simpa using h4
   (simp[*,F167,ze,za])<;>(repeat' (first|((first|refine sP _ ?_ ?_|refine gP _ ?_ ?_|refine sN _ ?_ ?_|refine gN _ ?_ ?_)<;>intro hc<;>(first|replace hc:=eqn hc|replace hc:=eqp hc)<;>simp[*,F167,ze,za])|((first|refine sM _ ?_ ?_|refine gM _ ?_ ?_|refine sB _ ?_ ?_|refine gB _ ?_ ?_)<;>intro hc<;>simp[*,F167,ze,za])))
 replace k6:=eqn k6;by_cases k7:e.kind=7
 ·replace k7:=eqp k7;have h1:=place_spec p e.name [] (by have:=hz.f;omega);simp[ze,funcs]at h1;rcases zAd (fun f:Func=>decide (f.name=e.name)) p.funcs with⟨a1,a2⟩|⟨n,f,a1,a2,a3,a4,a5⟩
  ·have a1:zya p e.name= -1:=a1;have a2:zfc p e.name=none:=a2;rw[a1]at h1
   (simp[*,F167,ze,za,funcs])<;>(repeat' (first|((first|refine sP _ ?_ ?_|refine gP _ ?_ ?_|refine sN _ ?_ ?_|refine gN _ ?_ ?_)<;>intro hc<;>(first|replace hc:=eqn hc|replace hc:=eqp hc)<;>simp[*,F167,ze,za,funcs])|((first|refine sM _ ?_ ?_|refine gM _ ?_ ?_|refine sB _ ?_ ?_|refine gB _ ?_ ?_)<;>intro hc<;>simp[*,F167,ze,za,funcs])))
  ·have a1:zya p e.name=n:=a1;have a3:zfc p e.name=some f:=a3;rw[a1]at h1;have hp:=hz.p f (yR a2);have hf:=hz.f;have n0:¬((n:Int)<0):=by omega
   have hlen:decide ((f.params.length:Int)=e.args.length)=decide (f.params.length=e.args.length):=by rw[decide_eq_decide];omega
   have h2:=zve (decide (f.params.length=e.args.length)) 51 [];by_cases hq:f.params.length=e.args.length
   ·replace hq:=eqp hq;simp[hq]at h2 hlen;replace hlen:=eqp hlen;clear a5 a4 a1
    (simp[*,F167,ze,za,funcs,zf,zl,parsV])<;>(repeat' (first|((first|refine sP _ ?_ ?_|refine gP _ ?_ ?_|refine sN _ ?_ ?_|refine gN _ ?_ ?_)<;>intro hc<;>(first|replace hc:=eqn hc|replace hc:=eqp hc)<;>simp[*,F167,ze,za,funcs,zf,zl,parsV])|((first|refine sM _ ?_ ?_|refine gM _ ?_ ?_|refine sB _ ?_ ?_|refine gB _ ?_ ?_)<;>intro hc<;>simp[*,F167,ze,za,funcs,zf,zl,parsV])))
   ·replace hq:=eqn hq;simp[hq]at h2 hlen;replace hlen:((f.params.length:Int)=e.args.length)=False:=by simpa using hlen
    clear a5 a4 a1
    (simp[*,F167,ze,za,funcs,zf,zl,parsV])<;>(repeat' (first|((first|refine sP _ ?_ ?_|refine gP _ ?_ ?_|refine sN _ ?_ ?_|refine gN _ ?_ ?_)<;>intro hc<;>(first|replace hc:=eqn hc|replace hc:=eqp hc)<;>simp[*,F167,ze,za,funcs,zf,zl,parsV])|((first|refine sM _ ?_ ?_|refine gM _ ?_ ?_|refine sB _ ?_ ?_|refine gB _ ?_ ?_)<;>intro hc<;>simp[*,F167,ze,za,funcs,zf,zl,parsV])))
 replace k7:=eqn k7
 (simp[*,F167,ze,za])<;>(repeat' (first|((first|refine sP _ ?_ ?_|refine gP _ ?_ ?_|refine sN _ ?_ ?_|refine gN _ ?_ ?_)<;>intro hc<;>(first|replace hc:=eqn hc|replace hc:=eqp hc)<;>simp[*,F167,ze,za])|((first|refine sM _ ?_ ?_|refine gM _ ?_ ?_|refine sB _ ?_ ?_|refine gB _ ?_ ?_)<;>intro hc<;>simp[*,F167,ze,za])))
theorem param_eq_spec(t:Int)(p:Par)(σ:zd):zj E 190 [.int .i64 t,encPar p] σ=some (.ret (.bool (decide (t=p.type))),σ):=by
 refine zc rfl rfl rfl (by simp[encPar]) ?_;simp[F190,encPar]
theorem types_eq{l:List Int}{ps:List Par}(h:l.length=ps.length):decide (l=ps.map (·.type))=(l.zip ps).all fun x=>decide (x.1=x.2.type):=by
 induction l generalizing ps with
 |nil=>cases ps<;>simp at h ⊢
 |cons x r ih=>
  cases ps with
  |nil=>simp at h
  |cons y q=>
   simp at h;simp only[List.zip_cons_cons,yta,<-ih h,yv,List.cons.injEq,Bool.decide_and]
theorem equal_spec(l:List Int)(ps:List Par)(σ:zd)(hl:ps.length<1099511000000):zj E 189 [.slice .plain 1 (l.map (PV.int .i64)),parsV ps,.fn 190 [] []] σ=some (.ret (.bool (decide (l=ps.map (·.type)))),σ):=by
 refine zc rfl rfl rfl (by simp[parsV]) ?_;by_cases hlen:l.length=ps.length
 ·have he:=types_eq hlen;rw[he];have hleni:((l.length:Int)=ps.length)=True:=eqp (by omega);simp[F189,parsV,hleni];clear he hleni;refine zD (l.zip ps) K189_0 B189_0 (fun d=>[(17,.int .i64 d.length)]) (fun _=>σ) (fun d=>(d.all fun x=>decide (x.1=x.2.type))=true) (by simp;omega) (by simp) ?_ ?_
  ·intros d x r s1 hl' hlt hget hget' hw hp h1 h2 h3 h4;simp at h1 h2 h3;have hz:(l.zip ps)[d.length]? =some x:=hget;rw[List.getElem?_zip_eq_some]at hz;obtain⟨z1,z2⟩:=hz;obtain⟨x1,x2⟩:=x;simp only at z1 z2;have hc:=param_eq_spec x1 x2 σ;simp[encPar]at hc;have hz2:(l.zip ps).length=l.length:=by simp[hlen]
   have hlt':(d.length:Int)<ps.length:=by rw[hz2]at hlt;omega
   clear hget' hlt hz2;by_cases hx:x1=x2.type
   ·replace hp:((d++[(x1,x2)]).all fun x=>decide (x.1=x.2.type))=true:=by rw[yX,hp];simp[hx]
    replace hx:=eqp hx;clear hl' hget;simp[*,encPar]
    all_goals(try grind)
   ·have hf:((l.zip ps).all fun x=>decide (x.1=x.2.type))=false:=by rw[hl'.eq];simp[hx]
    replace hx:=eqn hx;clear hl' hget hp;simp[*,encPar]
    all_goals(try grind)
  ·intros s1 hp h1 h2 h3 h4;simp at h1 h2 h3;have hz2:(l.zip ps).length=l.length:=by simp[hlen]
   simp[*]
   all_goals(try grind)
 ·have hq:¬(l=ps.map (·.type)):=by intro h;apply hlen;rw[h];simp
  have hleni:((l.length:Int)=ps.length)=False:=eqn (by omega);replace hq:=eqn hq;simp[*,F189,parsV]
def at0(l:List Int):Int:=l[0]?.getD 0
def at1(l:List Int):Int:=l[1]?.getD 0
def zre(p:Prog)(s:List Vr)(k o:Int)(nm:List UInt8)(l:List Int):Int×Bool:=
 if k=2 then(2,true)
 else if k=3 then(((zKa s nm).head?.map (·.type)).getD 0,true)
 else if k=6 then(1,decide (at0 l=1))
 else if k=4 then takesT o (at0 l)
 else if k=5 then((takesT o (at0 l)).1,(takesT o (at0 l)).2&&decide (at0 l=at1 l))
 else if k=7 then(match zfc p nm with
  |none=>(0,false)
  |some f=>(f.type,decide (l=f.params.map (·.type))))
 else(1,true)
set_option maxHeartbeats 4000000 in
theorem madeT_spec(p:Prog)(s:List Vr)(e:Expr)(l:List Int)(σ:zd)(hz:Fit p)(h0:zec p s e.kind e.name e.args.length=0)(hk:kindR e.kind e.op e.n e.name l.length=true):zj E 169 [ze p,znb s,zo e,.slice .plain 1 (l.map (PV.int .i64))] σ=some (.ret (.tup [.int .i64 (zre p s e.kind e.op e.name l).1,.bool (zre p s e.kind e.op e.name l).2]),σ):=by
 refine zc rfl rfl rfl (by simp[ze,za]) ?_;unfold zre;by_cases k2:e.kind=2
 ·replace k2:=eqp k2;clear h0 hk
  (simp[*,F169,ze,za])<;>(repeat' (first|((first|refine sP _ ?_ ?_|refine gP _ ?_ ?_|refine sN _ ?_ ?_|refine gN _ ?_ ?_)<;>intro hc<;>(first|replace hc:=eqn hc|replace hc:=eqp hc)<;>simp[*,F169,ze,za])|((first|refine sM _ ?_ ?_|refine gM _ ?_ ?_|refine sB _ ?_ ?_|refine gB _ ?_ ?_)<;>intro hc<;>simp[*,F169,ze,za])))
 by_cases k3:e.kind=3
 ·have h1:=find_spec s e.name σ;have hn:¬zKa s e.name=[]:=by
   intro h;unfold zec at h0;rw[if_pos k3,if_pos h]at h0;exact absurd h0 (by decide)
  obtain⟨v,r,hv⟩:=List.exists_cons_of_ne_nil hn;rw[hv,zjc]at h1;replace k2:=eqn k2;replace k3:=eqp k3;clear h0 hk hn
  (simp[*,F169,ze,za])<;>(repeat' (first|((first|refine sP _ ?_ ?_|refine gP _ ?_ ?_|refine sN _ ?_ ?_|refine gN _ ?_ ?_)<;>intro hc<;>(first|replace hc:=eqn hc|replace hc:=eqp hc)<;>simp[*,F169,ze,za])|((first|refine sM _ ?_ ?_|refine gM _ ?_ ?_|refine sB _ ?_ ?_|refine gB _ ?_ ?_)<;>intro hc<;>simp[*,F169,ze,za])))
 by_cases k6:e.kind=6
 ·have hl:l.length=1:=by
   unfold kindR at hk;simp[k2,k3,k6]at hk;exact hk.2.2
  obtain⟨x,rfl⟩:=yN.1 hl;replace k2:=eqn k2;replace k3:=eqn k3;replace k6:=eqp k6;clear h0 hk hl
  (simp[*,F169,ze,za,at0])<;>(repeat' (first|((first|refine sP _ ?_ ?_|refine gP _ ?_ ?_|refine sN _ ?_ ?_|refine gN _ ?_ ?_)<;>intro hc<;>(first|replace hc:=eqn hc|replace hc:=eqp hc)<;>simp[*,F169,ze,za,at0])|((first|refine sM _ ?_ ?_|refine gM _ ?_ ?_|refine sB _ ?_ ?_|refine gB _ ?_ ?_)<;>intro hc<;>simp[*,F169,ze,za,at0])))
 by_cases k4:e.kind=4
 ·have hl:l.length=1:=by
   unfold kindR at hk;simp[k2,k3,k6,k4]at hk;exact hk.2.2.2
  obtain⟨x,rfl⟩:=yN.1 hl;have ht:=takes_spec e.op x [];replace k2:=eqn k2;replace k3:=eqn k3;replace k6:=eqn k6;replace k4:=eqp k4;clear h0 hk hl
  (simp[*,F169,ze,za,at0])<;>(repeat' (first|((first|refine sP _ ?_ ?_|refine gP _ ?_ ?_|refine sN _ ?_ ?_|refine gN _ ?_ ?_)<;>intro hc<;>(first|replace hc:=eqn hc|replace hc:=eqp hc)<;>simp[*,F169,ze,za,at0])|((first|refine sM _ ?_ ?_|refine gM _ ?_ ?_|refine sB _ ?_ ?_|refine gB _ ?_ ?_)<;>intro hc<;>simp[*,F169,ze,za,at0])))
 by_cases k5:e.kind=5
 ·have hl:l.length=2:=by
   unfold kindR at hk;simp[k2,k3,k6,k4,k5]at hk;exact hk.2.2.2
  obtain⟨x,y,rfl⟩:∃x y,l=[x,y]:=by
   match l,hl with
   | [x,y],_=>exact⟨x,y,rfl⟩
  have ht:=takes_spec e.op x [];replace k2:=eqn k2;replace k3:=eqn k3;replace k6:=eqn k6;replace k4:=eqn k4;replace k5:=eqp k5;clear h0 hk hl
  (simp[*,F169,ze,za,at0,at1])<;>(repeat' (first|((first|refine sP _ ?_ ?_|refine gP _ ?_ ?_|refine sN _ ?_ ?_|refine gN _ ?_ ?_)<;>intro hc<;>(first|replace hc:=eqn hc|replace hc:=eqp hc)<;>simp[*,F169,ze,za,at0,at1])|((first|refine sM _ ?_ ?_|refine gM _ ?_ ?_|refine sB _ ?_ ?_|refine gB _ ?_ ?_)<;>intro hc<;>simp[*,F169,ze,za,at0,at1])))
 by_cases k7:e.kind=7
 ·have h1:=place_spec p e.name [] (by have:=hz.f;omega);simp[ze,funcs]at h1;rcases zAd (fun f:Func=>decide (f.name=e.name)) p.funcs with⟨a1,a2⟩|⟨n,f,a1,a2,a3,a4,a5⟩
  ·have a2:zfc p e.name=none:=a2;unfold zec at h0;rw[if_neg k3,if_neg k6,if_pos k7,a2]at h0;exact absurd h0 (by simp)
  ·have a1:zya p e.name=n:=a1;have a3:zfc p e.name=some f:=a3;rw[a1]at h1;have hq:=equal_spec l f.params σ (by have:=hz.p f (yR a2);omega);simp[parsV]at hq;have n0:¬((n:Int)<0):=by omega
   replace k2:=eqn k2;replace k3:=eqn k3;replace k6:=eqn k6;replace k4:=eqn k4;replace k5:=eqn k5;replace k7:=eqp k7;clear h0 hk a5 a4 a1
   (simp[*,F169,ze,za,funcs,zl,parsV,zg])<;>(repeat' (first|((first|refine sP _ ?_ ?_|refine gP _ ?_ ?_|refine sN _ ?_ ?_|refine gN _ ?_ ?_)<;>intro hc<;>(first|replace hc:=eqn hc|replace hc:=eqp hc)<;>simp[*,F169,ze,za,funcs,zl,parsV,zg])|((first|refine sM _ ?_ ?_|refine gM _ ?_ ?_|refine sB _ ?_ ?_|refine gB _ ?_ ?_)<;>intro hc<;>simp[*,F169,ze,za,funcs,zl,parsV,zg])))
 replace k2:=eqn k2;replace k3:=eqn k3;replace k6:=eqn k6;replace k4:=eqn k4;replace k5:=eqn k5;replace k7:=eqn k7;clear h0 hk
 (simp[*,F169,ze,za])<;>(repeat' (first|((first|refine sP _ ?_ ?_|refine gP _ ?_ ?_|refine sN _ ?_ ?_|refine gN _ ?_ ?_)<;>intro hc<;>(first|replace hc:=eqn hc|replace hc:=eqp hc)<;>simp[*,F169,ze,za])|((first|refine sM _ ?_ ?_|refine gM _ ?_ ?_|refine sB _ ?_ ?_|refine gB _ ?_ ?_)<;>intro hc<;>simp[*,F169,ze,za])))
mutual
def zXb(p:Prog)(s:List Vr):Expr->Int×Int
 |⟨k,o,n,nm,a⟩=>
  if zec p s k nm a.length≠0 then(0,zec p s k nm a.length)
  else if(zob p s a).2≠0 then(0,(zob p s a).2)
  else if(zre p s k o nm (zob p s a).1).2 then((zre p s k o nm (zob p s a).1).1,0)else(0,51)
def zob(p:Prog)(s:List Vr):List Expr->List Int×Int
 | []=>([],0)
 |x::r=>if(zXb p s x).2≠0 then([],(zXb p s x).2)else if(zob p s r).2≠0 then([],(zob p s r).2)else((zXb p s x).1::(zob p s r).1,0)
end
theorem exprT_eq(p:Prog)(s:List Vr)(e:Expr):zXb p s e=if zec p s e.kind e.name e.args.length≠0 then(0,zec p s e.kind e.name e.args.length)
  else if(zob p s e.args).2≠0 then(0,(zob p s e.args).2)
  else if(zre p s e.kind e.op e.name (zob p s e.args).1).2 then((zre p s e.kind e.op e.name (zob p s e.args).1).1,0)else(0,51):=by
 cases e;rw[zXb]
theorem argsT_len(p:Prog)(s:List Vr):∀l,(zob p s l).2=0->(zob p s l).1.length=l.length
 | [],_=>by simp[zob]
 |x::r,h=>by
  simp only[zob]at h ⊢;split at h
  ·rename_i h1;exact absurd h h1
  rename_i h1;rw[if_neg h1];split at h
  ·rename_i h2;exact absurd h h2
  rename_i h2;rw[if_neg h2];simp only[yj];rw[argsT_len p s r (by simpa using h2)]
theorem argsT_pre(p:Prog)(s:List Vr)(x:Expr)(r:List Expr):∀d,(zob p s d).2=0→
  ((zXb p s x).2≠0->zob p s (d++x::r)=([],(zXb p s x).2))/\((zXb p s x).2=0->zob p s (d++[x])=((zob p s d).1++[(zXb p s x).1],0))
 | [],h=>by
  constructor
  ·intro hx;simp[zob,hx]
  ·intro hx;simp[zob,hx]
 |y::d,h=>by
  simp only[zob]at h;split at h
  ·rename_i h1;exact absurd h h1
  rename_i h1;split at h
  ·rename_i h2;exact absurd h h2
  rename_i h2;obtain⟨i1,i2⟩:=argsT_pre p s x r d (by simpa using h2);constructor
  ·intro hx;have:=i1 hx;simp only[yU,zob];rw[if_neg h1,this];simp[hx]
  ·intro hx;have:=i2 hx;simp only[yU,zob];rw[if_neg h1,if_neg h2,this,if_neg h1];simp
def zeb(r:Int×Int):PV:= .tup [.int .i64 r.1,.int .i64 r.2]
set_option maxHeartbeats 4000000 in
theorem targs_of(p:Prog)(s:List Vr)(e:Expr)(m:Int)(σ:zd)(hz:Fit p)(hw:wtE e<1099510000000)(hm:zWb e.args m=true)
  (IH:∀x∈e.args,∀m,zmb x m=true->zj E 141 [ze p,znb s,zo x] σ=some (.ret (zeb (zXb p s x)),σ)):
  zj E 168 [ze p,znb s,zo e] σ=some (.ret (.tup [.slice .plain 1 ((zob p s e.args).1.map (PV.int .i64)),.int .i64 (zob p s e.args).2]),σ):=by
 have hla:=zxb e.args;rw[zed]at hw;refine zc rfl rfl rfl (by simp[ze,za]) ?_;simp[F168,ze,za,zf];refine zD e.args K168_0 B168_0 (fun d=>[(6,acc 1 ((zob p s d).1.map (PV.int .i64))),(15,.int .i64 d.length)]) (fun _=>σ) (fun d=>(zob p s d).2=0) (by omega) (by simp[zob]) ?_ ?_
 ·intros d x r s1 hl' hlt hget hget' hw1 hp h1 h2 h3 h4;have hx:zmb x (m-1)=true:=by
   rw[exprsR_all,yu]at hm;have:=hm x hl'.mem;simp at this;exact this.2
  have ih:=IH x hl'.mem _ hx;have hlen:=argsT_len p s d hp;obtain⟨f1,f2⟩:=argsT_pre p s x r d hp;rw[<-hl'.eq]at f1;clear IH hm hx hl';simp[zeb,ze]at ih;rw[za]at ih;simp[zf]at ih;simp at h1 h2 h3;have hroom:(d.length+1)*8<=zn:=by simp only[zn];omega
  generalize zXb p s x=q at*;obtain⟨t,f⟩:=q;simp only at ih f1 f2;by_cases hf:f=0
  ·subst hf;have f2:=f2 rfl;clear f1;simp[*,za,zf]
   all_goals(try grind)
  ·have f1:=f1 hf;clear f2;replace hf:=eqn hf;simp[*,za,zf]
 ·intros s1 hp h1 h2 h3 h4;simp at h1 h2 h3;clear IH hm;simp[*]
theorem type_spec':∀w (p:Prog) (s:List Vr) (e:Expr) (m:Int) (σ:zd),Fit p->wtE e<=w->w<1099510000000->zmb e m=true->zj E 141 [ze p,znb s,zo e] σ=some (.ret (zeb (zXb p s e)),σ)
 |0,p,s,e,m,σ,_,h,_,_=>by rw[zed]at h;omega
 |w+1,p,s,e,m,σ,hz,h,hw,hR=>by
  rw[exprR_eq,yb]at hR;obtain⟨hm,hk⟩:=hR;have ha:=targs_of p s e m σ hz (by omega) hm (fun x hx m' hm'=>type_spec' w p s x m' σ hz (by have:=zzb hx;rw[zed]at h;omega) (by omega) hm');have hn:=namedT_spec p s e σ hz (by omega);have hmd:=madeT_spec p s e (zob p s e.args).1 σ hz;have hlen:=argsT_len p s e.args;refine zc rfl rfl rfl (by simp[ze,za]) ?_;rw[exprT_eq];generalize zec p s e.kind e.name e.args.length=f at*;by_cases hf:f=0
  ·replace hmd:=hmd hf;subst hf;generalize zob p s e.args=q at*;obtain⟨l,g⟩:=q;simp only at ha hmd hlen ⊢;by_cases hg:g=0
   ·subst hg;rw[<-hlen rfl]at hk;replace hmd:=hmd hk;generalize zre p s e.kind e.op e.name l=r at*;obtain⟨t,ok⟩:=r;simp only at hmd ⊢;clear hlen hk hm h;rw[za]at ha hn hmd;simp[ze,zf]at ha hn hmd;cases ok<;>simp[*,F141,ze,za,zf,zeb]
   ·clear hmd hlen hk hm h;replace hg:=eqn hg;rw[za]at ha hn;simp[ze,zf]at ha hn;simp[*,F141,ze,za,zf,zeb]
  ·clear hmd hlen hk hm h ha;replace hf:=eqn hf;rw[za]at hn;simp[ze,zf]at hn;simp[*,F141,ze,za,zf,zeb]
theorem type_spec(p:Prog)(s:List Vr)(e:Expr)(m:Int)(σ:zd)(hz:Fit p)(hw:wtE e<1099510000000)(hR:zmb e m=true):zj E 141 [ze p,znb s,zo e] σ=some (.ret (zeb (zXb p s e)),σ):=
 type_spec' (wtE e) p s e m σ hz (ye _) hw hR
def e0:Expr:=⟨0,0,0,[],[]⟩
def arg0(l:List Expr):Expr:=l[0]?.getD e0
def arg1(l:List Expr):Expr:=l[1]?.getD e0
mutual
def zJe:Stmt->Bool
 |⟨k,_,_,_,th,el⟩=>decide (k=6)||(decide (k=4)&&(zDa th||zDa el))
def zDa:List Stmt->Bool
 | []=>false
 |x::r=>zJe x||zDa r
end
theorem leaves1_eq(s:Stmt):zJe s=(decide (s.kind=6)||(decide (s.kind=4)&&(zDa s.thn||zDa s.els))):=by cases s;rw[zJe]
theorem leavesT_any(l:List Stmt):zDa l=l.any zJe:=by
 induction l with
 |nil=>rfl
 |cons x r ih=>rw[zDa,ih];rfl
mutual
def ends1:Stmt->Bool
 |⟨k,_,_,a,th,el⟩=>if k=8 then true else if k=4 then zMc th&&zMc el else if k=5 then(decide ((arg0 a).kind=2)&&decide ((arg0 a).n=1))&& !zDa th else false
def zMc:List Stmt->Bool
 | []=>false
 |x::r=>ends1 x||zMc r
end
theorem ends1_eq(s:Stmt):ends1 s=if s.kind=8 then true else if s.kind=4 then zMc s.thn&&zMc s.els else if s.kind=5 then(decide ((arg0 s.args).kind=2)&&decide ((arg0 s.args).n=1))&& !zDa s.thn else false:=by cases s;rw[ends1]
theorem endsT_any(l:List Stmt):zMc l=l.any ends1:=by
 induction l with
 |nil=>rfl
 |cons x r ih=>rw[zMc,ih];rfl
theorem stmtsR_all(l:List Stmt)(m:Int):zS l m=l.all fun x=>zRb x m:=by
 induction l with
 |nil=>rfl
 |cons x r ih=>simp[zS,ih]
theorem zQb{s:Stmt}{m:Int}(h:zRb s m=true):(s.args.length:Int)=(zP s.kind).2.2.1/\(∀x∈s.args,zmb x 100=true)/\zS s.thn (m-1)=true/\zS s.els (m-1)=true:=by
 rw[stmtR_eq]at h;simp only[yb]at h;obtain⟨h1,h2,h3,h4,h5,h6⟩:=h;refine⟨?_,?_,h5,h6⟩
 ·unfold headR at h1;simp at h1;exact h1.2.1
 ·unfold argsR at h2;rw[yu]at h2;exact h2
theorem leaves_spec':∀w (l:List Stmt),wtSs l<=w->w<1099508500000->zj E 114 [zg l] []=some (.ret (.bool (zDa l)),[])
 |0,l,h,hw=>by
  have hl:l=[]:=by
   have:=zia l;exact yz (by omega)
  subst hl;refine zc rfl rfl rfl (by simp[zg]) ?_;have hc:=zMa [] (fun _=>true) 145 [] [] [] (by simp) (by simp) (by simp);simp at hc;simp[*,F114,zg,zDa]
 |w+1,l,h,hw=>by
  have hlen:=zia l;refine zc rfl rfl rfl (by simp[zg]) ?_;have hcl:∀x∈l,zj E 145 ([]++[zu x]++[]) []=some (.ret (.bool (zJe x)),[]):=by
   intro x hx;have hwx:=zmc hx;rw[zCa]at hwx;have i1:=leaves_spec' w x.thn (by omega) (by omega);have i2:=leaves_spec' w x.els (by omega) (by omega);rw[leaves1_eq];clear hwx hx h hlen;refine zc rfl rfl rfl (by simp[zb]) ?_;simp[zg]at i1 i2;generalize zDa x.thn=b1 at*;generalize zDa x.els=b2 at*;by_cases k6:x.kind=6
   ·replace k6:=eqp k6;simp[*,F145,zb,zf,zg]
   ·replace k6:=eqn k6;by_cases k4:x.kind=4
    ·replace k4:=eqp k4;cases b1<;>simp[*,F145,zb,zf,zg]
    ·replace k4:=eqn k4;simp[*,F145,zb,zf,zg]
  have hc:=zMa l zJe 145 [] [] [] (by omega) (by simp) hcl;rw[<-leavesT_any]at hc;clear hcl h hlen;simp[*,F114,zg]
theorem leaves_spec(l:List Stmt)(h:wtSs l<1099508000000):zj E 114 [zg l] []=some (.ret (.bool (zDa l)),[]):=leaves_spec' (wtSs l) l (ye _) (by omega)
set_option maxHeartbeats 1000000 in
theorem ends_spec':∀w (l:List Stmt) (m:Int),wtSs l<=w->w<1099508000000->zS l m=true->zj E 86 [zg l] []=some (.ret (.bool (zMc l)),[])
 |0,l,m,h,hw,_=>by
  have hl:l=[]:=by
   have:=zia l;exact yz (by omega)
  subst hl;refine zc rfl rfl rfl (by simp[zg]) ?_;have hc:=zMa [] (fun _=>true) 113 [] [] [] (by simp) (by simp) (by simp);simp at hc;simp[*,F86,zg,zMc]
 |w+1,l,m,h,hw,hR=>by
  have hlen:=zia l;refine zc rfl rfl rfl (by simp[zg]) ?_;have hcl:∀x∈l,zj E 113 ([]++[zu x]++[]) []=some (.ret (.bool (ends1 x)),[]):=by
   intro x hx;have hwx:=zmc hx;rw[zCa]at hwx;have hxR:zRb x m=true:=by rw[stmtsR_all,yu]at hR;exact hR x hx
   obtain⟨r1,r2,r3,r4⟩:=zQb hxR;have i1:=ends_spec' w x.thn _ (by omega) (by omega) r3;have i2:=ends_spec' w x.els _ (by omega) (by omega) r4;have i3:=leaves_spec x.thn (by omega);rw[ends1_eq];clear hwx hx h hlen hxR hR r2 r3 r4;refine zc rfl rfl rfl (by simp[zb]) ?_;simp[zg]at i1 i2 i3;generalize zMc x.thn=b1 at*;generalize zMc x.els=b2 at*;generalize zDa x.thn=b3 at*;by_cases k8:x.kind=8
   ·replace k8:=eqp k8;simp[*,F113,zb,zf,zg]
   replace k8:=eqn k8;by_cases k4:x.kind=4
   ·replace k4:=eqp k4;cases b1<;>simp[*,F113,zb,zf,zg]
   replace k4:=eqn k4;by_cases k5:x.kind=5
   ·have hl1:x.args.length=1:=by rw[k5]at r1;simp[zP]at r1;omega
    obtain⟨y,hy⟩:=yN.1 hl1;have hget:x.args[0]? =some y:=by rw[hy];rfl
    have ha0:arg0 x.args=y:=by unfold arg0;rw[hget];rfl
    rw[ha0];clear hy hl1 r1 ha0;replace k5:=eqp k5;by_cases y2:y.kind=2
    ·replace y2:=eqp y2;by_cases y1:y.n=1
     ·replace y1:=eqp y1;simp[*,F113,zb,zf,zg,za]
     ·replace y1:=eqn y1;simp[*,F113,zb,zf,zg,za]
    ·replace y2:=eqn y2;simp[*,F113,zb,zf,zg,za]
   ·replace k5:=eqn k5;clear r1;simp[*,F113,zb,zf,zg]
  have hc:=zMa l ends1 113 [] [] [] (by omega) (by simp) hcl;rw[<-endsT_any]at hc;clear hcl h hlen hR;simp[*,F86,zg]
theorem ends_spec(l:List Stmt)(m:Int)(h:wtSs l<1099508000000)(hR:zS l m=true):zj E 86 [zg l] []=some (.ret (.bool (zMc l)),[]):=ends_spec' (wtSs l) l m (ye _) h hR
def fob(p:Prog)(res n:Int):Obj:= .arr 4 [.agg [zZ p.arrays,funcs p.funcs,.int .i64 res,.int .i64 n]]
def zwc(p:Prog)(s:List Vr)(e:Expr)(t:Int):Int:=if(zXb p s e).2≠0 then(zXb p s e).2 else if(zXb p s e).1=t then 0 else 51
theorem want_spec{p:Prog}{s:List Vr}{e:Expr}{t m:Int}{σ:zd}{k:Nat}{res n:Int}(hk:σ[k]? =some (fob p res n))(hz:Fit p)(hw:wtE e<1099510000000)(hR:zmb e m=true):
  zj E 140 [.ptr k 0 0,znb s,zo e,.int .i64 t] σ=some (.ret (.int .i64 (zwc p s e t)),σ):=by
 refine zc rfl rfl rfl (by simp[za]) ?_;have h1:=type_spec p s e m σ hz hw hR;unfold zwc;generalize zXb p s e=q at*;obtain⟨ty,f⟩:=q;simp only;clear hR hw hz;rw[za]at h1;simp[ze,zf,zeb]at h1;unfold fob at hk;by_cases hf:f=0
 ·subst hf;have h2:=zve (decide (ty=t)) 51 [];by_cases ht:ty=t
  ·replace ht:=eqp ht;simp[ht]at h2;simp[*,F140,za,zf]
  ·replace ht:=eqn ht;simp[ht]at h2;simp[*,F140,za,zf]
 ·replace hf:=eqn hf;simp[*,F140,za,zf]
def boundT(p:Prog)(s:List Vr)(k t:Int)(nm:List UInt8)(a:List Expr)(d:Int):Int:=
 if k=1 then
  if zwc p s (arg0 a) t≠0 then zwc p s (arg0 a) t
  else match zKa s nm with
   | []=>0
   |v::_=>if v.depth<d then 0 else 50
 else if k=2 then match zKa s nm with
  | []=>50
  |v::_=>zwc p s (arg0 a) v.type
 else if k=3/\zUb p nm=false then 50
 else if zwc p s (arg0 a) 1≠0 then zwc p s (arg0 a) 1 else zwc p s (arg1 a) 1
set_option maxHeartbeats 4000000 in
theorem bound_spec{p:Prog}{s:List Vr}{x:Stmt}{d m:Int}{σ:zd}{k:Nat}{res n:Int}(hk:σ[k]? =some (fob p res n))(hz:Fit p)(hw:wtS x<1099509000000)(hR:zRb x m=true)(hb:1<=x.kind/\x.kind<=3):
  zj E 143 [.ptr k 0 0,zu x,znb s,.int .i64 d] σ=some (.ret (.int .i64 (boundT p s x.kind x.type x.name x.args d)),σ):=by
 refine zc rfl rfl rfl (by simp[zb]) ?_;obtain⟨r1,r2,_,_⟩:=zQb hR;rw[zCa]at hw;have hwant:∀y∈x.args,∀t,zj E 140 [.ptr k 0 0,znb s,zo y,.int .i64 t] σ=some (.ret (.int .i64 (zwc p s y t)),σ):=by
  intro y hy t;have:=zzb hy;exact want_spec hk hz (by omega) (r2 y hy)
 have hf:=find_spec s x.name σ;have hfi:=fun b=>zve b 50 []
 have hh:=array_spec p x.name [] (by have:=hz.a;omega);have h3:decide (0<=zdb p x.name)=zUb p x.name:=idx_ge (fun f:PArr=>decide (f.name=x.name)) p.arrays;have h3':(zdb p x.name<0)=(zUb p x.name=false):=by
  rw[<-h3,decide_eq_false_iff_not];apply propext;omega
 clear r2 hR hw hz h3;unfold boundT;unfold fob at hk;simp[ze]at hh;by_cases k1:x.kind=1
 ·have hl1:x.args.length=1:=by rw[k1]at r1;simp[zP]at r1;omega
  obtain⟨y,hy⟩:=yN.1 hl1;have hget:x.args[0]? =some y:=by rw[hy];rfl
  have ha0:arg0 x.args=y:=by unfold arg0;rw[hget];rfl
  rw[ha0];have hw1:=hwant y (by rw[hy];simp) x.type;clear hy hl1 r1 ha0 hwant hb h3' hh;replace k1:=eqp k1;rw[za]at hw1;simp[zf]at hw1;generalize zwc p s y x.type=f at*;by_cases hff:f=0
  ·subst hff;generalize zKa s x.name=vs at*;cases vs with
   |nil=>
    have hfi:=hfi true;simp at hfi hf;simp[*,F143,zb,zf,za]
   |cons v r=>
    rw[zjc]at hf;by_cases hd:v.depth<d
    ·have hfi:=hfi true;replace hd:=eqp hd;simp at hfi;simp[*,F143,zb,zf,za]
    ·have hfi:=hfi false;replace hd:=eqn hd;simp at hfi;simp[*,F143,zb,zf,za]
  ·replace hff:=eqn hff;clear hfi;simp[*,F143,zb,zf,za]
 by_cases k2:x.kind=2
 ·have hl1:x.args.length=1:=by rw[k2]at r1;simp[zP]at r1;omega
  obtain⟨y,hy⟩:=yN.1 hl1;have hget:x.args[0]? =some y:=by rw[hy];rfl
  have ha0:arg0 x.args=y:=by unfold arg0;rw[hget];rfl
  rw[ha0];have hw1:=hwant y (by rw[hy];simp);have k3:(x.kind=3)=False:=eqn (by omega);clear hy hl1 r1 ha0 hwant hb h3' hh hfi;replace k1:=eqn k1;replace k2:=eqp k2;generalize zKa s x.name=vs at*;cases vs with
  |nil=>
   clear hw1;simp at hf;simp[*,F143,zb,zf,za]
  |cons v r=>
   have hw1:=hw1 v.type;rw[za]at hw1;simp[zf]at hw1;rw[zjc]at hf;simp[*,F143,zb,zf,za]
 ·have k3:x.kind=3:=by omega
  have hl2:x.args.length=2:=by rw[k3]at r1;simp[zP]at r1;omega
  obtain⟨y,z,hy⟩:∃y z,x.args=[y,z]:=by
   match h:x.args,hl2 with
   | [y,z],_=>exact⟨y,z,rfl⟩
  have hget:x.args[0]? =some y:=by rw[hy];rfl
  have hget1:x.args[1]? =some z:=by rw[hy];rfl
  have ha0:arg0 x.args=y:=by unfold arg0;rw[hget];rfl
  have ha1:arg1 x.args=z:=by unfold arg1;rw[hget1];rfl
  rw[ha0,ha1];have hw1:=hwant y (by rw[hy];simp) 1;have hw2:=hwant z (by rw[hy];simp) 1;clear hy hl2 r1 ha0 ha1 hwant hb hfi;replace k1:=eqn k1;replace k2:=eqn k2;replace k3:=eqp k3;rw[za]at hw1 hw2;simp[zf]at hw1 hw2;generalize zUb p x.name=b at*;cases b
  ·clear hw1 hw2;simp at h3';replace h3':=eqp h3';simp[*,F143,zb,zf,za]
  ·simp at h3';replace h3':(zdb p x.name<0)=False:=eqn (by omega);generalize zwc p s y 1=f at*;by_cases hff:f=0
   ·subst hff;simp[*,F143,zb,zf,za]
   ·replace hff:=eqn hff;simp[*,F143,zb,zf,za]
def stmtT(p:Prog)(res:Int)(s:List Vr)(k t:Int)(nm:List UInt8)(a:List Expr)(d:Int)(loop:Bool):Int:=
 if k=4\/k=5 then zwc p s (arg0 a) 2
 else if k=8 then zwc p s (arg0 a) res
 else if k=9 then zwc p s (arg0 a) 1
 else if k=10 then(zXb p s (arg0 a)).2
 else if k=6\/k=7 then(if loop then 0 else 53)
 else boundT p s k t nm a d
set_option maxHeartbeats 4000000 in
theorem stmtT_spec{p:Prog}{s:List Vr}{x:Stmt}{d m:Int}{loop:Bool}{σ:zd}{k:Nat}{res n:Int}(hk:σ[k]? =some (fob p res n))(hz:Fit p)(hw:wtS x<1099509000000)(hR:zRb x m=true):
  zj E 110 [.ptr k 0 0,zu x,znb s,.int .i64 d,.bool loop] σ=some (.ret (.int .i64 (stmtT p res s x.kind x.type x.name x.args d loop)),σ):=by
 refine zc rfl rfl rfl (by simp[zb]) ?_;obtain⟨r1,r2,_,_⟩:=zQb hR;have hbound:1<=x.kind/\x.kind<=3->zj E 143 [.ptr k 0 0,zu x,znb s,.int .i64 d] σ=some (.ret (.int .i64 (boundT p s x.kind x.type x.name x.args d)),σ):=fun h=>bound_spec hk hz hw hR h
 rw[zCa]at hw;have hwant:∀y∈x.args,∀t,zj E 140 [.ptr k 0 0,znb s,zo y,.int .i64 t] σ=some (.ret (.int .i64 (zwc p s y t)),σ):=by
  intro y hy t;have:=zzb hy;exact want_spec hk hz (by omega) (r2 y hy)
 have hexp:∀y∈x.args,zj E 141 [ze p,znb s,zo y] σ=some (.ret (zeb (zXb p s y)),σ):=by
  intro y hy;have:=zzb hy;exact type_spec p s y 100 σ hz (by omega) (r2 y hy)
 have hone:(x.kind=4\/x.kind=5\/x.kind=8\/x.kind=9\/x.kind=10)->∃y,x.args=[y]:=by
  intro h;have:x.args.length=1:=by rcases h with h|h|h|h|h<;>(rw[h]at r1;simp[zP]at r1;omega)
  exact yN.1 this
 have hkind:1<=x.kind/\x.kind<=10:=by
  by_cases h:1<=x.kind/\x.kind<=10
  ·exact h
  ·exfalso;have:(zP x.kind).2.2.1= -1:=by
    unfold zP
    repeat' (first|rw[if_neg (by omega)]|rfl)
   omega
 clear r2 hR hw hz;unfold stmtT;unfold fob at hk;by_cases k4:x.kind=4\/x.kind=5
 ·obtain⟨y,hy⟩:=hone (by rcases k4 with h|h<;>simp[h]);have hget:x.args[0]? =some y:=by rw[hy];rfl
  have ha0:arg0 x.args=y:=by unfold arg0;rw[hget];rfl
  rw[ha0];have hw1:=hwant y (by rw[hy];simp) 2;rw[za]at hw1;simp[zf]at hw1;rw[if_pos k4];clear hy r1 ha0 hwant hexp hone hbound hkind;rcases k4 with k4|k4
  ·replace k4:=eqp k4;simp[*,F110,zb,zf,za]
  ·by_cases k4':x.kind=4
   ·omega
   ·replace k4:=eqp k4;replace k4':=eqn k4';simp[*,F110,zb,zf,za]
 have k5:¬x.kind=5:=fun h=>k4 (yUa h)
 have k4':¬x.kind=4:=fun h=>k4 (yOa h)
 rw[if_neg k4];clear k4;by_cases k8:x.kind=8
 ·obtain⟨y,hy⟩:=hone (by simp[k8]);have hget:x.args[0]? =some y:=by rw[hy];rfl
  have ha0:arg0 x.args=y:=by unfold arg0;rw[hget];rfl
  rw[ha0];have hw1:=hwant y (by rw[hy];simp) res;rw[za]at hw1;simp[zf]at hw1;clear hy r1 ha0 hwant hexp hone hbound hkind;replace k4':=eqn k4';replace k5:=eqn k5;replace k8:=eqp k8;simp[*,F110,zb,zf,za]
 by_cases k9:x.kind=9
 ·obtain⟨y,hy⟩:=hone (by simp[k9]);have hget:x.args[0]? =some y:=by rw[hy];rfl
  have ha0:arg0 x.args=y:=by unfold arg0;rw[hget];rfl
  rw[ha0];have hw1:=hwant y (by rw[hy];simp) 1;rw[za]at hw1;simp[zf]at hw1;clear hy r1 ha0 hwant hexp hone hbound hkind;replace k4':=eqn k4';replace k5:=eqn k5;replace k8:=eqn k8;replace k9:=eqp k9;simp[*,F110,zb,zf,za]
 by_cases k10:x.kind=10
 ·obtain⟨y,hy⟩:=hone (by simp[k10]);have hget:x.args[0]? =some y:=by rw[hy];rfl
  have ha0:arg0 x.args=y:=by unfold arg0;rw[hget];rfl
  rw[ha0];have hw1:=hexp y (by rw[hy];simp);rw[za]at hw1;simp[zf,ze,zeb]at hw1;clear hy r1 ha0 hwant hexp hone hbound hkind;replace k4':=eqn k4';replace k5:=eqn k5;replace k8:=eqn k8;replace k9:=eqn k9;replace k10:=eqp k10;simp[*,F110,zb,zf,za]
 by_cases k6:x.kind=6\/x.kind=7
 ·rw[if_neg k8,if_neg k9,if_neg k10,if_pos k6];have hfi:=zve loop 53 [];clear r1 hwant hexp hone hbound hkind;replace k4':=eqn k4';replace k5:=eqn k5;replace k8:=eqn k8;replace k9:=eqn k9;replace k10:=eqn k10;rcases k6 with k6|k6
  ·replace k6:=eqp k6;simp[*,F110,zb,zf,za]
  ·by_cases k6':x.kind=6
   ·omega
   ·replace k6:=eqp k6;replace k6':=eqn k6';simp[*,F110,zb,zf,za]
 ·rw[if_neg k8,if_neg k9,if_neg k10,if_neg k6];have k7:¬x.kind=7:=fun h=>k6 (yUa h)
  have k6':¬x.kind=6:=fun h=>k6 (yOa h)
  have hb:=hbound (by omega);clear r1 hwant hexp hone hbound hkind k6;replace k4':=eqn k4';replace k5:=eqn k5;replace k8:=eqn k8;replace k9:=eqn k9;replace k10:=eqn k10;replace k7:=eqn k7;replace k6':=eqn k6';rw[zb]at hb;simp[zf,zg]at hb;simp[*,F110,zb,zf,za,zg]
mutual
def zzc(p:Prog)(res:Int):Stmt->List Vr->Int->Bool->Int->Int×Int
 |⟨k,t,nm,a,th,el⟩,vs,d,loop,n=>
  if stmtT p res vs k t nm a d loop≠0 then(stmtT p res vs k t nm a d loop,n)
  else
   let q:=zka p res th (if k=1 then⟨nm,t,d⟩::vs else vs) (d+1) (loop||decide (k=5)) (n+1)
   if q.1≠0 then q else zka p res el (if k=1 then⟨nm,t,d⟩::vs else vs) (d+1) loop q.2
def zka(p:Prog)(res:Int):List Stmt->List Vr->Int->Bool->Int->Int×Int
 | [],_,_,_,n=>(0,n)
 |x::r,vs,d,loop,n=>
  let q:=zzc p res x vs d loop n
  if q.1≠0 then q else zka p res r (if x.kind=1 then⟨x.name,x.type,d⟩::vs else vs) d loop q.2
end
def zma(d:Int)(x:Stmt)(vs:List Vr):List Vr:=if x.kind=1 then⟨x.name,x.type,d⟩::vs else vs
theorem zHd(p:Prog)(res:Int)(x:Stmt)(vs:List Vr)(d:Int)(loop:Bool)(n:Int):zzc p res x vs d loop n=
  if stmtT p res vs x.kind x.type x.name x.args d loop≠0 then(stmtT p res vs x.kind x.type x.name x.args d loop,n)
  else if(zka p res x.thn (zma d x vs) (d+1) (loop||decide (x.kind=5)) (n+1)).1≠0 then zka p res x.thn (zma d x vs) (d+1) (loop||decide (x.kind=5)) (n+1)
  else zka p res x.els (zma d x vs) (d+1) loop (zka p res x.thn (zma d x vs) (d+1) (loop||decide (x.kind=5)) (n+1)).2:=by
 cases x;rw[zzc];rfl
theorem zQc(p:Prog)(res:Int)(x:Stmt)(r:List Stmt)(vs:List Vr)(d:Int)(loop:Bool)(n:Int):zka p res (x::r) vs d loop n=
  if(zzc p res x vs d loop n).1≠0 then zzc p res x vs d loop n else zka p res r (zma d x vs) d loop (zzc p res x vs d loop n).2:=by
 rw[zka];rfl
def zxa(p:Prog)(res d:Int)(loop:Bool)(l:List Stmt)(vs:List Vr)(n:Int):List Vr×Int:=match l with
 | []=>(vs,n)
 |x::r=>zxa p res d loop r (zma d x vs) (zzc p res x vs d loop n).2
def zYb(p:Prog)(res d:Int)(loop:Bool)(l:List Stmt)(vs:List Vr)(n:Int):Prop:=match l with
 | []=>True
 |x::r=>(zzc p res x vs d loop n).1=0/\zYb p res d loop r (zma d x vs) (zzc p res x vs d loop n).2
theorem blockT_go(p:Prog)(res d:Int)(loop:Bool)(r:List Stmt):∀(l:List Stmt) (vs:List Vr) (n:Int),zYb p res d loop l vs n→
  zka p res (l++r) vs d loop n=zka p res r (zxa p res d loop l vs n).1 d loop (zxa p res d loop l vs n).2
 | [],_,_,_=>rfl
 |x::l,vs,n,h=>by
  simp only[zYb]at h;rw[yU,zQc,if_neg (by rw[h.1];simp)];exact blockT_go p res d loop r l _ _ h.2
theorem blockGo_snoc(p:Prog)(res d:Int)(loop:Bool)(x:Stmt):∀(l:List Stmt) (vs:List Vr) (n:Int),
  zxa p res d loop (l++[x]) vs n=(zma d x (zxa p res d loop l vs n).1,(zzc p res x (zxa p res d loop l vs n).1 d loop (zxa p res d loop l vs n).2).2)
 | [],_,_=>rfl
 |y::l,vs,n=>by
  rw[yU,zxa,blockGo_snoc p res d loop x l];rfl
theorem zje(p:Prog)(res d:Int)(loop:Bool)(x:Stmt):∀(l:List Stmt) (vs:List Vr) (n:Int),zYb p res d loop l vs n->(zzc p res x (zxa p res d loop l vs n).1 d loop (zxa p res d loop l vs n).2).1=0->zYb p res d loop (l++[x]) vs n
 | [],_,_,_,h=>⟨h,trivial⟩
 |y::l,vs,n,hf,h=>by
  simp only[zYb]at hf;exact⟨hf.1,zje p res d loop x l _ _ hf.2 h⟩
mutual
theorem block1_count(p:Prog)(res:Int):∀(x:Stmt) (vs:List Vr) (d:Int) (loop:Bool) (n:Int),n<=(zzc p res x vs d loop n).2/\(zzc p res x vs d loop n).2<=n+wtS x
 |⟨k,t,nm,a,th,el⟩,vs,d,loop,n=>by
  rw[zHd];have h1:=zbd p res th (zma d ⟨k,t,nm,a,th,el⟩ vs) (d+1) (loop||decide (k=5)) (n+1);have h2:=zbd p res el (zma d ⟨k,t,nm,a,th,el⟩ vs) (d+1) loop (zka p res th (zma d ⟨k,t,nm,a,th,el⟩ vs) (d+1) (loop||decide (k=5)) (n+1)).2;rw[zCa];simp only;split
  ·simp only;omega
  ·split
   ·omega
   ·omega
theorem zbd(p:Prog)(res:Int):∀(l:List Stmt) (vs:List Vr) (d:Int) (loop:Bool) (n:Int),n<=(zka p res l vs d loop n).2/\(zka p res l vs d loop n).2<=n+wtSs l
 | [],vs,d,loop,n=>by simp[zka,wtSs]
 |x::r,vs,d,loop,n=>by
  rw[zQc];have h1:=block1_count p res x vs d loop n;have h2:=zbd p res r (zma d x vs) d loop (zzc p res x vs d loop n).2;simp only[wtSs];split
  ·omega
  ·omega
end
theorem zUe(p:Prog)(res d:Int)(loop:Bool):∀(l:List Stmt) (vs:List Vr) (n:Int),n<=(zxa p res d loop l vs n).2/\(zxa p res d loop l vs n).2<=n+wtSs l
 | [],vs,n=>by simp[zxa,wtSs]
 |x::r,vs,n=>by
  have h1:=block1_count p res x vs d loop n;have h2:=zUe p res d loop r (zma d x vs) (zzc p res x vs d loop n).2;simp only[wtSs,zxa];omega
set_option maxRecDepth 20000 in
set_option maxHeartbeats 8000000 in
theorem block_spec':∀w (p:Prog) (res:Int) (l:List Stmt) (vs:List Vr) (d m n:Int) (loop:Bool) (σ:zd) (k:Nat),wtSs l<=w->w<1099508000000->Fit p->zS l m=true->0<=d->d+m<=1000000->0<=m->0<=n->n+wtSs l<4000000000000->σ[k]? =some (fob p res n)→
  zj E 84 [.ptr k 0 0,zg l,znb vs,.int .i64 d,.bool loop] σ=some (.ret (.int .i64 (zka p res l vs d loop n).1),σ.set k (fob p res (zka p res l vs d loop n).2))
 :=by
 intro w
 induction w with
 |zero=>
  intro p res l vs d m n loop σ k h hw hz hR hd hdm hm hn0 hnw hk;have hl:l=[]:=by
   have:=zia l;exact yz (by omega)
  subst hl;have hset:σ.set k (fob p res n)=σ:=by
   have hlt:=(ya.1 hk)
   obtain⟨h1,h2⟩:=hlt;rw[<-h2,yMa]
  refine zc rfl rfl rfl (by simp[zg]) ?_;simp only[zka,hset];simp[F84,zg];refine zD ([]:List Stmt) K84_0 B84_0 (fun d'=>[(2,znb vs),(18,.int .i64 d'.length)]) (fun _=>σ) (fun _=>True) (by simp) (by simp) ?_ ?_
  ·intros d' x r s1 hl' hlt;simp at hlt
  ·intros s1 hp h1 h2 h3 h4;simp at h1 h2 h3;simp[*]
 |succ w ih=>
  intro p res l vs d m n loop σ k h hw hz hR hd hdm hm hn0 hnw hk;have hlen:=zia l;have hset:σ.set k (fob p res n)=σ:=by
   have hlt:=(ya.1 hk)
   obtain⟨h1,h2⟩:=hlt;rw[<-h2,yMa]
  have hklt:k<σ.length:=(ya.1 hk).1;have hwd:zA .i64 (d+1)=d+1:=zi (by omega) (by omega);refine zc rfl rfl rfl (by simp[zg]) ?_;simp[F84,zg];refine zD l K84_0 B84_0 (fun q=>[(2,znb (zxa p res d loop q vs n).1),(18,.int .i64 q.length)]) (fun q=>σ.set k (fob p res (zxa p res d loop q vs n).2)) (fun q=>zYb p res d loop q vs n) (by omega) (by simp[zxa,zYb,hset]) ?_ ?_
  ·intros q x r s1 hl' hlt hget hget' hw1 hp h1 h2 h3 h4;have hT:=blockT_go p res d loop (x::r) q vs n hp;rw[<-hl'.eq,zQc,zHd]at hT;have hG:=blockGo_snoc p res d loop x q vs n;have hF:=zje p res d loop x q vs n hp;rw[zHd]at hG hF;have hxR:zRb x m=true:=by rw[stmtsR_all,yu]at hR;exact hR x hl'.mem
   have hm1:1<=m:=by
    by_cases h1:1<=m
    ·exact h1
    ·rw[stmtR_eq]at hxR;unfold headR at hxR;simp at hxR;omega
   have hwx:=zmc hl'.mem;rw[zCa]at hwx;obtain⟨r1,r2,r3,r4⟩:=zQb hxR;have hgc:=zUe p res d loop q vs n;have hws:wtSs l=wtSs q+(1+wtS x+wtSs r):=by rw[hl'.eq,zCc];rfl
   rw[zCa]at hws;generalize zxa p res d loop q vs n=g at*;obtain⟨v1,n1⟩:=g;simp only at hT hG hF h3 h4 hgc;have hwn:zA .i64 (n1+1)=n1+1:=zi (by omega) (by omega);have hk1:(σ.set k (fob p res n1))[k]? =some (fob p res n1):=by rw[ym hklt]
   have hst:=stmtT_spec (d:=d) (s:=v1) (x:=x) (loop:=loop) hk1 hz (by rw[zCa];omega) hxR;have hi1:=ih p res x.thn (zma d x v1) (d+1) (m-1) (n1+1) (loop||decide (x.kind=5)) (σ.set k (fob p res (n1+1))) k (by omega) (by omega) hz r3 (by omega) (by omega) (by omega) (by omega) (by omega) (by rw[ym hklt]);rw[yWa]at hi1;have hc1:=zbd p res x.thn (zma d x v1) (d+1) (loop||decide (x.kind=5)) (n1+1);generalize hT1:zka p res x.thn (zma d x v1) (d+1) (loop||decide (x.kind=5)) (n1+1)=t1 at*;obtain⟨f1,n2⟩:=t1;simp only at hc1;have hi2:=ih p res x.els (zma d x v1) (d+1) (m-1) n2 loop (σ.set k (fob p res n2)) k (by omega) (by omega) hz r4 (by omega) (by omega) (by omega) (by omega) (by omega) (by rw[ym hklt]);rw[yWa]at hi2;simp only at hT hG hF hi1;generalize hT2:zka p res x.els (zma d x v1) (d+1) loop n2=t2 at*;obtain⟨f2,n3⟩:=t2;simp only at hT hG hF hi2;generalize stmtT p res v1 x.kind x.type x.name x.args d loop=f0 at*;have hwi:=with_spec v1 ⟨x.name,x.type⟩ d (σ.set k (fob p res (n1+1)));have hb:zma d x v1=if x.kind=1 then⟨x.name,x.type,d⟩::v1 else v1:=rfl
   clear ih hT1 hT2 r1 r2 r3 r4 hws hgc hc1 hnw hn0 hwx hxR hl' hR h hlen hset;rw[zb]at hst;simp[zf,zg,encPar]at hst hi1 hi2 hwi;simp[zf,zg]at h1 h2 h3 h4;unfold fob at*;by_cases hf0:f0=0
   case neg=>
    simp[hf0]at hT;rw[hT];clear hT hG hF hi1 hi2 hwi hb hp;replace hf0:=eqn hf0;simp[*,zb,zf,zg]
   subst hf0;by_cases hk1:x.kind=1
   ·have hk5:¬x.kind=5:=by omega
    rw[if_pos hk1]at hb;replace hk1:=eqp hk1;replace hk5:=eqn hk5;rw[hb]at hi1 hi2 hG;clear hb;simp only[hk5,decide_false,Bool.or_false]at hi1;by_cases hf1:f1=0
    case neg=>
     simp[hf1]at hT;rw[hT];clear hT hG hF hi2 hp;replace hf1:=eqn hf1;cases loop<;>simp[*,zb,zf,zg]
    subst hf1;by_cases hf2:f2=0
    case neg=>
     simp[hf2]at hT;rw[hT];clear hT hG hF hp;replace hf2:=eqn hf2;cases loop<;>simp[*,zb,zf,zg]
    subst hf2;simp at hG hF;clear hT hp;cases loop<;>simp[*,zb,zf,zg]
   ·rw[if_neg hk1]at hb;replace hk1:=eqn hk1;rw[hb]at hi1 hi2 hG;clear hb hwi;by_cases hf1:f1=0
    case neg=>
     simp[hf1]at hT;rw[hT];clear hT hG hF hi2 hp;replace hf1:=eqn hf1;cases loop<;>simp at hi1<;>simp[*,zb,zf,zg]
    subst hf1;by_cases hf2:f2=0
    case neg=>
     simp[hf2]at hT;rw[hT];clear hT hG hF hp;replace hf2:=eqn hf2;cases loop<;>simp at hi1<;>simp[*,zb,zf,zg]
    subst hf2;simp at hG hF;clear hT hp;cases loop<;>simp at hi1<;>simp[*,zb,zf,zg]
  ·intros s1 hp h1 h2 h3 h4;clear ih;have hT:=blockT_go p res d loop [] l vs n hp;rw[List.append_nil,zka]at hT;rw[hT];simp at h1 h2 h3 h4;clear hT hp hR;simp[*]
end PE.U
