/-
  Texts joined by program: AZU12, AZU13, AZA1, AZU14, AZU15, AZU16, AZU17, AZU18, AZU19, AZA2, AZA3, AZA4, AZA5, AZA6, AZA7, AZA8, PfHand, AZA9, AZC1, AZC2, AZB1, AZB2, AZB3, AZB4, AZB5, AZW2, PfEnd, PfRead.
-/
import Derived.Test.YtianoihfjikdgaaGreatP03
import Derived.WalkKit
import Derived.ProofKit
import Derived.OpenShut
import Derived.ShutString
import Derived.ChangeOld
import Derived.Below
set_option linter.unusedVariables false
set_option linter.unusedSectionVars false
set_option linter.unusedSimpArgs false
open BitVec renaming ofInt→yp
open Bool renaming and_eq_true→ya,false_eq_true→yK,false_or→yDa,or_eq_true→yQ,true_and→yEa
open Eq renaming trans→yd
open Function renaming comp_def→yx
open Int renaming toNat_natCast→yNa
open Go.IntKind renaming bits→yJ,wrap→yZ
open List renaming all_append→yxa,all_eq_true→ym,append_assoc→yca,eq_nil_of_length_eq_zero→yC,findIdx?_eq_none_iff→yga,getElem?_append_left→yj,getElem?_append_right→yn,getElem?_cons_succ→yA,getElem?_cons_zero→yr,getElem?_eq_getElem→ye,getElem?_eq_none→yY,getElem?_eq_some_iff→yb,getElem?_map→yi,getElem?_set_self→yg,getElem?_take→yz,length_append→yL,length_cons→yP,length_map→yfa,map_cons→yu,map_nil→yAa,map_replicate→yLa,map_set→yT,mem_append→yV,mem_cons→yS,mem_cons_of_mem→yna,mem_map→ysa,mem_of_getElem?→yB,mem_range→yqa,mem_zipIdx_iff_getElem?→yka,nodup_append→yua,range→yO,replicate→yf,set_append_right→yN,set_cons_succ→yKa,set_cons_zero→yoa,set_set→yja,take_length→yFa,take_of_length_le→yea
open Nat renaming le_refl→yk,le_trans→yia,sub_self→yHa,zero_add→yM
open Option renaming bind_eq_some_iff→yI,getD_some→yU,map_eq_some_iff→yc,map_some→yF
open Prod renaming fst→yIa
open UInt8 renaming ofNat→yBa
namespace PE.U
open Go PE
def tyOk(t:Int):Bool:=decide (t=1)||decide (t=2)
theorem isType_spec(t:Int)(σ:zc):zi E 55 [.int .i64 t] σ=some (.ret (.bool (tyOk t)),σ):=by
 refine zb rfl rfl rfl (by simp) ?_
 (simp[*,F55,tyOk])<;>(repeat' ((first|refine sP _ ?_ ?_|refine gP _ ?_ ?_|refine sN _ ?_ ?_|refine gN _ ?_ ?_|refine sM _ ?_ ?_|refine gM _ ?_ ?_|refine sB _ ?_ ?_|refine gB _ ?_ ?_)<;>intro hc<;>simp[*,F55,tyOk]))
theorem notType_spec(t:Int)(σ:zc):zi E 58 [.int .i64 t] σ=some (.ret (.bool (!tyOk t)),σ):=by
 refine zb rfl rfl rfl (by simp) ?_
 (simp[*,F58,isType_spec])<;>(repeat' ((first|refine sP _ ?_ ?_|refine gP _ ?_ ?_|refine sN _ ?_ ?_|refine gN _ ?_ ?_|refine sM _ ?_ ?_|refine gM _ ?_ ?_|refine sB _ ?_ ?_|refine gB _ ?_ ?_)<;>intro hc<;>simp[*,F58,isType_spec]))
def initM(f:Flow)(k:Nat):St1:=yf k 1++yf (f.types.length-k) 0
def zGb:Place:=⟨false,false,[],[],[]⟩
def flowM(u:Unt)(f:Flow):Bool:=
 !(decide (8<f.params)||decide (20000<f.types.length)||f.types.any (fun t=> !tyOk t))&&(zTa u f f.body zGb 1 (initM f f.params.toNat)).1
theorem initM_len(f:Flow)(k:Nat)(h:k<=f.types.length):(initM f k).length=f.types.length:=by simp[initM];omega
theorem initM_set(f:Flow)(k:Nat)(h:k<f.types.length):(initM f k).set k 1=initM f (k+1):=by
 unfold initM;have:f.types.length-k=(f.types.length-(k+1))+1:=by omega
 rw[this,List.replicate_succ,yN _ _ (by simp)];simp[List.replicate_succ']
theorem flow_spec(u:Unt)(f:Flow)(hu:UOk u)(hp:0<=f.params/\f.params<=f.types.length)(ht:f.types.length<1099511627776)(hb:wtL f.body<1099511627776):
  zi E 39 [encUnt u,ze f] []=some (.ret (.bool (flowM u f)),[]):=by
 refine zb rfl rfl rfl (by simp[encUnt,ze]) ?_;have h1:=containsFuncInt f.types (fun t=> !tyOk t) 58 [] [] [] ht (by simp) (fun x _=>notType_spec x []);have h2:=list_spec u f hu (wtL f.body) f.body 1 (yk _) hb (by omega) (by omega) zGb (initM f f.params.toNat) (initM_len f _ (by omega));simp[zf,zGb]at h2;have ho:decide ((20000:Int)<f.types.length)=decide (20000<f.types.length):=by simp;omega
 have l1:(0:Int)<=(f.types.length:Int):=by omega
 have l2:(f.types.length:Int)<=9223372036854775807:=by omega
 have l3:8*(f.types.length:Int)<=281474976710656:=by omega
 (simp[*,F39,encUnt,ze,ints,flowM,zGb])<;>(repeat' (first|((first|refine sP _ ?_ ?_|refine gP _ ?_ ?_|refine sN _ ?_ ?_|refine gN _ ?_ ?_)<;>intro hc<;>(first|replace hc:=eqn hc|replace hc:=eqp hc)<;>simp[*,F39,encUnt,ze,ints,flowM,zGb])|((first|refine sM _ ?_ ?_|refine gM _ ?_ ?_|refine sB _ ?_ ?_|refine gB _ ?_ ?_)<;>intro hc<;>simp[*,F39,encUnt,ze,ints,flowM,zGb])))
 all_goals first
  |refine zy (yO f.params.toNat) K39_0 B39_0 (fun d=>[(31,.int .i64 d.length)]) (fun d=>[stO (initM f d.length)]) (fun _=>True) (by simp;omega) (by simp[initM,stO]) ?_ ?_
  |(try grind)
 ·intros d x r s hl' hlt hget hget' hw _ q1 q2 q3 q4;simp at hlt;have e1:(d.length:Int)<f.params:=by omega
  have e2:d.length<f.types.length:=by omega
  have e3:=initM_set f d.length e2;have e4:=initM_len f d.length (by omega);have e5:(initM f (d.length+1)).map (PV.int .i64)=((initM f d.length).map (PV.int .i64)).set d.length (.int .i64 1):=by rw[<-e3,yT]
  simp at q1 q2 q3 q4;clear h1 h2 hget hget' e3
  (simp[*,ze,ints,zB,zHa,stO])<;>(repeat' (first|((first|refine sP _ ?_ ?_|refine gP _ ?_ ?_|refine sN _ ?_ ?_|refine gN _ ?_ ?_)<;>intro hc<;>(first|replace hc:=eqn hc|replace hc:=eqp hc)<;>simp[*,ze,ints,zB,zHa,stO])|((first|refine sM _ ?_ ?_|refine gM _ ?_ ?_|refine sB _ ?_ ?_|refine gB _ ?_ ?_)<;>intro hc<;>simp[*,ze,ints,zB,zHa,stO])))
 ·intros s _ q1 q2 q3 q4;have e0:(f.params.toNat:Int)=f.params:=by omega
  simp at q1 q2 q3 q4;clear h1;simp[chkV,ints,flowM,zGb,stO]at h2
  (simp[*,ze,ints,stO])<;>(repeat' (first|((first|refine sP _ ?_ ?_|refine gP _ ?_ ?_|refine sN _ ?_ ?_|refine gN _ ?_ ?_)<;>intro hc<;>(first|replace hc:=eqn hc|replace hc:=eqp hc)<;>simp[*,ze,ints,stO])|((first|refine sM _ ?_ ?_|refine gM _ ?_ ?_|refine sB _ ?_ ?_|refine gB _ ?_ ?_)<;>intro hc<;>simp[*,ze,ints,stO])))
  all_goals(try grind)
def bump:List (List UInt8×Int)->List UInt8->List (List UInt8×Int)
 | [],s=>[(s,yZ .i64 (0+1))]
 |(k,v)::r,s=>if s=k then(s,yZ .i64 (v+1))::r else(k,v)::bump r s
def bumps(l:List (List UInt8)):List (List UInt8×Int):=l.foldl bump []
def encM(m:List (List UInt8×Int)):List (PV×PV):=m.map fun p=>(.str p.1,.int .i64 p.2)
def findC(s:List UInt8):List (List UInt8×Int)->Option Int
 | []=>none
 |(k,v)::r=>if s=k then some v else findC s r
theorem mapFind_enc(s:List UInt8):∀m,zea true (.str s) (encM m)=some ((findC s m).map (PV.int .i64))
 | []=>rfl
 |(k,v)::r=>by
  have ih:=mapFind_enc s r;simp only[encM]at ih;simp only[encM,yu,zea,keyEq,findC];by_cases h:s=k
  ·simp[h]
  ·simp[h,ih]
theorem mapSet_enc(s:List UInt8):∀m,zIb true (.str s) (.int .i64 (zR .i64 ((findC s m).getD 0+1))) (encM m)=some (encM (bump m s))
 | []=>by simp[encM,zIb,findC,bump,zP]
 |(k,v)::r=>by
  have ih:=mapSet_enc s r;simp only[encM]at ih;simp only[encM,yu,zIb,keyEq,findC,bump];by_cases h:s=k
  ·simp[h,zP]
  ·simp[h,ih]
theorem bump_keys(s:List UInt8):∀m,(bump m s).map yIa=if s∈m.map yIa then m.map yIa else m.map yIa++[s]
 | []=>by simp[bump]
 |(k,v)::r=>by
  have ih:=bump_keys s r;simp only[bump];by_cases h:s=k
  ·simp[h]
  ·simp only[h,if_false,yu,ih,yS,false_or];split<;>simp
def dist(l:List (List UInt8)):List (List UInt8):=l.foldl (fun d s=>if s∈d then d else d++[s]) []
theorem bumps_keys(l:List (List UInt8)):(bumps l).map yIa=dist l:=by
 have:∀(l:List (List UInt8)) m,(l.foldl bump m).map yIa=l.foldl (fun d s=>if s∈d then d else d++[s]) (m.map yIa):=by
  intro l
  induction l with
  |nil=>intro m;rfl
  |cons s r ih=>intro m;simp only[List.foldl_cons,ih,bump_keys]
 exact this l []
theorem dist_nodup(l:List (List UInt8)):decide ((dist l).length=l.length)=decide l.Nodup:=by
 have key:∀(l d:List (List UInt8)),d.Nodup->(l.foldl (fun d s=>if s∈d then d else d++[s]) d).length<=d.length+l.length∧
   ((l.foldl (fun d s=>if s∈d then d else d++[s]) d).length=d.length+l.length<->(d++l).Nodup):=by
  intro l
  induction l with
  |nil=>intro d hd;simp[hd]
  |cons s r ih=>
   intro d hd;simp only[List.foldl_cons];by_cases h:s∈d
   ·rw[if_pos h];obtain⟨h1,h2⟩:=ih d hd;refine⟨by simp;omega,⟨fun e=>by simp at e;omega,fun e=>?_⟩⟩;rw[yua]at e;exact absurd rfl (e.2.2 s h s (by simp))
   ·rw[if_neg h];have hd':(d++[s]).Nodup:=by
     rw[yua];exact⟨hd,by simp,fun a ha b hb e=>by simp at hb;subst hb;subst e;exact h ha⟩
    obtain⟨h1,h2⟩:=ih (d++[s]) hd';refine⟨by simp at h1 ⊢;omega,?_⟩;rw[show d++s::r=d++[s]++r by simp,<-h2];simp;omega
 have:=(key l [] (by simp)).2;simp only[List.nil_append,List.length_nil,yM]at this;unfold dist;simp only[decide_eq_decide];exact this
theorem bumps_snoc(l:List (List UInt8))(s:List UInt8):bumps (l++[s])=bump (bumps l) s:=by simp[bumps]
theorem encM_len(m:List (List UInt8×Int)):(encM m).length=(m.map yIa).length:=by simp[encM]
def unames(u:Unt):List (List UInt8):=u.arrays.map Arr.name++u.flows.map Flow.name
def arrOk(a:Arr):Bool:=nameM a.name&&decide (1<=a.size)&&decide (a.size<=1000)
def zPb(f:Flow):Bool:=nameM f.name&&tyOk f.type&&decide (0<=f.params)&&decide (f.params<=f.types.length)
def zI:List UInt8:=[109,97,105,110]
def zOc(u:Unt):Bool:=match u.flows[(zQ u.flows zI).toNat]? with
 |some g=>decide (0<=zQ u.flows zI)&&decide (g.type=1)&&decide (g.params=0)
 |none=>false
def zFc(u:Unt):Bool:=u.arrays.all arrOk&&u.flows.all zPb&&decide (unames u).Nodup&&zOc u
theorem findC_cases(s:List UInt8)(m:List (List UInt8×Int)):∃o,findC s m=o/\zea true (.str s) (encM m)=some (o.map (PV.int .i64))/\zIb true (.str s) (.int .i64 (zR .i64 (o.getD 0+1))) (encM m)=some (encM (bump m s)):=
 ⟨_,rfl,mapFind_enc s m,mapSet_enc s m⟩
theorem head_spec(u:Unt)(hu1:u.arrays.length<1099511627776)(hu2:u.flows.length<1099511627776):zi E 38 [encUnt u] []=some (.ret (.bool (zFc u)),[]):=by
 refine zb rfl rfl rfl (by simp[encUnt]) ?_;simp[F38,encUnt,arrs];refine zy u.arrays K38_0 B38_0 (fun d=>[(13,.int .i64 d.length)]) (fun d=>[.mp (encM (bumps (d.map Arr.name)))]) (fun d=>d.all arrOk=true) (by omega) (by simp[bumps,encM]) ?_ ?_
 ·intros d x r s hl' hlt hget hget' hw hp h1 h2 h3 h4;simp at h1 h2 h3;have hn:=name_spec x.name [];have hall:u.arrays.all arrOk=(d.all arrOk&&(arrOk x&&r.all arrOk)):=by rw[hl'.eq];simp
  have hsn:bumps (List.map Arr.name d++[x.name])=bump (bumps (List.map Arr.name d)) x.name:=bumps_snoc _ _;obtain⟨o,o1,o2,o3⟩:=findC_cases x.name (bumps (d.map Arr.name));clear o1;cases hnm:nameM x.name
  ·have hx:arrOk x=false:=by simp[arrOk,hnm]
   have hh:zFc u=false:=by simp only[zFc,hall,hx];simp
   cases o<;>(simp at o3;(simp[*,zz,arrs])<;>(repeat' (first|((first|refine sP _ ?_ ?_|refine gP _ ?_ ?_|refine sN _ ?_ ?_|refine gN _ ?_ ?_)<;>intro hc<;>(first|replace hc:=eqn hc|replace hc:=eqp hc)<;>simp[*,zz,arrs])|((first|refine sM _ ?_ ?_|refine gM _ ?_ ?_|refine sB _ ?_ ?_|refine gB _ ?_ ?_)<;>intro hc<;>simp[*,zz,arrs]))))
  ·by_cases hs1:x.size<1
   ·have hx:arrOk x=false:=by simp[arrOk];omega
    have hh:zFc u=false:=by simp only[zFc,hall,hx];simp
    cases o<;>(simp at o3;(simp[*,zz,arrs])<;>(repeat' (first|((first|refine sP _ ?_ ?_|refine gP _ ?_ ?_|refine sN _ ?_ ?_|refine gN _ ?_ ?_)<;>intro hc<;>(first|replace hc:=eqn hc|replace hc:=eqp hc)<;>simp[*,zz,arrs])|((first|refine sM _ ?_ ?_|refine gM _ ?_ ?_|refine sB _ ?_ ?_|refine gB _ ?_ ?_)<;>intro hc<;>simp[*,zz,arrs]))))
   ·by_cases hs2:1000<x.size
    ·have hx:arrOk x=false:=by simp[arrOk];omega
     have hh:zFc u=false:=by simp only[zFc,hall,hx];simp
     cases o<;>(simp at o3;(simp[*,zz,arrs])<;>(repeat' (first|((first|refine sP _ ?_ ?_|refine gP _ ?_ ?_|refine sN _ ?_ ?_|refine gN _ ?_ ?_)<;>intro hc<;>(first|replace hc:=eqn hc|replace hc:=eqp hc)<;>simp[*,zz,arrs])|((first|refine sM _ ?_ ?_|refine gM _ ?_ ?_|refine sB _ ?_ ?_|refine gB _ ?_ ?_)<;>intro hc<;>simp[*,zz,arrs]))))
    ·have hx:arrOk x=true:=by simp[arrOk,hnm];omega
     have hpp:∀y∈d,arrOk y=true:=by simpa using hp
     clear hall;cases o<;>(simp at o3;(simp[*,zz,arrs])<;>(repeat' (first|((first|refine sP _ ?_ ?_|refine gP _ ?_ ?_|refine sN _ ?_ ?_|refine gN _ ?_ ?_)<;>intro hc<;>(first|replace hc:=eqn hc|replace hc:=eqp hc)<;>simp[*,zz,arrs])|((first|refine sM _ ?_ ?_|refine gM _ ?_ ?_|refine sB _ ?_ ?_|refine gB _ ?_ ?_)<;>intro hc<;>simp[*,zz,arrs]))))<;>(try grind)
 intros s0 hpa h1 h2 h3 h4;simp at h1 h2 h3;simp[*,arrs,flows];refine zy u.flows K38_1 B38_1 (fun d=>[(40,.int .i64 d.length)]) (fun d=>[.mp (encM (bumps (u.arrays.map Arr.name++d.map Flow.name)))]) (fun d=>d.all zPb=true) (by omega) (by simp) ?_ ?_
 ·intros d x r s hl' hlt hget hget' hw hp h1' h2' h3' h4';simp at h1' h2' h3';clear h1 h2 h3 h4;have hn:=name_spec x.name [];have ht:=isType_spec x.type [];have hall:u.flows.all zPb=(d.all zPb&&(zPb x&&r.all zPb)):=by rw[hl'.eq];simp
  have hsn:bumps (List.map Arr.name u.arrays++(List.map Flow.name d++[x.name]))=bump (bumps (List.map Arr.name u.arrays++List.map Flow.name d)) x.name:=by rw[<-yca];exact bumps_snoc _ _
  obtain⟨o,o1,o2,o3⟩:=findC_cases x.name (bumps (u.arrays.map Arr.name++d.map Flow.name));clear o1;have hh:zPb x=false->zFc u=false:=fun hx=>by simp only[zFc,hall,hx];simp
  have hpp:∀y∈d,zPb y=true:=by simpa using hp
  cases hx:zPb x
  ·have hh:=hh hx;simp only[zPb]at hx;clear hall;cases o<;>(simp at o3;(simp[*,ze,flows,ints])<;>(repeat' (first|((first|refine sP _ ?_ ?_|refine gP _ ?_ ?_|refine sN _ ?_ ?_|refine gN _ ?_ ?_)<;>intro hc<;>(first|replace hc:=eqn hc|replace hc:=eqp hc)<;>simp[*,ze,flows,ints])|((first|refine sM _ ?_ ?_|refine gM _ ?_ ?_|refine sB _ ?_ ?_|refine gB _ ?_ ?_)<;>intro hc<;>simp[*,ze,flows,ints]))))<;>(try grind)
  ·have hx2:=hx;simp only[zPb,ya,decide_eq_true_eq]at hx2;obtain⟨⟨⟨n1,n2⟩,n3⟩,n4⟩:=hx2;have n3':¬x.params<0:=by omega
   have n4':¬(x.types.length:Int)<x.params:=by omega
   clear hall hh;cases o<;>(simp at o3;(simp[*,ze,flows,ints])<;>(repeat' (first|((first|refine sP _ ?_ ?_|refine gP _ ?_ ?_|refine sN _ ?_ ?_|refine gN _ ?_ ?_)<;>intro hc<;>(first|replace hc:=eqn hc|replace hc:=eqp hc)<;>simp[*,ze,flows,ints])|((first|refine sM _ ?_ ?_|refine gM _ ?_ ?_|refine sB _ ?_ ?_|refine gB _ ?_ ?_)<;>intro hc<;>simp[*,ze,flows,ints]))))<;>(try grind)
 ·intros s hp h1' h2' h3' h4';simp at h1' h2' h3';clear h1 h2 h3 h4;have hpl:=place_spec u zI [] hu2;simp[encUnt,zI,arrs,flows]at hpl;have hk:(encM (bumps (u.arrays.map Arr.name++u.flows.map Flow.name))).length=(dist (unames u)).length:=by rw[encM_len,bumps_keys];rfl
  have hd:=dist_nodup (unames u);have hul:(unames u).length=u.arrays.length+u.flows.length:=by simp[unames]
  have hw:zR .i64 ((u.arrays.length:Int)+u.flows.length)=(u.arrays.length:Int)+u.flows.length:=zr (by omega) (by omega);have hh:zFc u=(decide (unames u).Nodup&&zOc u):=by simp only[zFc,hpa,hp];simp
  have hz:decide (((dist (unames u)).length:Int)=(u.arrays.length:Int)+u.flows.length)=decide (unames u).Nodup:=by
   rw[<-hd,hul];simp;omega
  by_cases hp0:0<=zQ u.flows zI
  ·obtain⟨g,q1,q2,q3,q4⟩:=place_get hp0;have q5:u.flows[(zQ u.flows zI).toNat]=g:=by simpa[q4]using q1
   have hm:zOc u=(decide (g.type=1)&&decide (g.params=0)):=by simp[zOc,q1,hp0]
   simp[zI]at hp0 q1 q4 q5;clear hd hul hpa hp;cases hnd:decide (unames u).Nodup
   ·rw[hnd]at hz hh
    (simp[*,flows,ze,arrs])<;>(repeat' (first|((first|refine sP _ ?_ ?_|refine gP _ ?_ ?_|refine sN _ ?_ ?_|refine gN _ ?_ ?_)<;>intro hc<;>(first|replace hc:=eqn hc|replace hc:=eqp hc)<;>simp[*,flows,ze,arrs])|((first|refine sM _ ?_ ?_|refine gM _ ?_ ?_|refine sB _ ?_ ?_|refine gB _ ?_ ?_)<;>intro hc<;>simp[*,flows,ze,arrs])))
   ·rw[hnd]at hz hh
    (simp[*,flows,ze,arrs])<;>(repeat' (first|((first|refine sP _ ?_ ?_|refine gP _ ?_ ?_|refine sN _ ?_ ?_|refine gN _ ?_ ?_)<;>intro hc<;>(first|replace hc:=eqn hc|replace hc:=eqp hc)<;>simp[*,flows,ze,arrs])|((first|refine sM _ ?_ ?_|refine gM _ ?_ ?_|refine sB _ ?_ ?_|refine gB _ ?_ ?_)<;>intro hc<;>simp[*,flows,ze,arrs])))
  ·have hm:zOc u=false:=by
    unfold zOc;split<;>simp;omega
   simp only[zI]at hp0;clear hd hul hpa hp;cases hnd:decide (unames u).Nodup
   ·rw[hnd]at hz hh
    (simp[*,flows,ze,arrs])<;>(repeat' (first|((first|refine sP _ ?_ ?_|refine gP _ ?_ ?_|refine sN _ ?_ ?_|refine gN _ ?_ ?_)<;>intro hc<;>(first|replace hc:=eqn hc|replace hc:=eqp hc)<;>simp[*,flows,ze,arrs])|((first|refine sM _ ?_ ?_|refine gM _ ?_ ?_|refine sB _ ?_ ?_|refine gB _ ?_ ?_)<;>intro hc<;>simp[*,flows,ze,arrs])))
   ·rw[hnd]at hz hh
    (simp[*,flows,ze,arrs])<;>(repeat' (first|((first|refine sP _ ?_ ?_|refine gP _ ?_ ?_|refine sN _ ?_ ?_|refine gN _ ?_ ?_)<;>intro hc<;>(first|replace hc:=eqn hc|replace hc:=eqp hc)<;>simp[*,flows,ze,arrs])|((first|refine sM _ ?_ ?_|refine gM _ ?_ ?_|refine sB _ ?_ ?_|refine gB _ ?_ ?_)<;>intro hc<;>simp[*,flows,ze,arrs])))
structure USz(u:Unt):Prop where
 arrs:u.arrays.length<1099511627776
 flows:u.flows.length<1099511627776
 types:∀f∈u.flows,f.types.length<1099511627776
 body:∀f∈u.flows,wtL f.body<1099511627776
theorem USz.ok{u:Unt}(h:USz u)(hh:zFc u=true):UOk u:=by
 refine⟨h.arrs,h.flows,fun f hf=>?_,h.types⟩;simp only[zFc,ya,ym]at hh;have:=hh.1.1.2 f hf;simp only[zPb,ya,decide_eq_true_eq]at this;exact⟨this.1.2,this.2⟩
def ztb(u:Unt):Int×Int:=if zFc u then(match u.flows.findIdx? (fun f=> !flowM u f)with
 |some i=>(80,(i:Int))
 |none=>(0,0))else(1,0)
theorem check_spec(u:Unt)(hu:USz u):zi E 23 [encUnt u] []=some (.ret (.tup [.int .i64 (ztb u).1,.int .i64 (ztb u).2]),[]):=by
 refine zb rfl rfl rfl (by simp[encUnt]) ?_;have h1:=head_spec u hu.arrs hu.flows;cases hh:zFc u
 ·simp[encUnt,hh,flows]at h1;have hc:ztb u=(1,0):=by simp[ztb,hh]
  (simp[*,F23,encUnt,flows])<;>(repeat' (first|((first|refine sP _ ?_ ?_|refine gP _ ?_ ?_|refine sN _ ?_ ?_|refine gN _ ?_ ?_)<;>intro hc<;>(first|replace hc:=eqn hc|replace hc:=eqp hc)<;>simp[*,F23,encUnt,flows])|((first|refine sM _ ?_ ?_|refine gM _ ?_ ?_|refine sB _ ?_ ?_|refine gB _ ?_ ?_)<;>intro hc<;>simp[*,F23,encUnt,flows])))
 ·have ho:=hu.ok hh;simp[encUnt,hh,flows]at h1;have hf:∀f∈u.flows,zi E 39 [encUnt u,ze f] []=some (.ret (.bool (flowM u f)),[]):=fun f hf=>flow_spec u f ho (ho.pars f hf) (hu.types f hf) (hu.body f hf)
  have hfl:=hu.flows;simp[F23,encUnt,flows,h1];refine zy u.flows K23_0 B23_0 (fun d=>[(12,.int .i64 d.length)]) (fun d=>[]) (fun d=>∀f∈d,flowM u f=true) (by omega) (by simp) ?_ ?_
  ·intros d x r s hl' hlt hget hget' hw hp q1 q2 q3 q4;simp at q1 q2 q3;have hfx:=hf x hl'.mem;simp[encUnt,flows,ze]at hfx;clear hf hu ho h1;cases hx:flowM u x
   ·have hi:=zEc (p:=fun f=> !flowM u f) hl' (by simpa using hp) (by simp[hx]);have hcx:ztb u=(80,(d.length:Int)):=by
     unfold idx at hi;simp only[ztb,hh,if_true];cases hfi:u.flows.findIdx? (fun f=> !flowM u f)with
     |none=>rw[hfi]at hi;simp at hi
     |some i=>rw[hfi]at hi;simp at hi;simp[hi]
    (simp[*,ze,flows])<;>(repeat' (first|((first|refine sP _ ?_ ?_|refine gP _ ?_ ?_|refine sN _ ?_ ?_|refine gN _ ?_ ?_)<;>intro hc<;>(first|replace hc:=eqn hc|replace hc:=eqp hc)<;>simp[*,ze,flows])|((first|refine sM _ ?_ ?_|refine gM _ ?_ ?_|refine sB _ ?_ ?_|refine gB _ ?_ ?_)<;>intro hc<;>simp[*,ze,flows])))
   ·(simp[*,ze,flows])<;>(repeat' (first|((first|refine sP _ ?_ ?_|refine gP _ ?_ ?_|refine sN _ ?_ ?_|refine gN _ ?_ ?_)<;>intro hc<;>(first|replace hc:=eqn hc|replace hc:=eqp hc)<;>simp[*,ze,flows])|((first|refine sM _ ?_ ?_|refine gM _ ?_ ?_|refine sB _ ?_ ?_|refine gB _ ?_ ?_)<;>intro hc<;>simp[*,ze,flows])))
    all_goals(try grind)
  ·intros s hp q1 q2 q3 q4;simp at q1 q2 q3;have hcx:ztb u=(0,0):=by
    have:u.flows.findIdx? (fun f=> !flowM u f)=none:=by rw[yga];simpa using hp
    simp[ztb,hh,this]
   clear hf hu ho hh h1 hp
   (simp[*])<;>(repeat' (first|((first|refine sP _ ?_ ?_|refine gP _ ?_ ?_|refine sN _ ?_ ?_|refine gN _ ?_ ?_)<;>intro hc<;>(first|replace hc:=eqn hc|replace hc:=eqp hc)<;>simp[*])|((first|refine sM _ ?_ ?_|refine gM _ ?_ ?_|refine sB _ ?_ ?_|refine gB _ ?_ ?_)<;>intro hc<;>simp[*])))
structure RS where
 inp:List Int
 arrs:List (List Int)
 out:List Int
 cost:Int
 fuel:Nat
inductive Rt(α:Type) where
 |ok (a:α)
 |stop (k:Int)
structure Wy where
 kind:Int
 l:List Int
abbrev NEv:=Node->List Int->RS->Rt Wy×List Int×RS
def oneC(op a:Int):Int:=
 if op=20 then yZ .i64 (0-a)else if op=21 then yZ .i64 (-1-a)else if op=22 then(if a=0 then 1 else 0)
 else if op=23 then(a+128)%256-128 else if op=24 then(a+32768)%65536-32768 else if op=25 then(a+2147483648)%4294967296-2147483648
 else if op=26 then a%256 else if op=27 then a%65536 else if op=28 then a%4294967296 else 0
def and64C(a b:Int):Int:=(yp 64 a&&&yp 64 b).toInt
def or64C(a b:Int):Int:=(yp 64 a|||yp 64 b).toInt
def xor64C(a b:Int):Int:=(yp 64 a^^^yp 64 b).toInt
def twoC(op a b:Int):Int×Bool:=
 if(cmp op a b).2=true then(if(cmp op a b).1=true then 1 else 0,true)
 else if op=1 then(yZ .i64 (a+b),true)else if op=2 then(yZ .i64 (a-b),true)else if op=3 then(yZ .i64 (a*b),true)
 else if op=6 then(and64C a b,true)else if op=7 then(or64C a b,true)else if op=8 then(xor64C a b,true)
 else if op=9 then(yZ .i64 (a*2^(b%64).toNat),true)else if op=10 then(a.fdiv (2^(b%64).toNat),true)
 else if op=11 then(yZ .i64 ((a%18446744073709551616).fdiv (2^(b%64).toNat)),true)
 else if b=0 then(0,false)else if op=4 then(yZ .i64 (a.tdiv b),true)else if op=5 then(a.tmod b,true)else(0,false)
theorem one_eqC(op a:Int):one op a=oneC op a:=by
 unfold one oneC;by_cases h1:op=20
 ·subst h1;simp[W,zP]
 by_cases h2:op=21
 ·subst h2;simp[not64,W,zP]
 by_cases h3:op=22
 ·subst h3;simp
 by_cases h4:op=26
 ·subst h4;simp only[wrapK_u8];simp;rw[W_id]<;>omega
 by_cases h5:op=27
 ·subst h5;simp only[wrapK_u16];simp;rw[W_id]<;>omega
 by_cases h6:op=28
 ·subst h6;simp only[wrapK_u32];simp;rw[W_id]<;>omega
 by_cases h7:op=23
 ·subst h7;simp only[wrapK_i8];simp;rw[W_id]<;>omega
 by_cases h8:op=24
 ·subst h8;simp only[wrapK_i16];simp;rw[W_id]<;>omega
 by_cases h9:op=25
 ·subst h9;simp only[wrapK_i32];simp;rw[W_id]<;>omega
 simp[h1,h2,h3,h4,h5,h6,h7,h8,h9]
theorem wrap64u(n:Int):yZ .u64 n=n%18446744073709551616:=by simp[yZ,yJ,IntKind.signed]
theorem two_eqC(op a b:Int):two op a b=twoC op a b:=by
 have h63:zqd b 63=b%64:=by have:=and_mask b 6 (by decide);simpa using this
 have hm:min (b%64).toNat 64=(b%64).toNat:=by omega
 unfold two twoC;rw[h63,hm];simp only[W,zP,and64_eq,or64_eq,xor64_eq,remK_eq,shrK_eq,and64C,or64C,xor64C,wrap64u]
def zE(S:RS):RS:={S with cost:=yZ .i64 (S.cost+1)}
def atA(l:List Int)(i:Nat):Int:=(l[i]?).getD 0
def cellAt(u:Unt)(S:RS)(nm:List UInt8)(n:Int):Option Int:=
 if n<0 then none else(S.arrs[(zpd u.arrays nm).toNat]?).bind fun l=>l[n.toNat]?
def putAt(u:Unt)(S:RS)(nm:List UInt8)(n m:Int):Option RS:=
 if n<0 then none else(S.arrs[(zpd u.arrays nm).toNat]?).bind fun l=>if n.toNat<l.length then some {S with arrs:=S.arrs.set (zpd u.arrays nm).toNat (l.set n.toNat m)}else none
def flowAt(u:Unt)(nm:List UInt8):Option Flow:=u.flows[(zQ u.flows nm).toNat]?
def setW:List Int->List Int->List Int->List Int
 |v,o::os,n::ns=>setW (v.set o.toNat n) os ns
 |v,_,_=>v
def ofW(v l:List Int):List Int:=l.map (at0 v)
def kid0(n:Node):List Node:=(n.kids[0]?).getD []
def kid1(n:Node):List Node:=(n.kids[1]?).getD []
section
variable (u:Unt) (ev:NEv)
def zka:List Node->List Int->RS->Rt Wy×List Int×RS
 | [],v,S=>(.ok ⟨0,[]⟩,v,S)
 |n::r,v,S=>match ev n v S with
  |(.ok w,v1,S1)=>if w.kind=0 then zka r v1 S1 else(.ok w,v1,S1)
  |(.stop k,v1,S1)=>(.stop k,v1,S1)
def zqc(f:Flow)(l:List Int)(S:RS):Rt Int×RS:=match zka ev f.body (l++yf (f.types.length-l.length) 0) S with
 |(.ok w,_,S1)=>(.ok (atA w.l 0),S1)
 |(.stop k,_,S1)=>(.stop k,S1)
def plainW(n:Node)(l:List Int)(S:RS):Rt (List Int)×RS:=
 if n.kind=3 then(.ok [oneC n.op (atA l 0)],S)
 else if n.kind=4 then(if(twoC n.op (atA l 0) (atA l 1)).2 then(.ok [(twoC n.op (atA l 0) (atA l 1)).1],S)else(.stop 2,S))
 else if n.kind=5 then(match cellAt u S n.name (atA l 0)with
  |some m=>(.ok [m],S)
  |none=>(.stop 3,S))
 else if n.kind=6 then(match putAt u S n.name (atA l 0) (atA l 1)with
  |some S1=>(.ok [],S1)
  |none=>(.stop 3,S))
 else if n.kind=7 then(match flowAt u n.name with
  |some f=>match zqc ev f l S with
   |(.ok m,S1)=>(.ok [m],S1)
   |(.stop k,S1)=>(.stop k,S1)
  |none=>(.ok [],S))
 else if n.kind=8 then(match S.inp with
  | []=>(.stop 4,S)
  |m::r=>(.ok [m],{S with inp:=r}))
 else if n.kind=9 then(.ok [],{S with out:=S.out++[atA l 0]})
 else(.ok [],S)
def znc(n:Node)(c:Int)(v:List Int)(S:RS):Rt Wy×List Int×RS:=match zka ev (if c=0 then kid1 n else kid0 n) v S with
 |(.ok w,v1,S1)=>if w.kind=12 then(.ok ⟨0,[]⟩,setW v1 n.outs w.l,S1)else(.ok w,v1,S1)
 |(.stop k,v1,S1)=>(.stop k,v1,S1)
def zwb(n:Node):Nat->List Int->List Int->RS->Rt Wy×List Int×RS
 |0,_,v,S=>(.stop 0,v,S)
 |k+1,l,v,S=>match zka ev (kid0 n) (setW v n.params l) S with
  |(.ok w,v1,S1)=>if w.kind=15 then(.ok w,v1,S1)else if w.kind=14 then(.ok ⟨0,[]⟩,setW v1 n.outs w.l,S1)else zwb n k w.l v1 S1
  |(.stop j,v1,S1)=>(.stop j,v1,S1)
def nodeW(w:Nat)(n:Node)(v:List Int)(S:RS):Rt Wy×List Int×RS:=
 if n.kind=1\/n.kind=2 then(.ok ⟨0,[]⟩,setW v n.outs [n.n],S)
 else if 12<=n.kind/\n.kind<=15 then(.ok ⟨n.kind,ofW v n.args⟩,v,S)
 else if n.kind=10 then znc ev n (atA (ofW v n.args) 0) v S
 else if n.kind=11 then zwb ev n (w+1) (ofW v n.args) v S
 else match plainW u ev n (ofW v n.args) (zE S)with
  |(.ok m,S1)=>(.ok ⟨0,[]⟩,setW v n.outs m,S1)
  |(.stop k,S1)=>(.stop k,v,S1)
end
def evN(u:Unt):Nat->NEv
 |0=>fun _ v S=>(.stop 0,v,S)
 |w+1=>fun n v S=>match S.fuel with
  |0=>(.stop 0,v,S)
  |k+1=>nodeW u (evN u w) w n v {S with fuel:=k}
structure Rn where
 status:Int
 code:Int
 out:List Int
 cost:Int
 fuel:Nat
def run0(u:Unt)(inp:List Int)(fuel:Int):RS:=⟨inp,u.arrays.map (fun a=>yf a.size.toNat 0),[],0,fuel.toNat⟩
def runEnd:Rt Int×RS->Rn
 |(.ok n,S)=>⟨1,n,S.out,S.cost,S.fuel⟩
 |(.stop k,S)=>⟨k,0,S.out,S.cost,S.fuel⟩
def mainW(u:Unt)(S:RS):Rt Int×RS:=match flowAt u zI with
 |some f=>zqc (evN u S.fuel) f [] S
 |none=>(.ok 0,S)
def playM(u:Unt)(inp:List Int)(fuel:Int):Rn:=
 if(ztb u).1=0 then runEnd (mainW u (run0 u inp fuel))else⟨0,0,[],0,0⟩
abbrev Set1:=List Bool
def seO(Z:Set1):Obj:= .arr 1 (Z.map PV.bool)
def atB(l:List Bool)(v:Int):Bool:=(l[v.toNat]?).getD false
theorem atB_get{l:List Bool}{v:Int}(h0:0<=v)(h1:v<l.length):l[v.toNat]? =some (atB l v):=by
 unfold atB;have:v.toNat<l.length:=by omega
 simp[this]
theorem atB_get'{l:List Bool}{v:Int}(h0:0<=v)(h1:v<l.length)(h:v.toNat<l.length):l[v.toNat]'h=atB l v:=by
 unfold atB;simp[h]
theorem in_spec(l:List Int)(n:Int)(σ:zc)(hl:l.length<1099511627776):zi E 143 [ints l,.int .i64 n] σ=some (.ret (.bool (l.contains n)),σ):=by
 refine zb rfl rfl rfl (by simp) ?_;simp[F143];refine zy l K143_0 B143_0 (fun d=>[(5,.int .i64 d.length)]) (fun _=>σ) (fun d=>n ∉ d) (by omega) (by simp) ?_ ?_
 ·intros d x r s hl' hlt hget hget' hw hp h1 h2 h3 h4;simp at h1 h3;have hm:=hl'.mem
  (simp[*,ints])<;>(repeat' (first|((first|refine sP _ ?_ ?_|refine gP _ ?_ ?_|refine sN _ ?_ ?_|refine gN _ ?_ ?_)<;>intro hc<;>(first|replace hc:=eqn hc|replace hc:=eqp hc)<;>simp[*,ints])|((first|refine sM _ ?_ ?_|refine gM _ ?_ ?_|refine sB _ ?_ ?_|refine gB _ ?_ ?_)<;>intro hc<;>simp[*,ints])))
  all_goals(try grind)
 ·intros s hp h1 h2 h3 h4;simp at h1 h3
  (simp[*,ints])<;>(repeat' (first|((first|refine sP _ ?_ ?_|refine gP _ ?_ ?_|refine sN _ ?_ ?_|refine gN _ ?_ ?_)<;>intro hc<;>(first|replace hc:=eqn hc|replace hc:=eqp hc)<;>simp[*,ints])|((first|refine sM _ ?_ ?_|refine gM _ ?_ ?_|refine sB _ ?_ ?_|refine gB _ ?_ ?_)<;>intro hc<;>simp[*,ints])))
theorem of_spec(u:Unt)(f:Flow)(n:Nat)(l:List Int)(σ:zc)(hl:l.length<1099511627776):zi E 120 [chkV u f n,ints l] σ=some (.ret (ints (zC f.types l)),σ):=by
 refine zb rfl rfl rfl (by simp) ?_;simp[F120,ints];refine zy l K120_0 B120_0 (fun d=>[(6,.int .i64 d.length),(5,acc 1 (d.map fun v=> .int .i64 (at0 f.types v)))]) (fun _=>σ) (fun d=>d.all (fun v=>valM f.types v 0)=true) (by omega) (by simp) ?_ ?_
 ·intros d x r s hl' hlt hget hget' hw hp h1 h2 h3 h4;simp at h1 h3;clear h2;have hn:valM f.types x 0=false->zC f.types l=[]:=by
   intro hx;unfold zC;rw[if_neg];rw[hl'.eq];simp[hx]
  by_cases r0:x<0
  ·have hn:=hn (by simp[valM];omega)
   (simp[*,chkV,ints])<;>(repeat' (first|((first|refine sP _ ?_ ?_|refine gP _ ?_ ?_|refine sN _ ?_ ?_|refine gN _ ?_ ?_)<;>intro hc<;>(first|replace hc:=eqn hc|replace hc:=eqp hc)<;>simp[*,chkV,ints])|((first|refine sM _ ?_ ?_|refine gM _ ?_ ?_|refine sB _ ?_ ?_|refine gB _ ?_ ?_)<;>intro hc<;>simp[*,chkV,ints])))
  by_cases r1:(f.types.length:Int)<=x
  ·have hn:=hn (by simp[valM];omega)
   (simp[*,chkV,ints])<;>(repeat' (first|((first|refine sP _ ?_ ?_|refine gP _ ?_ ?_|refine sN _ ?_ ?_|refine gN _ ?_ ?_)<;>intro hc<;>(first|replace hc:=eqn hc|replace hc:=eqp hc)<;>simp[*,chkV,ints])|((first|refine sM _ ?_ ?_|refine gM _ ?_ ?_|refine sB _ ?_ ?_|refine gB _ ?_ ?_)<;>intro hc<;>simp[*,chkV,ints])))
  ·have r0':0<=x:=by omega
   have r1':x<f.types.length:=by omega
   have hv:valM f.types x 0=true:=by simp[valM];omega
   have q1:=zDb r0' r1';have q2:x.toNat<f.types.length:=by omega
   have q3:=zab r0' r1' q2;have q4:(d.length+1)*8<=zJ:=by simp only[zJ];omega
   clear hn
   (simp[*,chkV,ints])<;>(repeat' (first|((first|refine sP _ ?_ ?_|refine gP _ ?_ ?_|refine sN _ ?_ ?_|refine gN _ ?_ ?_)<;>intro hc<;>(first|replace hc:=eqn hc|replace hc:=eqp hc)<;>simp[*,chkV,ints])|((first|refine sM _ ?_ ?_|refine gM _ ?_ ?_|refine sB _ ?_ ?_|refine gB _ ?_ ?_)<;>intro hc<;>simp[*,chkV,ints])))
 ·intros s hp h1 h2 h3 h4;simp at h1 h3;have:zC f.types l=l.map (at0 f.types):=by
   unfold zC;rw[if_pos hp]
  (simp[*,ints])<;>(repeat' (first|((first|refine sP _ ?_ ?_|refine gP _ ?_ ?_|refine sN _ ?_ ?_|refine gN _ ?_ ?_)<;>intro hc<;>(first|replace hc:=eqn hc|replace hc:=eqp hc)<;>simp[*,ints])|((first|refine sM _ ?_ ?_|refine gM _ ?_ ?_|refine sB _ ?_ ?_|refine gB _ ?_ ?_)<;>intro hc<;>simp[*,ints])))
def useR(ty:List Int)(seen:List Int)(v t:Int):Bool:=decide (0<=v)&&(decide (v<ty.length)&&(seen.contains v&&(decide (t=0)||decide (at0 ty v=t))))
def zH(ty:List Int)(seen:List Int)(l want:List Int):Bool:=decide (l.length=want.length)&&(l.zip want).all fun p=>useR ty seen p.1 p.2
theorem zip_get{l ts d:List Int}{q:Nat}{v t:Int}(hget:(l.zip ts)[q]? =some (v,t)):l[q]? =some v/\ts[q]? =some t:=by
 rw[List.getElem?_zip_eq_some]at hget;exact hget
theorem rtypes_spec(u:Unt)(f:Flow)(n:Nat)(l seen want:List Int)(σ:zc)(hl:l.length<1099511627776)(hs:seen.length<1099511627776):
  zi E 121 [chkV u f n,ints l,ints seen,ints want] σ=some (.ret (.bool (zH f.types seen l want)),σ):=by
 refine zb rfl rfl rfl (by simp) ?_;by_cases hlen:l.length=want.length
 ·simp[F121,ints,hlen];have ht:zH f.types seen l want=(l.zip want).all fun p=>useR f.types seen p.1 p.2:=by simp[zH,hlen]
  refine zy (l.zip want) K121_0 B121_0 (fun d=>[(9,.int .i64 d.length)]) (fun _=>σ) (fun d=>∀p∈d,useR f.types seen p.1 p.2=true) (by simp;omega) (by simp) ?_ ?_
  ·rintro d ⟨v,t⟩ r s hl' hlt hget hget' hw hp h1 h2 h3 h4
   simp at h1 h3;clear h2;obtain⟨g1,g2⟩:=zip_get (d:=l) hget;have hlt1:d.length<l.length:=by simp at hlt;omega
   have hlt2:d.length<want.length:=by omega
   have g1':l[d.length]=v:=by simpa[hlt1]using g1
   have g2':want[d.length]=t:=by simpa[hlt2]using g2
   have hin:=in_spec seen v [] hs;have hf:useR f.types seen v t=false->zH f.types seen l want=false:=fun hx=>by
    rw[ht,hl'.eq];simp[hx]
   clear hget hget' ht;simp[ints]at hin;by_cases r0:v<0
   ·have hf:=hf (by simp[useR];omega)
    (simp[*,chkV,ints])<;>(repeat' (first|((first|refine sP _ ?_ ?_|refine gP _ ?_ ?_|refine sN _ ?_ ?_|refine gN _ ?_ ?_)<;>intro hc<;>(first|replace hc:=eqn hc|replace hc:=eqp hc)<;>simp[*,chkV,ints])|((first|refine sM _ ?_ ?_|refine gM _ ?_ ?_|refine sB _ ?_ ?_|refine gB _ ?_ ?_)<;>intro hc<;>simp[*,chkV,ints])))
   by_cases r1:(f.types.length:Int)<=v
   ·have hf:=hf (by simp[useR];omega)
    (simp[*,chkV,ints])<;>(repeat' (first|((first|refine sP _ ?_ ?_|refine gP _ ?_ ?_|refine sN _ ?_ ?_|refine gN _ ?_ ?_)<;>intro hc<;>(first|replace hc:=eqn hc|replace hc:=eqp hc)<;>simp[*,chkV,ints])|((first|refine sM _ ?_ ?_|refine gM _ ?_ ?_|refine sB _ ?_ ?_|refine gB _ ?_ ?_)<;>intro hc<;>simp[*,chkV,ints])))
   have r0':0<=v:=by omega
   have r1':v<f.types.length:=by omega
   have q1:=zDb r0' r1';have q2:v.toNat<f.types.length:=by omega
   have q3:=zab r0' r1' q2;have hu:(seen.contains v&&(decide (t=0)||decide (at0 f.types v=t)))=useR f.types seen v t:=by simp[useR,r0',r1']
   cases hx:useR f.types seen v t
   ·have hf:=hf hx;rw[hx]at hu
    (simp[*,chkV,ints])<;>(repeat' (first|((first|refine sP _ ?_ ?_|refine gP _ ?_ ?_|refine sN _ ?_ ?_|refine gN _ ?_ ?_)<;>intro hc<;>(first|replace hc:=eqn hc|replace hc:=eqp hc)<;>simp[*,chkV,ints])|((first|refine sM _ ?_ ?_|refine gM _ ?_ ?_|refine sB _ ?_ ?_|refine gB _ ?_ ?_)<;>intro hc<;>simp[*,chkV,ints])))
    all_goals(try grind)
   ·clear hf;rw[hx]at hu
    (simp[*,chkV,ints])<;>(repeat' (first|((first|refine sP _ ?_ ?_|refine gP _ ?_ ?_|refine sN _ ?_ ?_|refine gN _ ?_ ?_)<;>intro hc<;>(first|replace hc:=eqn hc|replace hc:=eqp hc)<;>simp[*,chkV,ints])|((first|refine sM _ ?_ ?_|refine gM _ ?_ ?_|refine sB _ ?_ ?_|refine gB _ ?_ ?_)<;>intro hc<;>simp[*,chkV,ints])))
    all_goals(try grind)
  ·rintro s hp h1 h2 h3 h4
   have hz:(l.zip want).length=l.length:=by simp;omega
   rw[hz]at h3;simp at h1 h3;have ht2:zH f.types seen l want=true:=by rw[ht,ym];exact hp
   clear hp ht
   (simp[*,ints])<;>(repeat' (first|((first|refine sP _ ?_ ?_|refine gP _ ?_ ?_|refine sN _ ?_ ?_|refine gN _ ?_ ?_)<;>intro hc<;>(first|replace hc:=eqn hc|replace hc:=eqp hc)<;>simp[*,ints])|((first|refine sM _ ?_ ?_|refine gM _ ?_ ?_|refine sB _ ?_ ?_|refine gB _ ?_ ?_)<;>intro hc<;>simp[*,ints])))
 ·have ht:zH f.types seen l want=false:=by simp[zH,hlen]
  have hlen':¬(l.length:Int)=want.length:=by omega
  (simp[*,F121,ints])<;>(repeat' (first|((first|refine sP _ ?_ ?_|refine gP _ ?_ ?_|refine sN _ ?_ ?_|refine gN _ ?_ ?_)<;>intro hc<;>(first|replace hc:=eqn hc|replace hc:=eqp hc)<;>simp[*,F121,ints])|((first|refine sM _ ?_ ?_|refine gM _ ?_ ?_|refine sB _ ?_ ?_|refine gB _ ?_ ?_)<;>intro hc<;>simp[*,F121,ints])))
def zqb(ty:List Int)(Z:Set1)(v t:Int):Bool×Set1:=if valM ty v t&& !atB Z v then(true,Z.set v.toNat true)else(false,Z)
def zoa(ty:List Int)(Z:Set1)(l want:List Int):Bool×Set1:=eqM (zqb ty) Z l want
theorem setRG_len(ty:List Int)(Z:Set1)(v t:Int):(zqb ty Z v t).2.length=Z.length:=by
 unfold zqb;split<;>simp
theorem zHc(ty:List Int):∀(l:List (Int×Int)) (S:Set1),(eqGo (zqb ty) S l).2.length=S.length
 | [],S=>rfl
 |p::r,S=>by
  simp only[eqGo];split
  ·rw[zHc ty r,setRG_len]
  ·rw[setRG_len]
theorem setsR_len(ty:List Int)(S:Set1)(l ts:List Int):(zoa ty S l ts).2.length=S.length:=by
 unfold zoa eqM;split
 ·exact zHc _ _ _
 ·rfl
theorem rsets_spec(u:Unt)(f:Flow)(Z:Set1)(l want:List Int)(hZ:Z.length=f.types.length)(hl:l.length<1099511627776):
  zi E 122 [chkV u f f.types.length,ints l,ints want] [seO Z]=some (.ret (.bool (zoa f.types Z l want).1),[seO (zoa f.types Z l want).2]):=by
 refine zb rfl rfl rfl (by simp) ?_;by_cases hlen:l.length=want.length
 ·simp[F122,ints,hlen];have hm:zoa f.types Z l want=eqGo (zqb f.types) Z (l.zip want):=by simp[zoa,eqM,hlen]
  refine zy (l.zip want) K122_0 B122_0 (fun d=>[(7,.int .i64 d.length)]) (fun d=>[seO (eqGo (zqb f.types) Z d).2]) (fun d=>(eqGo (zqb f.types) Z d).1=true) (by simp;omega) (by simp[eqGo]) ?_ ?_
  ·rintro d ⟨v,t⟩ r s hl' hlt hget hget' hw hp h1 h2 h3 h4
   simp at h1 h3;clear h2;obtain⟨g1,g2⟩:=zip_get (d:=l) hget;have hlt1:d.length<l.length:=by simp at hlt;omega
   have hlt2:d.length<want.length:=by omega
   have g1':l[d.length]=v:=by simpa[hlt1]using g1
   have g2':want[d.length]=t:=by simpa[hlt2]using g2
   have hZ1:(eqGo (zqb f.types) Z d).2.length=f.types.length:=by rw[zHc];exact hZ
   generalize hzd:(eqGo (zqb f.types) Z d).2=Z1 at*;have e1:eqGo (zqb f.types) Z (d++[(v,t)])=((zqb f.types Z1 v t).1,(zqb f.types Z1 v t).2):=by
    rw[zkc,hp,hzd];simp only[eqGo,if_true];cases(zqb f.types Z1 v t).1<;>rfl
   have e2:(zqb f.types Z1 v t).1=false->zoa f.types Z l want=(false,Z1):=by
    intro hf;have h2:(zqb f.types Z1 v t).2=Z1:=by
     by_cases hc:(valM f.types v t&& !atB Z1 v)=true
     ·rw[zqb,if_pos hc]at hf;cases hf
     ·rw[zqb,if_neg hc]
    rw[hm,hl'.eq,zkc,hp,hzd];simp[eqGo,hf,h2]
   clear hget hget' hm;by_cases r0:v<0
   ·have hv:valM f.types v t=false:=by simp[valM];omega
    have e2:=e2 (by simp[zqb,hv])
    (simp[*,chkV,ints])<;>(repeat' (first|((first|refine sP _ ?_ ?_|refine gP _ ?_ ?_|refine sN _ ?_ ?_|refine gN _ ?_ ?_)<;>intro hc<;>(first|replace hc:=eqn hc|replace hc:=eqp hc)<;>simp[*,chkV,ints])|((first|refine sM _ ?_ ?_|refine gM _ ?_ ?_|refine sB _ ?_ ?_|refine gB _ ?_ ?_)<;>intro hc<;>simp[*,chkV,ints])))
   by_cases r1:(f.types.length:Int)<=v
   ·have hv:valM f.types v t=false:=by simp[valM];omega
    have e2:=e2 (by simp[zqb,hv])
    (simp[*,chkV,ints])<;>(repeat' (first|((first|refine sP _ ?_ ?_|refine gP _ ?_ ?_|refine sN _ ?_ ?_|refine gN _ ?_ ?_)<;>intro hc<;>(first|replace hc:=eqn hc|replace hc:=eqp hc)<;>simp[*,chkV,ints])|((first|refine sM _ ?_ ?_|refine gM _ ?_ ?_|refine sB _ ?_ ?_|refine gB _ ?_ ?_)<;>intro hc<;>simp[*,chkV,ints])))
   have r0':0<=v:=by omega
   have r1':v<f.types.length:=by omega
   have rz:v<Z1.length:=by omega
   have q1:=zDb r0' r1';have q2:v.toNat<f.types.length:=by omega
   have q3:=zab r0' r1' q2;have q4:=atB_get r0' rz;have q5:v.toNat<Z1.length:=by omega
   have q6:=atB_get' r0' rz q5;have hv:(decide (t=0)||decide (at0 f.types v=t))=valM f.types v t:=by simp[valM,r0',r1']
   cases hb:atB Z1 v
   ·cases hx:valM f.types v t
    ·have e2:=e2 (by simp[zqb,hx]);rw[hx]at hv
     (simp[*,chkV,ints,seO,zB,zHa])<;>(repeat' (first|((first|refine sP _ ?_ ?_|refine gP _ ?_ ?_|refine sN _ ?_ ?_|refine gN _ ?_ ?_)<;>intro hc<;>(first|replace hc:=eqn hc|replace hc:=eqp hc)<;>simp[*,chkV,ints,seO,zB,zHa])|((first|refine sM _ ?_ ?_|refine gM _ ?_ ?_|refine sB _ ?_ ?_|refine gB _ ?_ ?_)<;>intro hc<;>simp[*,chkV,ints,seO,zB,zHa])))
     all_goals(try grind)
    ·have e3:zqb f.types Z1 v t=(true,Z1.set v.toNat true):=by simp[zqb,hx,hb]
     rw[hx]at hv;rw[e3]at e1;clear e2
     (simp[*,chkV,ints,seO,zB,zHa,yT])<;>(repeat' (first|((first|refine sP _ ?_ ?_|refine gP _ ?_ ?_|refine sN _ ?_ ?_|refine gN _ ?_ ?_)<;>intro hc<;>(first|replace hc:=eqn hc|replace hc:=eqp hc)<;>simp[*,chkV,ints,seO,zB,zHa,yT])|((first|refine sM _ ?_ ?_|refine gM _ ?_ ?_|refine sB _ ?_ ?_|refine gB _ ?_ ?_)<;>intro hc<;>simp[*,chkV,ints,seO,zB,zHa,yT])))
     all_goals(try grind)
   ·have e2:=e2 (by simp[zqb,hb])
    (simp[*,chkV,ints,seO])<;>(repeat' (first|((first|refine sP _ ?_ ?_|refine gP _ ?_ ?_|refine sN _ ?_ ?_|refine gN _ ?_ ?_)<;>intro hc<;>(first|replace hc:=eqn hc|replace hc:=eqp hc)<;>simp[*,chkV,ints,seO])|((first|refine sM _ ?_ ?_|refine gM _ ?_ ?_|refine sB _ ?_ ?_|refine gB _ ?_ ?_)<;>intro hc<;>simp[*,chkV,ints,seO])))
  ·rintro s hp h1 h2 h3 h4
   have hz:(l.zip want).length=l.length:=by simp;omega
   rw[hz]at h3;simp at h1 h3
   (simp[*,ints])<;>(repeat' (first|((first|refine sP _ ?_ ?_|refine gP _ ?_ ?_|refine sN _ ?_ ?_|refine gN _ ?_ ?_)<;>intro hc<;>(first|replace hc:=eqn hc|replace hc:=eqp hc)<;>simp[*,ints])|((first|refine sM _ ?_ ?_|refine gM _ ?_ ?_|refine sB _ ?_ ?_|refine gB _ ?_ ?_)<;>intro hc<;>simp[*,ints])))
 ·have ht:zoa f.types Z l want=(false,Z):=by simp[zoa,eqM,hlen]
  have hlen':¬(l.length:Int)=want.length:=by omega
  (simp[*,F122,ints])<;>(repeat' (first|((first|refine sP _ ?_ ?_|refine gP _ ?_ ?_|refine sN _ ?_ ?_|refine gN _ ?_ ?_)<;>intro hc<;>(first|replace hc:=eqn hc|replace hc:=eqp hc)<;>simp[*,F122,ints])|((first|refine sM _ ?_ ?_|refine gM _ ?_ ?_|refine sB _ ?_ ?_|refine gB _ ?_ ?_)<;>intro hc<;>simp[*,F122,ints])))
def takesR(op:Int):Int:=if op=18\/op=19\/op=22 then 2 else if op=16\/op=17 then 0 else 1
def makesR(op:Int):Int:=if op=18\/op=19\/op=22\/(12<=op/\op<=17)then 2 else 1
theorem roperand_spec(op:Int):zi E 144 [.int .i64 op] []=some (.ret (.tup [.int .i64 (takesR op),.int .i64 (makesR op)]),[]):=by
 refine zb rfl rfl rfl (by simp) ?_
 (simp[*,F144,takesR,makesR])<;>(repeat' ((first|refine sP _ ?_ ?_|refine gP _ ?_ ?_|refine sN _ ?_ ?_|refine gN _ ?_ ?_|refine sM _ ?_ ?_|refine gM _ ?_ ?_|refine sB _ ?_ ?_|refine gB _ ?_ ?_)<;>intro hc<;>simp[*,F144,takesR,makesR]))
 all_goals(try grind)
def isOne(op:Int):Bool:=decide (20<=op)&&decide (op<=28)
def isTwo(op:Int):Bool:=decide (1<=op)&&decide (op<=17)
theorem isOne_spec(op:Int):zi E 145 [.int .i64 op] []=some (.ret (.bool (isOne op)),[]):=by
 refine zb rfl rfl rfl (by simp) ?_
 (simp[*,F145,isOne])<;>(repeat' ((first|refine sP _ ?_ ?_|refine gP _ ?_ ?_|refine sN _ ?_ ?_|refine gN _ ?_ ?_|refine sM _ ?_ ?_|refine gM _ ?_ ?_|refine sB _ ?_ ?_|refine gB _ ?_ ?_)<;>intro hc<;>simp[*,F145,isOne]))
theorem isTwo_spec(op:Int):zi E 146 [.int .i64 op] []=some (.ret (.bool (isTwo op)),[]):=by
 refine zb rfl rfl rfl (by simp) ?_
 (simp[*,F146,isTwo])<;>(repeat' ((first|refine sP _ ?_ ?_|refine gP _ ?_ ?_|refine sN _ ?_ ?_|refine gN _ ?_ ?_|refine sM _ ?_ ?_|refine gM _ ?_ ?_|refine sB _ ?_ ?_|refine gB _ ?_ ?_)<;>intro hc<;>simp[*,F146,isTwo]))
theorem takesR_one{op:Int}(h:isOne op=true):takesR op=takes op/\makesR op=zcd op:=by
 simp[isOne]at h;constructor<;>simp[takesR,takes,makesR,zcd]<;>grind
theorem takesR_two{op:Int}(h:isTwo op=true):takesR op=takes op/\makesR op=zcd op:=by
 simp[isTwo]at h;constructor<;>simp[takesR,takes,makesR,zcd]<;>grind
theorem rbare_spec(x:Node):zi E 119 [zD x] []=some (.ret (.bool (zob x)),[]):=by
 refine zb rfl rfl rfl (by simp[za]) ?_;have hp:decide ((x.params.length:Int)=0)=decide (x.params=[]):=by simp
 by_cases h10:x.kind=10
 ·(simp[*,F119,za,ints,kids,zob,zhc])<;>(repeat' ((first|refine sP _ ?_ ?_|refine gP _ ?_ ?_|refine sN _ ?_ ?_|refine gN _ ?_ ?_|refine sM _ ?_ ?_|refine gM _ ?_ ?_|refine sB _ ?_ ?_|refine gB _ ?_ ?_)<;>intro hc<;>simp[*,F119,za,ints,kids,zob,zhc]))
  all_goals(try grind)
 ·by_cases h11:x.kind=11
  ·(simp[*,F119,za,ints,kids,zob,zhc])<;>(repeat' ((first|refine sP _ ?_ ?_|refine gP _ ?_ ?_|refine sN _ ?_ ?_|refine gN _ ?_ ?_|refine sM _ ?_ ?_|refine gM _ ?_ ?_|refine sB _ ?_ ?_|refine gB _ ?_ ?_)<;>intro hc<;>simp[*,F119,za,ints,kids,zob,zhc]))
   all_goals(try grind)
  ·(simp[*,F119,za,ints,kids,zob,zhc])<;>(repeat' ((first|refine sP _ ?_ ?_|refine gP _ ?_ ?_|refine sN _ ?_ ?_|refine gN _ ?_ ?_|refine sM _ ?_ ?_|refine gM _ ?_ ?_|refine sB _ ?_ ?_|refine gB _ ?_ ?_)<;>intro hc<;>simp[*,F119,za,ints,kids,zob,zhc]))
   all_goals(try grind)
def zda(u:Unt)(f:Flow)(seen:List Int)(w:Place)(Z:Set1)(n:Node):Bool×Set1:=
 let ty:=f.types
 if n.kind=1 then if zH ty seen n.args []then zoa ty Z n.outs [1]else(false,Z)
 else if n.kind=2 then if(n.n=0\/n.n=1)/\zH ty seen n.args []=true then zoa ty Z n.outs [2]else(false,Z)
 else if n.kind=3 then if isOne n.op&&zH ty seen n.args [takes n.op]then zoa ty Z n.outs [zcd n.op]else(false,Z)
 else if n.kind=4 then if(isTwo n.op&&zH ty seen n.args [takes n.op,takes n.op])=true/\at0 ty (at0 n.args 0)=at0 ty (at0 n.args 1)then zoa ty Z n.outs [zcd n.op]else(false,Z)
 else if n.kind=5 then if zkb u.arrays n.name&&zH ty seen n.args [1]then zoa ty Z n.outs [1]else(false,Z)
 else if n.kind=6 then(zkb u.arrays n.name&&(zH ty seen n.args [1,1]&&decide (n.outs=[])),Z)
 else if n.kind=7 then
  match u.flows[(zQ u.flows n.name).toNat]? with
  |some g=>if 0<=zQ u.flows n.name/\zH ty seen n.args (pars g)=true then zoa ty Z n.outs [g.type]else(false,Z)
  |none=>(false,Z)
 else if n.kind=8 then if n.args=[]then zoa ty Z n.outs [1]else(false,Z)
 else if n.kind=9 then(zH ty seen n.args [1]&&decide (n.outs=[]),Z)
 else if n.kind=12 then(w.inIf&&(zH ty seen n.args w.yield&&decide (n.outs=[])),Z)
 else if n.kind=13 then(w.inLoop&&(zH ty seen n.args w.next&&decide (n.outs=[])),Z)
 else if n.kind=14 then(w.inLoop&&(zH ty seen n.args w.left&&decide (n.outs=[])),Z)
 else if n.kind=15 then(zH ty seen n.args [f.type]&&decide (n.outs=[]),Z)
 else(false,Z)
theorem typesR_two{ty seen l:List Int}{t t':Int}(h:zH ty seen l [t,t']=true):∃a b,l=[a,b]/\0<=a/\a<ty.length/\0<=b/\b<ty.length:=by
 unfold zH at h
 match l with
 | []=>simp at h
 | [_]=>simp at h
 |a::b::_::_=>simp at h
 | [a,b]=>
  simp[useR]at h;exact⟨a,b,rfl,h.1.1,h.1.2.1,h.2.1,h.2.2.1⟩
theorem arrAt_has(l:List Arr)(s:List UInt8):decide (0<=zpd l s)=zkb l s:=idx_ge _ _
set_option maxHeartbeats 1000000 in
theorem rsimple_spec(u:Unt)(f:Flow)(seen:List Int)(w:Place)(Z:Set1)(x:Node)(hu:UOk u)(hZ:Z.length=f.types.length)(hx:wtN x<1099511627776)(hs:seen.length<1099511627776):
  zi E 123 [chkV u f f.types.length,zD x,ints seen,zf w] [seO Z]=some (.ret (.bool (zda u f seen w Z x).1),[seO (zda u f seen w Z x).2]):=by
 refine zb rfl rfl rfl (by simp[za,chkV,zf]) ?_;have hw:=zEa x;have hT:=fun want=>rtypes_spec u f f.types.length x.args seen want [seO Z] (by omega) hs
 have hS:=fun want=>rsets_spec u f Z x.outs want hZ (by omega)
 have h6:=rarray_spec u x.name [] hu.arrs;have h7:=zvb u x.name [] hu.flows;have ho:=arrAt_has u.arrays x.name;have hl0:decide ((x.outs.length:Int)=0)=decide (x.outs=[]):=by simp
 have hl1:decide ((x.args.length:Int)=0)=decide (x.args=[]):=by simp
 by_cases k7:x.kind=7
 ·by_cases hp:0<=zQ u.flows x.name
  ·obtain⟨g,q1,q2,q3,q4⟩:=place_get hp;obtain⟨p1,p2⟩:=hu.pars g q2;have q5:u.flows[(zQ u.flows x.name).toNat]=g:=by simpa[q4]using q1
   have e:zda u f seen w Z x=if zH f.types seen x.args (pars g)=true then zoa f.types Z x.outs [g.type]else(false,Z):=by simp[zda,k7,q1,hp]
   have h8:=hT (pars g);have h9:=hS [g.type];have p3:g.params.toNat<=g.types.length:=by omega
   simp[chkV,ints,encUnt,za,k7,flows,pars,List.map_take]at h8 h9 h7;clear h6 hu hT hS hw hl0 hl1 ho
   (simp[*,F123,za,chkV,ints,flows,ze,pars,List.map_take,zf])<;>(repeat' ((first|refine sP _ ?_ ?_|refine gP _ ?_ ?_|refine sN _ ?_ ?_|refine gN _ ?_ ?_|refine sM _ ?_ ?_|refine gM _ ?_ ?_|refine sB _ ?_ ?_|refine gB _ ?_ ?_)<;>intro hc<;>simp[*,F123,za,chkV,ints,flows,ze,pars,List.map_take,zf]))
  ·have e:zda u f seen w Z x=(false,Z):=by
    simp only[zda,k7];simp;split<;>simp[hp]
   simp[chkV,ints,encUnt,za,k7]at h7;clear h6 hu hT hS hw hl0 hl1 ho
   (simp[*,F123,za,chkV,ints,zf])<;>(repeat' ((first|refine sP _ ?_ ?_|refine gP _ ?_ ?_|refine sN _ ?_ ?_|refine gN _ ?_ ?_|refine sM _ ?_ ?_|refine gM _ ?_ ?_|refine sB _ ?_ ?_|refine gB _ ?_ ?_)<;>intro hc<;>simp[*,F123,za,chkV,ints,zf]))
 by_cases k3:x.kind=3
 ·have e:zda u f seen w Z x=if isOne x.op&&zH f.types seen x.args [takes x.op]then zoa f.types Z x.outs [zcd x.op]else(false,Z):=by simp[zda,k3]
  have a1:=roperand_spec x.op;have a2:=isOne_spec x.op;cases ho1:isOne x.op
  ·rw[ho1]at e a2;clear h6 h7 hu hT hS hw hl0 hl1 ho
   (simp[*,F123,za,chkV,ints,zf])<;>(repeat' ((first|refine sP _ ?_ ?_|refine gP _ ?_ ?_|refine sN _ ?_ ?_|refine gN _ ?_ ?_|refine sM _ ?_ ?_|refine gM _ ?_ ?_|refine sB _ ?_ ?_|refine gB _ ?_ ?_)<;>intro hc<;>simp[*,F123,za,chkV,ints,zf]))
  ·obtain⟨t1,t2⟩:=takesR_one ho1;rw[t1,t2]at a1;rw[ho1]at e a2;have h8:=hT [takes x.op];have h9:=hS [zcd x.op];simp[chkV,ints,za]at h8 h9;clear h6 h7 hu hT hS hw hl0 hl1 ho
   (simp[*,F123,za,chkV,ints,zf])<;>(repeat' ((first|refine sP _ ?_ ?_|refine gP _ ?_ ?_|refine sN _ ?_ ?_|refine gN _ ?_ ?_|refine sM _ ?_ ?_|refine gM _ ?_ ?_|refine sB _ ?_ ?_|refine gB _ ?_ ?_)<;>intro hc<;>simp[*,F123,za,chkV,ints,zf]))
 by_cases k4:x.kind=4
 ·have e:zda u f seen w Z x=if(isTwo x.op&&zH f.types seen x.args [takes x.op,takes x.op])=true/\at0 f.types (at0 x.args 0)=at0 f.types (at0 x.args 1)then zoa f.types Z x.outs [zcd x.op]else(false,Z):=by simp[zda,k4]
  have a1:=roperand_spec x.op;have a2:=isTwo_spec x.op;cases ho1:isTwo x.op
  ·rw[ho1]at e a2;clear h6 h7 hu hT hS hw hl0 hl1 ho
   (simp[*,F123,za,chkV,ints,zf])<;>(repeat' ((first|refine sP _ ?_ ?_|refine gP _ ?_ ?_|refine sN _ ?_ ?_|refine gN _ ?_ ?_|refine sM _ ?_ ?_|refine gM _ ?_ ?_|refine sB _ ?_ ?_|refine gB _ ?_ ?_)<;>intro hc<;>simp[*,F123,za,chkV,ints,zf]))
  ·obtain⟨t1,t2⟩:=takesR_two ho1;rw[t1,t2]at a1;rw[ho1]at e a2;have h8:=hT [takes x.op,takes x.op];have h9:=hS [zcd x.op];cases hty:zH f.types seen x.args [takes x.op,takes x.op]
   ·rw[hty]at e h8;simp[chkV,ints,za]at h8 h9;clear h6 h7 hu hT hS hw hl0 hl1 ho
    (simp[*,F123,za,chkV,ints,zf])<;>(repeat' ((first|refine sP _ ?_ ?_|refine gP _ ?_ ?_|refine sN _ ?_ ?_|refine gN _ ?_ ?_|refine sM _ ?_ ?_|refine gM _ ?_ ?_|refine sB _ ?_ ?_|refine gB _ ?_ ?_)<;>intro hc<;>simp[*,F123,za,chkV,ints,zf]))
   ·obtain⟨a,b,e1,r0,r1,r2,r3⟩:=typesR_two hty;have q1:=zDb r0 r1;have q2:a.toNat<f.types.length:=by omega
    have q3:=zab r0 r1 q2;have q1':=zDb r2 r3;have q2':b.toNat<f.types.length:=by omega
    have q3':=zab r2 r3 q2';have z0:at0 [a,b] 0=a:=rfl;have z1:at0 [a,b] 1=b:=rfl;rw[hty]at e h8;rw[e1]at e h8 hty;simp[chkV,ints,za]at h8 h9;clear h6 h7 hu hT hS hw hl0 hl1 ho
    (simp[*,F123,za,chkV,ints,zf])<;>(repeat' ((first|refine sP _ ?_ ?_|refine gP _ ?_ ?_|refine sN _ ?_ ?_|refine gN _ ?_ ?_|refine sM _ ?_ ?_|refine gM _ ?_ ?_|refine sB _ ?_ ?_|refine gB _ ?_ ?_)<;>intro hc<;>simp[*,F123,za,chkV,ints,zf]))
    all_goals(try grind)
 have e:zda u f seen w Z x=if x.kind=1 then if zH f.types seen x.args []then zoa f.types Z x.outs [1]else(false,Z)
  else if x.kind=2 then if(x.n=0\/x.n=1)/\zH f.types seen x.args []=true then zoa f.types Z x.outs [2]else(false,Z)
  else if x.kind=5 then if zkb u.arrays x.name&&zH f.types seen x.args [1]then zoa f.types Z x.outs [1]else(false,Z)
  else if x.kind=6 then(zkb u.arrays x.name&&(zH f.types seen x.args [1,1]&&decide (x.outs=[])),Z)
  else if x.kind=8 then if x.args=[]then zoa f.types Z x.outs [1]else(false,Z)
  else if x.kind=9 then(zH f.types seen x.args [1]&&decide (x.outs=[]),Z)
  else if x.kind=12 then(w.inIf&&(zH f.types seen x.args w.yield&&decide (x.outs=[])),Z)
  else if x.kind=13 then(w.inLoop&&(zH f.types seen x.args w.next&&decide (x.outs=[])),Z)
  else if x.kind=14 then(w.inLoop&&(zH f.types seen x.args w.left&&decide (x.outs=[])),Z)
  else if x.kind=15 then(zH f.types seen x.args [f.type]&&decide (x.outs=[]),Z)
  else(false,Z):=by simp[zda,k7,k3,k4]
 have t0:=hT [];have t1:=hT [1];have t2:=hT [1,1];have t3:=hT w.yield;have t4:=hT w.next;have t5:=hT w.left;have t6:=hT [f.type];have s1:=hS [1];have s2:=hS [2];simp[chkV,ints,za,encUnt]at t0 t1 t2 t3 t4 t5 t6 s1 s2 h6;clear h7 hu hT hS hw;rw[e]
 (simp[*,F123,za,chkV,ints,zf,encUnt])<;>(repeat' (first|((first|refine sP _ ?_ ?_|refine gP _ ?_ ?_|refine sN _ ?_ ?_|refine gN _ ?_ ?_)<;>intro hc<;>(first|replace hc:=eqn hc|replace hc:=eqp hc)<;>simp[*,F123,za,chkV,ints,zf,encUnt])|((first|refine sM _ ?_ ?_|refine gM _ ?_ ?_|refine sB _ ?_ ?_|refine gB _ ?_ ?_)<;>intro hc<;>simp[*,F123,za,chkV,ints,zf,encUnt])))
 all_goals(try grind)
def lastE(l:List Node)(q:Bool×Set1):Bool×Set1:=if q.1 then(!l.isEmpty,q.2)else(false,q.2)
def endR(ty:List Int)(x:Node)(q:Bool×Set1):Bool×Set1:=if q.1&&(decide (x.outs=[])|| !zX x)then zoa ty q.2 x.outs (zSa x.outs.length)else(false,q.2)
mutual
def nodeR(u:Unt)(f:Flow):Node->List Int->Place->Int->Set1->Bool×Set1
 |⟨k,o,n,s,a,us,ps,ks⟩,seen,w,deep,Z=>
  if !zob ⟨k,o,n,s,a,us,ps,ks⟩then(false,Z)
  else if k=10 then
   if zH f.types seen a [2]then endR f.types ⟨k,o,n,s,a,us,ps,ks⟩ (zed u f ks seen {w with inIf:=true,yield:=zC f.types us} (deep+1) Z)else(false,Z)
  else if k=11 then
   if zH f.types seen a (zC f.types ps)then
    if(zoa f.types Z ps (zSa ps.length)).1 then endR f.types ⟨k,o,n,s,a,us,ps,ks⟩ (zed u f ks (seen++ps) ⟨false,true,[],zC f.types ps,zC f.types us⟩ (deep+1) (zoa f.types Z ps (zSa ps.length)).2)
    else(false,(zoa f.types Z ps (zSa ps.length)).2)
   else(false,Z)
  else zda u f seen w Z ⟨k,o,n,s,a,us,ps,ks⟩
def zed(u:Unt)(f:Flow):List (List Node)->List Int->Place->Int->Set1->Bool×Set1
 | [],seen,w,deep,Z=>(true,Z)
 |l::r,seen,w,deep,Z=>if(lastE l (goR u f l seen w deep Z)).1 then zed u f r seen w deep (lastE l (goR u f l seen w deep Z)).2 else(false,(lastE l (goR u f l seen w deep Z)).2)
def goR(u:Unt)(f:Flow):List Node->List Int->Place->Int->Set1->Bool×Set1
 | [],seen,w,deep,Z=>(true,Z)
 |x::r,seen,w,deep,Z=>if 100<deep then(false,Z)else
   if(nodeR u f x seen w deep Z).1 then(if zX x=r.isEmpty then goR u f r (seen++x.outs) w deep (nodeR u f x seen w deep Z).2 else(false,(nodeR u f x seen w deep Z).2))else(false,(nodeR u f x seen w deep Z).2)
end
def zMa(u:Unt)(f:Flow)(l:List Node)(seen:List Int)(w:Place)(deep:Int)(Z:Set1):Bool×Set1:=lastE l (goR u f l seen w deep Z)
theorem nodeR_eq(u:Unt)(f:Flow)(x:Node)(seen:List Int)(w:Place)(deep:Int)(Z:Set1):nodeR u f x seen w deep Z=
  if !zob x then(false,Z)
  else if x.kind=10 then
   if zH f.types seen x.args [2]then endR f.types x (zed u f x.kids seen {w with inIf:=true,yield:=zC f.types x.outs} (deep+1) Z)else(false,Z)
  else if x.kind=11 then
   if zH f.types seen x.args (zC f.types x.params)then
    if(zoa f.types Z x.params (zSa x.params.length)).1 then endR f.types x (zed u f x.kids (seen++x.params) ⟨false,true,[],zC f.types x.params,zC f.types x.outs⟩ (deep+1) (zoa f.types Z x.params (zSa x.params.length)).2)
    else(false,(zoa f.types Z x.params (zSa x.params.length)).2)
   else(false,Z)
  else zda u f seen w Z x:=by
 cases x;rw[nodeR]
theorem kidsR_nil(u:Unt)(f:Flow)(seen:List Int)(w:Place)(deep:Int)(Z:Set1):zed u f [] seen w deep Z=(true,Z):=by rw[zed]
theorem kidsR_cons(u:Unt)(f:Flow)(l:List Node)(r:List (List Node))(seen:List Int)(w:Place)(deep:Int)(Z:Set1):zed u f (l::r) seen w deep Z=if(zMa u f l seen w deep Z).1 then zed u f r seen w deep (zMa u f l seen w deep Z).2 else(false,(zMa u f l seen w deep Z).2):=by rw[zed];rfl
theorem len_ite{c:Prop}[Decidable c]{a b:Bool×Set1}{n:Nat}(ha:a.2.length=n)(hb:b.2.length=n):(if c then a else b).2.length=n:=by
 split<;>assumption
theorem simpleR_len(u:Unt)(f:Flow)(seen:List Int)(w:Place)(Z:Set1)(x:Node):(zda u f seen w Z x).2.length=Z.length:=by
 unfold zda;dsimp only
 repeat' (first|exact setsR_len _ _ _ _|exact rfl|refine len_ite ?_ ?_|split)
theorem endR_len(ty:List Int)(x:Node)(q:Bool×Set1):(endR ty x q).2.length=q.2.length:=by
 unfold endR;split<;>simp[setsR_len]
theorem lastE_len(l:List Node)(q:Bool×Set1):(lastE l q).2.length=q.2.length:=by
 unfold lastE;split<;>simp
mutual
theorem nodeR_len(u:Unt)(f:Flow):∀(x:Node) (seen:List Int) (p:Place) (deep:Int) (Z:Set1),(nodeR u f x seen p deep Z).2.length=Z.length
 |⟨k,o,n,s,a,us,ps,ks⟩,seen,p,deep,Z=>by
  rw[nodeR];split
  ·rfl
  split
  ·split
   ·rw[endR_len,kidsR_len u f ks]
   ·rfl
  split
  ·split
   ·split
    ·rw[endR_len,kidsR_len u f ks];simp[setsR_len]
    ·simp[setsR_len]
   ·rfl
  ·exact simpleR_len _ _ _ _ _ _
theorem kidsR_len(u:Unt)(f:Flow):∀(ks:List (List Node)) (seen:List Int) (p:Place) (deep:Int) (Z:Set1),(zed u f ks seen p deep Z).2.length=Z.length
 | [],seen,p,deep,Z=>rfl
 |l::r,seen,p,deep,Z=>by
  rw[zed];split
  ·rw[kidsR_len u f r,lastE_len,goR_len u f l]
  ·simp only;rw[lastE_len,goR_len u f l]
theorem goR_len(u:Unt)(f:Flow):∀(l:List Node) (seen:List Int) (p:Place) (deep:Int) (Z:Set1),(goR u f l seen p deep Z).2.length=Z.length
 | [],seen,p,deep,Z=>rfl
 |x::r,seen,p,deep,Z=>by
  rw[goR];split
  ·rfl
  split
  ·split
   ·rw[goR_len u f r,nodeR_len u f x]
   ·exact nodeR_len u f x seen p deep Z
  ·exact nodeR_len u f x seen p deep Z
end
theorem listR_len(u:Unt)(f:Flow)(l:List Node)(seen:List Int)(p:Place)(deep:Int)(Z:Set1):(zMa u f l seen p deep Z).2.length=Z.length:=by
 unfold zMa;rw[lastE_len,goR_len]
def RListOk(u:Unt)(f:Flow)(deep:Int)(seen:List Int)(l:List Node):Prop:=∀p Z,Z.length=f.types.length→
 zi E 63 [chkV u f f.types.length,zk l,ints seen,zf p,.int .i64 deep] [seO Z]=some (.ret (.bool (zMa u f l seen p deep Z).1),[seO (zMa u f l seen p deep Z).2])
set_option maxHeartbeats 1000000 in
theorem rnode_spec(u:Unt)(f:Flow)(seen:List Int)(Z:Set1)(x:Node)(p:Place)(deep:Int)(hu:UOk u)(hZ:Z.length=f.types.length)(hx:wtN x<1099511627776)(hd:0<=deep/\deep<=100)
  (hs:seen.length+wtN x<1099511627776) (hl:∀l∈x.kids,∀seen',seen'.length<=seen.length+x.params.length->RListOk u f (deep+1) seen' l):
  zi E 91 [chkV u f f.types.length,zD x,ints seen,zf p,.int .i64 deep] [seO Z]=some (.ret (.bool (nodeR u f x seen p deep Z).1),[seO (nodeR u f x seen p deep Z).2]):=by
 refine zb rfl rfl rfl (by simp[za,chkV,zf]) ?_;have hw:zR .i64 (deep+1)=deep+1:=zr (by omega) (by omega);have hwx:=zEa x;have h0:=rbare_spec x;have h3:=rsimple_spec u f seen p Z x hu hZ hx (by omega);have he:=nodeR_eq u f x seen p deep Z;rw[he];clear he;have hb:zob x=true->(x.kids.length:Int)=zhc x.kind:=by
  intro h;simp only[zob,ya,decide_eq_true_eq]at h;exact h.2
 cases hbx:zob x
 ·simp[chkV,za,zf,hbx]at h0 h3;clear hl hb hwx
  (simp[*,F91,za,chkV,zf])<;>(repeat' (first|((first|refine sP _ ?_ ?_|refine gP _ ?_ ?_|refine sN _ ?_ ?_|refine gN _ ?_ ?_)<;>intro hc<;>(first|replace hc:=eqn hc|replace hc:=eqp hc)<;>simp[*,F91,za,chkV,zf])|((first|refine sM _ ?_ ?_|refine gM _ ?_ ?_|refine sB _ ?_ ?_|refine gB _ ?_ ?_)<;>intro hc<;>simp[*,F91,za,chkV,zf])))
 have hb:=hb hbx;have ho:decide ((x.outs.length:Int)=0)=decide (x.outs=[]):=by simp
 have lo1:(0:Int)<=(x.outs.length:Int):=by omega
 have lo2:(x.outs.length:Int)<=9223372036854775807:=by omega
 have lo3:8*(x.outs.length:Int)<=281474976710656:=by omega
 have lp1:(0:Int)<=(x.params.length:Int):=by omega
 have lp2:(x.params.length:Int)<=9223372036854775807:=by omega
 have lp3:8*(x.params.length:Int)<=281474976710656:=by omega
 have h5:=rclosed_spec x [] hx;have hof:=of_spec u f f.types.length x.outs [seO Z] (by omega);by_cases h10:x.kind=10
 ·have hk:x.kids.length=2:=by simp[zhc,h10]at hb;omega
  obtain⟨a,b,hab⟩:∃a b,x.kids=[a,b]:=by
   match hh:x.kids with
   | []=>rw[hh]at hk;cases hk
   | [_]=>rw[hh]at hk;cases hk
   | [a,b]=>exact⟨a,b,rfl⟩
   |_::_::_::_=>rw[hh]at hk;simp at hk
  generalize hp':({p with inIf:=true,yield:=zC f.types x.outs}:Place)=p';have e1:p'.inIf=true:=by rw[<-hp']
  have e2:p'.inLoop=p.inLoop:=by rw[<-hp']
  have e3:p'.yield=zC f.types x.outs:=by rw[<-hp']
  have e4:p'.next=p.next:=by rw[<-hp']
  have e5:p'.left=p.left:=by rw[<-hp']
  have hT:=rtypes_spec u f f.types.length x.args seen [2] [seO Z] (by omega) (by omega);have h1:=hl a (by rw[hab];simp) seen (by omega) p' Z hZ;have hZ2:(zMa u f a seen p' (deep+1) Z).2.length=f.types.length:=by rw[listR_len];exact hZ
  have h2:=hl b (by rw[hab];simp) seen (by omega) p' _ hZ2;have hZ3:(zMa u f b seen p' (deep+1) (zMa u f a seen p' (deep+1) Z).2).2.length=f.types.length:=by rw[listR_len];exact hZ2
  have hS:=rsets_spec u f _ x.outs (zSa x.outs.length) hZ3 (by omega);have ek:zed u f [a,b] seen p' (deep+1) Z=if(zMa u f a seen p' (deep+1) Z).1 then if(zMa u f b seen p' (deep+1) (zMa u f a seen p' (deep+1) Z).2).1 then(true,(zMa u f b seen p' (deep+1) (zMa u f a seen p' (deep+1) Z).2).2)else(false,(zMa u f b seen p' (deep+1) (zMa u f a seen p' (deep+1) Z).2).2)else(false,(zMa u f a seen p' (deep+1) Z).2):=by
   rw[kidsR_cons,kidsR_cons,kidsR_nil]
  simp[chkV,ints,za,zf,kids,hab,e1,e2,e3,e4,e5,hbx,zSa]at h0 h1 h2 hT hS h5 hof;generalize zMa u f a seen p' (deep+1) Z=ra at*;generalize zMa u f b seen p' (deep+1) ra.2=rb at*;simp[h10]at h0 h5;clear hl hb hwx h3;simp only[hab]
  (simp[*,F91,za,chkV,ints,zf,kids,endR,zSa])<;>(repeat' (first|((first|refine sP _ ?_ ?_|refine gP _ ?_ ?_|refine sN _ ?_ ?_|refine gN _ ?_ ?_)<;>intro hc<;>(first|replace hc:=eqn hc|replace hc:=eqp hc)<;>simp[*,F91,za,chkV,ints,zf,kids,endR,zSa])|((first|refine sM _ ?_ ?_|refine gM _ ?_ ?_|refine sB _ ?_ ?_|refine gB _ ?_ ?_)<;>intro hc<;>simp[*,F91,za,chkV,ints,zf,kids,endR,zSa])))
  all_goals(try grind)
 by_cases h11:x.kind=11
 ·have hk:x.kids.length=1:=by simp[zhc,h11]at hb;omega
  obtain⟨a,hab⟩:∃a,x.kids=[a]:=by
   match hh:x.kids with
   | []=>rw[hh]at hk;cases hk
   | [a]=>exact⟨a,rfl⟩
   |_::_::_=>rw[hh]at hk;simp at hk
  generalize hp':(⟨false,true,[],zC f.types x.params,zC f.types x.outs⟩:Place)=p';have e1:p'.inIf=false:=by rw[<-hp']
  have e2:p'.inLoop=true:=by rw[<-hp']
  have e3:p'.yield=[]:=by rw[<-hp']
  have e4:p'.next=zC f.types x.params:=by rw[<-hp']
  have e5:p'.left=zC f.types x.outs:=by rw[<-hp']
  have hop:=of_spec u f f.types.length x.params [seO Z] (by omega);have hT:=rtypes_spec u f f.types.length x.args seen (zC f.types x.params) [seO Z] (by omega) (by omega);have hP:=rsets_spec u f Z x.params (zSa x.params.length) hZ (by omega);have hZ1:(zoa f.types Z x.params (zSa x.params.length)).2.length=f.types.length:=by rw[setsR_len];exact hZ
  have h1:=hl a (by rw[hab];simp) (seen++x.params) (by simp) p' _ hZ1;have hZ2:(zMa u f a (seen++x.params) p' (deep+1) (zoa f.types Z x.params (zSa x.params.length)).2).2.length=f.types.length:=by rw[listR_len];exact hZ1
  have hS:=rsets_spec u f _ x.outs (zSa x.outs.length) hZ2 (by omega);have ek:zed u f [a] (seen++x.params) p' (deep+1) (zoa f.types Z x.params (zSa x.params.length)).2=if(zMa u f a (seen++x.params) p' (deep+1) (zoa f.types Z x.params (zSa x.params.length)).2).1 then(true,(zMa u f a (seen++x.params) p' (deep+1) (zoa f.types Z x.params (zSa x.params.length)).2).2)else(false,(zMa u f a (seen++x.params) p' (deep+1) (zoa f.types Z x.params (zSa x.params.length)).2).2):=by
   rw[kidsR_cons,kidsR_nil]
  have r1:(seen.length)*8<=zJ:=by simp only[zJ];omega
  have r2:(seen.length+x.params.length)*8<=zJ:=by simp only[zJ];omega
  simp[chkV,ints,za,zf,kids,hab,e1,e2,e3,e4,e5,hbx,zSa]at h0 h1 hT hS h5 hof hop hP;simp[zSa]at hZ1 hZ2 ek;obtain⟨ra,hra⟩:∃ra,zMa u f a (seen++x.params) p' (deep+1) (zoa f.types Z x.params (yf x.params.length 0)).2=ra:=⟨_,rfl⟩
  simp only[hra]at h1 hS ek hZ2;simp[h11]at h0 h5;clear hl hb hwx h3;simp only[hab]
  (simp[*,F91,za,chkV,ints,zf,kids,endR,zSa])<;>(repeat' (first|((first|refine sP _ ?_ ?_|refine gP _ ?_ ?_|refine sN _ ?_ ?_|refine gN _ ?_ ?_)<;>intro hc<;>(first|replace hc:=eqn hc|replace hc:=eqp hc)<;>simp[*,F91,za,chkV,ints,zf,kids,endR,zSa])|((first|refine sM _ ?_ ?_|refine gM _ ?_ ?_|refine sB _ ?_ ?_|refine gB _ ?_ ?_)<;>intro hc<;>simp[*,F91,za,chkV,ints,zf,kids,endR,zSa])))
  all_goals(try grind)
 simp[chkV,za,zf,hbx]at h0 h3;clear hl hb hwx h5 hof
 (simp[*,F91,za,chkV,zf])<;>(repeat' (first|((first|refine sP _ ?_ ?_|refine gP _ ?_ ?_|refine sN _ ?_ ?_|refine gN _ ?_ ?_)<;>intro hc<;>(first|replace hc:=eqn hc|replace hc:=eqp hc)<;>simp[*,F91,za,chkV,zf])|((first|refine sM _ ?_ ?_|refine gM _ ?_ ?_|refine sB _ ?_ ?_|refine gB _ ?_ ?_)<;>intro hc<;>simp[*,F91,za,chkV,zf])))
def sdR(u:Unt)(f:Flow)(p:Place)(deep:Int)(seen:List Int)(Z:Set1)(d:List Node):Set1×List Int:=d.foldl (fun q x=>((nodeR u f x q.2 p deep q.1).2,q.2++x.outs)) (Z,seen)
theorem sdR_snoc(u:Unt)(f:Flow)(p:Place)(deep:Int)(seen:List Int)(Z:Set1)(d:List Node)(x:Node):sdR u f p deep seen Z (d++[x])=((nodeR u f x (sdR u f p deep seen Z d).2 p deep (sdR u f p deep seen Z d).1).2,(sdR u f p deep seen Z d).2++x.outs):=by simp[sdR]
theorem sdR_len(u:Unt)(f:Flow)(p:Place)(deep:Int)(d:List Node):∀seen Z,(sdR u f p deep seen Z d).1.length=Z.length:=by
 induction d with
 |nil=>intro seen Z;rfl
 |cons x r ih=>intro seen Z;simp only[sdR,List.foldl_cons];rw[<-sdR,ih,nodeR_len]
def zKb(l:List Node):List Int:=l.flatMap fun x=>x.outs
theorem wt_kid2{x:Node}{l:List Node}(h:l∈x.kids):wtL l+1<=wtK x.kids:=by
 generalize x.kids=ks at h
 induction ks with
 |nil=>cases h
 |cons y r ih=>
  simp only[wtK];rcases yS.1 h with rfl|h
  ·omega
  ·have:=ih h;omega
@[simp] theorem louts_nil:zKb []=[]:=rfl
theorem louts_append(a b:List Node):zKb (a++b)=zKb a++zKb b:=by simp[zKb]
@[simp] theorem louts_snoc(a:List Node)(x:Node):zKb (a++[x])=zKb a++x.outs:=by simp[zKb]
theorem louts_cons(a:List Node)(x:Node):zKb (x::a)=x.outs++zKb a:=by simp[zKb]
theorem sdR_seen(u:Unt)(f:Flow)(p:Place)(deep:Int)(d:List Node):∀seen Z,(sdR u f p deep seen Z d).2=seen++zKb d:=by
 induction d with
 |nil=>intro seen Z;simp[sdR]
 |cons x r ih=>intro seen Z;simp only[sdR,List.foldl_cons];rw[<-sdR,ih,louts_cons];simp
theorem outs_wt(l:List Node):(zKb l).length<=wtL l:=by
 induction l with
 |nil=>simp
 |cons x r ih=>rw[louts_cons,yL,wtL];have:=zEa x;omega
theorem rlist_spec(u:Unt)(f:Flow)(hu:UOk u):∀(N:Nat) (l:List Node) (deep:Int) (seen:List Int),wtL l<=N->seen.length+N<1099511627776->0<=deep->deep<=101->RListOk u f deep seen l:=by
 intro N
 induction N using Nat.strongRecOn with
 |ind N ih=>
  intro l deep seen hl hN hd0 hd1 p Z hZ;refine zb rfl rfl rfl (by simp[chkV,zf]) ?_;have hll:=zdd l;have r1:(seen.length)*8<=zJ:=by simp only[zJ];omega
  simp[F63,zf,zk,ints,r1];refine zy l K63_0 B63_0 (fun d=>[(12,.int .i64 d.length),(11,acc 1 ((seen++zKb d).map (PV.int .i64)))]) (fun d=>[seO (sdR u f p deep seen Z d).1]) (fun d=>∃r,l=d++r/\goR u f l seen p deep Z=goR u f r (seen++zKb d) p deep (sdR u f p deep seen Z d).1) (by omega) (by simp[sdR]) ?_ ?_
  ·rintro d x r s hl' hlt hget hget' hw ⟨r',hr1,hr2⟩ h1 h2 h3 h4
   have:=split_of hl' hr1;subst this;simp at h1 h2 h3;have hwx:=wt_mem hl'.mem;have hxe:=zEa x;have hZ1:(sdR u f p deep seen Z d).1.length=f.types.length:=by rw[sdR_len];exact hZ
   have hseen:=sdR_seen u f p deep d seen Z;rw[goR]at hr2;have hsn:=sdR_snoc u f p deep seen Z d x;rw[hseen]at hsn;have hlast:=split_last hl';have hw2:zR .i64 ((l.length:Int)-1)=(l.length:Int)-1:=zr (by omega) (by omega);have hc:=rclosed_spec x [] (by omega);have hlm:zMa u f l seen p deep Z=lastE l (goR u f l seen p deep Z):=rfl;have hfl:(zKb l)=zKb d++(x.outs++zKb r):=by rw[hl'.eq,louts_append,louts_cons]
   have how:=outs_wt l;have hdw:wtL l=wtL d+(1+wtN x+wtL r):=by rw[hl'.eq,wtL_append];rfl
   have hod:=outs_wt d;have hlen:(zKb d).length+x.outs.length<=wtL l:=by omega
   clear hfl;by_cases hdeep:100<deep
   ·have e:zMa u f l seen p deep Z=(false,(sdR u f p deep seen Z d).1):=by rw[hlm,hr2,if_pos hdeep];rfl
    clear ih hr1 hlm
    (simp[*,za,zk])<;>(repeat' (first|((first|refine sP _ ?_ ?_|refine gP _ ?_ ?_|refine sN _ ?_ ?_|refine gN _ ?_ ?_)<;>intro hc<;>(first|replace hc:=eqn hc|replace hc:=eqp hc)<;>simp[*,za,zk])|((first|refine sM _ ?_ ?_|refine gM _ ?_ ?_|refine sB _ ?_ ?_|refine gB _ ?_ ?_)<;>intro hc<;>simp[*,za,zk])))
   have hn:=rnode_spec u f (seen++zKb d) (sdR u f p deep seen Z d).1 x p deep hu hZ1 (by omega) (by omega) (by simp only[yL];omega) (fun k hk seen' hs'=>by
    have:=wt_kid2 hk;refine ih (wtL k) (by omega) k (deep+1) seen' (yk _) ?_ (by omega) (by omega);simp only[yL]at hs';omega)
   rw[if_neg hdeep]at hr2;generalize hq:nodeR u f x (seen++zKb d) p deep (sdR u f p deep seen Z d).1=q at*;have r2:(seen.length+(zKb d).length+x.outs.length)*8<=zJ:=by simp only[zJ];omega
   simp[za,zf,ints]at hn hc;cases hq1:q.1
   ·rw[hq1]at hr2 hn;have e:zMa u f l seen p deep Z=(false,q.2):=by rw[hlm,hr2];rfl
    clear ih hr1 hlm
    (simp[*,za,zk,ints])<;>(repeat' (first|((first|refine sP _ ?_ ?_|refine gP _ ?_ ?_|refine sN _ ?_ ?_|refine gN _ ?_ ?_)<;>intro hc<;>(first|replace hc:=eqn hc|replace hc:=eqp hc)<;>simp[*,za,zk,ints])|((first|refine sM _ ?_ ?_|refine gM _ ?_ ?_|refine sB _ ?_ ?_|refine gB _ ?_ ?_)<;>intro hc<;>simp[*,za,zk,ints])))
   rw[hq1]at hr2 hn;simp at hr2;by_cases hcl:zX x=r.isEmpty
   ·rw[if_pos hcl]at hr2;clear ih hc hr1 hlm;have hc:=rclosed_spec x [] (by omega);simp[za,ints]at hc;rw[hcl]at hc;have e:∃r',l=d++x::r'/\goR u f l seen p deep Z=goR u f r' (seen++(zKb d++x.outs)) p deep q.2:=⟨r,by rw[hl'.eq],by rw[hr2]⟩
    (simp[*,za,zk,ints])<;>(repeat' (first|((first|refine sP _ ?_ ?_|refine gP _ ?_ ?_|refine sN _ ?_ ?_|refine gN _ ?_ ?_)<;>intro hc<;>(first|replace hc:=eqn hc|replace hc:=eqp hc)<;>simp[*,za,zk,ints])|((first|refine sM _ ?_ ?_|refine gM _ ?_ ?_|refine sB _ ?_ ?_|refine gB _ ?_ ?_)<;>intro hc<;>simp[*,za,zk,ints])))
    all_goals(try grind)
   ·rw[if_neg hcl]at hr2;have e:zMa u f l seen p deep Z=(false,q.2):=by rw[hlm,hr2];rfl
    clear ih hr1 hlm
    (simp[*,za,zk,ints])<;>(repeat' (first|((first|refine sP _ ?_ ?_|refine gP _ ?_ ?_|refine sN _ ?_ ?_|refine gN _ ?_ ?_)<;>intro hc<;>(first|replace hc:=eqn hc|replace hc:=eqp hc)<;>simp[*,za,zk,ints])|((first|refine sM _ ?_ ?_|refine gM _ ?_ ?_|refine sB _ ?_ ?_|refine gB _ ?_ ?_)<;>intro hc<;>simp[*,za,zk,ints])))
    all_goals exact absurd (of_eq_true (by assumption)) hcl
  ·rintro s ⟨r',hr1,hr2⟩ h1 h2 h3 h4
   have:r'=[]:=by
    have:=congrArg List.length hr1;simp at this;exact this
   subst this;simp at h1 h2 h3;rw[goR]at hr2;have hlm:zMa u f l seen p deep Z=(!l.isEmpty,(sdR u f p deep seen Z l).1):=by
    show lastE l (goR u f l seen p deep Z)=_
    rw[hr2];rfl
   have hz:decide (0<l.length)= !l.isEmpty:=by cases l<;>simp
   clear ih hr1
   (simp[*,zf,zk])<;>(repeat' (first|((first|refine sP _ ?_ ?_|refine gP _ ?_ ?_|refine sN _ ?_ ?_|refine gN _ ?_ ?_)<;>intro hc<;>(first|replace hc:=eqn hc|replace hc:=eqp hc)<;>simp[*,zf,zk])|((first|refine sM _ ?_ ?_|refine gM _ ?_ ?_|refine sB _ ?_ ?_|refine gB _ ?_ ?_)<;>intro hc<;>simp[*,zf,zk])))
def initR(f:Flow)(k:Nat):Set1:=yf k true++yf (f.types.length-k) false
def zyc(k:Nat):List Int:=(yO k).map fun(i:Nat)=>(i:Int)
def zOb(u:Unt)(f:Flow):Bool:=
 !(decide (f.params<0)||decide (8<f.params)||decide ((f.types.length:Int)<f.params)||decide (20000<f.types.length)||f.types.any (fun t=> !tyOk t))&&
  (zMa u f f.body (zyc f.params.toNat) zGb 1 (initR f f.params.toNat)).1
theorem initR_len(f:Flow)(k:Nat)(h:k<=f.types.length):(initR f k).length=f.types.length:=by simp[initR];omega
theorem initR_set(f:Flow)(k:Nat)(h:k<f.types.length):(initR f k).set k true=initR f (k+1):=by
 unfold initR;have:f.types.length-k=(f.types.length-(k+1))+1:=by omega
 rw[this,List.replicate_succ,yN _ _ (by simp)];simp[List.replicate_succ']
theorem firsts_succ(k:Nat):zyc (k+1)=zyc k++[(k:Int)]:=by simp[zyc,List.range_succ]
theorem firsts_len(k:Nat):(zyc k).length=k:=by simp[zyc]
theorem rflow_spec(u:Unt)(f:Flow)(hu:UOk u)(ht:f.types.length<1099511627776)(hb:wtL f.body<1099511000000):
  zi E 43 [encUnt u,ze f] []=some (.ret (.bool (zOb u f)),[]):=by
 refine zb rfl rfl rfl (by simp[encUnt,ze]) ?_;have ho:decide ((20000:Int)<f.types.length)=decide (20000<f.types.length):=by simp;omega
 have l1:(0:Int)<=(f.types.length:Int):=by omega
 have l2:(f.types.length:Int)<=9223372036854775807:=by omega
 have l3:8*(f.types.length:Int)<=281474976710656:=by omega
 have l4:(f.types.length:Int)<=281474976710656:=by omega
 by_cases c1:f.params<0
 ·have e:zOb u f=false:=by simp[zOb,c1]
  (simp[*,F43,encUnt,ze,ints])<;>(repeat' (first|((first|refine sP _ ?_ ?_|refine gP _ ?_ ?_|refine sN _ ?_ ?_|refine gN _ ?_ ?_)<;>intro hc<;>(first|replace hc:=eqn hc|replace hc:=eqp hc)<;>simp[*,F43,encUnt,ze,ints])|((first|refine sM _ ?_ ?_|refine gM _ ?_ ?_|refine sB _ ?_ ?_|refine gB _ ?_ ?_)<;>intro hc<;>simp[*,F43,encUnt,ze,ints])))
 by_cases c2:8<f.params
 ·have e:zOb u f=false:=by simp[zOb,c2]
  (simp[*,F43,encUnt,ze,ints])<;>(repeat' (first|((first|refine sP _ ?_ ?_|refine gP _ ?_ ?_|refine sN _ ?_ ?_|refine gN _ ?_ ?_)<;>intro hc<;>(first|replace hc:=eqn hc|replace hc:=eqp hc)<;>simp[*,F43,encUnt,ze,ints])|((first|refine sM _ ?_ ?_|refine gM _ ?_ ?_|refine sB _ ?_ ?_|refine gB _ ?_ ?_)<;>intro hc<;>simp[*,F43,encUnt,ze,ints])))
 by_cases c3:(f.types.length:Int)<f.params
 ·have e:zOb u f=false:=by simp[zOb,c3]
  (simp[*,F43,encUnt,ze,ints])<;>(repeat' (first|((first|refine sP _ ?_ ?_|refine gP _ ?_ ?_|refine sN _ ?_ ?_|refine gN _ ?_ ?_)<;>intro hc<;>(first|replace hc:=eqn hc|replace hc:=eqp hc)<;>simp[*,F43,encUnt,ze,ints])|((first|refine sM _ ?_ ?_|refine gM _ ?_ ?_|refine sB _ ?_ ?_|refine gB _ ?_ ?_)<;>intro hc<;>simp[*,F43,encUnt,ze,ints])))
 by_cases c4:20000<f.types.length
 ·have e:zOb u f=false:=by simp[zOb,c4]
  have c4':(20000:Int)<f.types.length:=by omega
  (simp[*,F43,encUnt,ze,ints])<;>(repeat' (first|((first|refine sP _ ?_ ?_|refine gP _ ?_ ?_|refine sN _ ?_ ?_|refine gN _ ?_ ?_)<;>intro hc<;>(first|replace hc:=eqn hc|replace hc:=eqp hc)<;>simp[*,F43,encUnt,ze,ints])|((first|refine sM _ ?_ ?_|refine gM _ ?_ ?_|refine sB _ ?_ ?_|refine gB _ ?_ ?_)<;>intro hc<;>simp[*,F43,encUnt,ze,ints])))
 have c4':¬(20000:Int)<f.types.length:=by omega
 have e:zOb u f=(!(f.types.any (fun t=> !tyOk t))&&(zMa u f f.body (zyc f.params.toNat) zGb 1 (initR f f.params.toNat)).1):=by simp[zOb,c1,c2,c3,c4]
 have h2:=rlist_spec u f hu (wtL f.body) f.body 1 (zyc f.params.toNat) (yk _) (by rw[firsts_len];omega) (by omega) (by omega) zGb (initR f f.params.toNat) (initR_len f _ (by omega));simp[F43,encUnt,ze,ints,c1,c2,c3,c4'];refine zy f.types K43_0 B43_0 (fun d=>[(5,.int .i64 d.length)]) (fun _=>[]) (fun d=>d.all tyOk=true) (by omega) (by simp) ?_ ?_
 ·intros d x r s hl' hlt hget hget' hw hp q1 q2 q3 q4;simp at q1 q2 q3;have hf:tyOk x=false->zOb u f=false:=fun h=>by
   rw[e];have:f.types.any (fun t=> !tyOk t)=true:=by rw[hl'.eq];simp[h]
   rw[this];rfl
  have ht:tyOk x=(decide (x=1)||decide (x=2)):=rfl;have hpp:∀y∈d,tyOk y=true:=by simpa using hp
  clear h2 e;cases hx:tyOk x
  ·have hf:=hf hx;rw[hx]at ht;replace ht:=ht.symm
   (simp[*,ints])<;>(repeat' (first|((first|refine sP _ ?_ ?_|refine gP _ ?_ ?_|refine sN _ ?_ ?_|refine gN _ ?_ ?_)<;>intro hc<;>(first|replace hc:=eqn hc|replace hc:=eqp hc)<;>simp[*,ints])|((first|refine sM _ ?_ ?_|refine gM _ ?_ ?_|refine sB _ ?_ ?_|refine gB _ ?_ ?_)<;>intro hc<;>simp[*,ints])))
   all_goals(try grind)
  ·rw[hx]at ht;replace ht:=ht.symm;clear hf
   (simp[*,ints])<;>(repeat' (first|((first|refine sP _ ?_ ?_|refine gP _ ?_ ?_|refine sN _ ?_ ?_|refine gN _ ?_ ?_)<;>intro hc<;>(first|replace hc:=eqn hc|replace hc:=eqp hc)<;>simp[*,ints])|((first|refine sM _ ?_ ?_|refine gM _ ?_ ?_|refine sB _ ?_ ?_|refine gB _ ?_ ?_)<;>intro hc<;>simp[*,ints])))
   all_goals(try grind)
 intros s hpt q1 q2 q3 q4;simp at q1 q2 q3;have hany:f.types.any (fun t=> !tyOk t)=false:=by
  have:∀t∈f.types,tyOk t=true:=by simpa using hpt
  simpa using this
 rw[hany]at e;clear hpt hany;simp[*,ints,ze];refine zy (yO f.params.toNat) K43_1 B43_1 (fun d=>[(8,.int .i64 d.length),(7,acc 1 ((zyc d.length).map (PV.int .i64)))]) (fun d=>[seO (initR f d.length)]) (fun _=>True) (by simp;omega) (by simp[initR,seO,zyc]) ?_ ?_
 ·intros d x r s hl' hlt hget hget' hw _ q1' q2' q3' q4';simp at hlt;have e1:(d.length:Int)<f.params:=by omega
  have e2:d.length<f.types.length:=by omega
  have e3:=initR_set f d.length e2;have e4:=initR_len f d.length (by omega);have e5:(initR f (d.length+1)).map PV.bool=((initR f d.length).map PV.bool).set d.length (.bool true):=by rw[<-e3,yT]
  have e6:=firsts_succ d.length;have e7:=firsts_len d.length;have r2:(d.length+1)*8<=zJ:=by simp only[zJ];omega
  simp at q1' q2' q3' q4';clear h2 hget hget' e3 q1 q2 q3 q4 e
  (simp[*,ze,ints,zB,zHa,seO])<;>(repeat' (first|((first|refine sP _ ?_ ?_|refine gP _ ?_ ?_|refine sN _ ?_ ?_|refine gN _ ?_ ?_)<;>intro hc<;>(first|replace hc:=eqn hc|replace hc:=eqp hc)<;>simp[*,ze,ints,zB,zHa,seO])|((first|refine sM _ ?_ ?_|refine gM _ ?_ ?_|refine sB _ ?_ ?_|refine gB _ ?_ ?_)<;>intro hc<;>simp[*,ze,ints,zB,zHa,seO])))
 ·intros s _ q1' q2' q3' q4';have e0:(f.params.toNat:Int)=f.params:=by omega
  simp at q1' q2' q3' q4';clear q1 q2 q3 q4;simp[chkV,ints,zf,zGb,seO]at h2
  (simp[*,ze,ints,seO,zGb])<;>(repeat' (first|((first|refine sP _ ?_ ?_|refine gP _ ?_ ?_|refine sN _ ?_ ?_|refine gN _ ?_ ?_)<;>intro hc<;>(first|replace hc:=eqn hc|replace hc:=eqp hc)<;>simp[*,ze,ints,seO,zGb])|((first|refine sM _ ?_ ?_|refine gM _ ?_ ?_|refine sB _ ?_ ?_|refine gB _ ?_ ?_)<;>intro hc<;>simp[*,ze,ints,seO,zGb])))
  all_goals(try grind)
def arrGood(u:Unt)(p:Arr×Nat):Bool:=arrOk p.1&&(decide (zpd u.arrays p.1.name=p.2)&&decide (zQ u.flows p.1.name<0))
def zkd(u:Unt)(p:Flow×Nat):Bool:=zPb p.1&&decide (zQ u.flows p.1.name=p.2)
def rheadM(u:Unt):Bool:=u.arrays.zipIdx.all (arrGood u)&&(u.flows.zipIdx.all (zkd u)&&zOc u)
theorem split_idx{α:Type}{l d r:List α}{x:α}(h:Split l d x r):l.zipIdx=d.zipIdx++(x,d.length)::r.zipIdx (d.length+1):=by
 rw[h.eq,List.zipIdx_append,List.zipIdx_cons];simp
theorem rglobals_spec(u:Unt)(hu1:u.arrays.length<1099511627776)(hu2:u.flows.length<1099511627776):zi E 42 [encUnt u] []=some (.ret (.bool (rheadM u)),[]):=by
 refine zb rfl rfl rfl (by simp[encUnt]) ?_;simp[F42,encUnt,arrs];refine zy u.arrays K42_0 B42_0 (fun d=>[(3,.int .i64 d.length)]) (fun _=>[]) (fun d=>d.zipIdx.all (arrGood u)=true) (by omega) (by simp) ?_ ?_
 ·intros d x r s hl' hlt hget hget' hw hp h1 h2 h3 h4;simp at h1 h2 h3;have hn:=rname_spec x.name [];have ha:=rarray_spec u x.name [] hu1;have hpl:=zvb u x.name [] hu2;have hall:arrGood u (x,d.length)=false->rheadM u=false:=fun h=>by simp only[rheadM,split_idx hl',yxa,List.all_cons,h];simp
  have hg:arrGood u (x,d.length)=((nameM x.name&&decide (1<=x.size)&&decide (x.size<=1000))&&(decide (zpd u.arrays x.name=d.length)&&decide (zQ u.flows x.name<0))):=rfl;have hz:(d++[x]).zipIdx=d.zipIdx++[(x,d.length)]:=by rw[List.zipIdx_append];simp
  simp[encUnt,flows,arrs]at ha hpl;cases hgx:arrGood u (x,d.length)
  ·have hall:=hall hgx;rw[hgx]at hg;replace hg:=hg.symm;clear hgx hz hp
   (simp[*,zz,arrs,flows])<;>(repeat' (first|((first|refine sP _ ?_ ?_|refine gP _ ?_ ?_|refine sN _ ?_ ?_|refine gN _ ?_ ?_)<;>intro hc<;>(first|replace hc:=eqn hc|replace hc:=eqp hc)<;>simp[*,zz,arrs,flows])|((first|refine sM _ ?_ ?_|refine gM _ ?_ ?_|refine sB _ ?_ ?_|refine gB _ ?_ ?_)<;>intro hc<;>simp[*,zz,arrs,flows])))
   all_goals(try grind)
  ·clear hall;rw[hgx]at hg;replace hg:=hg.symm;simp only[ya,decide_eq_true_eq]at hg;obtain⟨⟨⟨g1,g2⟩,g3⟩,g4,g5⟩:=hg;have g2':¬x.size<1:=by omega
   have g3':¬1000<x.size:=by omega
   have g5':¬0<=zQ u.flows x.name:=by omega
   have hp':(d++[x]).zipIdx.all (arrGood u)=true:=by rw[hz,yxa,hp];simp[hgx]
   clear hp hz g2 g3
   (simp[*,zz,arrs,flows])<;>(repeat' (first|((first|refine sP _ ?_ ?_|refine gP _ ?_ ?_|refine sN _ ?_ ?_|refine gN _ ?_ ?_)<;>intro hc<;>(first|replace hc:=eqn hc|replace hc:=eqp hc)<;>simp[*,zz,arrs,flows])|((first|refine sM _ ?_ ?_|refine gM _ ?_ ?_|refine sB _ ?_ ?_|refine gB _ ?_ ?_)<;>intro hc<;>simp[*,zz,arrs,flows])))
   all_goals(try grind)
 intros s0 hpa h1 h2 h3 h4;simp only[List.forall_mem_cons]at h1 h2;simp at h1 h2 h3;simp[*,arrs,flows];refine zy u.flows K42_1 B42_1 (fun d=>[(5,.int .i64 d.length)]) (fun _=>[]) (fun d=>d.zipIdx.all (zkd u)=true) (by omega) (by simp) ?_ ?_
 ·intros d x r s hl' hlt hget hget' hw hp h1' h2' h3' h4';simp at h1' h2' h3';clear h1 h2 h3 h4;have hn:=rname_spec x.name [];have hpl:=zvb u x.name [] hu2;have hall:zkd u (x,d.length)=false->rheadM u=false:=fun h=>by simp only[rheadM,split_idx hl',yxa,List.all_cons,h];simp
  have hg:zkd u (x,d.length)=((nameM x.name&&(decide (x.type=1)||decide (x.type=2))&&decide (0<=x.params)&&decide (x.params<=x.types.length))&&decide (zQ u.flows x.name=d.length)):=rfl;have hz:(d++[x]).zipIdx=d.zipIdx++[(x,d.length)]:=by rw[List.zipIdx_append];simp
  simp[encUnt,flows,arrs]at hpl;cases hgx:zkd u (x,d.length)
  ·have hall:=hall hgx;rw[hgx]at hg;replace hg:=hg.symm;clear hgx hz hp hpa
   (simp[*,ze,arrs,flows,ints])<;>(repeat' (first|((first|refine sP _ ?_ ?_|refine gP _ ?_ ?_|refine sN _ ?_ ?_|refine gN _ ?_ ?_)<;>intro hc<;>(first|replace hc:=eqn hc|replace hc:=eqp hc)<;>simp[*,ze,arrs,flows,ints])|((first|refine sM _ ?_ ?_|refine gM _ ?_ ?_|refine sB _ ?_ ?_|refine gB _ ?_ ?_)<;>intro hc<;>simp[*,ze,arrs,flows,ints])))
   all_goals(try grind)
  ·clear hall;rw[hgx]at hg;replace hg:=hg.symm;simp only[ya,decide_eq_true_eq]at hg;obtain⟨⟨⟨⟨g1,g2⟩,g3⟩,g3b⟩,g4⟩:=hg;have g3':¬x.params<0:=by omega
   have g3b':¬(x.types.length:Int)<x.params:=by omega
   have hp':(d++[x]).zipIdx.all (zkd u)=true:=by rw[hz,yxa,hp];simp[hgx]
   clear hp hz g3 g3b hpa
   (simp[*,ze,arrs,flows,ints])<;>(repeat' (first|((first|refine sP _ ?_ ?_|refine gP _ ?_ ?_|refine sN _ ?_ ?_|refine gN _ ?_ ?_)<;>intro hc<;>(first|replace hc:=eqn hc|replace hc:=eqp hc)<;>simp[*,ze,arrs,flows,ints])|((first|refine sM _ ?_ ?_|refine gM _ ?_ ?_|refine sB _ ?_ ?_|refine gB _ ?_ ?_)<;>intro hc<;>simp[*,ze,arrs,flows,ints])))
   all_goals(try grind)
 ·intros s hp h1' h2' h3' h4';simp at h1' h2' h3';clear h1 h2 h3 h4;have hpl:=zvb u zI [] hu2;simp[encUnt,zI,arrs,flows]at hpl;have hh:rheadM u=zOc u:=by simp only[rheadM,hpa,hp];simp
  by_cases hp0:0<=zQ u.flows zI
  ·obtain⟨g,q1,q2,q3,q4⟩:=place_get hp0;have q5:u.flows[(zQ u.flows zI).toNat]=g:=by simpa[q4]using q1
   have hm:zOc u=(decide (g.type=1)&&decide (g.params=0)):=by simp[zOc,q1,hp0]
   simp only[zI]at hp0 q1 q4 q5;clear hpa hp
   (simp[*,flows,ze,arrs])<;>(repeat' (first|((first|refine sP _ ?_ ?_|refine gP _ ?_ ?_|refine sN _ ?_ ?_|refine gN _ ?_ ?_)<;>intro hc<;>(first|replace hc:=eqn hc|replace hc:=eqp hc)<;>simp[*,flows,ze,arrs])|((first|refine sM _ ?_ ?_|refine gM _ ?_ ?_|refine sB _ ?_ ?_|refine gB _ ?_ ?_)<;>intro hc<;>simp[*,flows,ze,arrs])))
  ·have hm:zOc u=false:=by
    unfold zOc;split<;>simp;omega
   simp only[zI]at hp0;clear hpa hp
   (simp[*,flows,ze,arrs])<;>(repeat' (first|((first|refine sP _ ?_ ?_|refine gP _ ?_ ?_|refine sN _ ?_ ?_|refine gN _ ?_ ?_)<;>intro hc<;>(first|replace hc:=eqn hc|replace hc:=eqp hc)<;>simp[*,flows,ze,arrs])|((first|refine sM _ ?_ ?_|refine gM _ ?_ ?_|refine sB _ ?_ ?_|refine gB _ ?_ ?_)<;>intro hc<;>simp[*,flows,ze,arrs])))
theorem idx_first{α:Type}{p:α->Bool}{l:List α}{k:Nat}(h:idx p l=k):∀j (hj:j<l.length),j<k->p l[j]=false:=by
 unfold idx at h;cases hf:l.findIdx? p with
 |none=>rw[hf]at h;simp at h
 |some i=>
  rw[hf]at h;have h:i=k:=by simp at h;omega
  subst h;rw[List.findIdx?_eq_some_iff_getElem]at hf;obtain⟨hi,h1,h2⟩:=hf;intro j hj hji;have:=h2 j hji;simpa using this
theorem idx_nodup{α:Type}(g:α->List UInt8)(l:List α):(∀p∈l.zipIdx,idx (fun y=>decide (g y=g p.1)) l=p.2)<->(l.map g).Nodup:=by
 rw[List.nodup_iff_pairwise_ne,List.pairwise_map,List.pairwise_iff_getElem];constructor
 ·intro h i j hi hj hij e;have h1:=h (l[j],j) (by rw[yka];simp[hj]);have h2:=idx_first h1 i hi hij;simp at h2;exact h2 e
 ·rintro h ⟨x,i⟩ hp
  rw[yka]at hp;simp only at hp;obtain⟨hi,rfl⟩:=yb.1 hp;have hs:Split l (l.take i) l[i] (l.drop (i+1)):=by
   show l=_
   simp
  have:=zEc (p:=fun y=>decide (g y=g l[i])) hs (by
   intro y hy;obtain⟨j,hj,rfl⟩:=List.getElem_of_mem hy;simp at hj;rw[List.getElem_take];have:=h j i (by omega) hi (by omega);simpa using this) (by simp)
  simp only;rw[this];simp;omega
theorem place_neg(l:List Flow)(s:List UInt8):zQ l s<0<->s ∉ l.map Flow.name:=by
 have h:=idx_ge (fun f=>decide (f.name=s)) l;unfold zQ;constructor
 ·intro h0 hm;obtain⟨f,hf,rfl⟩:=ysa.1 hm;have:l.any (fun g=>decide (g.name=f.name))=true:=by rw[List.any_eq_true];exact⟨f,hf,by simp⟩
  rw[this]at h;simp at h;omega
 ·intro hm;have:l.any (fun g=>decide (g.name=s))=false:=by
   rw[List.any_eq_false];intro f hf;simp;rintro rfl;exact hm (ysa.2 ⟨f,hf,rfl⟩)
  rw[this]at h;simp at h;omega
theorem zip_all{α:Type}{l:List α}{p:α->Bool}:(∀x∈l,p x=true)<->∀q∈l.zipIdx,p q.1=true:=by
 constructor
 ·rintro h ⟨x,i⟩ hq
  rw[yka]at hq;exact h x (yB hq)
 ·intro h x hx;obtain⟨i,hi,rfl⟩:=List.getElem_of_mem hx;exact h (l[i],i) (by rw[yka];simp[hi])
theorem rhead_eq(u:Unt):rheadM u=zFc u:=by
 unfold rheadM zFc;rw[Bool.eq_iff_iff];simp only[ya,ym,decide_eq_true_eq,arrGood,zkd,unames,yua];have h1:=idx_nodup Arr.name u.arrays;have h2:=idx_nodup Flow.name u.flows;have h3:(∀p∈u.arrays.zipIdx,zQ u.flows p.1.name<0)<->∀a∈u.arrays.map Arr.name,∀b∈u.flows.map Flow.name,a≠b:=by
  constructor
  ·intro h a ha b hb e;obtain⟨x,hx,rfl⟩:=ysa.1 ha;have:=(zip_all (p:=fun x=>decide (zQ u.flows x.name<0))).2 (fun q hq=>by simpa using h q hq) x hx;simp[place_neg]at this;subst e;obtain⟨y,hy,e⟩:=ysa.1 hb;exact this y hy e
  ·rintro h ⟨x,i⟩ hq
   rw[yka]at hq;rw[place_neg];intro hm;exact h x.name (ysa.2 ⟨x,yB hq,rfl⟩) x.name hm rfl
 have h4:=zip_all (l:=u.arrays) (p:=arrOk);have h5:=zip_all (l:=u.flows) (p:=zPb);have h6:∀p∈u.arrays.zipIdx,(zpd u.arrays p.1.name=p.2<->idx (fun y=>decide (y.name=p.1.name)) u.arrays=p.2):=fun p _=>Iff.rfl
 have h7:∀p∈u.flows.zipIdx,(zQ u.flows p.1.name=p.2<->idx (fun y=>decide (y.name=p.1.name)) u.flows=p.2):=fun p _=>Iff.rfl
 constructor
 ·rintro⟨a,b,c⟩
  exact⟨⟨⟨h4.2 fun q hq=>(a q hq).1,h5.2 fun q hq=>(b q hq).1⟩,h1.1 fun q hq=>(a q hq).2.1,h2.1 fun q hq=>(b q hq).2,h3.1 fun q hq=>(a q hq).2.2⟩,c⟩
 ·rintro⟨⟨⟨a,b⟩,c,d,e⟩,m⟩
  exact⟨fun q hq=>⟨h4.1 a q hq,h1.2 c q hq,h3.2 e q hq⟩,fun q hq=>⟨h5.1 b q hq,h2.2 d q hq⟩,m⟩
def zcc(u:Unt):Int×Int:=if rheadM u then(match u.flows.findIdx? (fun f=> !zOb u f)with
 |some i=>(80,(i:Int))
 |none=>(0,0))else(1,0)
theorem rcheck_spec(u:Unt)(hu:USz u)(hb:∀f∈u.flows,wtL f.body<1099511000000):zi E 25 [encUnt u] []=some (.ret (.tup [.int .i64 (zcc u).1,.int .i64 (zcc u).2]),[]):=by
 refine zb rfl rfl rfl (by simp[encUnt]) ?_;have h1:=rglobals_spec u hu.arrs hu.flows;cases hh:rheadM u
 ·simp[encUnt,hh,flows]at h1;have hc:zcc u=(1,0):=by simp[zcc,hh]
  (simp[*,F25,encUnt,flows])<;>(repeat' (first|((first|refine sP _ ?_ ?_|refine gP _ ?_ ?_|refine sN _ ?_ ?_|refine gN _ ?_ ?_)<;>intro hc<;>(first|replace hc:=eqn hc|replace hc:=eqp hc)<;>simp[*,F25,encUnt,flows])|((first|refine sM _ ?_ ?_|refine gM _ ?_ ?_|refine sB _ ?_ ?_|refine gB _ ?_ ?_)<;>intro hc<;>simp[*,F25,encUnt,flows])))
 ·have ho:=hu.ok (by rw[<-rhead_eq];exact hh);simp[encUnt,hh,flows]at h1;have hf:∀f∈u.flows,zi E 43 [encUnt u,ze f] []=some (.ret (.bool (zOb u f)),[]):=fun f hf=>rflow_spec u f ho (hu.types f hf) (hb f hf)
  have hfl:=hu.flows;simp[F25,encUnt,flows,h1];refine zy u.flows K25_0 B25_0 (fun d=>[(4,.int .i64 d.length)]) (fun d=>[]) (fun d=>∀f∈d,zOb u f=true) (by omega) (by simp) ?_ ?_
  ·intros d x r s hl' hlt hget hget' hw hp q1 q2 q3 q4;simp at q1 q2 q3;have hfx:=hf x hl'.mem;simp[encUnt,flows,ze]at hfx;clear hf hu ho h1 hb;cases hx:zOb u x
   ·have hi:=zEc (p:=fun f=> !zOb u f) hl' (by simpa using hp) (by simp[hx]);have hcx:zcc u=(80,(d.length:Int)):=by
     unfold idx at hi;simp only[zcc,hh,if_true];cases hfi:u.flows.findIdx? (fun f=> !zOb u f)with
     |none=>rw[hfi]at hi;simp at hi
     |some i=>rw[hfi]at hi;simp at hi;simp[hi]
    (simp[*,ze,flows])<;>(repeat' (first|((first|refine sP _ ?_ ?_|refine gP _ ?_ ?_|refine sN _ ?_ ?_|refine gN _ ?_ ?_)<;>intro hc<;>(first|replace hc:=eqn hc|replace hc:=eqp hc)<;>simp[*,ze,flows])|((first|refine sM _ ?_ ?_|refine gM _ ?_ ?_|refine sB _ ?_ ?_|refine gB _ ?_ ?_)<;>intro hc<;>simp[*,ze,flows])))
   ·(simp[*,ze,flows])<;>(repeat' (first|((first|refine sP _ ?_ ?_|refine gP _ ?_ ?_|refine sN _ ?_ ?_|refine gN _ ?_ ?_)<;>intro hc<;>(first|replace hc:=eqn hc|replace hc:=eqp hc)<;>simp[*,ze,flows])|((first|refine sM _ ?_ ?_|refine gM _ ?_ ?_|refine sB _ ?_ ?_|refine gB _ ?_ ?_)<;>intro hc<;>simp[*,ze,flows])))
    all_goals(try grind)
  ·intros s hp q1 q2 q3 q4;simp at q1 q2 q3;have hcx:zcc u=(0,0):=by
    have:u.flows.findIdx? (fun f=> !zOb u f)=none:=by rw[yga];simpa using hp
    simp[zcc,hh,this]
   clear hf hu ho hh h1 hp hb
   (simp[*,flows])<;>(repeat' (first|((first|refine sP _ ?_ ?_|refine gP _ ?_ ?_|refine sN _ ?_ ?_|refine gN _ ?_ ?_)<;>intro hc<;>(first|replace hc:=eqn hc|replace hc:=eqp hc)<;>simp[*,flows])|((first|refine sM _ ?_ ?_|refine gM _ ?_ ?_|refine sB _ ?_ ?_|refine gB _ ?_ ?_)<;>intro hc<;>simp[*,flows])))
structure Rel(ty:List Int)(S:St1)(seen:List Int)(Z:Set1):Prop where
 s:S.length=ty.length
 z:Z.length=ty.length
 set:∀v,0<=v->v<(ty.length:Int)->(atB Z v=true<->at0 S v≠0)
 seen:∀v,0<=v->v<(ty.length:Int)->(v∈seen<->at0 S v=1)
theorem at0_set{S:St1}{v w c:Int}(hv:0<=v)(hv':v<S.length)(hw:0<=w)(hw':w<S.length):at0 (S.set v.toNat c) w=if w=v then c else at0 S w:=by
 unfold at0;rw[List.getElem?_set];by_cases h:w=v
 ·subst h;have:w.toNat<S.length:=by omega
  simp[this]
 ·have:v.toNat≠w.toNat:=by omega
  simp[h,this]
theorem atB_set{S:Set1}{v w:Int}{c:Bool}(hv:0<=v)(hv':v<S.length)(hw:0<=w)(hw':w<S.length):atB (S.set v.toNat c) w=if w=v then c else atB S w:=by
 unfold atB;rw[List.getElem?_set];by_cases h:w=v
 ·subst h;have:w.toNat<S.length:=by omega
  simp[this]
 ·have:v.toNat≠w.toNat:=by omega
  simp[h,this]
theorem eqGo_use{ty:List Int}{S:St1}:∀l,(eqGo (useG ty) S l).1=l.all fun p=>(useG ty S p.1 p.2).1
 | []=>rfl
 |p::r=>by
  simp only[eqGo,List.all_cons];split
  ·rename_i h;rw[h,yEa];exact eqGo_use r
  ·rename_i h;simp only[Bool.not_eq_true]at h;rw[h];rfl
theorem use_rel{ty:List Int}{S:St1}{seen:List Int}{Z:Set1}(h:Rel ty S seen Z)(l ts:List Int):zva ty S l ts=zH ty seen l ts:=by
 have key:∀v t,(useG ty S v t).1=useR ty seen v t:=by
  intro v t;simp only[useG,useR,valM];by_cases h0:0<=v
  ·by_cases h1:v<(ty.length:Int)
   ·have:=h.seen v h0 h1;have e:seen.contains v=decide (at0 S v=1):=by rw[Bool.eq_iff_iff];simpa using this
    rw[e];simp[h0,h1];grind
   ·simp[h1]
  ·simp[h0]
 unfold zva eqM zH;by_cases hl:l.length=ts.length
 ·rw[if_pos hl,eqGo_use];simp only[hl,decide_true,yEa];congr 1;funext p;exact key _ _
 ·rw[if_neg hl];simp[hl]
theorem setGo_rel{ty:List Int}:∀(zs:List (Int×Int)) (S:St1) (seen:List Int) (Z:Set1),Rel ty S seen Z→
  (eqGo (setG ty) S zs).1=(eqGo (zqb ty) Z zs).1/\((eqGo (setG ty) S zs).1=true->Rel ty (eqGo (setG ty) S zs).2 (seen++zs.map yIa) (eqGo (zqb ty) Z zs).2/\∀v∈zs.map yIa,0<=v/\v<ty.length/\at0 S v=0)
 | [],S,seen,Z,h=>⟨rfl,fun _=>⟨by simpa[eqGo]using h,fun v hv=>by simp at hv⟩⟩
 |(v,t)::r,S,seen,Z,h=>by
  have hc:(valM ty v t&&decide (at0 S v=0))=(valM ty v t&& !atB Z v):=by
   cases hv:valM ty v t
   ·rfl
   ·obtain⟨h0,h1⟩:=zJa hv;have:=h.set v h0 h1;cases hz:atB Z v<;>simp[hz]at this ⊢ <;>omega
  simp only[eqGo,setG,zqb,hc];by_cases hb:(valM ty v t&& !atB Z v)=true
  ·simp only[hb,if_true];have hb':=hb;rw[<-hc]at hb';simp only[ya,decide_eq_true_eq]at hb';obtain⟨h0,h1⟩:=zJa hb'.1;have hr:Rel ty (S.set v.toNat 1) (seen++[v]) (Z.set v.toNat true):=by
    refine⟨by simp[h.s],by simp[h.z],fun w hw hw'=>?_,fun w hw hw'=>?_⟩
    ·rw[at0_set h0 (by rw[h.s];exact h1) hw (by rw[h.s];exact hw'),atB_set h0 (by rw[h.z];exact h1) hw (by rw[h.z];exact hw')];by_cases e:w=v
     ·simp[e]
     ·simp only[e,if_false];exact h.set w hw hw'
    ·rw[at0_set h0 (by rw[h.s];exact h1) hw (by rw[h.s];exact hw')];by_cases e:w=v
     ·simp[e]
     ·simp only[yV,List.mem_singleton,e,or_false,if_false];exact h.seen w hw hw'
   obtain⟨q1,q2⟩:=setGo_rel r _ _ _ hr;refine⟨q1,fun hok=>?_⟩;obtain⟨q3,q4⟩:=q2 hok;refine⟨by simpa using q3,fun w hw=>?_⟩;simp only[yu,yS]at hw;rcases hw with rfl|hw
   ·exact⟨h0,h1,hb'.2⟩
   ·obtain⟨p1,p2,p3⟩:=q4 w hw;rw[at0_set h0 (by rw[h.s];exact h1) p1 (by rw[h.s];exact p2)]at p3;split at p3
    ·omega
    ·exact⟨p1,p2,p3⟩
  ·simp only[Bool.not_eq_true]at hb;simp[hb]
theorem zip_fst{l ts:List Int}(h:l.length=ts.length):(l.zip ts).map yIa=l:=by
 rw[List.map_fst_zip];omega
def zma(ty:List Int)(seen outs:List Int)(q:Bool×St1)(r:Bool×Set1):Prop:=
 q.1=r.1/\(q.1=true->Rel ty q.2 (seen++outs) r.2/\∀v∈outs,0<=v/\v<(ty.length:Int)/\v ∉ seen)
theorem zDc{ty:List Int}{S:St1}{seen:List Int}{Z:Set1}(h:Rel ty S seen Z)(l ts:List Int):zma ty seen l (setM ty S l ts) (zoa ty Z l ts):=by
 unfold setM zoa eqM;by_cases hl:l.length=ts.length
 ·rw[if_pos hl,if_pos hl];obtain⟨q1,q2⟩:=setGo_rel (l.zip ts) S seen Z h;refine⟨q1,fun hok=>?_⟩;obtain⟨q3,q4⟩:=q2 hok;rw[zip_fst hl]at q3 q4;refine⟨q3,fun v hv=>?_⟩;obtain⟨p1,p2,p3⟩:=q4 v hv;exact⟨p1,p2,fun hm=>by have:=(h.seen v p1 p2).1 hm;omega⟩
 ·rw[if_neg hl,if_neg hl];exact⟨rfl,fun h=>by cases h⟩
theorem zma.fail{ty:List Int}{seen outs:List Int}{S:St1}{Z:Set1}:zma ty seen outs (false,S) (false,Z):=⟨rfl,fun h=>by cases h⟩
theorem zma.nil{ty:List Int}{seen:List Int}{S:St1}{Z:Set1}{outs:List Int}{b:Bool}(h:Rel ty S seen Z)(ho:b=true->outs=[]):zma ty seen outs (b,S) (b,Z):=
 ⟨rfl,fun hb=>by simp only at hb;rw[ho hb];exact⟨by simpa using h,fun v hv=>by simp at hv⟩⟩
theorem setM_nil(ty:List Int)(S:St1)(l:List Int):setM ty S l []=(decide (l=[]),S):=by
 unfold setM eqM;cases l with
 |nil=>rfl
 |cons x r=>simp
theorem usesM_nil(ty:List Int)(S:St1)(l:List Int):zva ty S l []=decide (l=[]):=by
 unfold zva eqM;cases l with
 |nil=>rfl
 |cons x r=>simp
theorem zma.ite{ty:List Int}{seen outs:List Int}{q:Bool×St1}{r:Bool×Set1}{S:St1}{Z:Set1}{b c:Prop}[Decidable b][Decidable c](hbc:b<->c)(h:zma ty seen outs q r):zma ty seen outs (if b then q else(false,S)) (if c then r else(false,Z)):=by
 by_cases hb:b
 ·rw[if_pos hb,if_pos (hbc.1 hb)];exact h
 ·rw[if_neg hb,if_neg (fun hc=>hb (hbc.2 hc))];exact zma.fail
theorem simple_rel{u:Unt}{f:Flow}{S:St1}{seen:List Int}{Z:Set1}(h:Rel f.types S seen Z)(x:Node)(w:Place)(hk:endK x.kind=false):zma f.types seen x.outs (zGa u f S x) (zda u f seen w Z x):=by
 have hu:=use_rel h;have k12:¬x.kind=12:=by rintro e;simp[endK,e]at hk
 have k13:¬x.kind=13:=by rintro e;simp[endK,e]at hk
 have k14:¬x.kind=14:=by rintro e;simp[endK,e]at hk
 have k15:¬x.kind=15:=by rintro e;simp[endK,e]at hk
 unfold zGa zda;simp only[hu,k12,k13,k14,k15,if_false];by_cases k1:x.kind=1
 ·simp only[k1,if_true];exact zma.ite Iff.rfl (zDc h _ _)
 by_cases k2:x.kind=2
 ·simp only[k2,if_true];simp;exact zma.ite Iff.rfl (zDc h _ _)
 by_cases k3:x.kind=3
 ·simp[k3,sumM,hu];refine zma.ite ?_ (zDc h _ _);simp[isOne];grind
 by_cases k4:x.kind=4
 ·simp[k4,sumM,hu];refine zma.ite ?_ (zDc h _ _);simp[isTwo];grind
 by_cases k5:x.kind=5
 ·simp[k5];exact zma.ite Iff.rfl (zDc h _ _)
 by_cases k6:x.kind=6
 ·simp[k6,setM_nil];by_cases hc:zkb u.arrays x.name=true/\zH f.types seen x.args [1,1]=true
  ·rw[if_pos hc];simp[hc.1,hc.2];exact zma.nil h (by simp)
  ·rw[if_neg hc];have:(zkb u.arrays x.name&&(zH f.types seen x.args [1,1]&&decide (x.outs=[])))=false:=by
    cases h1:zkb u.arrays x.name<;>cases h2:zH f.types seen x.args [1,1]<;>simp_all
   rw[this];exact zma.fail
 by_cases k7:x.kind=7
 ·simp[k7];cases hfl:u.flows[(zQ u.flows x.name).toNat]? with
  |none=>exact zma.fail
  |some g=>exact zma.ite Iff.rfl (zDc h _ _)
 by_cases k8:x.kind=8
 ·simp[k8];have:(zH f.types seen x.args []=true)<->x.args=[]:=by rw[<-hu,usesM_nil];simp
  exact zma.ite this (zDc h _ _)
 by_cases k9:x.kind=9
 ·simp[k9,setM_nil];cases hc:zH f.types seen x.args [1]
  ·simp;exact zma.fail
  ·simp;exact zma.nil h (by simp)
 simp[k1,k2,k3,k4,k5,k6,k7,k8,k9];exact zma.fail
theorem end_rel{u:Unt}{f:Flow}{S:St1}{seen:List Int}{Z:Set1}(h:Rel f.types S seen Z)(x:Node)(w:Place)(hk:endK x.kind=true):zma f.types seen x.outs (endM f S x w,S) (zda u f seen w Z x):=by
 have hu:=use_rel h;have e:zda u f seen w Z x=(endM f S x w,Z):=by
  simp only[endK,ya,decide_eq_true_eq]at hk;have:x.kind=12\/x.kind=13\/x.kind=14\/x.kind=15:=by omega
  unfold zda endM;rcases this with k|k|k|k<;>simp[k,hu]<;>grind
 rw[e];refine zma.nil h (fun hb=>?_);simp only[endM,ya,decide_eq_true_eq]at hb;exact hb.1
theorem at0_hide(S:St1)(l:List Int):∀{n:Nat},S.length=n->(∀v∈l,0<=v/\v<(n:Int))->∀w,0<=w->w<(n:Int)->at0 (zMb S l) w=if w∈l then 2 else at0 S w:=by
 induction l generalizing S with
 |nil=>intro n hS hl w h0 h1;simp[zMb]
 |cons v r ih=>
  intro n hS hl w h0 h1;obtain⟨v0,v1⟩:=hl v (by simp);have e:zMb S (v::r)=zMb (S.set v.toNat 2) r:=rfl;rw[e,ih (S.set v.toNat 2) (by simpa using hS) (fun x hx=>hl x (yna _ hx)) w h0 h1];rw[at0_set v0 (by omega) h0 (by omega)];by_cases hw:w=v
  ·subst hw;by_cases hr:w∈r<;>simp[hr]
  ·by_cases hr:w∈r<;>simp[hr,hw]
theorem Rel.hide{ty:List Int}{S:St1}{seen:List Int}{Z:Set1}{l:List Int}(h:Rel ty S (seen++l) Z)(hl:∀v∈l,0<=v/\v<(ty.length:Int)/\v ∉ seen):Rel ty (zMb S l) seen Z:=by
 have hh:=at0_hide S l h.s (fun v hv=>⟨(hl v hv).1,(hl v hv).2.1⟩);refine⟨by rw[zQc];exact h.s,h.z,fun v h0 h1=>?_,fun v h0 h1=>?_⟩
 ·rw[hh v h0 h1,h.set v h0 h1];by_cases hv:v∈l
  ·have:=(h.seen v h0 h1).1 (List.mem_append_right _ hv);simp[hv,this]
  ·simp[hv]
 ·rw[hh v h0 h1];have hs:=h.seen v h0 h1;rw[yV]at hs;by_cases hv:v∈l
  ·simp[hv,(hl v hv).2.2]
  ·simp only[hv,or_false,if_false]at hs ⊢;exact hs
def Same1(ty:List Int)(seen:List Int)(q:Bool×St1)(r:Bool×Set1):Prop:=q.1=r.1/\(q.1=true->Rel ty q.2 seen r.2)
theorem list_rel{ty:List Int}{seen:List Int}{l:List Node}{q:Bool×St1}{r:Bool×Set1}(h:zma ty seen (zKb l) q r):Same1 ty seen (listE l q) (lastE l r):=by
 obtain⟨h1,h2⟩:=h;unfold listE lastE;rw[<-h1];cases hq:q.1
 ·exact⟨rfl,fun h=>by cases h⟩
 ·simp only[if_true];refine⟨rfl,fun _=>?_⟩;obtain⟨h3,h4⟩:=h2 hq;exact h3.hide h4
theorem choice_rel{ty:List Int}{seen:List Int}{x:Node}{q:Bool×St1}{r:Bool×Set1}(h:Same1 ty seen q r):zma ty seen x.outs (zoc ty x q) (endR ty x r):=by
 obtain⟨h1,h2⟩:=h;unfold zoc endR;rw[<-h1];cases hq:q.1
 ·simp;exact zma.fail
 ·by_cases hb:(decide (x.outs=[])|| !zX x)=true
  ·simp only[hb,Bool.and_self,if_true];exact zDc (h2 hq) _ _
  ·simp only[hb,yEa];exact zma.fail
theorem loop_rel{ty:List Int}{seen:List Int}{x:Node}{q:Bool×St1}{r:Bool×Set1}(h:Same1 ty (seen++x.params) q r)(hp:∀v∈x.params,0<=v/\v<(ty.length:Int)/\v ∉ seen):zma ty seen x.outs (loopE ty x q) (endR ty x r):=by
 obtain⟨h1,h2⟩:=h;unfold loopE endR;rw[<-h1];cases hq:q.1
 ·simp;exact zma.fail
 ·by_cases hb:(decide (x.outs=[])|| !zX x)=true
  ·simp only[hb,Bool.and_self,if_true];exact zDc ((h2 hq).hide hp) _ _
  ·simp only[hb,yEa,if_true];exact zma.fail
mutual
theorem node_rel(u:Unt)(f:Flow):∀(x:Node) (w:Place) (deep:Int) (S:St1) (seen:List Int) (Z:Set1),Rel f.types S seen Z->zma f.types seen x.outs (nodeM u f x w deep S) (nodeR u f x seen w deep Z)
 |⟨k,o,n,s,a,us,ps,ks⟩,w,deep,S,seen,Z,h=>by
  have hu:=use_rel h;rw[nodeM,nodeR];cases hb:zob ⟨k,o,n,s,a,us,ps,ks⟩
  ·simp;exact zma.fail
  simp only[Bool.not_true,yK,if_false];by_cases k10:k=10
  ·simp only[k10,if_true];refine zma.ite (by rw[hu]) ?_;exact choice_rel (kids_rel u f ks _ _ S seen Z h)
  simp only[k10,if_false];by_cases k11:k=11
  ·simp only[k11,if_true];rw[hu];cases hc:zH f.types seen a (zC f.types ps)
   ·simp;exact zma.fail
   simp only[if_true];obtain⟨p1,p2⟩:=zDc h ps (zSa ps.length);have e:allM f.types S ps=setM f.types S ps (zSa ps.length):=rfl;rw[e,<-p1];cases hok:(setM f.types S ps (zSa ps.length)).1
   ·simp;exact zma.fail
   simp only[if_true];obtain⟨p3,p4⟩:=p2 hok;exact loop_rel (kids_rel u f ks _ _ _ _ _ p3) p4
  simp only[k11,if_false];cases hk:endK k
  ·simp only[yK,if_false];exact simple_rel h _ w hk
  ·simp only[if_true];exact end_rel h _ w hk
theorem kids_rel(u:Unt)(f:Flow):∀(ks:List (List Node)) (w:Place) (deep:Int) (S:St1) (seen:List Int) (Z:Set1),Rel f.types S seen Z->Same1 f.types seen (zfd u f ks w deep S) (zed u f ks seen w deep Z)
 | [],w,deep,S,seen,Z,h=>by rw[zfd,zed];exact⟨rfl,fun _=>h⟩
 |l::r,w,deep,S,seen,Z,h=>by
  rw[zfd,zed];obtain⟨h1,h2⟩:=list_rel (go_rel u f l w deep S seen Z h);rw[<-h1];cases hq:(listE l (goM u f l w deep S)).1
  ·simp only[yK,if_false];exact⟨rfl,fun h=>by cases h⟩
  ·simp only[if_true];exact kids_rel u f r w deep _ seen _ (h2 hq)
theorem go_rel(u:Unt)(f:Flow):∀(l:List Node) (w:Place) (deep:Int) (S:St1) (seen:List Int) (Z:Set1),Rel f.types S seen Z->zma f.types seen (zKb l) (goM u f l w deep S) (goR u f l seen w deep Z)
 | [],w,deep,S,seen,Z,h=>by rw[goM,goR];exact zma.nil h (fun _=>rfl)
 |x::r,w,deep,S,seen,Z,h=>by
  rw[goM,goR];by_cases hd:100<deep
  ·rw[if_pos hd,if_pos hd];exact zma.fail
  rw[if_neg hd,if_neg hd];obtain⟨h1,h2⟩:=node_rel u f x w deep S seen Z h;rw[<-h1];cases hq:(nodeM u f x w deep S).1
  ·simp only[yK,if_false];exact zma.fail
  simp only[if_true];obtain⟨h3,h4⟩:=h2 hq;by_cases hc:zX x=r.isEmpty
  ·rw[if_pos hc,if_pos hc];obtain⟨q1,q2⟩:=go_rel u f r w deep _ _ _ h3;refine⟨q1,fun hok=>?_⟩;obtain⟨q3,q4⟩:=q2 hok;rw[louts_cons];refine⟨by simpa[yca]using q3,fun v hv=>?_⟩;rcases yV.1 hv with hv|hv
   ·exact h4 v hv
   ·obtain⟨p1,p2,p3⟩:=q4 v hv;exact⟨p1,p2,fun hm=>p3 (List.mem_append_left _ hm)⟩
  ·rw[if_neg hc,if_neg hc];exact zma.fail
end
theorem init_rel(f:Flow)(hp:0<=f.params/\f.params<=f.types.length):Rel f.types (initM f f.params.toNat) (zyc f.params.toNat) (initR f f.params.toNat):=by
 have hk:f.params.toNat<=f.types.length:=by omega
 refine⟨initM_len f _ hk,initR_len f _ hk,fun v h0 h1=>?_,fun v h0 h1=>?_⟩
 ·have hv:v.toNat<f.types.length:=by omega
  unfold at0 atB initM initR;rw[List.getElem?_append,List.getElem?_append];by_cases h:v.toNat<f.params.toNat
  ·simp[h]
  ·have:v.toNat-f.params.toNat<f.types.length-f.params.toNat:=by omega
   simp[h,this]
 ·have hv:v.toNat<f.types.length:=by omega
  have hm:v∈zyc f.params.toNat<->v.toNat<f.params.toNat:=by
   simp only[zyc,ysa,yqa];constructor
   ·rintro⟨i,hi,rfl⟩;simpa using hi
   ·intro h;exact⟨v.toNat,h,by omega⟩
  rw[hm];unfold at0 initM;rw[List.getElem?_append];by_cases h:v.toNat<f.params.toNat
  ·simp[h]
  ·have:v.toNat-f.params.toNat<f.types.length-f.params.toNat:=by omega
   simp[h,this]
theorem flow_eq(u:Unt)(f:Flow)(hp:0<=f.params/\f.params<=f.types.length):flowM u f=zOb u f:=by
 have h:=list_rel (go_rel u f f.body zGb 1 _ _ _ (init_rel f hp));have h1:¬f.params<0:=by omega
 have h2:¬(f.types.length:Int)<f.params:=by omega
 have h3:(zTa u f f.body zGb 1 (initM f f.params.toNat)).1=(zMa u f f.body (zyc f.params.toNat) zGb 1 (initR f f.params.toNat)).1:=h.1;simp only[flowM,zOb,h1,h2,h3,decide_false,yDa,Bool.or_false]
theorem findIdx_congr{α:Type}{p q:α->Bool}:∀{l:List α},(∀x∈l,p x=q x)->l.findIdx? p=l.findIdx? q
 | [],_=>rfl
 |x::r,h=>by
  rw[List.findIdx?_cons,List.findIdx?_cons,h x (by simp),findIdx_congr (fun y hy=>h y (yna _ hy))]
theorem check_eq(u:Unt):ztb u=zcc u:=by
 unfold ztb zcc;rw[rhead_eq];cases hh:zFc u
 ·rfl
 ·have:u.flows.findIdx? (fun f=> !flowM u f)=u.flows.findIdx? (fun f=> !zOb u f):=by
   refine findIdx_congr (fun f hf=>?_);simp only[zFc,ya,ym]at hh;have:=hh.1.1.2 f hf;simp only[zPb,ya,decide_eq_true_eq]at this;rw[flow_eq u f ⟨this.1.2,this.2⟩]
  rw[this]<;>rfl
def inR(m:Nat)(l:List Int):Prop:=∀v∈l,0<=v/\v<(m:Int)
structure Pl where
 y:Option Nat
 x:Option Nat
 l:Option Nat
structure okH(u:Unt)(m:Nat)(p:Pl)(n:Node):Prop where
 args:inR m n.args
 outs:inR m n.outs
 prs:inR m n.params
 k12:(n.kind=1\/n.kind=2)->n.outs.length=1
 k3:n.kind=3->n.args.length=1/\n.outs.length=1
 k4:n.kind=4->n.args.length=2/\n.outs.length=1
 k5:n.kind=5->zkb u.arrays n.name=true/\n.args.length=1/\n.outs.length=1
 k6:n.kind=6->zkb u.arrays n.name=true/\n.args.length=2/\n.outs.length=0
 k7:n.kind=7->∃g,flowAt u n.name=some g/\0<=zQ u.flows n.name/\n.args.length=(pars g).length/\n.outs.length=1
 k8:n.kind=8->n.outs.length=1
 k9:n.kind=9->n.args.length=1/\n.outs.length=0
 k10:n.kind=10->n.args.length=1/\n.kids.length=2
 k11:n.kind=11->n.args.length=n.params.length/\n.kids.length=1
 k12':n.kind=12->p.y=some n.args.length
 k13:n.kind=13->p.x=some n.args.length
 k14:n.kind=14->p.l=some n.args.length
 k15:n.kind=15->n.args.length=1
 k:1<=n.kind/\n.kind<=15
def plIn(p:Pl)(k:Int)(us ps:List Int):Pl:=if k=11 then⟨none,some ps.length,some us.length⟩else{p with y:=some us.length}
mutual
def okN(u:Unt)(m:Nat):Pl->Node->Prop
 |p,⟨k,o,n,s,a,us,ps,ks⟩=>okH u m p ⟨k,o,n,s,a,us,ps,ks⟩/\okK u m (plIn p k us ps) ks
def okK(u:Unt)(m:Nat):Pl->List (List Node)->Prop
 |p,[]=>True
 |p,l::r=>(l≠ []/\okL u m p l)/\okK u m p r
def okL(u:Unt)(m:Nat):Pl->List Node->Prop
 |p,[]=>True
 |p,x::r=>okN u m p x/\zX x=r.isEmpty/\okL u m p r
end
theorem okN_eq(u:Unt)(m:Nat)(p:Pl)(x:Node):okN u m p x=(okH u m p x/\okK u m (plIn p x.kind x.outs x.params) x.kids):=by
 cases x;rw[okN]
theorem okK_mem{u:Unt}{m:Nat}{p:Pl}:∀{ks:List (List Node)},okK u m p ks->∀l∈ks,l≠ []/\okL u m p l
 | [],_,l,h=>by cases h
 |k::r,h,l,hl=>by
  rw[okK]at h;rcases yS.1 hl with rfl|hl
  ·exact h.1
  ·exact okK_mem h.2 l hl
def plOf(w:Place):Pl:=⟨if w.inIf then some w.yield.length else none,if w.inLoop then some w.next.length else none,if w.inLoop then some w.left.length else none⟩
theorem zia{ty seen l want:List Int}(h:zH ty seen l want=true):inR ty.length l/\l.length=want.length:=by
 unfold zH at h;rw[ya,decide_eq_true_eq,ym]at h;refine⟨fun v hv=>?_,h.1⟩;obtain⟨i,hi⟩:=List.getElem?_of_mem hv;have hlt:=(yb.1 hi).1;obtain⟨t,ht⟩:∃t,want[i]? =some t:=⟨_,ye (by omega)⟩
 have hm:(v,t)∈l.zip want:=yB (i:=i) (by rw[List.getElem?_zip_eq_some];exact⟨hi,ht⟩);have:=h.2 _ hm;simp only[useR,ya,decide_eq_true_eq]at this;exact⟨this.1,this.2.1⟩
theorem setRG_go{ty:List Int}:∀{l:List (Int×Int)} {S:Set1},(eqGo (zqb ty) S l).1=true->∀q∈l,0<=q.1/\q.1<ty.length
 | [],_,_,q,hq=>by cases hq
 |(v,t)::r,S,h,q,hq=>by
  simp only[eqGo,zqb]at h;by_cases hb:(valM ty v t&& !atB S v)=true
  ·simp only[hb,if_true]at h;rcases yS.1 hq with rfl|hq
   ·rw[ya]at hb;exact zJa hb.1
   ·exact setRG_go h q hq
  ·simp only[Bool.not_eq_true]at hb;simp[hb]at h
theorem zRb{ty:List Int}{Z:Set1}{l want:List Int}(h:(zoa ty Z l want).1=true):inR ty.length l/\l.length=want.length:=by
 unfold zoa eqM at h;split at h
 ·rename_i hl;refine⟨fun v hv=>?_,hl⟩;have:v∈(l.zip want).map yIa:=by rw[zip_fst hl];exact hv
  obtain⟨q,hq,rfl⟩:=ysa.1 this;exact setRG_go h q hq
 ·cases h
theorem typesM_len{ty l:List Int}(h:inR ty.length l):(zC ty l).length=l.length:=by
 unfold zC;rw[if_pos,yfa];rw[ym];intro v hv;obtain⟨h0,h1⟩:=h v hv;simp[valM,h0,h1]
theorem zgd(m:Nat):inR m []:=fun v h=>by cases h
theorem endR_ok{ty:List Int}{x:Node}{q:Bool×Set1}(h:(endR ty x q).1=true):q.1=true/\inR ty.length x.outs:=by
 unfold endR at h;split at h
 ·rename_i hc;rw[ya]at hc;exact⟨hc.1,(zRb h).1⟩
 ·cases h
theorem bareM_ok{x:Node}(h:zob x=true):(x.kids.length:Int)=zhc x.kind/\(x.kind=11\/x.params=[]):=by
 simp only[zob,ya,yQ,decide_eq_true_eq]at h;exact⟨h.2,h.1.2⟩
theorem simpleR_ok{u:Unt}{f:Flow}{seen:List Int}{w:Place}{Z:Set1}{x:Node}(hb:zob x=true)(h10:x.kind≠10)(h11:x.kind≠11)(h:(zda u f seen w Z x).1=true):okH u f.types.length (plOf w) x:=by
 obtain⟨_,hp⟩:=bareM_ok hb;have hp:x.params=[]:=hp.resolve_left h11;have hpar:inR f.types.length x.params:=by rw[hp];exact zgd _
 unfold zda at h;dsimp only at h;by_cases k1:x.kind=1
 ·rw[if_pos k1]at h;split at h
  ·rename_i ha;have a:=zia ha;have o:=zRb h;refine⟨a.1,o.1,hpar,?_,?_,?_,?_,?_,?_,?_,?_,?_,?_,?_,?_,?_,?_,?_⟩<;>intros<;>first|omega|(simp_all;done)|skip
  ·cases h
 rw[if_neg k1]at h;by_cases k2:x.kind=2
 ·rw[if_pos k2]at h;split at h
  ·rename_i ha;have a:=zia ha.2;have o:=zRb h;refine⟨a.1,o.1,hpar,?_,?_,?_,?_,?_,?_,?_,?_,?_,?_,?_,?_,?_,?_,?_⟩<;>intros<;>first|omega|(simp_all;done)|skip
  ·cases h
 rw[if_neg k2]at h;by_cases k3:x.kind=3
 ·rw[if_pos k3]at h;split at h
  ·rename_i ha;rw[ya]at ha;have a:=zia ha.2;have o:=zRb h;refine⟨a.1,o.1,hpar,?_,?_,?_,?_,?_,?_,?_,?_,?_,?_,?_,?_,?_,?_,?_⟩<;>intros<;>first|omega|(simp_all;done)|skip
  ·cases h
 rw[if_neg k3]at h;by_cases k4:x.kind=4
 ·rw[if_pos k4]at h;split at h
  ·rename_i ha;have ha:=ha.1;rw[ya]at ha;have a:=zia ha.2;have o:=zRb h;refine⟨a.1,o.1,hpar,?_,?_,?_,?_,?_,?_,?_,?_,?_,?_,?_,?_,?_,?_,?_⟩<;>intros<;>first|omega|(simp_all;done)|skip
  ·cases h
 rw[if_neg k4]at h;by_cases k5:x.kind=5
 ·rw[if_pos k5]at h;split at h
  ·rename_i ha;rw[ya]at ha;have a:=zia ha.2;have o:=zRb h;refine⟨a.1,o.1,hpar,?_,?_,?_,?_,?_,?_,?_,?_,?_,?_,?_,?_,?_,?_,?_⟩<;>intros<;>first|omega|(simp_all;done)|skip
  ·cases h
 rw[if_neg k5]at h;by_cases k6:x.kind=6
 ·rw[if_pos k6]at h;simp only[ya,decide_eq_true_eq]at h;have a:=zia h.2.1;have o:inR f.types.length x.outs:=by rw[h.2.2];exact zgd _
  have o2:x.outs.length=0:=by rw[h.2.2];rfl
  refine⟨a.1,o,hpar,?_,?_,?_,?_,?_,?_,?_,?_,?_,?_,?_,?_,?_,?_,?_⟩<;>intros<;>first|omega|(simp_all;done)|skip
 rw[if_neg k6]at h;by_cases k7:x.kind=7
 ·rw[if_pos k7]at h;split at h
  ·rename_i g hg;split at h
   ·rename_i ha;have a:=zia ha.2;have o:=zRb h;have hk:∃g,flowAt u x.name=some g/\0<=zQ u.flows x.name/\x.args.length=(pars g).length/\x.outs.length=1:=⟨g,hg,ha.1,a.2,o.2⟩
    refine⟨a.1,o.1,hpar,?_,?_,?_,?_,?_,fun _=>hk,?_,?_,?_,?_,?_,?_,?_,?_,?_⟩<;>intros<;>omega
   ·cases h
  ·cases h
 rw[if_neg k7]at h;by_cases k8:x.kind=8
 ·rw[if_pos k8]at h;split at h
  ·rename_i ha;have o:=zRb h;have a:inR f.types.length x.args:=by rw[ha];exact zgd _
   refine⟨a,o.1,hpar,?_,?_,?_,?_,?_,?_,?_,?_,?_,?_,?_,?_,?_,?_,?_⟩<;>intros<;>first|omega|(simp_all;done)|skip
  ·cases h
 rw[if_neg k8]at h;by_cases k9:x.kind=9
 ·rw[if_pos k9]at h;simp only[ya,decide_eq_true_eq]at h;have a:=zia h.1;have o:inR f.types.length x.outs:=by rw[h.2];exact zgd _
  have o2:x.outs.length=0:=by rw[h.2];rfl
  refine⟨a.1,o,hpar,?_,?_,?_,?_,?_,?_,?_,?_,?_,?_,?_,?_,?_,?_,?_⟩<;>intros<;>first|omega|(simp_all;done)|skip
 rw[if_neg k9]at h;by_cases k12:x.kind=12
 ·rw[if_pos k12]at h;simp only[ya,decide_eq_true_eq]at h;have a:=zia h.2.1;have o:inR f.types.length x.outs:=by rw[h.2.2];exact zgd _
  have hy:(plOf w).y=some x.args.length:=by simp only[plOf,h.1,if_true,a.2]
  refine⟨a.1,o,hpar,?_,?_,?_,?_,?_,?_,?_,?_,?_,?_,?_,?_,?_,?_,?_⟩<;>intros<;>first|omega|(simp_all;done)|skip
 rw[if_neg k12]at h;by_cases k13:x.kind=13
 ·rw[if_pos k13]at h;simp only[ya,decide_eq_true_eq]at h;have a:=zia h.2.1;have o:inR f.types.length x.outs:=by rw[h.2.2];exact zgd _
  have hy:(plOf w).x=some x.args.length:=by simp only[plOf,h.1,if_true,a.2]
  refine⟨a.1,o,hpar,?_,?_,?_,?_,?_,?_,?_,?_,?_,?_,?_,?_,?_,?_,?_⟩<;>intros<;>first|omega|(simp_all;done)|skip
 rw[if_neg k13]at h;by_cases k14:x.kind=14
 ·rw[if_pos k14]at h;simp only[ya,decide_eq_true_eq]at h;have a:=zia h.2.1;have o:inR f.types.length x.outs:=by rw[h.2.2];exact zgd _
  have hy:(plOf w).l=some x.args.length:=by simp only[plOf,h.1,if_true,a.2]
  refine⟨a.1,o,hpar,?_,?_,?_,?_,?_,?_,?_,?_,?_,?_,?_,?_,?_,?_,?_⟩<;>intros<;>first|omega|(simp_all;done)|skip
 rw[if_neg k14]at h;by_cases k15:x.kind=15
 ·rw[if_pos k15]at h;simp only[ya,decide_eq_true_eq]at h;have a:=zia h.1;have o:inR f.types.length x.outs:=by rw[h.2];exact zgd _
  refine⟨a.1,o,hpar,?_,?_,?_,?_,?_,?_,?_,?_,?_,?_,?_,?_,?_,?_,?_⟩<;>intros<;>first|omega|(simp_all;done)|skip
 rw[if_neg k15]at h;cases h
theorem plOf_if{w:Place}{ty us ps:List Int}(h:inR ty.length us):plOf {w with inIf:=true,yield:=zC ty us}=plIn (plOf w) 10 us ps:=by
 simp[plOf,plIn,typesM_len h]
theorem plOf_loop{p:Pl}{ty us ps:List Int}(h:inR ty.length us)(h':inR ty.length ps):plOf ⟨false,true,[],zC ty ps,zC ty us⟩=plIn p 11 us ps:=by
 simp[plOf,plIn,typesM_len h,typesM_len h']
mutual
theorem nodeR_ok(u:Unt)(f:Flow):∀(x:Node) (seen:List Int) (w:Place) (deep:Int) (Z:Set1),(nodeR u f x seen w deep Z).1=true->okN u f.types.length (plOf w) x
 |⟨k,o,n,s,a,us,ps,ks⟩,seen,w,deep,Z,h=>by
  rw[okN];rw[nodeR]at h;by_cases hb:zob ⟨k,o,n,s,a,us,ps,ks⟩=true
  ·rw[hb]at h;simp only[Bool.not_true,yK,if_false]at h;obtain⟨hk,hp⟩:=bareM_ok hb;simp only at hk hp;by_cases k10:k=10
   ·rw[if_pos k10]at h;split at h
    ·rename_i ha;have a1:=zia ha;obtain⟨q1,q2⟩:=endR_ok h;simp only at q2;have hp0:ps=[]:=hp.resolve_left (by omega);have hk2:ks.length=2:=by rw[k10]at hk;simp[zhc]at hk;omega
     have hkid:=kidsR_ok u f ks _ _ _ _ q1;rw[plOf_if (ps:=ps) q2]at hkid;rw[k10];refine⟨⟨a1.1,q2,by simp only[hp0];exact zgd _,?_,?_,?_,?_,?_,?_,?_,?_,?_,?_,?_,?_,?_,?_,?_⟩,hkid⟩<;>intros<;>(try dsimp only at*)<;>first|omega|exact⟨a1.2,hk2⟩|exact⟨by simpa using a1.2,hk2⟩
    ·cases h
   ·rw[if_neg k10]at h;by_cases k11:k=11
    ·rw[if_pos k11]at h;split at h
     ·rename_i ha;split at h
      ·rename_i hs;have s1:=zRb hs;have a1:=zia ha;rw[typesM_len s1.1]at a1;obtain⟨q1,q2⟩:=endR_ok h;simp only at q2;have hk2:ks.length=1:=by rw[k11]at hk;simp[zhc]at hk;omega
       have hkid:=kidsR_ok u f ks _ _ _ _ q1;rw[plOf_loop (p:=plOf w) q2 s1.1]at hkid;rw[k11];refine⟨⟨a1.1,q2,s1.1,?_,?_,?_,?_,?_,?_,?_,?_,?_,?_,?_,?_,?_,?_,?_⟩,hkid⟩<;>intros<;>(try dsimp only at*)<;>first|omega|exact⟨a1.2,hk2⟩|exact⟨by simpa using a1.2,hk2⟩
      ·cases h
     ·cases h
    ·rw[if_neg k11]at h;have hh:=simpleR_ok hb k10 k11 h;have hk0:ks=[]:=by
      simp[zhc,k10,k11]at hk;exact hk
     exact⟨hh,by rw[hk0,okK];trivial⟩
  ·simp only[Bool.not_eq_true]at hb;rw[hb]at h;simp at h
theorem kidsR_ok(u:Unt)(f:Flow):∀(ks:List (List Node)) (seen:List Int) (w:Place) (deep:Int) (Z:Set1),(zed u f ks seen w deep Z).1=true->okK u f.types.length (plOf w) ks
 | [],seen,w,deep,Z,h=>by rw[okK];trivial
 |l::r,seen,w,deep,Z,h=>by
  rw[okK];rw[zed]at h;split at h
  ·rename_i hl;refine⟨?_,kidsR_ok u f r _ _ _ _ h⟩;unfold lastE at hl;split at hl
   ·rename_i hg;refine⟨?_,goR_ok u f l _ _ _ _ hg⟩
    rintro rfl
    simp at hl
   ·cases hl
  ·cases h
theorem goR_ok(u:Unt)(f:Flow):∀(l:List Node) (seen:List Int) (w:Place) (deep:Int) (Z:Set1),(goR u f l seen w deep Z).1=true->okL u f.types.length (plOf w) l
 | [],seen,w,deep,Z,h=>by rw[okL];trivial
 |x::r,seen,w,deep,Z,h=>by
  rw[okL];rw[goR]at h;split at h
  ·cases h
  ·split at h
   ·rename_i hn;split at h
    ·rename_i hc;exact⟨nodeR_ok u f x _ _ _ _ hn,hc,goR_ok u f r _ _ _ _ h⟩
    ·cases h
   ·cases h
end
structure OkU(u:Unt):Prop where
 sz:USz u
 body:∀f∈u.flows,f.body≠ []/\okL u f.types.length ⟨none,none,none⟩ f.body
 pars:∀f∈u.flows,0<=f.params/\f.params<=f.types.length
 arrs:∀a∈u.arrays,1<=a.size/\a.size<=1000
 names:(u.arrays.map Arr.name).Nodup
 main:∃f,flowAt u zI=some f/\f∈u.flows/\0<=zQ u.flows zI/\f.params=0
theorem checkM_ok{u:Unt}(hz:USz u)(h:(ztb u).1=0):OkU u:=by
 have h2:=h;rw[check_eq]at h2;unfold zcc at h2;rw[rhead_eq]at h2;cases hh:zFc u
 ·rw[hh]at h2;simp at h2
 ·rw[hh]at h2;simp only[if_true]at h2;have hfl:∀f∈u.flows,zOb u f=true:=by
   cases hx:u.flows.findIdx? (fun f=> !zOb u f)with
   |some i=>rw[hx]at h2;simp at h2
   |none=>rw[yga]at hx;simpa using hx
  simp only[zFc,ya,ym,decide_eq_true_eq]at hh;obtain⟨⟨⟨ha,hf⟩,hn⟩,hm⟩:=hh;refine⟨hz,fun f hf'=>?_,fun f hf'=>?_,fun a ha'=>?_,?_,?_⟩
  ·have h3:=hfl f hf';unfold zOb at h3;rw[ya]at h3;have h4:=h3.2;unfold zMa lastE at h4;split at h4
   ·rename_i hg;refine⟨?_,goR_ok u f f.body _ _ _ _ hg⟩;intro e;rw[e]at h4;simp at h4
   ·cases h4
  ·have:=hf f hf';simp only[zPb,ya,decide_eq_true_eq]at this;exact⟨this.1.2,this.2⟩
  ·have:=ha a ha';simp only[arrOk,ya,decide_eq_true_eq]at this;exact⟨this.1.2,this.2⟩
  ·unfold unames at hn;rw[yua]at hn;exact hn.1
  ·unfold zOc at hm;unfold flowAt;split at hm
   ·rename_i f hf';simp only[ya,decide_eq_true_eq]at hm;exact⟨f,hf',yB hf',by grind,by grind⟩
   ·cases hm
structure Mono(S S1:RS):Prop where
 fuel:S1.fuel<=S.fuel
 out:S1.out.length+S1.fuel<=S.out.length+S.fuel
 arrs:S1.arrs.map List.length=S.arrs.map List.length
theorem Mono.refl(S:RS):Mono S S:=⟨yk _,yk _,rfl⟩
theorem Mono.trans{a b c:RS}(h:Mono a b)(k:Mono b c):Mono a c:=⟨yia k.1 h.1,yia k.2 h.2,k.3.trans h.3⟩
structure Mono1(S S1:RS):Prop where
 fuel:S1.fuel<=S.fuel
 out:S1.out.length+S1.fuel<=S.out.length+S.fuel+1
 arrs:S1.arrs.map List.length=S.arrs.map List.length
theorem Mono.one{a b:RS}(h:Mono a b):Mono1 a b:=⟨h.1,by have:=h.2;omega,h.3⟩
theorem zEb:∀(v o n:List Int),(setW v o n).length=v.length
 |v,[],n=>by simp[setW]
 |v,_::_,[]=>by simp[setW]
 |v,o::os,n::ns=>by rw[setW,zEb];simp
theorem zgc(v l:List Int):(ofW v l).length=l.length:=by simp[ofW]
def Ended(p:Pl)(r:Wy):Prop:=
 (r.kind=12/\p.y=some r.l.length)\/(r.kind=13/\p.x=some r.l.length)\/(r.kind=14/\p.l=some r.l.length)\/(r.kind=15/\r.l.length=1)
theorem Ended.ne{p:Pl}{r:Wy}(h:Ended p r):r.kind≠0:=by
 rcases h with h|h|h|h<;>omega
def NodeOk(m:Nat)(p:Pl)(x:Node)(S:RS)(q:Rt Wy×List Int×RS):Prop:=
 Mono S q.2.2/\q.2.1.length=m/\∀r,q.1= .ok r->q.2.2.fuel<S.fuel/\((r.kind=0/\zX x=false)\/(Ended p r/\(r.kind=12->x.kind=12)/\(r.kind=14->x.leaves=true)))
def ListRun(m:Nat)(p:Pl)(l:List Node)(S:RS)(q:Rt Wy×List Int×RS):Prop:=
 Mono S q.2.2/\q.2.1.length=m/\∀r,q.1= .ok r->q.2.2.fuel<S.fuel/\Ended p r/\(r.kind=12->zbb l=true)/\(r.kind=14->zBa l=true)
def EvOk(u:Unt)(ev:NEv):Prop:=∀m p x v S,okN u m p x->v.length=m->NodeOk m p x S (ev x v S)
theorem closed_ends{x:Node}(h:12<=x.kind/\x.kind<=15):zX x=true:=by
 unfold zX;rw[if_neg (by omega),if_neg (by omega)];simp[Node.ends,h.1,h.2]
theorem yields_cons{x:Node}{r:List Node}(h:r≠ []):zbb (x::r)=zbb r:=by
 unfold zbb;cases r with
 |nil=>exact absurd rfl h
 |cons y r=>rw[List.getLast?_cons_cons]
section
variable {u:Unt} {ev:NEv} (H:EvOk u ev)
include H
theorem zFb{m:Nat}{p:Pl}:∀(l:List Node) (v:List Int) (S:RS),l≠ []->okL u m p l->v.length=m->ListRun m p l S (zka ev l v S)
 | [],v,S,hne,_,_=>absurd rfl hne
 |x::r,v,S,_,ho,hv=>by
  rw[okL]at ho;obtain⟨o1,o2,o3⟩:=ho;obtain⟨h1,f2,h2⟩:=H m p x v S o1 hv;unfold zka;generalize ev x v S=q at*;obtain⟨a,v1,S1⟩:=q;simp only at f2 h1;cases a with
  |stop k=>exact⟨h1,f2,fun r e=>by cases e⟩
  |ok w=>
   obtain⟨f1,f3⟩:=h2 w rfl;simp only;by_cases hk:w.kind=0
   ·rw[if_pos hk];have hc:zX x=false:=by
     rcases f3 with f3|f3
     ·exact f3.2
     ·exact absurd hk f3.1.ne
    have hne:r≠ []:=by rintro rfl;rw[hc]at o2;cases o2
    obtain⟨i1,i0,i2⟩:=zFb r v1 S1 hne o3 f2;refine⟨h1.trans i1,i0,fun r' e=>?_⟩;obtain⟨j1,j3,j4,j5⟩:=i2 r' e;refine⟨by simp only at f1;omega,j3,fun e=>?_,fun e=>?_⟩
    ·rw[yields_cons hne];exact j4 e
    ·rw[zyb,List.any_cons,<-zyb,j5 e,Bool.or_true]
   ·rw[if_neg hk];refine⟨h1,f2,fun r' e=>?_⟩;cases e;rcases f3 with f3|⟨f3,f4,f5⟩
    ·exact absurd f3.1 hk
    ·refine⟨f1,f3,fun e=>?_,fun e=>?_⟩
     ·have hx:=f4 e;have hc:=closed_ends (x:=x) (by omega);rw[hc]at o2;have:r=[]:=by simpa using o2.symm
      subst this;simp[zbb,hx]
     ·rw[zyb,List.any_cons,f5 e,Bool.true_or]
theorem callW_ok{f:Flow}(hb:f.body≠ []/\okL u f.types.length ⟨none,none,none⟩ f.body){l:List Int}(hl:l.length<=f.types.length)(S:RS):
  Mono S (zqc ev f l S).2/\(∀n,(zqc ev f l S).1= .ok n->(zqc ev f l S).2.fuel<S.fuel):=by
 have h:=zFb H f.body (l++yf (f.types.length-l.length) 0) S hb.1 hb.2 (by simp;omega);unfold zqc;generalize zka ev f.body (l++yf (f.types.length-l.length) 0) S=q at*;obtain⟨a,v1,S1⟩:=q;obtain⟨h1,_,h2⟩:=h;cases a with
 |stop k=>exact⟨h1,fun n e=>by cases e⟩
 |ok w=>exact⟨h1,fun n e=>(h2 w rfl).1⟩
theorem plainW_ok(hU:OkU u){m:Nat}{p:Pl}{x:Node}(ho:okH u m p x)(hk:3<=x.kind/\x.kind<=9){l:List Int}(hl:l.length=x.args.length)(S:RS):
  Mono1 S (plainW u ev x l S).2/\∀n,(plainW u ev x l S).1= .ok n->n.length=x.outs.length:=by
 unfold plainW;by_cases k3:x.kind=3
 ·rw[if_pos k3];exact⟨(Mono.refl _).one,fun n e=>by cases e;rw[(ho.k3 k3).2];rfl⟩
 rw[if_neg k3];by_cases k4:x.kind=4
 ·rw[if_pos k4];split
  ·exact⟨(Mono.refl _).one,fun n e=>by cases e;rw[(ho.k4 k4).2];rfl⟩
  ·exact⟨(Mono.refl _).one,fun n e=>by cases e⟩
 rw[if_neg k4];by_cases k5:x.kind=5
 ·rw[if_pos k5];split
  ·exact⟨(Mono.refl _).one,fun n e=>by cases e;rw[(ho.k5 k5).2.2];rfl⟩
  ·exact⟨(Mono.refl _).one,fun n e=>by cases e⟩
 rw[if_neg k5];by_cases k6:x.kind=6
 ·rw[if_pos k6];split
  ·rename_i S1 hp;refine⟨?_,fun n e=>by cases e;rw[(ho.k6 k6).2.2];rfl⟩;unfold putAt at hp;split at hp
   ·cases hp
   ·rw[yI]at hp;obtain⟨row,hr,hp⟩:=hp;split at hp
    ·cases hp;refine Mono.one ⟨yk _,yk _,?_⟩;simp only[yT,List.length_set];have hlt:=(yb.1 hr).1;have e:row.length=(S.arrs.map List.length)[(zpd u.arrays x.name).toNat]'(by simpa using hlt):=by
      rw[List.getElem_map,(yb.1 hr).2]
     rw[e,List.set_getElem_self]
    ·cases hp
  ·exact⟨(Mono.refl _).one,fun n e=>by cases e⟩
 rw[if_neg k6];by_cases k7:x.kind=7
 ·rw[if_pos k7];obtain⟨g,hg,_,ha,hs⟩:=ho.k7 k7;rw[hg];simp only;have hgm:g∈u.flows:=yB hg;have hc:=callW_ok H (hU.body g hgm) (l:=l) (by rw[hl,ha];simp[pars];omega) S;generalize zqc ev g l S=q at*;obtain⟨a,S1⟩:=q;cases a with
  |stop k=>exact⟨hc.1.one,fun n e=>by cases e⟩
  |ok k=>exact⟨hc.1.one,fun n e=>by cases e;rw[hs];rfl⟩
 rw[if_neg k7];by_cases k8:x.kind=8
 ·rw[if_pos k8];split
  ·exact⟨(Mono.refl _).one,fun n e=>by cases e⟩
  ·exact⟨Mono.one ⟨yk _,yk _,rfl⟩,fun n e=>by cases e;rw[ho.k8 k8];rfl⟩
 rw[if_neg k8];by_cases k9:x.kind=9
 ·rw[if_pos k9];exact⟨⟨yk _,by simp;omega,rfl⟩,fun n e=>by cases e;rw[(ho.k9 k9).2];rfl⟩
 omega
omit H in
theorem kids_two{x:Node}(h:x.kids.length=2):x.kids=[kid0 x,kid1 x]:=by
 unfold kid0 kid1
 match hk:x.kids with
 | [a,b]=>rfl
 | []=>rw[hk]at h;cases h
 | [_]=>rw[hk]at h;cases h
 |_::_::_::_=>rw[hk]at h;simp at h
omit H in
theorem kids_one{x:Node}(h:x.kids.length=1):x.kids=[kid0 x]:=by
 unfold kid0
 match hk:x.kids with
 | [a]=>rfl
 | []=>rw[hk]at h;cases h
 |_::_::_=>rw[hk]at h;simp at h
omit H in
theorem Mono.less{k:Nat}{S:RS}{q:RS}(hf:S.fuel=k+1)(h:Mono {S with fuel:=k} q):Mono S q/\q.fuel<S.fuel:=by
 obtain⟨h1,h2,h3⟩:=h;simp only at h1 h2 h3;exact⟨⟨by omega,by omega,h3⟩,by omega⟩
theorem choiceW_ok{m:Nat}{p:Pl}{x:Node}(ho:okN u m p x)(hk:x.kind=10)(c:Int){v:List Int}(hv:v.length=m)(S:RS):
  Mono S (znc ev x c v S).2.2/\(znc ev x c v S).2.1.length=m/\∀r,(znc ev x c v S).1= .ok r->((r.kind=0/\zX x=false)\/(Ended p r/\(r.kind=12->x.kind=12)/\(r.kind=14->x.leaves=true))):=by
 rw[okN_eq]at ho;obtain⟨o1,o2⟩:=ho;have hkid:=kids_two (o1.k10 hk).2;have hp:plIn p x.kind x.outs x.params={p with y:=some x.outs.length}:=by rw[hk];rfl
 rw[hp]at o2;have hmem:(if c=0 then kid1 x else kid0 x)∈x.kids:=by rw[hkid];split<;>simp
 obtain⟨h1,h2⟩:=okK_mem o2 _ hmem;have h:=zFb H _ v S h1 h2 hv;unfold znc;generalize(if c=0 then kid1 x else kid0 x)=l at*;generalize zka ev l v S=q at*;obtain⟨a,v1,S1⟩:=q;obtain⟨h3,g2,h4⟩:=h;simp only at g2 h3;cases a with
 |stop k=>exact⟨h3,g2,fun r e=>by cases e⟩
 |ok w=>
  obtain⟨g1,g3,g4,g5⟩:=h4 w rfl;simp only;by_cases hw:w.kind=12
  ·rw[if_pos hw];refine⟨h3,by simp only[zEb];exact g2,fun r e=>?_⟩;cases e;refine .inl ⟨rfl,?_⟩;have hy:=g4 hw;unfold zX;rw[if_pos ⟨hk,(o1.k10 hk).2⟩];rw[<-Bool.not_eq_true,ym];intro hall;have:=hall l hmem;rw[hy]at this;cases this
  ·rw[if_neg hw];refine⟨h3,g2,fun r e=>?_⟩;cases e;refine .inr ⟨?_,fun e=>absurd e hw,fun e=>?_⟩
   ·rcases g3 with g3|g3
    ·exact absurd g3.1 hw
    ·exact .inr g3
   ·rw[leaves_eq,hk];simp only[decide_true,yEa];rw[yQ,List.any_eq_true];exact .inr ⟨l,hmem,g5 e⟩
theorem loopW_ok{m:Nat}{p:Pl}{x:Node}(ho:okN u m p x)(hk:x.kind=11):∀(k:Nat) {l v:List Int} (hl:l.length=x.params.length) (hv:v.length=m) (S:RS),
  Mono S (zwb ev x k l v S).2.2/\(zwb ev x k l v S).2.1.length=m/\∀r,(zwb ev x k l v S).1= .ok r->((r.kind=0/\zX x=false)\/(Ended p r/\(r.kind=12->x.kind=12)/\(r.kind=14->x.leaves=true)))
 |0,l,v,hl,hv,S=>⟨Mono.refl _,hv,fun r e=>by cases e⟩
 |k+1,l,v,hl,hv,S=>by
  have ho':=ho;rw[okN_eq]at ho';obtain⟨o1,o2⟩:=ho';have hkid:=kids_one (o1.k11 hk).2;have hp:plIn p x.kind x.outs x.params=⟨none,some x.params.length,some x.outs.length⟩:=by rw[hk];rfl
  rw[hp]at o2;have hmem:kid0 x∈x.kids:=by rw[hkid];simp
  obtain⟨h1,h2⟩:=okK_mem o2 _ hmem;have h:=zFb H _ (setW v x.params l) S h1 h2 (by rw[zEb];exact hv);have ih:=fun l v hl hv S=>loopW_ok ho hk k (l:=l) (v:=v) hl hv S
  unfold zwb;generalize zka ev (kid0 x) (setW v x.params l) S=q at*;obtain⟨a,v1,S1⟩:=q;obtain⟨h3,g2,h4⟩:=h;simp only at g2 h3;cases a with
  |stop k=>exact⟨h3,g2,fun r e=>by cases e⟩
  |ok w=>
   obtain⟨g1,g3,g4,g5⟩:=h4 w rfl;simp only;by_cases hw:w.kind=15
   ·rw[if_pos hw];refine⟨h3,g2,fun r e=>?_⟩;cases e;refine .inr ⟨?_,fun e=>by omega,fun e=>by omega⟩;rcases g3 with g3|g3|g3|g3
    ·omega
    ·omega
    ·omega
    ·exact .inr (.inr (.inr g3))
   ·rw[if_neg hw];by_cases hw4:w.kind=14
    ·rw[if_pos hw4];refine⟨h3,by simp only[zEb];exact g2,fun r e=>?_⟩;cases e;refine .inl ⟨rfl,?_⟩;have hy:=g5 hw4;unfold zX;rw[if_neg (by omega),if_pos ⟨hk,(o1.k11 hk).2⟩,hkid];simp[hy]
    ·rw[if_neg hw4];have hlen:w.l.length=x.params.length:=by
      rcases g3 with g3|g3|g3|g3
      ·cases g3.2
      ·have:=g3.2;simp at this;omega
      ·omega
      ·omega
     obtain⟨i1,i0,i2⟩:=ih w.l v1 hlen g2 S1;exact⟨h3.trans i1,i0,i2⟩
theorem nodeW_ok(hU:OkU u){m:Nat}{p:Pl}{x:Node}(ho:okN u m p x){v:List Int}(hv:v.length=m)(w:Nat){k:Nat}{S:RS}(hf:S.fuel=k+1):
  NodeOk m p x S (nodeW u ev w x v {S with fuel:=k}):=by
 have ho':=ho;rw[okN_eq]at ho';obtain⟨o1,o2⟩:=ho';unfold nodeW;by_cases k1:x.kind=1\/x.kind=2
 ·rw[if_pos k1];obtain⟨q1,q2⟩:=Mono.less hf (Mono.refl _);refine⟨q1,by simp only[zEb];exact hv,fun r e=>?_⟩;cases e;refine⟨q2,.inl ⟨rfl,?_⟩⟩;unfold zX;rw[if_neg (by omega),if_neg (by omega)];simp only[Node.ends,Bool.and_eq_false_iff,decide_eq_false_iff_not];omega
 rw[if_neg k1];by_cases k2:12<=x.kind/\x.kind<=15
 ·rw[if_pos k2];obtain⟨q1,q2⟩:=Mono.less hf (Mono.refl _);refine⟨q1,hv,fun r e=>?_⟩;cases e;refine⟨q2,.inr ⟨?_,fun e=>e,fun e=>?_⟩⟩
  ·unfold Ended;simp only[zgc];have h12:=o1.k12';have h13:=o1.k13;have h14:=o1.k14;have h15:=o1.k15;rcases(show x.kind=12\/x.kind=13\/x.kind=14\/x.kind=15 from by omega)with e|e|e|e
   ·exact .inl ⟨e,h12 e⟩
   ·exact .inr (.inl ⟨e,h13 e⟩)
   ·exact .inr (.inr (.inl ⟨e,h14 e⟩))
   ·exact .inr (.inr (.inr ⟨e,h15 e⟩))
  ·simp only at e;rw[leaves_eq,e];rfl
 rw[if_neg k2];by_cases k10:x.kind=10
 ·rw[if_pos k10];obtain⟨h1,h0,h2⟩:=choiceW_ok H ho k10 (atA (ofW v x.args) 0) hv {S with fuel:=k};obtain⟨q1,q2⟩:=Mono.less hf h1;exact⟨q1,h0,fun r e=>⟨q2,h2 r e⟩⟩
 rw[if_neg k10];by_cases k11:x.kind=11
 ·rw[if_pos k11];obtain⟨h1,h0,h2⟩:=loopW_ok H ho k11 (w+1) (l:=ofW v x.args) (by rw[zgc];exact(o1.k11 k11).1) hv {S with fuel:=k};obtain⟨q1,q2⟩:=Mono.less hf h1;exact⟨q1,h0,fun r e=>⟨q2,h2 r e⟩⟩
 rw[if_neg k11];have hkk:3<=x.kind/\x.kind<=9:=by have:=o1.k;omega
 have h:=plainW_ok H hU o1 hkk (zgc v x.args) (zE {S with fuel:=k});have hc:zX x=false:=by
  unfold zX;rw[if_neg (by omega),if_neg (by omega)];simp only[Node.ends,Bool.and_eq_false_iff,decide_eq_false_iff_not];omega
 generalize plainW u ev x (ofW v x.args) (zE {S with fuel:=k})=q at*;obtain⟨a,S1⟩:=q;obtain⟨⟨h1,h2,h3⟩,h4⟩:=h;simp only[zE]at h1 h2 h3;have q1:Mono S S1:=⟨by omega,by omega,h3⟩
 cases a with
 |stop j=>exact⟨q1,hv,fun r e=>by cases e⟩
 |ok l=>
  refine⟨q1,by simp only[zEb];exact hv,fun r e=>?_⟩;cases e;exact⟨by simp only;omega,.inl ⟨rfl,hc⟩⟩
end
theorem zQb{u:Unt}(hU:OkU u):∀w,EvOk u (evN u w)
 |0=>fun m p x v S ho hv=>⟨Mono.refl _,hv,fun r e=>by cases e⟩
 |w+1=>fun m p x v S ho hv=>by
  have ih:=zQb hU w;simp only[evN];cases hf:S.fuel with
  |zero=>exact⟨Mono.refl _,hv,fun r e=>by cases e⟩
  |succ k=>exact nodeW_ok ih hU ho hv w hf
def zCa(k:Nat):List Arr->List (PV×PV)
 | []=>[]
 |a::r=>(.str a.name,.mslice k 0 a.size.toNat 1)::zCa (k+1) r
def intO(l:List Int):Obj:= .arr 1 (l.map (PV.int .i64))
def zya(l:List (List Int)):zc:=l.map intO
def runCells(u:Unt)(S:RS):List PV:=[arrs u.arrays,flows u.flows,ints S.inp,.mp 0,.int .i64 0,.int .i64 0,acc 1 (S.out.map (PV.int .i64)),.int .i64 S.cost,.int .i64 S.fuel]
def runO(u:Unt)(S:RS):Obj:= .arr 9 [.agg (runCells u S)]
def sto(u:Unt)(S:RS)(T:List (List Int)):zc:= .mp (zCa 2 u.arrays)::runO u S::(zya S.arrs++zya T)
def endV(k:Int):PV:= .iface 76 (.agg [.int .i64 k])
def nb(u:Unt):Nat:=u.arrays.length+2
def frV(u:Unt)(j n:Nat):PV:= .agg [.ptr 1 0 0,.mslice (nb u+j) 0 n 1]
section
variable (u:Unt) (S:RS) (T:List (List Int))
@[simp] theorem sto_0:(sto u S T)[0]? =some (.mp (zCa 2 u.arrays)):=rfl
@[simp] theorem sto_1:(sto u S T)[1]? =some (.arr 9 [.agg [arrs u.arrays,flows u.flows,ints S.inp,.mp 0,.int .i64 0,.int .i64 0,acc 1 (S.out.map (PV.int .i64)),.int .i64 S.cost,.int .i64 S.fuel]]):=rfl
@[simp] theorem set_fuel(k:Nat):(sto u S T).set 1 (.arr 9 [.agg [arrs u.arrays,flows u.flows,ints S.inp,.mp 0,.int .i64 0,.int .i64 0,acc 1 (S.out.map (PV.int .i64)),.int .i64 S.cost,.int .i64 k]])=sto u {S with fuel:=k} T:=rfl
@[simp] theorem set_fuel'(k:Nat):(sto u S T).set 1 (.arr 9 [.agg [arrs u.arrays,flows u.flows,.slice .plain 1 (S.inp.map (PV.int .i64)),.mp 0,.int .i64 0,.int .i64 0,acc 1 (S.out.map (PV.int .i64)),.int .i64 S.cost,.int .i64 k]])=sto u {S with fuel:=k} T:=rfl
@[simp] theorem set_cost':(sto u S T).set 1 (.arr 9 [.agg [arrs u.arrays,flows u.flows,.slice .plain 1 (S.inp.map (PV.int .i64)),.mp 0,.int .i64 0,.int .i64 0,acc 1 (S.out.map (PV.int .i64)),.int .i64 (zR .i64 (S.cost+1)),.int .i64 S.fuel]])=sto u (zE S) T:=by
 rw[zP];rfl
@[simp] theorem set_inp(l:List Int):(sto u S T).set 1 (.arr 9 [.agg [arrs u.arrays,flows u.flows,.slice .plain 1 (l.map (PV.int .i64)),.mp 0,.int .i64 0,.int .i64 0,acc 1 (S.out.map (PV.int .i64)),.int .i64 S.cost,.int .i64 S.fuel]])=sto u {S with inp:=l} T:=rfl
theorem set_out(l:List Int):(sto u S T).set 1 (.arr 9 [.agg [arrs u.arrays,flows u.flows,ints S.inp,.mp 0,.int .i64 0,.int .i64 0,acc 1 (l.map (PV.int .i64)),.int .i64 S.cost,.int .i64 S.fuel]])=sto u {S with out:=l} T:=rfl
end
@[simp] theorem rebuild_agg(a l:List PV):zB (.agg a) l= .agg l:=yd rfl rfl
@[simp] theorem rebuild_int(k:IntKind)(n:Int)(cs:List PV):zB (.int k n) cs=cs.headD .undef:=yd rfl rfl
theorem stop_spec(k:Int)(σ:zc):zi E 113 [.ptr 1 0 0,.int .i64 k] σ=some (.pan (endV k),σ):=by
 refine zb rfl rfl rfl (by simp) ?_;simp[F113,endV]
def FitS(u:Unt)(S:RS):Prop:=S.arrs.map List.length=u.arrays.map (fun a=>a.size.toNat)/\S.out.length+S.fuel<=1000000000000
theorem FitS.mono{u:Unt}{S S1:RS}(h:FitS u S)(m:Mono S S1):FitS u S1:=⟨m.arrs.trans h.1,yia m.out h.2⟩
theorem FitS.len{u:Unt}{S:RS}(h:FitS u S):S.arrs.length=u.arrays.length:=by
 have:=congrArg List.length h.1;simpa using this
theorem FitS.cost{u:Unt}{S:RS}(h:FitS u S):FitS u (zE S):=h
theorem arrFrom_find(nm:List UInt8):∀(l:List Arr) (k:Nat),zea true (.str nm) (zCa k l)=some (match l.findIdx? (fun a=>decide (a.name=nm))with
  |some i=>match l[i]? with
   |some a=>some (.mslice (k+i) 0 a.size.toNat 1)
   |none=>none
  |none=>none)
 | [],k=>rfl
 |a::r,k=>by
  have ih:=arrFrom_find nm r (k+1);rw[zCa,List.findIdx?_cons];by_cases h:a.name=nm
  ·simp[h]
  ·have h':¬nm=a.name:=fun e=>h e.symm
   simp only[zea,keyEq,if_true,h',decide_false,h];rw[ih];cases r.findIdx? (fun a=>decide (a.name=nm))with
   |none=>simp
   |some i=>
    simp only[yF,yA,yK,if_false];cases r[i]? with
    |none=>rfl
    |some b=>simp only;congr 3;omega
theorem arr_at{u:Unt}{S:RS}{nm:List UInt8}(hS:FitS u S)(h:zkb u.arrays nm=true):∃(i:Nat) (l:List Int),zpd u.arrays nm=i/\i<S.arrs.length/\S.arrs[i]? =some l/\zea true (.str nm) (zCa 2 u.arrays)=some (some (.mslice (i+2) 0 l.length 1)):=by
 rw[<-arrAt_has,decide_eq_true_eq]at h;unfold zpd idx at h;cases hq:u.arrays.findIdx? (fun a=>decide (a.name=nm))with
 |none=>rw[hq]at h;simp at h
 |some i=>
  have hlt0:i<u.arrays.length:=by
   rw[List.findIdx?_eq_some_iff_getElem]at hq;exact hq.1
  have hlt:i<S.arrs.length:=by rw[hS.len];exact hlt0
  refine⟨i,S.arrs[i],by unfold zpd idx;rw[hq],hlt,ye hlt,?_⟩;have a2:u.arrays[i]? =some u.arrays[i]:=ye hlt0;rw[arrFrom_find,hq];simp only[a2];have hl:(S.arrs[i]).length=(u.arrays[i]).size.toNat:=by
   have e:=congrArg (fun l:List Nat=>l[i]?) hS.1;simp only[yi,a2,ye hlt,yF,Option.some.injEq]at e;exact e
  rw[hl,Nat.add_comm 2 i]
section
variable {u:Unt} {S:RS} {T:List (List Int)}
theorem sto_row{i:Nat}{l:List Int}(h:S.arrs[i]? =some l):(sto u S T)[i+2]? =some (.arr 1 (l.map (PV.int .i64))):=by
 have hlt:=(yb.1 h).1;simp only[sto,yA];rw[yj (by simpa[zya]using hlt)];simp[zya,h,intO]
theorem sto_setrow{i:Nat}{l:List Int}(h:S.arrs[i]? =some l)(l':List Int):(sto u S T).set (i+2) (.arr 1 (l'.map (PV.int .i64)))=sto u {S with arrs:=S.arrs.set i l'} T:=by
 have hlt:=(yb.1 h).1;simp only[sto,yKa];rw[List.set_append_left _ _ (by simpa[zya]using hlt)];have:(zya S.arrs).set i (.arr 1 (l'.map (PV.int .i64)))=zya (S.arrs.set i l'):=by simp[zya,yT,intO]
 rw[this];rfl
theorem sto_len(hS:FitS u S):(sto u S T).length=nb u+T.length:=by
 simp[sto,zya,hS.len,nb];omega
theorem sto_get(hS:FitS u S){j:Nat}{v:List Int}(h:T[j]? =some v):(sto u S T)[nb u+j]? =some (.arr 1 (v.map (PV.int .i64))):=by
 have:nb u+j=u.arrays.length+j+2:=by unfold nb;omega
 rw[this];simp only[sto,yA];rw[yn (by simp[zya,hS.len])];simp[zya,hS.len,h,intO]
theorem sto_set(hS:FitS u S)(j:Nat)(v:List Int):(sto u S T).set (nb u+j) (.arr 1 (v.map (PV.int .i64)))=sto u S (T.set j v):=by
 have:nb u+j=u.arrays.length+j+2:=by unfold nb;omega
 rw[this];simp only[sto,yKa];rw[yN _ _ (by simp[zya,hS.len])];simp[zya,hS.len,yT,intO]
theorem sto_app{v:List Int}:sto u S T++[.arr 1 (v.map (PV.int .i64))]=sto u S (T++[v]):=by simp[sto,zya,intO]
theorem sto_take(hS:FitS u S)(j:Nat):(sto u S T).take (nb u+j)=sto u S (T.take j):=by
 have:nb u+j=u.arrays.length+j+2:=by unfold nb;omega
 rw[this];simp only[sto,List.take_succ_cons];rw[List.take_append,yea (by simp[zya,hS.len])];simp[zya,hS.len,List.map_take]
theorem arrFrom_below(n:Nat):∀(l:List Arr) (k:Nat),k+l.length<=n->belowP n (zCa k l)=true
 | [],_,_=>rfl
 |a::r,k,h=>by
  simp only[yP]at h;simp only[zCa,belowP,below_str,below_mslice,yEa,ya,decide_eq_true_eq];exact⟨by omega,arrFrom_below n r (k+1) (by omega)⟩
theorem belowL_acc(n:Nat)(l:List Int):zm n (acc 1 (l.map (PV.int .i64)))=true:=by
 cases l with
 |nil=>rfl
 |cons x r=>simp
theorem rowsO_wf(n:Nat)(l:List (List Int)):(zya l).all (fun o=>o.below n)=true:=by
 rw[ym];intro o ho;simp only[zya,ysa]at ho;obtain⟨l,_,rfl⟩:=ho;simp[intO,Obj.below]
theorem sto_wf{n:Nat}(hn:nb u<=n):zc.wf n (sto u S T)=true:=by
 unfold zc.wf;simp only[sto,List.all_cons,yxa,ya];refine⟨?_,?_,rowsO_wf n _,rowsO_wf n _⟩
 ·exact arrFrom_below n u.arrays 2 (by unfold nb at hn;omega)
 ·have h0:0<n:=by unfold nb at hn;omega
  simp[runO,runCells,Obj.below,belowL_acc,ints,h0]
theorem endV_below(n:Nat)(k:Int):zm n (endV k)=true:=by simp[endV]
end
theorem cell_spec{u:Unt}{S:RS}{T:List (List Int)}{nm:List UInt8}{i:Nat}{l:List Int}(n:Int)(hl:S.arrs[i]? =some l)(hm:zea true (.str nm) (zCa 2 u.arrays)=some (some (.mslice (i+2) 0 l.length 1))):
  zi E 141 [.ptr 1 0 0,.str nm,.int .i64 n] (sto u S T)=some (if 0<=n/\n<l.length then(.ret (.ptr (i+2) n.toNat 0),sto u S T)else(.pan (endV 3),sto u S T)):=by
 refine zb rfl rfl rfl (by simp) ?_;have h3:=stop_spec 3 (sto u S T);by_cases h0:n<0
 ·have hn:¬(0<=n/\n<l.length):=by omega
  rw[if_neg hn];replace h0:=eqp h0;simp[*,F141]
 ·by_cases h1:(l.length:Int)<=n
  ·have hn:¬(0<=n/\n<l.length):=by omega
   rw[if_neg hn];replace h0:=eqn h0;replace h1:=eqp h1;simp[*,F141]
  ·rw[if_pos (by omega)];have h4:0<=n:=by omega
   have h5:n.toNat<l.length:=by omega
   replace h0:=eqn h0;replace h1:=eqn h1;clear h3;simp[*,F141]
theorem read_spec(u:Unt)(S:RS)(T:List (List Int)):zi E 142 [.ptr 1 0 0] (sto u S T)=some (match S.inp with
  | []=>(.pan (endV 4),sto u S T)
  |n::r=>(.ret (.int .i64 n),sto u {S with inp:=r} T)):=by
 refine zb rfl rfl rfl (by simp) ?_;have h4:=stop_spec 4 (sto u S T);cases h:S.inp with
 |nil=>simp[*,F142,ints]
 |cons n r=>
  have hne:¬((r.length:Int)+1=0):=by omega
  have hs:(sto u S T).set 1 (.arr 9 [.agg [arrs u.arrays,flows u.flows,.slice .plain 1 (r.map (PV.int .i64)),.mp 0,.int .i64 0,.int .i64 0,acc 1 (S.out.map (PV.int .i64)),.int .i64 S.cost,.int .i64 S.fuel]])=sto u {S with inp:=r} T:=rfl;have ht:List.take r.length (r.map (PV.int .i64))=r.map (PV.int .i64):=by rw[yea];simp
  clear h4;simp[*,F142,ints]
theorem ptwo_spec(op a b:Int)(σ:zc):zi E 140 [.ptr 1 0 0,.int .i64 op,.int .i64 a,.int .i64 b] σ=some (if(twoC op a b).2=true then(.ret (.int .i64 (twoC op a b).1),σ)else(.pan (endV 2),σ)):=by
 refine zb rfl rfl rfl (by simp) ?_;have htwo:=two_spec op a b [];rw[two_eqC]at htwo;have hst:=stop_spec 2 σ;generalize twoC op a b=q at*;obtain⟨n,ok⟩:=q;simp only at htwo ⊢;cases ok<;>simp[*,F140]
theorem setW_snoc:∀(v d:List Int) (x:Int) (ns:List Int) (n:Int),ns.length=d.length->setW v (d++[x]) (ns++[n])=(setW v d ns).set x.toNat n
 |v,[],x,[],n,_=>by simp[setW]
 |v,o::d,x,m::ns,n,h=>by
  simp only[List.cons_append,setW];exact setW_snoc _ d x ns n (by simpa using h)
 |v,[],x,_::_,n,h=>by simp at h
 |v,_::_,x,[],n,h=>by simp at h
theorem zSb{α:Type}{l:List α}{k:Nat}{x:α}(h:l[k]? =some x):l.set k x=l:=by
 have:=yb.1 h;rw[<-this.2];exact List.set_getElem_self this.1
theorem take_snoc{α:Type}{l:List α}{k:Nat}{x:α}(h:l[k]? =some x):l.take (k+1)=l.take k++[x]:=by
 rw[List.take_add_one,h];rfl
theorem set_spec1{u:Unt}{S:RS}{T:List (List Int)}{j n:Nat}{v:List Int}(hS:FitS u S)(hj:T[j]? =some v)(hv:v.length=n){o ns:List Int}(ho:inR n o)(hl:o.length=ns.length)(hz:o.length<1099511627776):
  zi E 115 [frV u j n,ints o,ints ns] (sto u S T)=some (.ret (.tup []),sto u S (T.set j (setW v o ns))):=by
 refine zb rfl rfl rfl (by simp[frV,ints]) ?_;have hjl:=(yb.1 hj).1;simp[F115,frV,ints];refine zy o K115_0 B115_0 (fun d=>[(10,.int .i64 d.length)]) (fun d=>sto u S (T.set j (setW v d (ns.take d.length)))) (fun _=>True) (by omega) (by simp[setW,zSb hj]) ?_ ?_
 ·intros d x r s1 hl' hlt hget hget' hwr hp g1 g2 g3 g4;simp at g1 g3;obtain⟨x0,x1⟩:=ho x hl'.mem;have hn:ns[d.length]? =some ns[d.length]:=ye (by omega);generalize ns[d.length]=m at hn;have hcur:(T.set j (setW v d (ns.take d.length)))[j]? =some (setW v d (ns.take d.length)):=yg hjl;have hgt:=sto_get (u:=u) hS hcur;have hsn:setW v (d++[x]) (ns.take (d.length+1))=(setW v d (ns.take d.length)).set x.toNat m:=by
   rw[take_snoc hn,setW_snoc _ _ _ _ _ (by simp;omega)]
  have hst:=sto_set (u:=u) (S:=S) (T:=T.set j (setW v d (ns.take d.length))) hS j (setW v (d++[x]) (ns.take (d.length+1)));have hlen:=zEb v d (ns.take d.length);have hx:x.toNat<n:=by omega
  have hsl:(setW v d (ns.take d.length)).length=n:=by rw[hlen,hv]
  rw[yja]at hst;rw[hsn,yT,<-hsn]at hst;have hgo:(sto u S (T.set j (setW v d (ns.take d.length)))).set (nb u+j) (.arr 1 (((setW v d (ns.take d.length)).map (PV.int .i64)).set x.toNat (.int .i64 m)))=sto u S (T.set j (setW v (d++[x]) (ns.take (d.length+1)))):=hst;clear hst;generalize setW v d (ns.take d.length)=c at*;have hdec:decide (d.length<o.length)=true:=decide_eq_true hlt;clear hl' hget' hp hj ho hlen hsn hcur hl hlt;simp[*]
 ·intros s1 hp g1 g2 g3 g4;simp at g1 g3;have:ns.take o.length=ns:=by rw[hl];exact yFa
  rw[this]at g4;simp[*]
set_option maxHeartbeats 1000000 in
theorem numbers_spec{u:Unt}{S:RS}{T:List (List Int)}{j n:Nat}{v:List Int}(hS:FitS u S)(hj:T[j]? =some v)(hv:v.length=n){l:List Int}(ho:inR n l)(hz:l.length<1099511627776):
  zi E 114 [frV u j n,ints l] (sto u S T)=some (.ret (ints (ofW v l)),sto u S T):=by
 refine zb rfl rfl rfl (by simp[frV,ints]) ?_;have hjl:=(yb.1 hj).1;have hlen:=sto_len (T:=T) hS;have hap:=sto_app (u:=u) (S:=S) (T:=T) (v:=yf l.length 0);simp only[yLa]at hap;have l1:(0:Int)<=(l.length:Int):=by omega
 have l2:(l.length:Int)<=9223372036854775807:=by omega
 have l3:8*(l.length:Int)<=281474976710656:=by omega
 have htk:∀r,(sto u S (T++[r])).take (nb u+T.length)=sto u S T:=by
  intro r;rw[sto_take hS];simp
 have hwf:zc.wf (nb u+T.length) (sto u S T)=true:=sto_wf (by omega);have hln:∀r,(sto u S (T++[r])).length=nb u+(T.length+1):=by
  intro r;rw[sto_len hS];simp
 simp[F114,frV,ints,hlen,hap,l1,l2,l3];refine zy l K114_0 B114_0 (fun d=>[(13,.int .i64 d.length)]) (fun d=>sto u S (T++[ofW v d++yf (l.length-d.length) 0])) (fun _=>True) (by omega) (by simp[ofW]) ?_ ?_
 ·intros d x r s1 hl' hlt hget hget' hwr hp g1 g2 g3 g4;simp at g1 g3;obtain⟨x0,x1⟩:=ho x hl'.mem;have hx:=zDb (l:=v) x0 (by omega);have hxn:x.toNat<n:=by omega
  have hcur:(T++[ofW v d++yf (l.length-d.length) 0])[j]? =some v:=by rw[yj hjl];exact hj
  have hgt:=sto_get (u:=u) hS hcur;have hcur2:(T++[ofW v d++yf (l.length-d.length) 0])[T.length]? =some (ofW v d++yf (l.length-d.length) 0):=by simp
  have hgt2:=sto_get (u:=u) hS hcur2;have hrep:l.length-d.length=(l.length-(d.length+1))+1:=by omega
  have hsn:(ofW v d++yf (l.length-d.length) 0).set d.length (at0 v x)=ofW v (d++[x])++yf (l.length-(d.length+1)) 0:=by
   have e:d.length=(ofW v d).length:=by rw[zgc]
   rw[hrep,List.replicate_succ,yN _ _ (by rw[zgc];exact yk _),zgc,yHa,yoa];simp[ofW]
  have hst:=sto_set (u:=u) (S:=S) (T:=T++[ofW v d++yf (l.length-d.length) 0]) hS T.length ((ofW v d++yf (l.length-d.length) 0).set d.length (at0 v x));rw[hsn,<-hsn,yT,hsn,yN _ _ (yk _),yHa,yoa]at hst;have hsl:(ofW v d++yf (l.length-d.length) 0).length=l.length:=by rw[yL,zgc,List.length_replicate];omega
  have hdl:d.length<l.length:=hlt;obtain⟨y,hy⟩:∃y,(ofW v d++yf (l.length-d.length) 0)[d.length]? =some y:=⟨_,ye (by omega)⟩
  have hdec:decide (d.length<l.length)=true:=decide_eq_true hlt;generalize(ofW v d++yf (l.length-d.length) 0)=c at*;clear hl' hget' hp hj ho hcur hcur2 hrep hsn hlt htk hwf hln hap l1 l2 l3;simp[*,-getElem?_pos,yr]
 ·intros s1 hp g1 g2 g3 g4;simp at g1 g3;have e:ofW v l++yf (l.length-l.length) 0=ofW v l:=by simp
  rw[e]at g4;have hcur2:(T++[ofW v l])[T.length]? =some (ofW v l):=by simp
  have hgt2:=sto_get (u:=u) hS hcur2;have hol:=zgc v l;have h1:=htk (ofW v l);have h2:=hln (ofW v l);clear htk hln hcur2 hap hj ho;simp[*,fin,frA_mslice,fr1_mslice,-getElem?_pos,yea,yx]
def encW(w:Wy):PV:= .agg [.int .i64 w.kind,ints w.l]
def outX(q:Rt Wy):CRes:=match q with
 | .ok w=> .ret (encW w)
 | .stop k=> .pan (endV k)
@[simp] theorem outX_ok(w:Wy):outX (.ok w)= .ret (.agg [.int .i64 w.kind,ints w.l]):=rfl
@[simp] theorem outX_stop(n:Int):outX (.stop n)= .pan (endV n):=rfl
def capE:Nat:=1099511627776
def SpecN(u:Unt)(w:Nat):Prop:=∀m p x v S T j,FitS u S->S.fuel<=w->okN u m p x->wtN x<capE->T[j]? =some v->v.length=m→
 zi E 87 [frV u j m,zD x] (sto u S T)=some (outX (evN u w x v S).1,sto u (evN u w x v S).2.2 (T.set j (evN u w x v S).2.1))
def SpecL(u:Unt)(w:Nat):Prop:=∀m p l v S T j,FitS u S->S.fuel<=w->okL u m p l->wtL l<capE->T[j]? =some v->v.length=m→
 zi E 60 [frV u j m,zk l] (sto u S T)=some (outX (zka (evN u w) l v S).1,sto u (zka (evN u w) l v S).2.2 (T.set j (zka (evN u w) l v S).2.1))
structure LSt where
 rest:List Node
 v:List Int
 S:RS
set_option maxHeartbeats 2000000 in
theorem list_of{u:Unt}(hU:OkU u){w:Nat}(hN:SpecN u w):SpecL u w:=by
 intro m p l v S T j hS hf ho hw hj hv;have hlen:=zdd l;have hjl:=(yb.1 hj).1;have hE:=zQb hU w;have hin:∀x∈l,∀v1 S1,FitS u S1->S1.fuel<=w->okN u m p x->v1.length=m->zi E 87 [frV u j m,zD x] (sto u S1 (T.set j v1))=some (outX (evN u w x v1 S1).1,sto u (evN u w x v1 S1).2.2 (T.set j (evN u w x v1 S1).2.1)):=by
  intro x hx v1 S1 h1 h2 h3 h4;have:=hN m p x v1 S1 (T.set j v1) j h1 h2 h3 (by have:=wt_mem hx;omega) (yg hjl) h4;rw[yja]at this;exact this
 clear hN;unfold capE at hw;have hset:=zSb hj;refine zb rfl rfl rfl (by simp[frV,zk]) ?_;simp[F60,frV,zk];refine wp_while K60_0 B60_0 (fun c:LSt=>c.rest.length) (fun c=>[(10,.int .i64 ((l.length-c.rest.length:Nat):Int))]) (fun c=>[(4,.cells [.int .i64 0,.slice .fit 1 []])]) (fun c=>sto u c.S (T.set j c.v))
  (fun c=>(∃d,l=d++c.rest)/\zka (evN u w) l v S=zka (evN u w) c.rest c.v c.S/\FitS u c.S/\c.S.fuel<=w/\c.v.length=m/\okL u m p c.rest) ⟨l,v,S⟩ ?_ ?_
 ·simp[*]
 ·rintro⟨rest,v1,S1⟩ s1 ⟨⟨d,d1⟩,d2,d3,d4,d5,d6⟩ g1 g2 g3 g4 g5
  simp at d1 d2 d3 d4 d5 d6 g1 g2 g3 g4 g5;rw[d2];cases rest with
  |nil=>
   have hi:((l.length-0:Nat):Int)=l.length:=by simp
   simp only[zka];clear hin hE d1 d2 d3 d4 d5 d6 hS hf ho hw hj hv hset;simp[*,ints]
  |cons x rest=>
   have hdl:l.length-(rest.length+1)=d.length:=by rw[d1];simp
   have hdl2:l.length-rest.length=d.length+1:=by rw[d1];simp;omega
   have hx:l[d.length]? =some x:=by rw[d1];simp
   have hlt:(d.length:Int)<l.length:=by rw[d1];simp;omega
   rw[okL]at d6;have hc:=hin x (by rw[d1];simp) v1 S1 d3 d4 d6.1 d5;obtain⟨m1,m2,m3⟩:=hE m p x v1 S1 d6.1 d5;have hwr:zR .i64 ((d.length:Int)+1)=(d.length:Int)+1:=zr (by omega) (by omega);have hdd:∃d',l=d'++rest:=⟨d++[x],by rw[d1];simp⟩
   have d62:=d6.2.2;simp only[zka];simp only[zka]at d2;generalize evN u w x v1 S1=q at*;obtain⟨y,v2,S2⟩:=q;simp only at m1 m2 m3 d2;have f1:=d3.mono m1;have f2:S2.fuel<=w:=yia m1.fuel d4;simp[frV,za]at hc;clear hin hE d1 d3 d4 d5 d6 hS hf ho hw hj hv hset m1 m3;cases y with
   |stop k=>
    simp at hc;clear d2;simp[*,za]
   |ok y=>
    simp at hc;by_cases hk:y.kind=0
    ·simp only[hk,if_true]at d2 ⊢;rw[hk]at hc;simp[*,za];refine⟨⟨rest,v2,S2⟩,?_⟩;simp[*]
    ·simp only[hk,if_false]at d2 ⊢;replace hk:=eqn hk;clear d2;simp[*,za]
def outE(q:Rt Int):CRes:=match q with
 | .ok n=> .ret (.int .i64 n)
 | .stop k=> .pan (endV k)
@[simp] theorem outE_ok(n:Int):outE (.ok n)= .ret (.int .i64 n):=rfl
@[simp] theorem outE_stop(n:Int):outE (.stop n)= .pan (endV n):=rfl
set_option maxHeartbeats 2000000 in
theorem call_of{u:Unt}(hU:OkU u){w:Nat}(hL:SpecL u w){f:Flow}{nm:List UInt8}(hf:flowAt u nm=some f)(hp:0<=zQ u.flows nm){l:List Int}{S:RS}{T:List (List Int)}(hS:FitS u S)(hw:S.fuel<=w)(hl:l.length<=f.types.length):
  zi E 41 [.ptr 1 0 0,.str nm,ints l] (sto u S T)=some (outE (zqc (evN u w) f l S).1,sto u (zqc (evN u w) f l S).2 T):=by
 have hfm:f∈u.flows:=yB hf;have hpl:=place_spec u nm [] hU.sz.flows;have hty:=hU.sz.types f hfm;have hb:=hU.body f hfm;have hlen:=sto_len (T:=T) hS;have hap:=sto_app (u:=u) (S:=S) (T:=T) (v:=yf f.types.length 0);simp only[yLa]at hap;have l1:(0:Int)<=(f.types.length:Int):=by omega
 have l2:(f.types.length:Int)<=9223372036854775807:=by omega
 have l3:8*(f.types.length:Int)<=281474976710656:=by omega
 have hcur:(T++[yf f.types.length 0])[T.length]? =some (yf f.types.length 0):=by simp
 have hgt:=sto_get (u:=u) hS hcur;have hgl:(l++yf (f.types.length-l.length) 0).length=f.types.length:=by simp;omega
 have hst:=sto_set (u:=u) (S:=S) (T:=T++[yf f.types.length 0]) hS T.length (l++yf (f.types.length-l.length) 0);rw[yN _ _ (yk _),yHa,yoa]at hst;have hc:=hL f.types.length ⟨none,none,none⟩ f.body (l++yf (f.types.length-l.length) 0) S (T++[l++yf (f.types.length-l.length) 0]) T.length hS hw hb.2 (hU.sz.body f hfm) (by simp) hgl;rw[yN _ _ (yk _),yHa,yoa]at hc;obtain⟨m1,m2,m3⟩:=zFb (zQb hU w) f.body (l++yf (f.types.length-l.length) 0) S hb.1 hb.2 hgl;unfold zqc;generalize zka (evN u w) f.body (l++yf (f.types.length-l.length) 0) S=q at*;obtain⟨y,v1,S1⟩:=q;simp only at m1 m2 m3 hc ⊢;have hS1:=hS.mono m1;have htk:(sto u S1 (T++[v1])).take (nb u+T.length)=sto u S1 T:=by
  rw[sto_take hS1];simp
 have hwf:zc.wf (nb u+T.length) (sto u S1 T)=true:=sto_wf (by omega);have hln:(sto u S1 (T++[v1])).length=nb u+(T.length+1):=by
  rw[sto_len hS1];simp
 have hfl:u.flows[(zQ u.flows nm).toNat]? =some f:=hf;refine zb rfl rfl rfl (by simp[ints]) ?_;simp[encUnt,arrs,flows]at hpl;simp[frV,zk]at hc;rw[List.map_append,yLa]at hst;clear hU hL hb hty hS hw m1 hcur hgl hf hfm hS1;cases y with
 |stop k=>
  simp at hc;clear m3;simp[*,F41,encUnt,ze,arrs,flows,ints,zk,-getElem?_pos,yr,finPan,endV_below]
 |ok y=>
  obtain⟨_,m4,_⟩:=m3 y rfl;have hy:∃x,y.l=[x]:=by
   rcases m4 with m4|m4|m4|m4
   ·cases m4.2
   ·cases m4.2
   ·cases m4.2
   ·exact List.length_eq_one_iff.1 m4.2
  obtain⟨x,hy⟩:=hy;clear m3 m4;simp at hc;rw[hy]at hc;simp[*,F41,encUnt,ze,arrs,flows,ints,zk,-getElem?_pos,yr,fin,atA]
theorem len1{l:List Int}(h:l.length=1):∃a,l=[a]:=List.length_eq_one_iff.1 h
theorem len2{l:List Int}(h:l.length=2):∃a b,l=[a,b]:=by
 match l,h with
 | [a,b],_=>exact⟨a,b,rfl⟩
def outP(u:Unt)(T:List (List Int))(j:Nat)(v outs:List Int):Rt (List Int)×RS->CRes×zc
 |(.ok n,S)=>(.ret (.tup []),sto u S (T.set j (setW v outs n)))
 |(.stop k,S)=>(.pan (endV k),sto u S T)
set_option maxHeartbeats 4000000 in
theorem plain_of{u:Unt}(hU:OkU u){w:Nat}(hL:SpecL u w){m:Nat}{p:Pl}{x:Node}(ho:okH u m p x)(hk:3<=x.kind/\x.kind<=9){v:List Int}{S:RS}{T:List (List Int)}{j:Nat}(hS:FitS u S)(hwt:wtN x<capE)
  (hj:T[j]? =some v) (hv:v.length=m) (hw:S.fuel<=w) (hfu:S.out.length+S.fuel<1000000000000) {l:List Int} (hl:l.length=x.args.length):
  zi E 118 [frV u j m,zD x,ints l] (sto u S T)=some (outP u T j v x.outs (plainW u (evN u w) x l (zE S))):=by
 have hws:=zEa x;have hjl:=(yb.1 hj).1;have hself:=zSb hj;unfold capE at hwt;have hset:∀S1,FitS u S1->∀n,x.outs=[n]->inR m [n]->∀z,zi E 115 [frV u j m,ints [n],ints [z]] (sto u S1 T)=some (.ret (.tup []),sto u S1 (T.set j (setW v [n] [z]))):=by
  intro S1 h1 n hn hr z;exact set_spec1 h1 hj hv hr rfl (by simp)
 obtain⟨args,outs,prs,k12,k3,k4,k5,k6,k7,k8,k9,-,-,-,-,-,-,-⟩:=ho;refine zb rfl rfl rfl (by simp[frV,za,ints]) ?_;unfold plainW;by_cases e3:x.kind=3
 ·rw[if_pos e3];obtain⟨a1,a2⟩:=k3 e3;obtain⟨o,hou⟩:=len1 a2;obtain⟨a,ha⟩:=len1 (hl.trans a1);have h1:=hset (zE S) hS.cost o hou (by rw[<-hou];exact outs) (oneC x.op a);have hone:=one_spec x.op a [];rw[one_eqC]at hone;subst ha;simp[frV,ints]at h1;replace e3:=eqp e3;clear hset args outs prs k12 k3 k4 k5 k6 k7 k8 k9 hk hl hL hU;simp[*,F118,frV,za,ints,outP,atA]
 rw[if_neg e3];by_cases e4:x.kind=4
 ·rw[if_pos e4];obtain⟨a1,a2⟩:=k4 e4;obtain⟨o,hou⟩:=len1 a2;obtain⟨a,b,ha⟩:=len2 (hl.trans a1);subst ha;have htwo:=ptwo_spec x.op a b (sto u (zE S) T);have e0:atA [a,b] 0=a:=rfl;have e1:atA [a,b] 1=b:=rfl;rw[e0,e1];by_cases hz:(twoC x.op a b).2=true
  ·rw[if_pos hz]at htwo ⊢;have h1:=hset (zE S) hS.cost o hou (by rw[<-hou];exact outs) (twoC x.op a b).1;simp[frV,ints]at h1;replace e3:=eqn e3;replace e4:=eqp e4;clear hset args outs prs k12 k3 k4 k5 k6 k7 k8 k9 hk hl hL hU hz;simp[*,F118,frV,za,ints,outP]
  ·rw[if_neg hz]at htwo ⊢;replace e3:=eqn e3;replace e4:=eqp e4;clear hset args outs prs k12 k3 k4 k5 k6 k7 k8 k9 hk hl hL hU hz;simp[*,F118,frV,za,ints,outP]
 rw[if_neg e4];by_cases e5:x.kind=5
 ·rw[if_pos e5];obtain⟨a0,a1,a2⟩:=k5 e5;obtain⟨o,hou⟩:=len1 a2;obtain⟨a,ha⟩:=len1 (hl.trans a1);subst ha;have e0:atA [a] 0=a:=rfl;rw[e0];obtain⟨i,row,b1,b2,b3,b4⟩:=arr_at hS.cost a0;have hc:=cell_spec (T:=T) a b3 b4;have hr:=sto_row (T:=T) (u:=u) b3;unfold cellAt;rw[b1];simp only[yNa,b3,Option.bind_some];replace e3:=eqn e3;replace e4:=eqn e4;by_cases hx:0<=a/\a<row.length
  ·rw[if_pos hx]at hc;have hn:¬a<0:=by omega
   have hlt:a.toNat<row.length:=by omega
   rw[if_neg hn];obtain⟨y,hy⟩:∃y,row[a.toNat]? =some y:=⟨_,ye hlt⟩
   rw[hy];have h1:=hset (zE S) hS.cost o hou (by rw[<-hou];exact outs) y;simp[frV,ints]at h1;replace e5:=eqp e5;clear hset args outs prs k12 k3 k4 k5 k6 k7 k8 k9 hk hl hL hU hx hn hlt b1 b2 b3 b4 a0 a1 a2;simp[*,F118,frV,za,ints,outP]
  ·rw[if_neg hx]at hc;have hnone:(if a<0 then none else row[a.toNat]?)=none:=by
    split
    ·rfl
    ·rw[yY];omega
   rw[hnone];replace e5:=eqp e5;clear hset args outs prs k12 k3 k4 k5 k6 k7 k8 k9 hk hl hL hU hx hnone b1 b2 b3 b4 a0 a1 a2;simp[*,F118,frV,za,ints,outP]
 rw[if_neg e5];by_cases e6:x.kind=6
 ·rw[if_pos e6];obtain⟨a0,a1,a2⟩:=k6 e6;have hou:x.outs=[]:=yC a2;obtain⟨a,b,ha⟩:=len2 (hl.trans a1);subst ha;have e0:atA [a,b] 0=a:=rfl;have e1:atA [a,b] 1=b:=rfl;rw[e0,e1];obtain⟨i,row,b1,b2,b3,b4⟩:=arr_at hS.cost a0;have hc:=cell_spec (T:=T) a b3 b4;have hr:=sto_row (T:=T) (u:=u) b3;unfold putAt;rw[b1];simp only[yNa,b3,Option.bind_some];replace e3:=eqn e3;replace e4:=eqn e4;replace e5:=eqn e5;by_cases hx:0<=a/\a<row.length
  ·rw[if_pos hx]at hc;have hn:¬a<0:=by omega
   have hlt:a.toNat<row.length:=by omega
   rw[if_neg hn,if_pos hlt];obtain⟨y,hy⟩:∃y,row[a.toNat]? =some y:=⟨_,ye hlt⟩
   have hput:=sto_setrow (T:=T) (u:=u) b3 (row.set a.toNat b);rw[yT]at hput;replace e6:=eqp e6;clear hset args outs prs k12 k3 k4 k5 k6 k7 k8 k9 hk hl hL hU hx hn hlt b1 b2 b3 b4 a0 a1 a2;simp[*,F118,frV,za,ints,outP,setW]
  ·rw[if_neg hx]at hc;have hnone:(if a<0 then none else if a.toNat<row.length then some {zE S with arrs:=(zE S).arrs.set i (row.set a.toNat b)}else none:Option RS)=none:=by
    split
    ·rfl
    ·rw[if_neg (by omega)]
   rw[hnone];replace e6:=eqp e6;clear hset args outs prs k12 k3 k4 k5 k6 k7 k8 k9 hk hl hL hU hx hnone b1 b2 b3 b4 a0 a1 a2;simp[*,F118,frV,za,ints,outP]
 rw[if_neg e6];by_cases e7:x.kind=7
 ·rw[if_pos e7];obtain⟨g,a0,a1,a2,a3⟩:=k7 e7;obtain⟨o,hou⟩:=len1 a3;rw[a0];simp only;have hgm:g∈u.flows:=yB a0;have hlg:l.length<=g.types.length:=by rw[hl,a2];simp[pars];omega
  have hcall:=call_of hU hL a0 a1 (l:=l) (T:=T) hS.cost hw hlg;have hcm:=(callW_ok (zQb hU w) (hU.body g hgm) hlg (zE S)).1;generalize zqc (evN u w) g l (zE S)=q at*;obtain⟨y,S1⟩:=q;simp only at hcall hcm;have hS1:=hS.cost.mono hcm;replace e3:=eqn e3;replace e4:=eqn e4;replace e5:=eqn e5;replace e6:=eqn e6;replace e7:=eqp e7;cases y with
  |stop k=>
   simp[ints]at hcall;clear hset args outs prs k12 k3 k4 k5 k6 k7 k8 k9 hk hl hL hU a0 a1 a2 a3;simp[*,F118,frV,za,ints,outP]
  |ok y=>
   have h1:=hset S1 hS1 o hou (by rw[<-hou];exact outs) y;simp[frV,ints]at h1;simp[ints]at hcall;clear hset args outs prs k12 k3 k4 k5 k6 k7 k8 k9 hk hl hL hU a0 a1 a2 a3;simp[*,F118,frV,za,ints,outP]
 rw[if_neg e7];replace e3:=eqn e3;replace e4:=eqn e4;replace e5:=eqn e5;replace e6:=eqn e6;replace e7:=eqn e7;by_cases e8:x.kind=8
 ·rw[if_pos e8];obtain⟨o,hou⟩:=len1 (k8 e8);have hr:=read_spec u (zE S) T;replace e8:=eqp e8;cases hi:(zE S).inp with
  |nil=>
   rw[hi]at hr;clear hset args outs prs k12 k3 k4 k5 k6 k7 k8 k9 hk hl hL hU;simp[*,F118,frV,za,ints,outP]
  |cons n r=>
   rw[hi]at hr;have h1:=hset {zE S with inp:=r} hS.cost o hou (by rw[<-hou];exact outs) n;simp[frV,ints]at h1;clear hset args outs prs k12 k3 k4 k5 k6 k7 k8 k9 hk hl hL hU;simp[*,F118,frV,za,ints,outP]
 rw[if_neg e8];replace e8:=eqn e8;by_cases e9:x.kind=9
 ·rw[if_pos e9];obtain⟨a1,a2⟩:=k9 e9;have hou:x.outs=[]:=yC a2;obtain⟨a,ha⟩:=len1 (hl.trans a1);subst ha;have e0:atA [a] 0=a:=rfl;rw[e0];have hso:=set_out (u:=u) (S:=zE S) (T:=T) (S.out++[a]);have hroom:(S.out.length+1)*8<=zJ:=by have:=hS.2;simp only[zJ];omega
  have hr4:∀X,((sto u (zE S) T).set 1 X)[1]? =some X:=by
   intro X;rw[yg (by rw[sto_len hS.cost];unfold nb;omega)]
  have hao:acc 1 ((S.out++[a]).map (PV.int .i64))= .slice .own 1 (S.out.map (PV.int .i64)++[.int .i64 a]):=by
   rw[acc_ne (by simp)];simp
  have hio:isOwn (acc 1 (S.out.map (PV.int .i64)++[.int .i64 a]))=some (1,S.out.map (PV.int .i64)++[.int .i64 a]):=by
   rw[acc_ne (by simp)];rfl
  rw[hao]at hso;simp only[ints]at hso;have hco:(zE S).out=S.out:=rfl;replace e9:=eqp e9;clear hset args outs prs k12 k3 k4 k5 k6 k7 k8 k9 hk hl hL hU hao;simp[*,F118,frV,za,ints,outP,setW]
 exact absurd hk (by simp only[eq_iff_iff,iff_false]at e3 e4 e5 e6 e7 e8;omega)
set_option maxHeartbeats 4000000 in
theorem choice_of{u:Unt}(hU:OkU u){w:Nat}(hL:SpecL u w){m:Nat}{p:Pl}{x:Node}(ho:okN u m p x)(hk:x.kind=10){v:List Int}{S:RS}{T:List (List Int)}{j:Nat}(hS:FitS u S)(hwt:wtN x<capE)
  (hj:T[j]? =some v) (hv:v.length=m) (hw:S.fuel<=w) (c:Int):
  zi E 116 [frV u j m,zD x,.int .i64 c] (sto u S T)=some (outX (znc (evN u w) x c v S).1,sto u (znc (evN u w) x c v S).2.2 (T.set j (znc (evN u w) x c v S).2.1)):=by
 have hws:=zEa x;have hjl:=(yb.1 hj).1;rw[okN_eq]at ho;obtain⟨o1,o2⟩:=ho;have hkid:=kids_two (o1.k10 hk).2;have hp:plIn p x.kind x.outs x.params={p with y:=some x.outs.length}:=by rw[hk];rfl
 rw[hp]at o2;have hmem:(if c=0 then kid1 x else kid0 x)∈x.kids:=by rw[hkid];split<;>simp
 obtain⟨h1,h2⟩:=okK_mem o2 _ hmem;have hwk:=wt_kid hmem;unfold capE at hwt;have hc:=hL m _ _ v S T j hS hw h2 (by unfold capE;omega) hj hv;have hr:=zFb (zQb hU w) _ v S h1 h2 hv;unfold znc;refine zb rfl rfl rfl (by simp[frV,za]) ?_;have hcc:(c=0)=True\/(c=0)=False:=by by_cases h:c=0<;>simp[h]
 have hif:∀(a b:List Node),(c=0)=True/\(if c=0 then a else b)=a\/(c=0)=False/\(if c=0 then a else b)=b:=by
  intro a b;rcases hcc with h|h<;>simp[h]
 have hif:=hif (kid1 x) (kid0 x);generalize(if c=0 then kid1 x else kid0 x)=l at*;generalize zka (evN u w) l v S=q at*;obtain⟨y,v1,S1⟩:=q;obtain⟨r1,r2,r3⟩:=hr;simp only at r1 r2 r3 hc ⊢;have hS1:=hS.mono r1;have ou:=o1.outs;have hol:x.outs.length<1099511627776:=by omega
 clear hcc hmem h1 h2 hws hwk hL hU o1 o2 hp;cases y with
 |stop k=>
  simp[frV,zk]at hc;rcases hif with⟨hc0,hl⟩|⟨hc0,hl⟩<;>subst hl<;>clear r3<;>simp[*,F116,frV,za,kids,zk]
 |ok y=>
  simp[frV,zk]at hc;simp only;by_cases hy:y.kind=12
  ·rw[if_pos hy];obtain⟨_,r4,_⟩:=r3 y rfl;have hyl:x.outs.length=y.l.length:=by
    rcases r4 with r4|r4|r4|r4
    ·have:=r4.2;simp at this;exact this
    ·omega
    ·omega
    ·omega
   have hset:=set_spec1 (j:=j) (T:=T.set j v1) hS1 (yg hjl) r2 ou hyl hol;rw[yja]at hset;simp[frV,ints]at hset;replace hy:=eqp hy;clear r3 r4 hyl hwt;rcases hif with⟨hc0,hl⟩|⟨hc0,hl⟩<;>subst hl<;>simp[*,F116,frV,za,kids,zk,ints]
  ·rw[if_neg hy];replace hy:=eqn hy;clear r3 hwt;rcases hif with⟨hc0,hl⟩|⟨hc0,hl⟩<;>subst hl<;>simp[*,F116,frV,za,kids,zk,ints]
structure RSt where
 k:Nat
 l:List Int
 v:List Int
 S:RS
set_option maxHeartbeats 4000000 in
theorem loop_of{u:Unt}(hU:OkU u){w:Nat}(hL:SpecL u w){m:Nat}{p:Pl}{x:Node}(ho:okN u m p x)(hk:x.kind=11){v:List Int}{S:RS}{T:List (List Int)}{j:Nat}(hS:FitS u S)(hwt:wtN x<capE)
  (hj:T[j]? =some v) (hv:v.length=m) (hw:S.fuel<=w) {l:List Int} (hl:l.length=x.params.length):
  zi E 117 [frV u j m,zD x,ints l] (sto u S T)=some (outX (zwb (evN u w) x (w+1) l v S).1,sto u (zwb (evN u w) x (w+1) l v S).2.2 (T.set j (zwb (evN u w) x (w+1) l v S).2.1)):=by
 have hws:=zEa x;have hjl:=(yb.1 hj).1;rw[okN_eq]at ho;obtain⟨o1,o2⟩:=ho;have hkid:=kids_one (o1.k11 hk).2;have hp:plIn p x.kind x.outs x.params=⟨none,some x.params.length,some x.outs.length⟩:=by rw[hk];rfl
 rw[hp]at o2;have hmem:kid0 x∈x.kids:=by rw[hkid];simp
 obtain⟨h1,h2⟩:=okK_mem o2 _ hmem;have hwk:=wt_kid hmem;unfold capE at hwt;have ou:=o1.outs;have op:=o1.prs;have hset1:∀l1 v1 S1,FitS u S1->v1.length=m->l1.length=x.params.length->zi E 115 [frV u j m,ints x.params,ints l1] (sto u S1 (T.set j v1))=some (.ret (.tup []),sto u S1 (T.set j (setW v1 x.params l1))):=by
  intro l1 v1 S1 q1 q2 q3;have:=set_spec1 (j:=j) (T:=T.set j v1) q1 (yg hjl) q2 op q3.symm (by omega);rwa[yja]at this
 have hset2:∀l1 v1 S1,FitS u S1->v1.length=m->l1.length=x.outs.length->zi E 115 [frV u j m,ints x.outs,ints l1] (sto u S1 (T.set j v1))=some (.ret (.tup []),sto u S1 (T.set j (setW v1 x.outs l1))):=by
  intro l1 v1 S1 q1 q2 q3;have:=set_spec1 (j:=j) (T:=T.set j v1) q1 (yg hjl) q2 ou q3.symm (by omega);rwa[yja]at this
 have hlist:∀v1 S1,FitS u S1->S1.fuel<=w->v1.length=m->zi E 60 [frV u j m,zk (kid0 x)] (sto u S1 (T.set j v1))=some (outX (zka (evN u w) (kid0 x) v1 S1).1,sto u (zka (evN u w) (kid0 x) v1 S1).2.2 (T.set j (zka (evN u w) (kid0 x) v1 S1).2.1)):=by
  intro v1 S1 q1 q2 q3;have:=hL m _ _ v1 S1 (T.set j v1) j q1 q2 h2 (by unfold capE;omega) (yg hjl) q3;rwa[yja]at this
 have hrun:∀v1 S1,v1.length=m->ListRun m ⟨none,some x.params.length,some x.outs.length⟩ (kid0 x) S1 (zka (evN u w) (kid0 x) v1 S1):=fun v1 S1 q=>zFb (zQb hU w) _ v1 S1 h1 h2 q
 have hself:=zSb hj;refine zb rfl rfl rfl (by simp[frV,za,ints]) ?_;clear hL hU o1 o2 hp hmem h1 h2 hwk hws ou op hj;simp[F117,frV,za,ints];refine wp_while K117_0 B117_0 (fun c:RSt=>c.S.fuel) (fun c=>[(2,ints c.l)]) (fun c=>[(6,.cells [.int .i64 0,.slice .fit 1 []])]) (fun c=>sto u c.S (T.set j c.v))
  (fun c=>zwb (evN u w) x (w+1) l v S=zwb (evN u w) x c.k c.l c.v c.S/\FitS u c.S/\c.S.fuel<=w/\c.S.fuel<c.k/\c.v.length=m/\c.l.length=x.params.length) ⟨w+1,l,v,S⟩ ?_ ?_
 ·simp[*,ints];omega
 ·rintro⟨k,l1,v1,S1⟩ s1 ⟨d2,d3,d4,d5,d6,d7⟩ g1 g2 g3 g4 g5
  simp at d2 d3 d4 d5 d6 d7 g1 g2 g3 g4 g5;rw[d2];cases k with
  |zero=>omega
  |succ k=>
   have hs1:=hset1 l1 v1 S1 d3 d6 d7;have hvl:(setW v1 x.params l1).length=m:=by rw[zEb];exact d6
   have hc:=hlist (setW v1 x.params l1) S1 d3 d4 hvl;obtain⟨r1,r2,r3⟩:=hrun (setW v1 x.params l1) S1 hvl;simp only[zwb];simp only[zwb]at d2;generalize zka (evN u w) (kid0 x) (setW v1 x.params l1) S1=q at*;obtain⟨y,v2,S2⟩:=q;simp only at r1 r2 r3 hc d2;have hS2:=d3.mono r1;have hset2:=fun z hz=>hset2 z v2 S2 hS2 r2 hz
   clear hlist hrun hset1;simp[frV,ints]at hs1;cases y with
   |stop q=>
    simp[frV,zk]at hc;clear d2 hset2 r3 d7;simp[*,za,kids,zk,ints]
   |ok y=>
    obtain⟨r4,r5,_⟩:=r3 y rfl;clear r3;simp[frV,zk]at hc;simp only at d2 ⊢;by_cases h15:y.kind=15
    ·rw[if_pos h15];rw[h15]at hc;clear d2 hset2 d7 r5;simp[*,za,kids,zk,ints]
    ·by_cases h14:y.kind=14
     ·rw[if_neg h15,if_pos h14];have hyl:y.l.length=x.outs.length:=by
       rcases r5 with r5|r5|r5|r5
       ·omega
       ·omega
       ·have:=r5.2;simp at this;exact this.symm
       ·omega
      have hs2:=hset2 y.l hyl;simp[frV,ints]at hs2;rw[h14]at hc;clear d2 hset2 r5 d7 hyl;simp[*,za,kids,zk,ints]
     ·rw[if_neg h15,if_neg h14];rw[if_neg h15,if_neg h14]at d2;have hyl:y.l.length=x.params.length:=by
       rcases r5 with r5|r5|r5|r5
       ·cases r5.2
       ·have:=r5.2;simp at this;exact this.symm
       ·omega
       ·omega
      have h13:y.kind=13:=by
       rcases r5 with r5|r5|r5|r5
       ·cases r5.2
       ·exact r5.1
       ·omega
       ·omega
      rw[h13]at hc;have hfu:S2.fuel<S1.fuel:=r4;have hm:FitS u S2/\S2.fuel<=w/\S2.fuel<k:=⟨hS2,by omega,by omega⟩
      clear hset2 r5 d7 h15 h14 h13;simp[*,za,kids,zk,ints];refine⟨⟨k,y.l,v2,S2⟩,?_⟩;simp[*,ints]
set_option maxHeartbeats 4000000 in
theorem node_of{u:Unt}(hU:OkU u){w:Nat}(hL:SpecL u w):SpecN u (w+1):=by
 intro m p x v S T j hS hf ho hwt hj hv;have ho':=ho;rw[okN_eq]at ho';obtain⟨o1,o2⟩:=ho';have hjl:=(yb.1 hj).1;have hself:=zSb hj;have hws:=zEa x;have hwt':=hwt;unfold capE at hwt;refine zb rfl rfl rfl (by simp[frV,za]) ?_;simp only[evN];have hst:=stop_spec 0 (sto u S T);cases hfu:S.fuel with
 |zero=>
  have hz:((0:Nat):Int)=0:=rfl;clear o1 o2 ho hws;simp[*,F87,frV,za]
 |succ k=>
  dsimp only;have hS0:FitS u {S with fuel:=k}:=⟨hS.1,by have:=hS.2;simp only;omega⟩
  have hf0:({S with fuel:=k}:RS).fuel<=w:=by simp only;omega
  have hlt0:({S with fuel:=k}:RS).out.length+({S with fuel:=k}:RS).fuel<1000000000000:=by have:=hS.2;simp only;omega
  have hsf:(sto u S T).set 1 (.arr 9 [.agg [arrs u.arrays,flows u.flows,ints S.inp,.mp 0,.int .i64 0,.int .i64 0,acc 1 (S.out.map (PV.int .i64)),.int .i64 S.cost,.int .i64 k]])=sto u {S with fuel:=k} T:=rfl;have hnum:=numbers_spec (u:=u) hS0 hj hv o1.args (by omega);have hol:=zgc v x.args;have hws':zR .i64 (((k+1:Nat):Int)-1)=(k:Int):=by rw[zr]<;>(have:=hS.2;omega)
  have hne:(((k+1:Nat):Int)=0)=False:=eqn (by omega);have hpl:=fun(h:3<=x.kind/\x.kind<=9)=>plain_of hU hL o1 h hS0 hwt' hj hv hf0 hlt0 hol
  have hch:=fun(h:x.kind=10)=>choice_of hU hL ho h hS0 hwt' hj hv hf0 (atA (ofW v x.args) 0)
  have hlo:=fun(h:x.kind=11)=>loop_of hU hL ho h hS0 hwt' hj hv hf0 (l:=ofW v x.args) (by rw[hol];exact(o1.k11 h).1)
  have hs1:∀z,(x.kind=1\/x.kind=2)->zi E 115 [frV u j m,ints x.outs,ints [z]] (sto u {S with fuel:=k} T)=some (.ret (.tup []),sto u {S with fuel:=k} (T.set j (setW v x.outs [z]))):=
   fun z h=>set_spec1 hS0 hj hv o1.outs (by rw[o1.k12 h];rfl) (by omega)
  have hk10:x.kind=10->∃a,ofW v x.args=[a]:=fun h=>len1 (by rw[hol];exact(o1.k10 h).1)
  have hkk:=o1.k;simp[frV,ints]at hnum;generalize hSS:({S with fuel:=k}:RS)=S0 at*;generalize hoo:ofW v x.args=l at*;generalize hc:((k+1:Nat):Int)=c at*;clear hf hS o2 o1 ho hst hsf;unfold nodeW;rw[hoo];by_cases k1:x.kind=1
  ·rw[if_pos (.inl k1)];have hs1:=hs1 x.n (.inl k1);replace k1:=eqp k1;simp[frV,ints]at hs1;clear hpl hch hlo hk10 hkk;simp[*,F87,frV,za,ints]
  by_cases k2:x.kind=2
  ·rw[if_pos (.inr k2)];have hs1:=hs1 x.n (.inr k2);replace k1:=eqn k1;replace k2:=eqp k2;simp[frV,ints]at hs1;clear hpl hch hlo hk10 hkk;simp[*,F87,frV,za,ints]
  rw[if_neg (by omega)];clear hs1;by_cases kE:12<=x.kind/\x.kind<=15
  ·rw[if_pos kE];replace k1:=eqn k1;replace k2:=eqn k2;have h4:x.kind=12\/x.kind=13\/x.kind=14\/x.kind=15:=by omega
   clear hpl hch hlo hk10 hkk kE;rcases h4 with h4|h4|h4|h4<;>simp[*,F87,frV,za,ints]
  rw[if_neg kE];have e12:(x.kind=12)=False:=eqn (by omega);have e13:(x.kind=13)=False:=eqn (by omega);have e14:(x.kind=14)=False:=eqn (by omega);have e15:(x.kind=15)=False:=eqn (by omega);by_cases k10:x.kind=10
  ·rw[if_pos k10];have hch:=hch k10;obtain⟨a,ha⟩:=hk10 k10;subst ha;have e0:atA [a] 0=a:=rfl;rw[e0]at hch ⊢;generalize znc (evN u w) x a v S0=q at*;obtain⟨y,v1,S1⟩:=q;simp[frV,za,ints]at hch;replace k1:=eqn k1;replace k2:=eqn k2;replace k10:=eqp k10;clear hpl hlo hk10 hkk kE;cases y<;>simp[ints]at hch<;>simp[*,F87,frV,za,ints]
  rw[if_neg k10];by_cases k11:x.kind=11
  ·rw[if_pos k11];have hlo:=hlo k11;generalize zwb (evN u w) x (w+1) l v S0=q at*;obtain⟨y,v1,S1⟩:=q;simp[frV,za,ints]at hlo;replace k1:=eqn k1;replace k2:=eqn k2;replace k10:=eqn k10;replace k11:=eqp k11;clear hpl hch hk10 hkk kE;cases y<;>simp[ints]at hlo<;>simp[*,F87,frV,za,ints]
  rw[if_neg k11];have hpl:=hpl (by omega);generalize plainW u (evN u w) x l (zE S0)=q at*;obtain⟨y,S1⟩:=q;replace k1:=eqn k1;replace k2:=eqn k2;replace k10:=eqn k10;replace k11:=eqn k11;clear hch hlo hk10 hkk kE;cases y<;>simp[frV,za,outP,ints]at hpl<;>simp[*,F87,frV,za,ints]
theorem node0(u:Unt):SpecN u 0:=by
 intro m p x v S T j hS hf ho hwt hj hv;have hself:=zSb hj;have h0:S.fuel=0:=by omega
 have hst:=stop_spec 0 (sto u S T);refine zb rfl rfl rfl (by simp[frV,za]) ?_;simp only[evN];clear ho;simp[*,F87,frV,za]
theorem specs{u:Unt}(hU:OkU u):∀w,SpecN u w
 |0=>node0 u
 |w+1=>node_of hU (list_of hU (specs hU w))
end PE.U

namespace PE
open Go
def hendQ(H:HFn)(n:Nat)(fr:Fr)(R:CRes->zc->Prop):Ex->St->Prop
 | .normal,s=>PC (zzb H n fr s.st) R
 | .ret,s=>PC (zzb H n fr s.st) R
 |_,_=>False
def hrestQ(K:PV×zc->Prop):Ex->St->Prop
 | .normal,s=>K (.nilif,s.st)
 | .ret,s=>K (.nilif,s.st)
 | .pan (.iface t v),s=>K (.iface t v,s.st)
 |_,_=>False
noncomputable def hpreQ(E:Env)(H:HFn)(n:Nat)(R:CRes->zc->Prop):Ex->St->Prop
 | .normal,s1=>(zj s1.fr H.caps).all zo=true/\zS (exec (zi E) H.rest {s1 with fr:=upd s1.fr H.d (.fn H.k [] (zj s1.fr H.caps))}) (hrestQ fun q=>zS (exec (zi E) H.code (handSt H (zj s1.fr H.caps) q)) (hendQ H n s1.fr R))
 | .ret,s1=>PC (zzb H n s1.fr s1.st) R
 |_,_=>False
section
variable (n:Nat) (R:CRes->zc->Prop) (s:St) (K:PV×zc->Prop) (E:Env) (H:HFn) (fr:Fr)
@[simp] theorem hendQ_normal:hendQ H n fr R .normal s=PC (zzb H n fr s.st) R:=yd rfl rfl
@[simp] theorem hrestQ_normal:hrestQ K .normal s=K (.nilif,s.st):=yd rfl rfl
@[simp] theorem hrestQ_pan(t:Nat)(v:PV):hrestQ K (.pan (.iface t v)) s=K (.iface t v,s.st):=yd rfl rfl
@[simp] theorem hpreQ_normal:hpreQ E H n R .normal s=((zj s.fr H.caps).all zo=true/\zS (exec (zi E) H.rest {s with fr:=upd s.fr H.d (.fn H.k [] (zj s.fr H.caps))}) (hrestQ fun q=>zS (exec (zi E) H.code (handSt H (zj s.fr H.caps) q)) (hendQ H n s.fr R))):=yd rfl rfl
@[simp] theorem hpreQ_ret:hpreQ E H n R .ret s=PC (zzb H n s.fr s.st) R:=yd rfl rfl
@[simp] theorem handSt_eq(cv:List PV)(q:PV×zc):handSt H cv q={fr:=upd (upd (frOf cv 0) H.r1 q.1) H.r2 q.1,bx:=fun _=> .no,st:=q.2}:=yd rfl rfl
end
theorem hand_wp{E:Env}{f:Nat}{H:HFn}{args:List PV}{st:zc}{R:CRes->zc->Prop}(hx:E.ext f=none)(hh:E.hand f=some H)(hl:args.length=H.nargs)(hv:args.all zo=true)
  (h:zS (exec (zi E) H.pre {fr:=frOf args 0,bx:=fun _=> .no,st:=st}) (hpreQ E H st.length R)):PC (zi E f args st) R:=by
 rw[holds_iff]at h;obtain⟨e1,s1,h1,h2⟩:=h;cases e1<;>try exact h2.elim
 case ret=>
  rw[hpreQ_ret,PC_iff]at h2;obtain⟨r,st',q1,q2⟩:=h2;have:zi E f args st=some (r,st'):=by
   refine pcall_hand hx hh ?_;unfold handF;rw[if_pos ⟨hl,hv⟩,h1];exact q1
  rw[this];exact q2
 rw[hpreQ_normal]at h2;obtain⟨h3,h4⟩:=h2;rw[holds_iff]at h4;obtain⟨e2,s2,h5,h6⟩:=h4;have hq:∃q,thrown (some (e2,s2))=some q/\zS (exec (zi E) H.code (handSt H (zj s1.fr H.caps) q)) (hendQ H st.length s1.fr R):=by
  cases e2 with
  |normal=>exact⟨_,rfl,h6⟩
  |ret=>exact⟨_,rfl,h6⟩
  |exit i=>exact h6.elim
  |pan v=>cases v<;>first|exact⟨_,rfl,h6⟩|exact h6.elim
 obtain⟨q,hq1,hq2⟩:=hq;rw[holds_iff]at hq2;obtain⟨e3,s3,h7,h8⟩:=hq2;have hr:PC (handEnd H st.length s1.fr (some (e3,s3))) R:=by
  cases e3 with
  |normal=>exact h8
  |ret=>exact h8
  |exit i=>exact h8.elim
  |pan v=>exact h8.elim
 rw[PC_iff]at hr;obtain⟨r,st',hr1,hr2⟩:=hr;have:zi E f args st=some (r,st'):=by
  refine pcall_hand hx hh ?_;unfold handF;rw[if_pos ⟨hl,hv⟩,h1];simp only;rw[if_pos h3,h5,hq1];simp only;rw[h7,hr1]
 rw[this];exact hr2
end PE

namespace PE.U
open Go PE
def encRn(r:Rn):PV:= .agg [.int .i64 r.status,.int .i64 r.code,ints r.out,.int .i64 r.cost,.int .i64 r.fuel]
def endO(u:Unt)(q:Rt Int×RS):Obj:= .arr 9 [.agg [arrs u.arrays,flows u.flows,ints q.2.inp,.mp 0,.int .i64 (runEnd q).status,.int .i64 (runEnd q).code,acc 1 (q.2.out.map (PV.int .i64)),.int .i64 q.2.cost,.int .i64 q.2.fuel]]
theorem wf_set{n j:Nat}{T:zc}{o:Obj}(hT:zc.wf n T=true)(ho:o.below n=true):zc.wf n (T.set j o)=true:=by
 unfold zc.wf at hT ⊢;rw[ym]at hT ⊢;intro x hx;rcases List.mem_or_eq_of_mem_set hx with h|rfl
 ·exact hT x h
 ·exact ho
theorem isR_get{x:Option (CRes×zc)}{r:CRes×zc}(h:PC x (isR r)):x=some r:=by
 obtain⟨a,b,e,h1,h2⟩:=PC_iff.1 h;rw[e,h1,h2]
theorem main_spec{u:Unt}(hU:OkU u)(S:RS)(hS:FitS u S):zi E 24 [.ptr 1 0 0] (sto u S [])=some (.ret (.tup []),(sto u (mainW u S).2 []).set 1 (endO u (mainW u S))):=by
 obtain⟨f,hf,hfm,hp,hfp⟩:=hU.main;have hc:=call_of hU (list_of hU (specs hU S.fuel)) hf hp (l:=[]) (T:=[]) hS (yk _) (by simp);have hm:=(callW_ok (zQb hU S.fuel) (hU.body f hfm) (l:=[]) (by simp) S).1;have hmw:mainW u S=zqc (evN u S.fuel) f [] S:=by unfold mainW;rw[hf]
 rw[hmw];generalize zqc (evN u S.fuel) f [] S=q at*;obtain⟨a,S1⟩:=q;simp only at hc hm;have hS1:=hS.mono hm;have hlen0:=sto_len (T:=[]) hS;have hlen1:=sto_len (T:=[]) hS1;have htake:∀X,((sto u S1 []).set 1 X).take (nb u)=(sto u S1 []).set 1 X:=by
  intro X;rw[yea];rw[List.length_set,hlen1];simp
 have hwf0:zc.wf (nb u) (sto u S1 [])=true:=sto_wf (yk _);have hwf:∀c d,zc.wf (nb u) ((sto u S1 []).set 1 (.arr 9 [.agg [arrs u.arrays,flows u.flows,ints S1.inp,.mp 0,.int .i64 c,.int .i64 d,acc 1 (S1.out.map (PV.int .i64)),.int .i64 S1.cost,.int .i64 S1.fuel]]))=true:=by
  intro c d;refine wf_set hwf0 ?_;have h0:0<nb u:=by unfold nb;omega
  simp[Obj.below,belowL_acc,h0]
 have hr4:∀X,((sto u S1 []).set 1 X)[1]? =some X:=by
  intro X;rw[yg (by rw[hlen1];unfold nb;omega)]
 simp[ints,zI]at hc hlen0 hlen1;simp[ints]at hwf;refine isR_get (hand_wp rfl rfl rfl rfl ?_);clear hU hm hmw hS hwf0 hfp hf hfm hp;cases a with
 |stop j=>
  simp at hc;simp[*,H24,endV,endO,runEnd,ints,zzb,pinFr]
 |ok n=>
  simp at hc;simp[*,H24,endV,endO,runEnd,ints,zzb,pinFr]
theorem mapSet_arr(nm:List UInt8)(v:PV):∀(d:List Arr) (b:Nat),nm ∉ d.map (·.name)->zIb true (.str nm) v (zCa b d)=some (zCa b d++[(.str nm,v)])
 | [],b,_=>rfl
 |y::d,b,h=>by
  simp only[yu,yS,not_or]at h;have ih:=mapSet_arr nm v d (b+1) h.2;simp only[zCa,zIb,keyEq,if_true,h.1,decide_false];rw[ih];rfl
theorem arrFrom_snoc(x:Arr):∀(d:List Arr) (b:Nat),zCa b (d++[x])=zCa b d++[(.str x.name,.mslice (b+d.length) 0 x.size.toNat 1)]
 | [],b=>by simp[zCa]
 |y::d,b=>by
  simp only[List.cons_append,zCa,arrFrom_snoc x d,yP];rw[show b+1+d.length=b+(d.length+1)from by omega]
set_option maxHeartbeats 4000000 in
theorem playrun_spec(u:Unt)(hz:USz u)(inp:List Int)(fu:Int)(hf:fu<=100000000000):zi E 11 [encUnt u,ints inp,.int .i64 fu] []=some (.ret (encRn (playM u inp fu)),[]):=by
 have hck:=check_spec u hz;refine zb rfl rfl rfl (by simp[encUnt,ints]) ?_;unfold playM;by_cases h0:(ztb u).1=0
 ·rw[if_pos h0];have hU:=checkM_ok hz h0;have hS0:FitS u (run0 u inp fu):=by
   refine⟨?_,?_⟩
   ·simp[run0,List.map_map,yx]
   ·simp[run0];omega
  have hm:=main_spec hU (run0 u inp fu) hS0;obtain⟨f,hf',hfm,hp',hfp⟩:=hU.main;have hmn:=(callW_ok (zQb hU (run0 u inp fu).fuel) (hU.body f hfm) (l:=[]) (by simp) (run0 u inp fu)).1;have hmw:mainW u (run0 u inp fu)=zqc (evN u (run0 u inp fu).fuel) f [] (run0 u inp fu):=by unfold mainW;rw[hf']
  rw[<-hmw]at hmn;clear hmw;generalize mainW u (run0 u inp fu)=q at*;obtain⟨a,S1⟩:=q;have hS1:=hS0.mono hmn;have hr4:∀X,((sto u S1 []).set 1 X)[1]? =some X:=by
   intro X;rw[yg (by rw[sto_len hS1];unfold nb;omega)]
  have hmx:(if fu<0 then 0 else fu)=max fu 0:=by split<;>omega
  generalize ztb u=ck at*;obtain⟨c0,c1⟩:=ck;simp only at h0;subst h0;simp[encUnt,arrs]at hck;simp only[sto]at hm;simp[runO,runCells,run0,zya,arrs,ints,endO]at hm;simp[*,F11,encUnt,arrs,ints];refine zy u.arrays K11_0 B11_0 (fun d=>[(31,.int .i64 d.length)]) (fun d=> .mp (zCa 2 d):: .arr 9 [.agg [.slice .plain 2 (u.arrays.map zz),flows u.flows,.slice .plain 1 (inp.map (PV.int .i64)),.mp 0,.int .i64 0,.int .i64 0,.slice .fit 1 [],.int .i64 0,.int .i64 (max fu 0)]]::d.map (fun x=>intO (yf x.size.toNat 0))) (fun d=>(d.map (·.name)).Nodup) (by have:=hz.arrs;omega) (by simp[zCa]) ?_ ?_
  ·intros d x r s1 hl' hlt hget hget' hwr hp g1 g2 g3 g4;simp at g1 g3;have hx:x.name ∉ d.map (·.name)/\((d++[x]).map (·.name)).Nodup:=by
    have h:=hU.names;rw[hl'.eq]at h;simp only[List.map_append,yu]at h ⊢;rw[yua]at h;obtain⟨h1,h2,h3⟩:=h;have hx:x.name ∉ d.map (·.name):=fun hm=>h3 _ hm _ (by simp) rfl
    refine⟨hx,?_⟩;rw[yua];exact⟨h1,by simp,fun a ha b hb=>by simp at hb;rintro rfl;exact hx (hb ▸ ha)⟩
   have hsz:=hU.arrs x hl'.mem;have hms2:=mapSet_arr x.name (.mslice (2+d.length) 0 x.size.toNat 1) d 2 hx.1;rw[<-arrFrom_snoc]at hms2;rw[show 2+d.length=d.length+1+1 from by omega]at hms2;have hx2:=hx.2;simp only[List.map_append,yu,yAa]at hx2;have hdec:decide (d.length<u.arrays.length)=true:=decide_eq_true hlt;have hs1:(x.size<0)=False:=eqn (by omega);have hs2:(0<=x.size)=True:=eqp (by omega);have hs3:(x.size<=9223372036854775807)=True:=eqp (by omega);have hs4:(8*x.size<=281474976710656)=True:=eqp (by omega);have hrow:Obj.arr 1 (yf x.size.toNat (PV.int .i64 0))=intO (yf x.size.toNat 0):=by simp[intO]
   clear hx hl' hget' hlt hp hsz hU hS0 hm hmn hr4 hck hS1 hf' hfm hp' hfp;simp[*,zz]
  ·intros s1 hp g1 g2 g3 g4;simp at g1 g3;have hdec:(u.arrays.map (fun x=>intO (yf x.size.toNat 0)))=List.map (intO ∘ fun a=>yf a.size.toNat 0) u.arrays:=rfl;rw[hdec]at g4;clear hdec hU hS0 hp hck hmn hf' hfm hp' hfp;have hre:(runEnd (a,S1)).out=S1.out/\(runEnd (a,S1)).cost=S1.cost/\(runEnd (a,S1)).fuel=S1.fuel:=by cases a<;>exact⟨rfl,rfl,rfl⟩
   simp[*,encRn,ints]
 ·rw[if_neg h0];generalize ztb u=ck at*;obtain⟨c0,c1⟩:=ck;simp only at h0;simp[encUnt]at hck;replace h0:=eqn h0;simp[*,F11,encUnt,encRn,ints]
def awL:Node:=⟨11,0,0,[],[0,1],[4],[2,3],[[⟨4,14,0,[],[2,3],[5],[],[]⟩,⟨10,0,0,[],[5],[],[],[[⟨14,0,0,[],[2],[],[],[]⟩],[⟨4,1,0,[],[2,3],[6],[],[]⟩,⟨13,0,0,[],[3,6],[],[],[]⟩]]⟩]]⟩
def awU:Unt:=⟨[],[⟨zI,1,0,[1,1,1,1,1,2,1],[⟨1,0,8,[],[],[0],[],[]⟩,⟨1,0,7,[],[],[1],[],[]⟩,awL,⟨9,0,0,[],[4],[],[],[]⟩,⟨15,0,0,[],[4],[],[],[]⟩]⟩]⟩
theorem awU_1:(playM awU [] 100).status=1/\(playM awU [] 100).code=8/\(playM awU [] 100).out=[8]/\(playM awU [] 100).cost=2:=by decide+kernel
theorem awU_2:(playM awU [] 3).status=0/\(playM awU [] 3).fuel=0:=by decide+kernel
theorem awU_sz:USz awU:=⟨by decide,by decide,by decide+kernel,by decide+kernel⟩
theorem mainU_spec(types:List Int)(k n:Nat)(σ:zc):zi E 21 [ints types,.mslice k 0 n 8] σ=some (.ret (.agg [.slice .plain 2 [],.mslice σ.length 0 1 5]),σ++[.arr 5 [.agg [.str zI,.int .i64 1,.int .i64 0,ints types,.mslice k 0 n 8]]]):=by
 refine zb rfl rfl rfl (by simp[ints]) ?_;simp[F21,ints,zI]
set_option maxHeartbeats 4000000 in
theorem awake10_spec:zi E 9 [] []=some (.ret (.bool true),[]):=by
 refine zb rfl rfl rfl (by simp) ?_;have r1:=playrun_spec awU awU_sz [] 100 (by omega);have r2:=playrun_spec awU awU_sz [] 3 (by omega);obtain⟨a1,a2,a3,a4⟩:=awU_1;obtain⟨b1,b2⟩:=awU_2;generalize playM awU [] 100=m1 at*;generalize playM awU [] 3=m2 at*;obtain⟨s1,c1,o1,k1,f1⟩:=m1;obtain⟨s2,c2,o2,k2,f2⟩:=m2;simp only at a1 a2 a3 a4 b1 b2;subst a1 a2 a3 a4 b1 b2;simp[encRn,ints,encUnt,awU,awL,arrs,flows,ze,zk,za,kids,zI]at r1 r2;have hm:=mainU_spec [1,1,1,1,1,2,1] 0 5;simp[ints,zI]at hm;simp[*,F9,ints,sealSt,sealBx,zZ,killAll]
def outSame(a b:List Int):Bool:=decide (a=b)
theorem sameOut_spec(a b:List Int)(ha:a.length<1099511627776)(hb:b.length<1099511627776):zi E 22 [ints a,ints b] []=some (.ret (.bool (outSame a b)),[]):=by
 refine zb rfl rfl rfl (by simp[ints]) ?_;unfold outSame;by_cases hl:a.length=b.length
 ·have hl':((a.length:Int)=b.length)=True:=eqp (by omega);simp[*,F22,ints];refine zy a K22_0 B22_0 (fun d=>[(5,.int .i64 d.length)]) (fun _=>[]) (fun d=>b.take d.length=d) (by omega) (by simp) ?_ ?_
  ·intros d x r s1 hs hlt hget hget' hwr hp g1 g2 g3 g4;simp at g1 g3;obtain⟨y,hy⟩:∃y,b[d.length]? =some y:=⟨_,ye (by omega)⟩
   have hdec:decide (d.length<a.length)=true:=decide_eq_true (by omega);have htk:b.take (d.length+1)=d++[y]:=by rw[List.take_add_one,hy,hp];rfl
   by_cases hxy:x=y
   ·subst hxy;clear hs hlt hget' hl hl' hp;simp[*]
   ·have hne:¬a=b:=by
     rintro rfl
     rw[hget]at hy;exact hxy (Option.some.inj hy)
    have h1:(x=y)=False:=eqn hxy;clear hs hlt hget' hl hl' hp htk;simp[*]
  ·intros s1 hp g1 g2 g3 g4;simp at g1 g3;have:a=b:=by rw[<-hp,hl,yFa]
   subst this;clear hp;simp[*]
 ·have hne:¬a=b:=by rintro rfl;exact hl rfl
  have hl':((a.length:Int)=b.length)=False:=eqn (by omega);clear hl;simp[*,F22,ints]
def sameRn(a b:Rn):Bool:=decide (a.status=b.status)&&(decide (a.code=b.code)&&(outSame a.out b.out&&(decide (a.cost=b.cost)&&decide (a.fuel=b.fuel))))
theorem sameRn_self(a:Rn):sameRn a a=true:=by simp[sameRn,outSame]
set_option maxHeartbeats 1000000 in
theorem sameR_spec(a b:Rn)(ha:a.out.length<1099511627776)(hb:b.out.length<1099511627776):zi E 10 [encRn a,encRn b] []=some (.ret (.bool (sameRn a b)),[]):=by
 have ho:=sameOut_spec a.out b.out ha hb;refine zb rfl rfl rfl (by simp[encRn]) ?_;unfold sameRn;generalize outSame a.out b.out=so at*;clear ha hb
 (simp[*,F10,encRn])<;>(repeat' (first|((first|refine sP _ ?_ ?_|refine gP _ ?_ ?_|refine sN _ ?_ ?_|refine gN _ ?_ ?_)<;>intro hc<;>(first|replace hc:=eqn hc|replace hc:=eqp hc)<;>simp[*,F10,encRn])|((first|refine sM _ ?_ ?_|refine gM _ ?_ ?_|refine sB _ ?_ ?_|refine gB _ ?_ ?_)<;>intro hc<;>simp[*,F10,encRn])))
 all_goals exact Int.ofNat_inj
theorem ins_spec(l:List Int)(hl:l.length<=9223372036854775807):zi E 12 [ints l] []=some (.ret (ints (l.take 10)),[]):=by
 refine zb rfl rfl rfl (by simp) ?_;by_cases h:10<l.length
 ·have h1:((10:Int)<l.length)=True:=eqp (by omega);have h2:(10<=l.length)=True:=eqp (by omega);clear hl h;simp[*,F12,ints]
 ·have h1:((10:Int)<l.length)=False:=eqn (by omega);have h2:l.take 10=l:=yea (by omega);rw[h2];clear hl h h2;simp[*,F12,ints]
theorem playM_out(u:Unt)(inp:List Int)(fu:Int)(h:fu<=100000000000)(hz:USz u):(playM u inp fu).out.length<1099511627776:=by
 unfold playM;split
 ·rename_i h0;have hU:=checkM_ok hz h0;obtain⟨f,hf',hfm,hp',hfp⟩:=hU.main;have hmn:=(callW_ok (zQb hU (run0 u inp fu).fuel) (hU.body f hfm) (l:=[]) (by simp) (run0 u inp fu)).1;have hmw:mainW u (run0 u inp fu)=zqc (evN u (run0 u inp fu).fuel) f [] (run0 u inp fu):=by unfold mainW;rw[hf']
  rw[hmw];generalize zqc (evN u (run0 u inp fu).fuel) f [] (run0 u inp fu)=q at*;have h2:=hmn.out;have e1:(run0 u inp fu).out.length=0:=rfl;have e2:(run0 u inp fu).fuel=fu.toNat:=rfl;obtain⟨a,S1⟩:=q;simp only at h2;rw[e1,e2]at h2;cases a<;>simp only[runEnd]<;>omega
 ·simp
def zKa(k:Nat):List Arr->List PV
 | []=>[]
 |a::r=> .mslice k 0 a.size.toNat 1::zKa (k+1) r
def stK:Option Int->Int
 |none=>0
 |some k=>k
def spK:Option Int->Bool
 |none=>false
 |some k=>decide (k=0)
def runR(u:Unt)(S:RS)(h:Option Int):Obj:= .arr 10 [.agg [arrs u.arrays,flows u.flows,ints S.inp,acc 1 (zKa 1 u.arrays),.int .i64 (stK h),.int .i64 0,acc 1 (S.out.map (PV.int .i64)),.int .i64 S.cost,.int .i64 S.fuel,.bool (spK h)]]
def stR(u:Unt)(S:RS)(h:Option Int)(T:List (List Int)):zc:=runR u S h::(zya S.arrs++zya T)
def goH{α:Type}:Rt α->Option Int
 | .ok _=>none
 | .stop k=>some k
@[simp] theorem goH_ok{α:Type}(a:α):goH (.ok a)=none:=rfl
@[simp] theorem goH_stop{α:Type}(k:Int):goH (.stop k:Rt α)=some k:=rfl
section
variable (u:Unt) (S:RS) (h:Option Int) (T:List (List Int))
@[simp] theorem stR_0:(stR u S h T)[0]? =some (.arr 10 [.agg [arrs u.arrays,flows u.flows,ints S.inp,acc 1 (zKa 1 u.arrays),.int .i64 (stK h),.int .i64 0,acc 1 (S.out.map (PV.int .i64)),.int .i64 S.cost,.int .i64 S.fuel,.bool (spK h)]]):=rfl
@[simp] theorem stK_none:stK none=0:=rfl
@[simp] theorem spK_none:spK none=false:=rfl
@[simp] theorem stK_some(k:Int):stK (some k)=k:=rfl
@[simp] theorem spK_some(k:Int):spK (some k)=decide (k=0):=rfl
@[simp] theorem setR_fuel(k:Nat):(stR u S none T).set 0 (.arr 10 [.agg [arrs u.arrays,flows u.flows,ints S.inp,acc 1 (zKa 1 u.arrays),.int .i64 0,.int .i64 0,acc 1 (S.out.map (PV.int .i64)),.int .i64 S.cost,.int .i64 k,.bool false]])=stR u {S with fuel:=k} none T:=rfl
@[simp] theorem setR_spent:(stR u S none T).set 0 (.arr 10 [.agg [arrs u.arrays,flows u.flows,ints S.inp,acc 1 (zKa 1 u.arrays),.int .i64 0,.int .i64 0,acc 1 (S.out.map (PV.int .i64)),.int .i64 S.cost,.int .i64 S.fuel,.bool true]])=stR u S (some 0) T:=rfl
@[simp] theorem setR_2:(stR u S none T).set 0 (.arr 10 [.agg [arrs u.arrays,flows u.flows,ints S.inp,acc 1 (zKa 1 u.arrays),.int .i64 2,.int .i64 0,acc 1 (S.out.map (PV.int .i64)),.int .i64 S.cost,.int .i64 S.fuel,.bool false]])=stR u S (some 2) T:=rfl
@[simp] theorem setR_3:(stR u S none T).set 0 (.arr 10 [.agg [arrs u.arrays,flows u.flows,ints S.inp,acc 1 (zKa 1 u.arrays),.int .i64 3,.int .i64 0,acc 1 (S.out.map (PV.int .i64)),.int .i64 S.cost,.int .i64 S.fuel,.bool false]])=stR u S (some 3) T:=rfl
@[simp] theorem setR_4:(stR u S none T).set 0 (.arr 10 [.agg [arrs u.arrays,flows u.flows,ints S.inp,acc 1 (zKa 1 u.arrays),.int .i64 4,.int .i64 0,acc 1 (S.out.map (PV.int .i64)),.int .i64 S.cost,.int .i64 S.fuel,.bool false]])=stR u S (some 4) T:=rfl
@[simp] theorem setR_cost':(stR u S none T).set 0 (.arr 10 [.agg [arrs u.arrays,flows u.flows,.slice .plain 1 (S.inp.map (PV.int .i64)),acc 1 (zKa 1 u.arrays),.int .i64 0,.int .i64 0,acc 1 (S.out.map (PV.int .i64)),.int .i64 (zR .i64 (S.cost+1)),.int .i64 S.fuel,.bool false]])=stR u (zE S) none T:=by
 rw[zP];rfl
@[simp] theorem setR_st(k:Int)(hk:k≠0):(stR u S none T).set 0 (.arr 10 [.agg [arrs u.arrays,flows u.flows,.slice .plain 1 (S.inp.map (PV.int .i64)),acc 1 (zKa 1 u.arrays),.int .i64 k,.int .i64 0,acc 1 (S.out.map (PV.int .i64)),.int .i64 S.cost,.int .i64 S.fuel,.bool false]])=stR u S (some k) T:=by
 have:decide (k=0)=false:=by simp[hk]
 unfold stR runR stK spK;simp only[yoa,this];rfl
theorem setR_out(l:List Int):(stR u S none T).set 0 (.arr 10 [.agg [arrs u.arrays,flows u.flows,ints S.inp,acc 1 (zKa 1 u.arrays),.int .i64 0,.int .i64 0,acc 1 (l.map (PV.int .i64)),.int .i64 S.cost,.int .i64 S.fuel,.bool false]])=stR u {S with out:=l} none T:=rfl
@[simp] theorem setR_inp(l:List Int):(stR u S none T).set 0 (.arr 10 [.agg [arrs u.arrays,flows u.flows,.slice .plain 1 (l.map (PV.int .i64)),acc 1 (zKa 1 u.arrays),.int .i64 0,.int .i64 0,acc 1 (S.out.map (PV.int .i64)),.int .i64 S.cost,.int .i64 S.fuel,.bool false]])=stR u {S with inp:=l} none T:=rfl
end
theorem zqa(u:Unt)(S:RS)(h:Option Int)(T:List (List Int)):zi E 28 [.ptr 0 0 0] (stR u S h T)=some (.ret (.bool h.isSome),stR u S h T):=by
 refine zb rfl rfl rfl (by simp) ?_;cases h with
 |none=>simp[F28]
 |some k=>
  by_cases hk:k=0
  ·subst hk;simp[F28]
  ·replace hk:=eqn hk;simp[*,F28]
theorem rstep_spec(u:Unt)(S:RS)(T:List (List Int))(hf:S.fuel<=9000000000000000000):zi E 64 [.ptr 0 0 0] (stR u S none T)=some (match S.fuel with
  |0=>(.ret (.bool false),stR u S (some 0) T)
  |k+1=>(.ret (.bool true),stR u {S with fuel:=k} none T)):=by
 refine zb rfl rfl rfl (by simp) ?_;have h0:=zqa u S none T;simp at h0;cases h:S.fuel with
 |zero=>
  have hs:(stR u S none T).set 0 (.arr 10 [.agg [arrs u.arrays,flows u.flows,ints S.inp,acc 1 (zKa 1 u.arrays),.int .i64 0,.int .i64 0,acc 1 (S.out.map (PV.int .i64)),.int .i64 S.cost,.int .i64 0,.bool true]])=stR u S (some 0) T:=by
   have:=setR_spent u S T;rw[h]at this;exact this
  simp[*,F64]
 |succ k=>
  have hw:zR .i64 (((k+1:Nat):Int)-1)=(k:Int):=by rw[zr]<;>omega
  have hne:(((k+1:Nat):Int)<1)=False:=eqn (by omega);generalize hc:((k+1:Nat):Int)=c at*;simp[*,F64]
theorem rptrs_get:∀(l:List Arr) (k i:Nat),(zKa k l)[i]? =(l[i]?).map fun a=> .mslice (k+i) 0 a.size.toNat 1
 | [],k,i=>by simp[zKa]
 |a::r,k,0=>by simp[zKa]
 |a::r,k,i+1=>by
  simp only[zKa,yA];rw[rptrs_get r (k+1) i];cases r[i]? with
  |none=>rfl
  |some b=>simp;omega
theorem rptrs_len:∀(l:List Arr) (k:Nat),(zKa k l).length=l.length
 | [],k=>rfl
 |a::r,k=>by simp[zKa,rptrs_len r]
theorem rarr_at{u:Unt}{S:RS}{nm:List UInt8}(hS:FitS u S)(h:zkb u.arrays nm=true):∃(i:Nat) (l:List Int),zpd u.arrays nm=i/\i<S.arrs.length/\S.arrs[i]? =some l/\(zKa 1 u.arrays)[i]? =some (.mslice (i+1) 0 l.length 1):=by
 obtain⟨i,l,a1,a2,a3,a4⟩:=arr_at hS h;refine⟨i,l,a1,a2,a3,?_⟩;rw[rptrs_get];have hlt:i<u.arrays.length:=by rw[<-hS.len];exact a2
 have e:=congrArg (fun l:List Nat=>l[i]?) hS.1;simp only[yi,a3,ye hlt,yF,Option.some.injEq]at e;rw[ye hlt,yF,<-e,Nat.add_comm 1 i]
theorem stR_row{u:Unt}{S:RS}{h:Option Int}{T:List (List Int)}{i:Nat}{l:List Int}(hl:S.arrs[i]? =some l):(stR u S h T)[i+1]? =some (.arr 1 (l.map (PV.int .i64))):=by
 have hlt:=(yb.1 hl).1;simp only[stR,yA];rw[yj (by simpa[zya]using hlt)];simp[zya,hl,intO]
theorem rput_row{u:Unt}{S:RS}{h:Option Int}{T:List (List Int)}{i:Nat}{l:List Int}(hl:S.arrs[i]? =some l)(k:Nat)(m:Int):(stR u S h T).set (i+1) (.arr 1 ((l.map (PV.int .i64)).set k (.int .i64 m)))=stR u {S with arrs:=S.arrs.set i (l.set k m)} h T:=by
 have hlt:=(yb.1 hl).1;have e:(l.map (PV.int .i64)).set k (.int .i64 m)=(l.set k m).map (PV.int .i64):=by rw[yT]
 rw[e];simp only[stR,yKa];rw[List.set_append_left _ _ (by simpa[zya]using hlt)];have:(zya S.arrs).set i (.arr 1 ((l.set k m).map (PV.int .i64)))=zya (S.arrs.set i (l.set k m)):=by simp[zya,yT,intO]
 rw[this];rfl
theorem rcell_spec{u:Unt}{S:RS}{T:List (List Int)}{i:Nat}{l:List Int}(n:Int)(hl:S.arrs[i]? =some l)(hm:(zKa 1 u.arrays)[i]? =some (.mslice (i+1) 0 l.length 1)):
  zi E 94 [.ptr 0 0 0,.int .i64 i,.int .i64 n] (stR u S none T)=some (if 0<=n/\n<l.length then(.ret (.bool true),stR u S none T)else(.ret (.bool false),stR u S (some 3) T)):=by
 refine zb rfl rfl rfl (by simp) ?_;by_cases h0:n<0
 ·have hn:¬(0<=n/\n<l.length):=by omega
  rw[if_neg hn];replace h0:=eqp h0;simp[*,F94]
 ·by_cases h1:(l.length:Int)<=n
  ·have hn:¬(0<=n/\n<l.length):=by omega
   rw[if_neg hn];replace h0:=eqn h0;replace h1:=eqp h1;simp[*,F94]
  ·rw[if_pos (by omega)];have h4:0<=n:=by omega
   replace h0:=eqn h0;replace h1:=eqn h1;simp[*,F94]
def nbR(u:Unt):Nat:=u.arrays.length+1
section
variable {u:Unt} {S:RS} {h:Option Int} {T:List (List Int)}
theorem stR_len(hS:FitS u S):(stR u S h T).length=nbR u+T.length:=by
 simp[stR,zya,hS.len,nbR];omega
theorem stR_get(hS:FitS u S){j:Nat}{v:List Int}(hj:T[j]? =some v):(stR u S h T)[nbR u+j]? =some (.arr 1 (v.map (PV.int .i64))):=by
 have:nbR u+j=u.arrays.length+j+1:=by unfold nbR;omega
 rw[this];simp only[stR,yA];rw[yn (by simp[zya,hS.len])];simp[zya,hS.len,hj,intO]
theorem stR_set(hS:FitS u S)(j:Nat)(v:List Int):(stR u S h T).set (nbR u+j) (.arr 1 (v.map (PV.int .i64)))=stR u S h (T.set j v):=by
 have:nbR u+j=u.arrays.length+j+1:=by unfold nbR;omega
 rw[this];simp only[stR,yKa];rw[yN _ _ (by simp[zya,hS.len])];simp[zya,hS.len,yT,intO]
theorem stR_app{v:List Int}:stR u S h T++[.arr 1 (v.map (PV.int .i64))]=stR u S h (T++[v]):=by simp[stR,zya,intO]
theorem stR_take(hS:FitS u S)(j:Nat):(stR u S h T).take (nbR u+j)=stR u S h (T.take j):=by
 have:nbR u+j=u.arrays.length+j+1:=by unfold nbR;omega
 rw[this];simp only[stR,List.take_succ_cons];rw[List.take_append,yea (by simp[zya,hS.len])];simp[zya,hS.len,List.map_take]
theorem rptrs_below(n:Nat):∀(l:List Arr) (k:Nat),k+l.length<=n->zK n (zKa k l)=true
 | [],_,_=>rfl
 |a::r,k,h=>by
  simp only[yP]at h;simp only[zKa,belowL_cons,below_mslice,ya,decide_eq_true_eq];exact⟨by omega,rptrs_below n r (k+1) (by omega)⟩
theorem below_acc(n sz:Nat)(l:List PV)(h:zK n l=true):zm n (acc sz l)=true:=by
 cases l with
 |nil=>rfl
 |cons x r=>simpa using h
theorem stR_wf{n:Nat}(hn:nbR u<=n):zc.wf n (stR u S h T)=true:=by
 unfold zc.wf;simp only[stR,List.all_cons,yxa,ya];refine⟨?_,rowsO_wf n _,rowsO_wf n _⟩;have h1:=rptrs_below n u.arrays 1 (by unfold nbR at hn;omega);simp[runR,Obj.below,belowL_acc,ints,below_acc _ _ _ h1]
end
set_option maxHeartbeats 1000000 in
theorem vof_spec{u:Unt}{S:RS}{h:Option Int}{T:List (List Int)}{j n:Nat}{v:List Int}(hS:FitS u S)(hj:T[j]? =some v)(hv:v.length=n){l:List Int}(ho:inR n l)(hz:l.length<1099511627776):
  zi E 65 [.mslice (nbR u+j) 0 n 1,ints l] (stR u S h T)=some (.ret (ints (ofW v l)),stR u S h T):=by
 refine zb rfl rfl rfl (by simp[ints]) ?_;have hgt:=stR_get (u:=u) (h:=h) hS hj;simp[F65,ints];refine zy l K65_0 B65_0 (fun d=>[(6,.int .i64 d.length),(5,acc 1 ((ofW v d).map (PV.int .i64)))]) (fun d=>stR u S h T) (fun _=>True) (by omega) (by simp[ofW]) ?_ ?_
 ·intros d x r s1 hl' hlt hget hget' hwr hp g1 g2 g3 g4;simp at g1 g3;obtain⟨x0,x1⟩:=ho x hl'.mem;have hx:=zDb (l:=v) x0 (by omega);have hxn:x.toNat<n:=by omega
  have hxv:x.toNat<v.length:=by omega
  have hx3:=zab (l:=v) x0 (by omega) hxv;have hdec:decide (d.length<l.length)=true:=decide_eq_true hlt;have hroom:((ofW v d).length+1)*8<=zJ:=by rw[zgc];simp only[zJ];omega
  have hsn:ofW v (d++[x])=ofW v d++[at0 v x]:=by simp[ofW]
  generalize ofW v d=c at*;clear hl' hget' hp hj ho hlt;simp[*]
 ·intros s1 hp g1 g2 g3 g4;simp at g1 g3;clear hj ho;simp[*]
theorem rset_spec{u:Unt}{S:RS}{h:Option Int}{T:List (List Int)}{j n:Nat}{v:List Int}(hS:FitS u S)(hj:T[j]? =some v)(hv:v.length=n){o ns:List Int}(ho:inR n o)(hl:o.length=ns.length)(hz:o.length<1099511627776):
  zi E 66 [.mslice (nbR u+j) 0 n 1,ints o,ints ns] (stR u S h T)=some (.ret (.tup []),stR u S h (T.set j (setW v o ns))):=by
 refine zb rfl rfl rfl (by simp[ints]) ?_;have hjl:=(yb.1 hj).1;simp[F66,ints];refine zy o K66_0 B66_0 (fun d=>[(6,.int .i64 d.length)]) (fun d=>stR u S h (T.set j (setW v d (ns.take d.length)))) (fun _=>True) (by omega) (by simp[setW,zSb hj]) ?_ ?_
 ·intros d x r s1 hl' hlt hget hget' hwr hp g1 g2 g3 g4;simp at g1 g3;obtain⟨x0,x1⟩:=ho x hl'.mem;have hn:ns[d.length]? =some ns[d.length]:=ye (by omega);generalize ns[d.length]=m at hn;have hcur:(T.set j (setW v d (ns.take d.length)))[j]? =some (setW v d (ns.take d.length)):=yg hjl;have hgt:=stR_get (u:=u) (h:=h) hS hcur;have hsn:setW v (d++[x]) (ns.take (d.length+1))=(setW v d (ns.take d.length)).set x.toNat m:=by
   rw[take_snoc hn,setW_snoc _ _ _ _ _ (by simp;omega)]
  have hst:=stR_set (u:=u) (S:=S) (h:=h) (T:=T.set j (setW v d (ns.take d.length))) hS j (setW v (d++[x]) (ns.take (d.length+1)));have hlen:=zEb v d (ns.take d.length);have hx:x.toNat<n:=by omega
  have hsl:(setW v d (ns.take d.length)).length=n:=by rw[hlen,hv]
  rw[yja]at hst;rw[hsn,yT,<-hsn]at hst;have hgo:(stR u S h (T.set j (setW v d (ns.take d.length)))).set (nbR u+j) (.arr 1 (((setW v d (ns.take d.length)).map (PV.int .i64)).set x.toNat (.int .i64 m)))=stR u S h (T.set j (setW v (d++[x]) (ns.take (d.length+1)))):=hst;clear hst;generalize setW v d (ns.take d.length)=c at*;have hdec:decide (d.length<o.length)=true:=decide_eq_true hlt;clear hl' hget' hp hj ho hlen hsn hcur hl hlt;simp[*]
 ·intros s1 hp g1 g2 g3 g4;simp at g1 g3;have:ns.take o.length=ns:=by rw[hl];exact yFa
  rw[this]at g4;simp[*]
def SpecR(u:Unt)(w:Nat):Prop:=∀m p l v S T j,FitS u S->S.fuel<=w->l≠ []->okL u m p l->wtL l<capE->T[j]? =some v->v.length=m→
 ∃y:Wy,zi E 44 [.ptr 0 0 0,zk l,.mslice (nbR u+j) 0 m 1] (stR u S none T)=some (.ret (encW y),stR u (zka (evN u w) l v S).2.2 (goH (zka (evN u w) l v S).1) (T.set j (zka (evN u w) l v S).2.1))∧
  ∀r,(zka (evN u w) l v S).1= .ok r->y=r
set_option maxHeartbeats 2000000 in
theorem rcall_of{u:Unt}(hU:OkU u){w:Nat}(hL:SpecR u w){f:Flow}{k:Nat}(hf:u.flows[k]? =some f){l:List Int}{S:RS}{T:List (List Int)}(hS:FitS u S)(hw:S.fuel<=w)(hl:l.length<=f.types.length):
  ∃z:Int,zi E 26 [.ptr 0 0 0,.int .i64 k,ints l] (stR u S none T)=some (.ret (.int .i64 z),stR u (zqc (evN u w) f l S).2 (goH (zqc (evN u w) f l S).1) T)/\∀r,(zqc (evN u w) f l S).1= .ok r->z=r:=by
 have hfm:f∈u.flows:=yB hf;have hty:=hU.sz.types f hfm;have hb:=hU.body f hfm;have hlen:=stR_len (h:=none) (T:=T) hS;have hap:=stR_app (u:=u) (S:=S) (h:=none) (T:=T) (v:=yf f.types.length 0);simp only[yLa]at hap;have l1:(0:Int)<=(f.types.length:Int):=by omega
 have l2:(f.types.length:Int)<=9223372036854775807:=by omega
 have l3:8*(f.types.length:Int)<=281474976710656:=by omega
 have hgl:(l++yf (f.types.length-l.length) 0).length=f.types.length:=by simp;omega
 have hc:=hL f.types.length ⟨none,none,none⟩ f.body (l++yf (f.types.length-l.length) 0) S (T++[l++yf (f.types.length-l.length) 0]) T.length hS hw hb.1 hb.2 (hU.sz.body f hfm) (by simp) hgl;rw[yN _ _ (yk _),yHa,yoa]at hc;obtain⟨m1,m2,m3⟩:=zFb (zQb hU w) f.body (l++yf (f.types.length-l.length) 0) S hb.1 hb.2 hgl;have hrep:∀d x,l[d]? =some x->d<l.length->((l.take d++yf (f.types.length-d) 0).map (PV.int .i64)).set d (.int .i64 x)=(l.take (d+1)++yf (f.types.length-(d+1)) 0).map (PV.int .i64):=by
  intro d x hx hd;have e:f.types.length-d=(f.types.length-(d+1))+1:=by omega
  rw[take_snoc hx,e,List.replicate_succ,List.map_append,yN _ _ (by simp;omega)];simp[Nat.min_eq_left (Nat.le_of_lt hd)]
 unfold zqc;generalize hq:zka (evN u w) f.body (l++yf (f.types.length-l.length) 0) S=q at*;obtain⟨a,v1,S1⟩:=q;simp only at m1 m2 m3 hc ⊢;obtain⟨y,hc,hy⟩:=hc;have hS1:=hS.mono m1;have htk:∀h,(stR u S1 h (T++[v1])).take (nbR u+T.length)=stR u S1 h T:=by
  intro h;rw[stR_take hS1];simp
 have hwf:∀h,zc.wf (nbR u+T.length) (stR u S1 h T)=true:=fun h=>stR_wf (by omega)
 have hln:∀h,(stR u S1 h (T++[v1])).length=nbR u+(T.length+1):=by
  intro h;rw[stR_len hS1];simp
 have hov:=zqa u S1 (goH a) (T++[v1]);have hll:l.length<1099511627776:=by omega
 simp[zk]at hc;obtain⟨z,hz1,hz2⟩:∃z:Int,(∀r,a= .ok r->z=atA r.l 0)/\(∀k,a= .stop k->z=0):=by
  cases a with
  |ok r=>exact⟨atA r.l 0,(fun r' e=>by cases e;rfl),(fun k e=>by cases e)⟩
  |stop k=>exact⟨0,(fun r' e=>by cases e),(fun k e=>rfl)⟩
 refine⟨z,zb rfl rfl rfl (by simp[ints]) ?_,?_⟩
 ·have e0:l.take 0++yf (f.types.length-0) 0=yf f.types.length (0:Int):=by simp
  have hget0:∀d,(stR u S none (T++[l.take d++yf (f.types.length-d) 0]))[nbR u+T.length]? =some (.arr 1 ((l.take d++yf (f.types.length-d) 0).map (PV.int .i64))):=fun d=>stR_get hS (by simp)
  have hset0:∀d c,(stR u S none (T++[l.take d++yf (f.types.length-d) 0])).set (nbR u+T.length) (.arr 1 (c.map (PV.int .i64)))=stR u S none (T++[c]):=by
   intro d c;rw[stR_set hS,yN _ _ (yk _),yHa,yoa]
  clear hU hL hb hS hw m1 hgl hfm hS1 hty;simp[*,F26,flows,ze,ints,zk];refine zy l K26_0 [7,10] (fun d=>[(9,.int .i64 d.length)]) (fun d=>stR u S none (T++[l.take d.length++yf (f.types.length-d.length) 0])) (fun _=>True) (by omega) (by simp) ?_ ?_
  ·intros d x r s1 hl' hlt hget hget' hwr hp g1 g2 g3 g4;simp at g1 g3;have h1:=hrep d.length x hget hlt;have h2:=hget0 d.length;have h3:=hset0 d.length (l.take (d.length+1)++yf (f.types.length-(d.length+1)) 0);have h4:(l.take d.length++yf (f.types.length-d.length) (0:Int)).length=f.types.length:=by simp;omega
   have hdl:d.length<f.types.length:=by omega
   obtain⟨y,hy⟩:∃y,(l.take d.length++yf (f.types.length-d.length) (0:Int))[d.length]? =some y:=⟨_,ye (by omega)⟩
   have hdec:decide (d.length<l.length)=true:=decide_eq_true hlt;rw[<-h1]at h3;generalize l.take d.length++yf (f.types.length-d.length) (0:Int)=c at*;clear hl' hget' hlt hp hrep hget0 hset0 hc hov htk hwf hln m3 hz1 hz2 hlen hap h1;simp[*,-getElem?_pos,yr]
  ·intros s1 hp g1 g2 g3 g4;simp at g1 g3;have e1:l.take l.length=l:=yFa;rw[e1]at g4;clear hp hrep hget0 hset0 hlen hap;cases a with
   |stop k=>
    have hz:=hz2 k rfl;simp[encW,ints]at hc;simp at hov;clear m3 hz1 hz2;simp[*,fin]
   |ok r=>
    have hz:=hz1 r rfl;obtain⟨_,m4,_⟩:=m3 r rfl;have hr:∃x,r.l=[x]:=by
     rcases m4 with m4|m4|m4|m4
     ·cases m4.2
     ·cases m4.2
     ·cases m4.2
     ·exact List.length_eq_one_iff.1 m4.2
    obtain⟨x,hr⟩:=hr;have hyr:=hy r rfl;subst hyr;rw[hr]at hz;have hz:z=x:=hz;simp[encW,ints,hr]at hc;clear hr hy;simp at hov;clear m3 hz1 hz2 m4;simp[*,fin,atA]
 ·intro r e;cases a with
  |ok w=>simp only[Rt.ok.injEq]at e;rw[<-e];exact hz1 w rfl
  |stop k=>cases e
def sumR(u:Unt)(T:List (List Int))(x:Node)(q:Rt (List Int)×RS)(r:Option (CRes×zc)):Prop:=
 ∃z:Int,r=some (.ret (.int .i64 z),stR u q.2 (goH q.1) T)/\∀m,q.1= .ok [m]->z=m
theorem rone_specC(op a:Int)(σ:zc):zi E 92 [.int .i64 op,.int .i64 a] σ=some (.ret (.int .i64 (oneC op a)),σ):=by
 rw[<-one_eqC,<-rone_eq];exact rone_spec op a σ
theorem rtwo_specC(op a b:Int)(σ:zc):zi E 93 [.int .i64 op,.int .i64 a,.int .i64 b] σ=some (.ret (.tup [.int .i64 (twoC op a b).1,.bool (twoC op a b).2]),σ):=by
 rw[<-two_eqC];exact rtwo_spec op a b σ
set_option maxHeartbeats 4000000 in
theorem rsum_of{u:Unt}(hU:OkU u){w:Nat}(hL:SpecR u w){m:Nat}{p:Pl}{x:Node}(ho:okH u m p x)(hk:3<=x.kind/\x.kind<=9){S:RS}{T:List (List Int)}(hS:FitS u S)
  (hw:S.fuel<=w) (hfu:S.out.length+S.fuel<1000000000000) {l:List Int} (hl:l.length=x.args.length):
  sumR u T x (plainW u (evN u w) x l (zE S)) (zi E 68 [.ptr 0 0 0,zD x,ints l] (stR u S none T)):=by
 have hra:=rarray_spec u x.name [] hU.sz.arrs;obtain⟨args,outs,prs,k12,k3,k4,k5,k6,k7,k8,k9,-,-,-,-,-,-,-⟩:=ho;simp[encUnt]at hra;unfold plainW sumR;by_cases e3:x.kind=3
 ·rw[if_pos e3];obtain⟨a,ha⟩:=len1 (hl.trans (k3 e3).1);have hone:=rone_specC x.op a [];subst ha;replace e3:=eqp e3;refine⟨oneC x.op a,zb rfl rfl rfl (by simp[za,ints]) ?_,fun z e=>by cases e;rfl⟩;clear args outs prs k12 k3 k4 k5 k6 k7 k8 k9 hk hl hL hU;simp[*,F68,za,ints]
 rw[if_neg e3];replace e3:=eqn e3;by_cases e4:x.kind=4
 ·rw[if_pos e4];obtain⟨a,b,ha⟩:=len2 (hl.trans (k4 e4).1);subst ha;have htwo:=rtwo_specC x.op a b [];have e0:atA [a,b] 0=a:=rfl;have e1:atA [a,b] 1=b:=rfl;rw[e0,e1];replace e4:=eqp e4;by_cases hz:(twoC x.op a b).2=true
  ·rw[if_pos hz];refine⟨(twoC x.op a b).1,zb rfl rfl rfl (by simp[za,ints]) ?_,fun z e=>by cases e;rfl⟩;clear args outs prs k12 k3 k4 k5 k6 k7 k8 k9 hk hl hL hU;simp[*,F68,za,ints]
  ·rw[if_neg hz];simp only[Bool.not_eq_true]at hz;refine⟨(twoC x.op a b).1,zb rfl rfl rfl (by simp[za,ints]) ?_,fun z e=>by cases e⟩;clear args outs prs k12 k3 k4 k5 k6 k7 k8 k9 hk hl hL hU;simp[*,F68,za,ints]
 rw[if_neg e4];replace e4:=eqn e4;by_cases e5:x.kind=5
 ·rw[if_pos e5];obtain⟨a0,a1,a2⟩:=k5 e5;obtain⟨a,ha⟩:=len1 (hl.trans a1);subst ha;have e0:atA [a] 0=a:=rfl;rw[e0];obtain⟨i,row,b1,b2,b3,b4⟩:=rarr_at hS.cost a0;have hc:=rcell_spec (T:=T) a b3 b4;have hr:=stR_row (T:=T) (u:=u) (h:=none) b3;rw[b1]at hra;unfold cellAt;rw[b1];simp only[yNa,b3,Option.bind_some];replace e5:=eqp e5;by_cases hx:0<=a/\a<row.length
  ·rw[if_pos hx]at hc;have hn:¬a<0:=by omega
   have hlt:a.toNat<row.length:=by omega
   have hx0:=hx.1;rw[if_neg hn];obtain⟨y,hy⟩:∃y,row[a.toNat]? =some y:=⟨_,ye hlt⟩
   rw[hy];refine⟨y,zb rfl rfl rfl (by simp[za,ints]) ?_,fun z e=>by cases e;rfl⟩;clear args outs prs k12 k3 k4 k5 k6 k7 k8 k9 hk hl hL hU hx hn b1 b2 b3 a0 a1 a2;simp[*,F68,za,ints,-getElem?_pos,yr]
  ·rw[if_neg hx]at hc;have hnone:(if a<0 then none else row[a.toNat]?)=none:=by
    split
    ·rfl
    ·rw[yY];omega
   rw[hnone];refine⟨0,zb rfl rfl rfl (by simp[za,ints]) ?_,fun z e=>by cases e⟩;clear args outs prs k12 k3 k4 k5 k6 k7 k8 k9 hk hl hL hU hx hnone b1 b2 b3 a0 a1 a2;simp[*,F68,za,ints]
 rw[if_neg e5];replace e5:=eqn e5;by_cases e6:x.kind=6
 ·rw[if_pos e6];obtain⟨a0,a1,a2⟩:=k6 e6;obtain⟨a,b,ha⟩:=len2 (hl.trans a1);subst ha;have e0:atA [a,b] 0=a:=rfl;have e1:atA [a,b] 1=b:=rfl;rw[e0,e1];obtain⟨i,row,b1,b2,b3,b4⟩:=rarr_at hS.cost a0;have hc:=rcell_spec (T:=T) a b3 b4;have hr:=stR_row (T:=T) (u:=u) (h:=none) b3;rw[b1]at hra;unfold putAt;rw[b1];simp only[yNa,b3,Option.bind_some];replace e6:=eqp e6;by_cases hx:0<=a/\a<row.length
  ·rw[if_pos hx]at hc;have hn:¬a<0:=by omega
   have hlt:a.toNat<row.length:=by omega
   have hx0:=hx.1;rw[if_neg hn,if_pos hlt];obtain⟨y,hy⟩:∃y,row[a.toNat]? =some y:=⟨_,ye hlt⟩
   have hput:=rput_row (T:=T) (u:=u) (h:=none) b3 a.toNat b;refine⟨0,zb rfl rfl rfl (by simp[za,ints]) ?_,fun z e=>by cases e⟩;clear args outs prs k12 k3 k4 k5 k6 k7 k8 k9 hk hl hL hU hx hn b1 b2 b3 a0 a1 a2;simp[*,F68,za,ints,-getElem?_pos,yr]
  ·rw[if_neg hx]at hc;have hnone:(if a<0 then none else if a.toNat<row.length then some {zE S with arrs:=(zE S).arrs.set i (row.set a.toNat b)}else none:Option RS)=none:=by
    split
    ·rfl
    ·rw[if_neg (by omega)]
   rw[hnone];refine⟨0,zb rfl rfl rfl (by simp[za,ints]) ?_,fun z e=>by cases e⟩;clear args outs prs k12 k3 k4 k5 k6 k7 k8 k9 hk hl hL hU hx hnone b1 b2 b3 a0 a1 a2;simp[*,F68,za,ints]
 rw[if_neg e6];replace e6:=eqn e6;by_cases e7:x.kind=7
 ·rw[if_pos e7];obtain⟨g,a0,a1,a2,a3⟩:=k7 e7;rw[a0];simp only;have hgm:g∈u.flows:=yB a0;have hlg:l.length<=g.types.length:=by rw[hl,a2];simp[pars];omega
  obtain⟨z,hcall,hz⟩:=rcall_of hU hL a0 (l:=l) (T:=T) hS.cost hw hlg;have hpl:=zvb u x.name [] hU.sz.flows;have hpn:(((zQ u.flows x.name).toNat:Nat):Int)=zQ u.flows x.name:=Int.toNat_of_nonneg a1;rw[hpn]at hcall;simp[encUnt]at hpl;generalize zqc (evN u w) g l (zE S)=q at*;obtain⟨y,S1⟩:=q;simp only at hcall hz;replace e7:=eqp e7;cases y with
  |stop k=>
   refine⟨z,zb rfl rfl rfl (by simp[za,ints]) ?_,fun z e=>by cases e⟩;simp[ints]at hcall;clear args outs prs k12 k3 k4 k5 k6 k7 k8 k9 hk hl hL hU a0 a1 a2 a3 hz;simp[*,F68,za,ints]
  |ok y=>
   have hz:=hz y rfl;subst hz;refine⟨z,zb rfl rfl rfl (by simp[za,ints]) ?_,fun z e=>by cases e;rfl⟩;simp[ints]at hcall;clear args outs prs k12 k3 k4 k5 k6 k7 k8 k9 hk hl hL hU a0 a1 a2 a3;simp[*,F68,za,ints]
 rw[if_neg e7];replace e7:=eqn e7;by_cases e8:x.kind=8
 ·rw[if_pos e8];have e9:(x.kind=9)=False:=eqn (by omega);replace e8:=eqp e8;have hic:(zE S).inp=S.inp:=rfl;rw[hic];have hsc:=setR_cost' u S T;have hco:(zE S).inp=S.inp:=rfl;cases hi:S.inp with
  |nil=>
   rw[hi]at hsc hco;simp only[yAa]at hsc;have hs4:=setR_4 u (zE S) T;rw[hco]at hs4;simp only[ints,yAa]at hs4;refine⟨0,zb rfl rfl rfl (by simp[za,ints]) ?_,fun z e=>by cases e⟩;clear args outs prs k12 k3 k4 k5 k6 k7 k8 k9 hk hl hL hU;simp[*,F68,za,ints]
  |cons n r=>
   rw[hi]at hsc hco;simp only[yu]at hsc;have hne:¬((r.length:Int)+1=0):=by omega
   have ht:List.take r.length (r.map (PV.int .i64))=r.map (PV.int .i64):=by rw[yea];simp
   refine⟨n,zb rfl rfl rfl (by simp[za,ints]) ?_,fun z e=>by cases e;rfl⟩;clear args outs prs k12 k3 k4 k5 k6 k7 k8 k9 hk hl hL hU;simp[*,F68,za,ints]
 rw[if_neg e8];replace e8:=eqn e8;by_cases e9:x.kind=9
 ·rw[if_pos e9];obtain⟨a1,a2⟩:=k9 e9;obtain⟨a,ha⟩:=len1 (hl.trans a1);subst ha;have e0:atA [a] 0=a:=rfl;rw[e0];have hso:=setR_out (u:=u) (S:=zE S) (T:=T) (S.out++[a]);have hroom:(S.out.length+1)*8<=zJ:=by have:=hS.2;simp only[zJ];omega
  have hr4:∀X,((stR u (zE S) none T).set 0 X)[0]? =some X:=by
   intro X;rw[yg (by rw[stR_len hS.cost];unfold nbR;omega)]
  have hao:acc 1 ((S.out++[a]).map (PV.int .i64))= .slice .own 1 (S.out.map (PV.int .i64)++[.int .i64 a]):=by
   rw[acc_ne (by simp)];simp
  have hio:isOwn (acc 1 (S.out.map (PV.int .i64)++[.int .i64 a]))=some (1,S.out.map (PV.int .i64)++[.int .i64 a]):=by
   rw[acc_ne (by simp)];rfl
  rw[hao]at hso;simp only[ints]at hso;have hco:(zE S).out=S.out:=rfl;replace e9:=eqp e9;refine⟨0,zb rfl rfl rfl (by simp[za,ints]) ?_,fun z e=>by cases e⟩;clear args outs prs k12 k3 k4 k5 k6 k7 k8 k9 hk hl hL hU hao;simp[*,F68,za,ints]
 exact absurd hk (by simp only[eq_iff_iff,iff_false]at e3 e4 e5 e6 e7 e8;omega)
set_option maxHeartbeats 4000000 in
theorem rloop_of{u:Unt}(hU:OkU u){w:Nat}(hL:SpecR u w){m:Nat}{p:Pl}{x:Node}(ho:okN u m p x)(hk:x.kind=11){v:List Int}{S:RS}{T:List (List Int)}{j:Nat}(hS:FitS u S)(hwt:wtN x<capE)
  (hj:T[j]? =some v) (hv:v.length=m) (hw:S.fuel<=w) {l:List Int} (hl:l.length=x.params.length):
  ∃y:Wy,zi E 67 [.ptr 0 0 0,zD x,.mslice (nbR u+j) 0 m 1,ints l] (stR u S none T)=some (.ret (encW y),stR u (zwb (evN u w) x (w+1) l v S).2.2 (goH (zwb (evN u w) x (w+1) l v S).1) (T.set j (zwb (evN u w) x (w+1) l v S).2.1))∧
   ∀r,(zwb (evN u w) x (w+1) l v S).1= .ok r->y=r:=by
 have hws:=zEa x;have hjl:=(yb.1 hj).1;rw[okN_eq]at ho;obtain⟨o1,o2⟩:=ho;have hkid:=kids_one (o1.k11 hk).2;have hp:plIn p x.kind x.outs x.params=⟨none,some x.params.length,some x.outs.length⟩:=by rw[hk];rfl
 rw[hp]at o2;have hmem:kid0 x∈x.kids:=by rw[hkid];simp
 obtain⟨h1,h2⟩:=okK_mem o2 _ hmem;have hwk:=wt_kid hmem;unfold capE at hwt;have ou:=o1.outs;have op:=o1.prs;have hset1:∀l1 v1 S1,FitS u S1->v1.length=m->l1.length=x.params.length->zi E 66 [.mslice (nbR u+j) 0 m 1,ints x.params,ints l1] (stR u S1 none (T.set j v1))=some (.ret (.tup []),stR u S1 none (T.set j (setW v1 x.params l1))):=by
  intro l1 v1 S1 q1 q2 q3;have:=rset_spec (j:=j) (h:=none) (T:=T.set j v1) q1 (yg hjl) q2 op q3.symm (by omega);rwa[yja]at this
 have hset2:∀l1 v1 S1,FitS u S1->v1.length=m->l1.length=x.outs.length->zi E 66 [.mslice (nbR u+j) 0 m 1,ints x.outs,ints l1] (stR u S1 none (T.set j v1))=some (.ret (.tup []),stR u S1 none (T.set j (setW v1 x.outs l1))):=by
  intro l1 v1 S1 q1 q2 q3;have:=rset_spec (j:=j) (h:=none) (T:=T.set j v1) q1 (yg hjl) q2 ou q3.symm (by omega);rwa[yja]at this
 have hlist:∀v1 S1,FitS u S1->S1.fuel<=w->v1.length=m->∃y:Wy,zi E 44 [.ptr 0 0 0,zk (kid0 x),.mslice (nbR u+j) 0 m 1] (stR u S1 none (T.set j v1))=some (.ret (encW y),stR u (zka (evN u w) (kid0 x) v1 S1).2.2 (goH (zka (evN u w) (kid0 x) v1 S1).1) (T.set j (zka (evN u w) (kid0 x) v1 S1).2.1))/\∀r,(zka (evN u w) (kid0 x) v1 S1).1= .ok r->y=r:=by
  intro v1 S1 q1 q2 q3;have:=hL m _ _ v1 S1 (T.set j v1) j q1 q2 h1 h2 (by unfold capE;omega) (yg hjl) q3;rwa[yja]at this
 have hrun:∀v1 S1,v1.length=m->ListRun m ⟨none,some x.params.length,some x.outs.length⟩ (kid0 x) S1 (zka (evN u w) (kid0 x) v1 S1):=fun v1 S1 q=>zFb (zQb hU w) _ v1 S1 h1 h2 q
 have hself:=zSb hj;suffices H:PC (zi E 67 [.ptr 0 0 0,zD x,.mslice (nbR u+j) 0 m 1,ints l] (stR u S none T)) (fun res st=>∃y:Wy,res= .ret (encW y)/\st=stR u (zwb (evN u w) x (w+1) l v S).2.2 (goH (zwb (evN u w) x (w+1) l v S).1) (T.set j (zwb (evN u w) x (w+1) l v S).2.1)/\∀r,(zwb (evN u w) x (w+1) l v S).1= .ok r->y=r) by
  obtain⟨r,st,e,y,rfl,rfl,h⟩:=PC_iff.1 H;exact⟨y,e,h⟩
 refine pcall_wpP rfl rfl rfl (by simp[za,ints]) ?_;clear hL hU o1 o2 hp hmem h1 h2 hwk hws ou op hj;simp[F67,za,ints];refine wp_while K67_0 B67_0 (fun c:RSt=>c.S.fuel) (fun c=>[(3,ints c.l)]) (fun c=>[(8,.cells [.int .i64 0,.slice .fit 1 []])]) (fun c=>stR u c.S none (T.set j c.v))
  (fun c=>zwb (evN u w) x (w+1) l v S=zwb (evN u w) x c.k c.l c.v c.S/\FitS u c.S/\c.S.fuel<=w/\c.S.fuel<c.k/\c.v.length=m/\c.l.length=x.params.length) ⟨w+1,l,v,S⟩ ?_ ?_
 ·simp[*,ints];omega
 ·rintro⟨k,l1,v1,S1⟩ s1 ⟨d2,d3,d4,d5,d6,d7⟩ g1 g2 g3 g4 g5
  simp at d2 d3 d4 d5 d6 d7 g1 g2 g3 g4 g5;rw[d2];cases k with
  |zero=>omega
  |succ k=>
   have hs1:=hset1 l1 v1 S1 d3 d6 d7;have hvl:(setW v1 x.params l1).length=m:=by rw[zEb];exact d6
   obtain⟨y,hc,hy⟩:=hlist (setW v1 x.params l1) S1 d3 d4 hvl;obtain⟨r1,r2,r3⟩:=hrun (setW v1 x.params l1) S1 hvl;simp only[zwb];simp only[zwb]at d2;generalize zka (evN u w) (kid0 x) (setW v1 x.params l1) S1=q at*;obtain⟨a,v2,S2⟩:=q;simp only at r1 r2 r3 hc d2 hy;have hS2:=d3.mono r1;have hset2:=fun z hz=>hset2 z v2 S2 hS2 r2 hz
   have hov:=zqa u S2 (goH a) (T.set j v2);clear hlist hrun hset1;simp[ints]at hs1;simp[encW,zk,ints]at hc;cases a with
   |stop q=>
    simp at hov hc;have hfin:∃y':Wy,encW y=encW y':=⟨y,rfl⟩
    simp[encW,ints]at hfin;clear d2 hset2 r3 d7 hy;simp[*,za,kids,zk,ints,encW]
   |ok r=>
    obtain⟨r4,r5,_⟩:=r3 r rfl;have hyr:=hy r rfl;subst hyr;clear r3 hy;simp at hov hc;simp only at d2 ⊢;by_cases h15:y.kind=15
    ·rw[if_pos h15];have hfin:∃y':Wy,((15:Int)=y'.kind/\y.l.map (PV.int .i64)=y'.l.map (PV.int .i64))/\y'=y:=⟨y,⟨h15.symm,rfl⟩,rfl⟩
     rw[h15]at hc;clear d2 hset2 d7 r5;simp[*,za,kids,zk,ints,encW]
    ·by_cases h14:y.kind=14
     ·rw[if_neg h15,if_pos h14];have hyl:y.l.length=x.outs.length:=by
       rcases r5 with r5|r5|r5|r5
       ·omega
       ·omega
       ·have:=r5.2;simp at this;exact this.symm
       ·omega
      have hs2:=hset2 y.l hyl;simp[ints]at hs2;rw[h14]at hc;clear d2 hset2 r5 d7 hyl;simp[*,za,kids,zk,ints,encW]
     ·rw[if_neg h15,if_neg h14];rw[if_neg h15,if_neg h14]at d2;have hyl:y.l.length=x.params.length:=by
       rcases r5 with r5|r5|r5|r5
       ·cases r5.2
       ·have:=r5.2;simp at this;exact this.symm
       ·omega
       ·omega
      have h13:y.kind=13:=by
       rcases r5 with r5|r5|r5|r5
       ·cases r5.2
       ·exact r5.1
       ·omega
       ·omega
      rw[h13]at hc;have hfu:S2.fuel<S1.fuel:=r4;have hm:FitS u S2/\S2.fuel<=w/\S2.fuel<k:=⟨hS2,by omega,by omega⟩
      clear hset2 r5 d7 h15 h14 h13;simp[*,za,kids,zk,ints];refine⟨⟨k,y.l,v2,S2⟩,?_⟩;simp[*,ints]
theorem evN_zero(u:Unt)(w:Nat)(x:Node)(v:List Int)(S:RS)(h:S.fuel=0):evN u w x v S=(.stop 0,v,S):=by
 cases w with
 |zero=>rfl
 |succ w=>simp only[evN,h]
set_option maxHeartbeats 8000000 in
theorem rlist_of{u:Unt}(hU:OkU u){w:Nat}(hL:∀w',w=w'+1->SpecR u w'):SpecR u w:=by
 intro m p l v S T j hS hf hne ho hw hj hv;have hlen:=zdd l;have hjl:=(yb.1 hj).1;have hE:=zQb hU w;have hself:=zSb hj;suffices H:PC (zi E 44 [.ptr 0 0 0,zk l,.mslice (nbR u+j) 0 m 1] (stR u S none T)) (fun res st=>∃y:Wy,res= .ret (encW y)/\st=stR u (zka (evN u w) l v S).2.2 (goH (zka (evN u w) l v S).1) (T.set j (zka (evN u w) l v S).2.1)/\∀r,(zka (evN u w) l v S).1= .ok r->y=r) by
  obtain⟨r,st,e,y,rfl,rfl,h⟩:=PC_iff.1 H;exact⟨y,e,h⟩
 unfold capE at hw;refine pcall_wpP rfl rfl rfl (by simp[zk]) ?_;simp[F44,zk];refine wp_while K44_0 B44_0 (fun c:LSt=>c.rest.length) (fun c=>[(7,.int .i64 ((l.length-c.rest.length:Nat):Int))]) (fun c=>[(6,.cells [.int .i64 0,.slice .fit 1 []])]) (fun c=>stR u c.S none (T.set j c.v))
  (fun c=>(∃d,l=d++c.rest)/\zka (evN u w) l v S=zka (evN u w) c.rest c.v c.S/\FitS u c.S/\c.S.fuel<=w/\c.v.length=m/\okL u m p c.rest/\c.rest≠ []) ⟨l,v,S⟩ ?_ ?_
 ·simp[*]
 ·rintro⟨rest,v1,S1⟩ s1 ⟨⟨d,d1⟩,d2,d3,d4,d5,d6,d7⟩ g1 g2 g3 g4 g5
  simp at d1 d2 d3 d4 d5 d6 d7 g1 g2 g3 g4 g5;rw[d2];cases rest with
  |nil=>exact absurd rfl d7
  |cons x rest=>
   have hdl:l.length-(rest.length+1)=d.length:=by rw[d1];simp
   have hdl2:l.length-rest.length=d.length+1:=by rw[d1];simp;omega
   have hx:l[d.length]? =some x:=by rw[d1];simp
   have hlt:(d.length:Int)<l.length:=by rw[d1];simp;omega
   have hwx:wtN x<capE:=by have:=wt_mem (show x∈l by rw[d1];simp);unfold capE;omega
   have hws:=zEa x;rw[okL]at d6;obtain⟨o0,oc,or⟩:=d6;have hwr:zR .i64 ((d.length:Int)+1)=(d.length:Int)+1:=zr (by omega) (by omega);have hdd:∃d',l=d'++rest:=⟨d++[x],by rw[d1];simp⟩
   have hnode:=hE m p x v1 S1 o0 d5;have hstep:=rstep_spec u S1 (T.set j v1) (by have:=d3.2;omega);simp only[zka];simp only[zka]at d2;cases hfu:S1.fuel with
   |zero=>
    rw[hfu]at hstep;rw[evN_zero u w x v1 S1 hfu]at d2 ⊢;simp only at hstep;clear hL hE hS hf ho hj hv hself d3 d4 d5 d7 o0 oc or hnode d2 hws hwx d1;simp[*,za,ints,encW];exact⟨⟨0,[]⟩,rfl,rfl⟩
   |succ k=>
    obtain⟨w',rfl⟩:∃w',w=w'+1:=⟨w-1,by omega⟩
    have hL:=hL w' rfl;rw[hfu]at hstep;simp only at hstep;obtain⟨n1,n2,n3⟩:=hnode;simp only[evN,hfu]at d2 n1 n2 n3 ⊢;have hS0:FitS u {S1 with fuel:=k}:=⟨d3.1,by have:=d3.2;simp only;omega⟩
    have hf0:({S1 with fuel:=k}:RS).fuel<=w':=by simp only;omega
    have hlt0:({S1 with fuel:=k}:RS).out.length+({S1 with fuel:=k}:RS).fuel<1000000000000:=by have:=d3.2;simp only;omega
    have hcur:(T.set j v1)[j]? =some v1:=yg hjl;have ho':=o0;rw[okN_eq]at ho';obtain⟨o1,o2⟩:=ho';unfold capE at hwx;have hof:=vof_spec (u:=u) (h:=none) hS0 hcur d5 o1.args (by omega);have hol:=zgc v1 x.args;have hlo:=fun(h:x.kind=11)=>rloop_of hU hL o0 h hS0 (by unfold capE;omega) hcur d5 hf0 (l:=ofW v1 x.args) (by rw[hol];exact(o1.k11 h).1)
    have hsm:=fun(h:3<=x.kind/\x.kind<=9)=>rsum_of hU hL o1 h (T:=T.set j v1) hS0 hf0 hlt0 hol
    have hset1:∀o z S2 h,FitS u S2->x.outs=[o]->inR m [o]->(stR u S2 h (T.set j v1)).set (nbR u+j) (.arr 1 ((v1.map (PV.int .i64)).set o.toNat (.int .i64 z)))=stR u S2 h (T.set j (setW v1 x.outs [z])):=by
     intro o z S2 h q1 q2 q3;have:=stR_set (u:=u) (S:=S2) (h:=h) (T:=T.set j v1) q1 j (v1.set o.toNat z);rw[yja,yT]at this;rw[this,q2];rfl
    have hgt1:∀S2 h,FitS u S2->(stR u S2 h (T.set j v1))[nbR u+j]? =some (.arr 1 (v1.map (PV.int .i64))):=fun S2 h q=>stR_get q hcur
    have hin1:∀o,x.outs=[o]->0<=o/\o.toNat<m/\∃y,v1[o.toNat]? =some y:=by
     intro o q;have:=o1.outs o (by rw[q];simp);exact⟨this.1,by omega,_,ye (by omega)⟩
    have hcont:∀r v2 S2,(nodeW u (evN u w') w' x v1 {S1 with fuel:=k})=(.ok r,v2,S2)->r.kind=0->FitS u S2/\S2.fuel<=w'+1/\v2.length=m/\rest≠ []:=by
     intro r v2 S2 e hr0;rw[e]at n1 n2 n3;obtain⟨m1,m2⟩:=n3 _ rfl;refine⟨d3.mono n1,by have:=n1.fuel;simp only at this;omega,n2,?_⟩
     rintro rfl
     rcases m2 with m2|m2
     ·rw[m2.2]at oc;cases oc
     ·exact m2.1.ne hr0
    have hov0:=zqa u {S1 with fuel:=k} none (T.set j v1);have hch:x.kind=10->∃a,ofW v1 x.args=[a]:=fun h=>len1 (by rw[hol];exact(o1.k10 h).1)
    clear hE n1 n2 n3 hself hS hf ho hj hv d7 hlen d1;generalize hSS:({S1 with fuel:=k}:RS)=S0 at*;generalize hoo:ofW v1 x.args=la at*;unfold nodeW at d2 hcont ⊢;rw[hoo]at d2 hcont ⊢;simp[ints]at hof hov0;have hkk:=o1.k;have e0:(x.kind=0)=False:=eqn (by omega);by_cases k1:x.kind=1\/x.kind=2
    ·rw[if_pos k1]at d2 hcont ⊢;obtain⟨o,hou⟩:=len1 (o1.k12 k1);obtain⟨i1,i2,y,i3⟩:=hin1 o hou;have f1:=hset1 o x.n S0 none hS0 hou (by rw[<-hou];exact o1.outs);have f2:=hgt1 S0 none hS0;obtain⟨c1,c2,c3,c4⟩:=hcont _ _ _ rfl rfl;have hov1:=zqa u S0 none (T.set j (setW v1 x.outs [x.n]));simp at hov1;clear hcont hch hlo hsm hset1 hgt1 hin1 hL o0 o1 o2 oc hkk d3 d4 hS0 hf0 hlt0 hcur hol hSS hfu;rcases k1 with k1|k1
     ·replace k1:=eqp k1;rw[hou]at hov1 f1 c3;simp[*,za,ints,encW,-getElem?_pos,yr];refine⟨⟨rest,setW v1 x.outs [x.n],S0⟩,?_⟩;simp[*]
     ·have k0:(x.kind=1)=False:=eqn (by omega);replace k1:=eqp k1;rw[hou]at hov1 f1 c3;simp[*,za,ints,encW,-getElem?_pos,yr];refine⟨⟨rest,setW v1 x.outs [x.n],S0⟩,?_⟩;simp[*]
    rw[if_neg k1]at d2 hcont ⊢;have e1:(x.kind=1)=False:=eqn (by omega);have e2:(x.kind=2)=False:=eqn (by omega);clear k1;by_cases kE:12<=x.kind/\x.kind<=15
    ·rw[if_pos kE]at d2 hcont ⊢;have h4:x.kind=12\/x.kind=13\/x.kind=14\/x.kind=15:=by omega
     clear hcont hch hlo hsm hset1 hgt1 hin1 hL o0 o1 o2 oc hkk d2 d3 d4 hS0 hf0 hlt0 hcur hol hSS hfu kE;have hfin:∃y:Wy,(x.kind=y.kind/\la.map (PV.int .i64)=y.l.map (PV.int .i64))/\y=⟨x.kind,la⟩:=⟨_,⟨rfl,rfl⟩,rfl⟩
     rcases h4 with h4|h4|h4|h4
     ·simp[*,za,ints,encW]
     ·simp[*,za,ints,encW]
     ·simp[*,za,ints,encW]
     ·simp[*,za,ints,encW]
    rw[if_neg kE]at d2 hcont ⊢;have e12:(x.kind=12)=False:=eqn (by omega);have e13:(x.kind=13)=False:=eqn (by omega);have e14:(x.kind=14)=False:=eqn (by omega);have e15:(x.kind=15)=False:=eqn (by omega);clear kE;by_cases k10:x.kind=10
    ·rw[if_pos k10]at d2 hcont ⊢;obtain⟨a,ha⟩:=hch k10;subst ha;have a0:atA [a] 0=a:=rfl;rw[a0]at d2 hcont ⊢;have hkid:=kids_two (o1.k10 k10).2;have hp:plIn p x.kind x.outs x.params={p with y:=some x.outs.length}:=by rw[k10];rfl
     rw[hp]at o2;have hmem:(if a=0 then kid1 x else kid0 x)∈x.kids:=by rw[hkid];split<;>simp
     obtain⟨h1,h2⟩:=okK_mem o2 _ hmem;have hwk:=wt_kid hmem;obtain⟨y,hc,hy⟩:=hL m _ _ v1 S0 (T.set j v1) j hS0 hf0 h1 h2 (by unfold capE;omega) hcur d5;rw[yja]at hc;obtain⟨r1,r2,r3⟩:=zFb (zQb hU w') _ v1 S0 h1 h2 d5;have hif:(a=0)=True/\(if a=0 then kid1 x else kid0 x)=kid1 x\/(a=0)=False/\(if a=0 then kid1 x else kid0 x)=kid0 x:=by
      by_cases h:a=0<;>simp[h]
     unfold znc at d2 hcont ⊢;have hou:=o1.outs;have holn:x.outs.length<1099511627776:=by omega
     generalize(if a=0 then kid1 x else kid0 x)=kl at*;generalize zka (evN u w') kl v1 S0=q at*;obtain⟨b,v2,S2⟩:=q;simp only at r1 r2 r3 hc hy d2 hcont ⊢;have hS2:=hS0.mono r1;have hov1:=zqa u S2 (goH b) (T.set j v2);simp[zk,encW,ints]at hc;clear hch hlo hsm hset1 hgt1 hin1 hL o0 o1 o2 oc hkk d3 d4 hS0 hf0 hlt0 hcur hol hSS hfu hwk hmem h1 h2 hp r1;replace k10:=eqp k10;cases b with
     |stop q=>
      simp at hov1 hc;clear hcont d2 r3 hy r2;rcases hif with⟨hc0,hl⟩|⟨hc0,hl⟩<;>subst hl<;>(simp[*,za,kids,zk,ints,encW];exact⟨y,⟨rfl,rfl⟩⟩)
     |ok r=>
      have hyr:=hy r rfl;subst hyr;obtain⟨_,r4,_⟩:=r3 y rfl;simp at hov1 hc;simp only at d2 hcont ⊢;clear hy r3;by_cases hk:y.kind=12
      ·rw[if_pos hk]at d2 hcont ⊢;have hyl:x.outs.length=y.l.length:=by
        rcases r4 with r4|r4|r4|r4
        ·have:=r4.2;simp at this;exact this
        ·omega
        ·omega
        ·omega
       have hset:=rset_spec (j:=j) (h:=none) (T:=T.set j v2) hS2 (yg hjl) r2 hou hyl holn;rw[yja]at hset;simp[ints]at hset;obtain⟨c1,c2,c3,c4⟩:=hcont _ _ _ rfl rfl;have hov2:=zqa u S2 none (T.set j (setW v2 x.outs y.l));simp at hov2;replace hk:=eqp hk;clear hcont r4 hyl holn hou r2;rcases hif with⟨hc0,hl⟩|⟨hc0,hl⟩<;>subst hl<;>(simp[*,za,kids,zk,ints,encW];refine⟨⟨rest,setW v2 x.outs y.l,S2⟩,?_⟩;simp[*])
      ·rw[if_neg hk]at d2 hcont ⊢;have hk0:(y.kind=0)=False:=eqn r4.ne;replace hk:=eqn hk;clear hcont r4 holn hou r2 d2;rcases hif with⟨hc0,hl⟩|⟨hc0,hl⟩<;>subst hl<;>(simp[*,za,kids,zk,ints,encW])
    rw[if_neg k10]at d2 hcont ⊢;by_cases k11:x.kind=11
    ·rw[if_pos k11]at d2 hcont ⊢;obtain⟨y,hc,hy⟩:=hlo k11;rw[yja]at hc;have hlk:=(loopW_ok (zQb hU w') o0 k11 (w'+1) (l:=la) (v:=v1) (by rw[hol];exact(o1.k11 k11).1) d5 S0).2.2;generalize zwb (evN u w') x (w'+1) la v1 S0=q at*;obtain⟨b,v2,S2⟩:=q;simp only at hc hy hlk;have hov1:=zqa u S2 (goH b) (T.set j v2);simp[za,encW,ints]at hc;clear hch hlo hsm hset1 hgt1 hin1 hL o0 o1 o2 oc hkk d3 d4 hS0 hf0 hlt0 hcur hol hSS hfu;replace k10:=eqn k10;replace k11:=eqp k11;cases b with
     |stop q=>
      simp at hov1 hc;clear hcont d2 hy hlk;simp[*,za,zk,ints,encW];exact⟨y,⟨rfl,rfl⟩⟩
     |ok r=>
      have hyr:=hy r rfl;subst hyr;simp at hov1 hc;simp only at d2 hcont ⊢;clear hy;by_cases hk:y.kind=0
      ·rw[if_pos hk]at d2 ⊢;obtain⟨c1,c2,c3,c4⟩:=hcont _ _ _ rfl hk;clear hcont hlk;rw[hk]at hc;clear hk;simp[*,za,zk,ints,encW];refine⟨⟨rest,v2,S2⟩,?_⟩;simp[*]
      ·rw[if_neg hk]at d2 ⊢;replace hk:=eqn hk;clear hcont d2 hlk;simp[*,za,zk,ints,encW]
    rw[if_neg k11]at d2 hcont ⊢;have h39:3<=x.kind/\x.kind<=9:=by
     have a1:=of_eq_false e1;have a2:=of_eq_false e2;have a3:=of_eq_false e12;have a4:=of_eq_false e13;have a5:=of_eq_false e14;have a6:=of_eq_false e15;omega
    obtain⟨z,hc,hz⟩:=hsm h39;have hpm:=plainW_ok (zQb hU w') hU o1 h39 hol (zE S0);have hou:=o1.outs;have hol1:x.outs.length<=1:=by
     have q:=o1.k3;have q4:=o1.k4;have q5:=o1.k5;have q6:=o1.k6;have q8:=o1.k8;have q9:=o1.k9;rcases(show x.kind=3\/x.kind=4\/x.kind=5\/x.kind=6\/x.kind=7\/x.kind=8\/x.kind=9 from by omega)with e|e|e|e|e|e|e
     ·have:=(q e).2;omega
     ·have:=(q4 e).2;omega
     ·have:=(q5 e).2.2;omega
     ·have:=(q6 e).2.2;omega
     ·obtain⟨_,_,_,_,t⟩:=o1.k7 e;omega
     ·have:=q8 e;omega
     ·have:=(q9 e).2;omega
    have hfs:=fun S2 (h:Mono1 (zE S0) S2)=>(⟨h.arrs.trans hS0.1,by have:=h.out;have:=hlt0;simp only[zE]at*;omega⟩:FitS u S2)
    generalize plainW u (evN u w') x la (zE S0)=q at*;obtain⟨b,S2⟩:=q;simp only at hc hz hpm;have hS2:=hfs S2 hpm.1;have hov1:=zqa u S2 (goH b) (T.set j v1);simp[za,ints]at hc;replace k10:=eqn k10;replace k11:=eqn k11;clear hch hlo hsm hL o0 o2 oc hkk d3 d4 hf0 hlt0 hcur hol hSS hfu hfs;cases b with
    |stop q=>
     simp at hov1 hc;clear hcont d2 hz hpm o1 hset1 hgt1 hin1 hou;simp[*,za,zk,ints,encW];exact⟨⟨0,[]⟩,⟨rfl,rfl⟩⟩
    |ok r=>
     simp at hov1 hc;simp only at d2 hcont ⊢;obtain⟨c1,c2,c3,c4⟩:=hcont _ _ _ rfl rfl;have hrl:=hpm.2 r rfl;clear hcont hpm
     match hx1:x.outs with
     | []=>
      rw[hx1]at hrl c3 d2;have hr0:r=[]:=yC hrl;subst hr0;clear hz o1 hset1 hgt1 hin1 hou hol1 hrl;simp only[setW]at d2 c3;rw[hx1]at hc;simp only[yAa]at hc;simp[*,za,zk,ints,encW,setW];refine⟨⟨rest,v1,S2⟩,?_⟩;simp[*]
     | [o]=>
      rw[hx1]at hrl;obtain⟨mm,hmm⟩:=len1 hrl;subst hmm;have hzz:=hz mm rfl;subst hzz;obtain⟨i1,i2,y,i3⟩:=hin1 o hx1;have f1:=hset1 o z S2 none hS2 hx1 (by rw[<-hx1];exact hou);have f2:=hgt1 S2 none hS2;have hov2:=zqa u S2 none (T.set j (setW v1 x.outs [z]));simp at hov2;rw[hx1]at hov2 f1 c3 d2 hc;simp only[yu,yAa]at hc;clear hz o1 hset1 hgt1 hin1 hou hol1 hrl;simp[*,za,zk,ints,encW,-getElem?_pos,yr];refine⟨⟨rest,setW v1 [o] [z],S2⟩,?_⟩;simp[*]
     |_::_::_=>rw[hx1]at hol1;simp at hol1
theorem rspecs{u:Unt}(hU:OkU u):∀w,SpecR u w
 |0=>rlist_of hU (fun w' h=>by cases h)
 |w+1=>rlist_of hU (fun w' h=>by cases h;exact rspecs hU w)
theorem rptrs_snoc(x:Arr):∀(d:List Arr) (b:Nat),zKa b (d++[x])=zKa b d++[.mslice (b+d.length) 0 x.size.toNat 1]
 | [],b=>by simp[zKa]
 |y::d,b=>by
  simp only[List.cons_append,zKa,rptrs_snoc x d,yP];rw[show b+1+d.length=b+(d.length+1)from by omega]
set_option maxHeartbeats 4000000 in
theorem refplay_spec(u:Unt)(hz:USz u)(hb:∀f∈u.flows,wtL f.body<1099511000000)(inp:List Int)(fu:Int)(hf:fu<=100000000000):zi E 13 [encUnt u,ints inp,.int .i64 fu] []=some (.ret (encRn (playM u inp fu)),[]):=by
 have hck:=rcheck_spec u hz hb;rw[<-check_eq]at hck;refine zb rfl rfl rfl (by simp[encUnt,ints]) ?_;unfold playM;by_cases h0:(ztb u).1=0
 ·rw[if_pos h0];have hU:=checkM_ok hz h0;have hS0:FitS u (run0 u inp fu):=by
   refine⟨?_,?_⟩
   ·simp[run0,List.map_map,yx]
   ·simp[run0];omega
  obtain⟨f,hf',hfm,hp',hfp⟩:=hU.main;have hpl:=zvb u zI [] hz.flows;have hpn:(((zQ u.flows zI).toNat:Nat):Int)=zQ u.flows zI:=Int.toNat_of_nonneg hp';obtain⟨z,hc,hzz⟩:=rcall_of hU (rspecs hU (run0 u inp fu).fuel) hf' (l:=[]) (T:=[]) hS0 (yk _) (by simp);rw[hpn]at hc;have hm:=(callW_ok (zQb hU (run0 u inp fu).fuel) (hU.body f hfm) (l:=[]) (by simp) (run0 u inp fu)).1;have hmw:mainW u (run0 u inp fu)=zqc (evN u (run0 u inp fu).fuel) f [] (run0 u inp fu):=by unfold mainW;rw[hf']
  rw[hmw];clear hmw;generalize zqc (evN u (run0 u inp fu).fuel) f [] (run0 u inp fu)=q at*;obtain⟨a,S1⟩:=q;simp only at hc hm hzz;have hS1:=hS0.mono hm;have hov:=zqa u S1 (goH a) [];have hr4:∀h X,((stR u S1 h []).set 0 X)[0]? =some X:=by
   intro h X;rw[yg (by rw[stR_len hS1];unfold nbR;omega)]
  have hmx:(if fu<0 then 0 else fu)=max fu 0:=by split<;>omega
  generalize ztb u=ck at*;obtain⟨c0,c1⟩:=ck;simp only at h0;subst h0;simp[encUnt,arrs]at hck;simp[encUnt,arrs,zI]at hpl;simp only[zI]at hc;unfold stR at hc;simp[runR,run0,zya,arrs,ints]at hc;simp[*,F13,encUnt,arrs,ints];refine zy u.arrays K13_0 B13_0 (fun d=>[(10,.int .i64 d.length)]) (fun d=> .arr 10 [.agg [.slice .plain 2 (u.arrays.map zz),flows u.flows,.slice .plain 1 (inp.map (PV.int .i64)),acc 1 (zKa 1 d),.int .i64 0,.int .i64 0,.slice .fit 1 [],.int .i64 0,.int .i64 (max fu 0),.bool false]]::d.map (fun x=>intO (yf x.size.toNat 0))) (fun d=>True) (by have:=hz.arrs;omega) (by simp[zKa]) ?_ ?_
  ·intros d x r s1 hl' hlt hget hget' hwr hp g1 g2 g3 g4;simp at g1 g3;have hsz:=hU.arrs x hl'.mem;have hsn:=rptrs_snoc x d 1;rw[show 1+d.length=d.length+1 from by omega]at hsn;have hdec:decide (d.length<u.arrays.length)=true:=decide_eq_true hlt;have hs1:(x.size<0)=False:=eqn (by omega);have hs2:(0<=x.size)=True:=eqp (by omega);have hs3:(x.size<=9223372036854775807)=True:=eqp (by omega);have hs4:(8*x.size<=281474976710656)=True:=eqp (by omega);have hrow:Obj.arr 1 (yf x.size.toNat (PV.int .i64 0))=intO (yf x.size.toNat 0):=by simp[intO]
   have hroom:((zKa 1 d).length+1)*24<=zJ:=by
    rw[rptrs_len];have:=hz.arrs;simp only[zJ];omega
   have hao:acc 1 (zKa 1 d++[.mslice (d.length+1) 0 x.size.toNat 1])= .slice .own 1 (zKa 1 d++[.mslice (d.length+1) 0 x.size.toNat 1]):=acc_ne (by simp);have hio:isOwn (acc 1 (zKa 1 d++[.mslice (d.length+1) 0 x.size.toNat 1]))=some (1,zKa 1 d++[.mslice (d.length+1) 0 x.size.toNat 1]):=by
    rw[acc_ne (by simp)];rfl
   clear hl' hget' hlt hp hsz hU hS0 hm hr4 hck hS1 hc hov hpl hzz hf' hfm hp' hfp hpn;simp[*,zz]
   try rw[hao]
  ·intros s1 hp g1 g2 g3 g4;simp at g1 g3;have hdec:(u.arrays.map (fun x=>intO (yf x.size.toNat 0)))=List.map (intO ∘ fun a=>yf a.size.toNat 0) u.arrays:=rfl;rw[hdec]at g4;clear hdec hU hS0 hp hck hm hS1 hf' hfm hp' hfp hpn;cases a with
   |stop k=>
    simp at hc;simp[stR,runR,zya,arrs,ints]at hov;clear hzz;simp[*,encRn,runEnd,ints]
   |ok n=>
    replace hzz:=hzz n rfl;subst hzz;simp at hc;simp[stR,runR,zya,arrs,ints]at hov;simp[*,encRn,runEnd,ints]
 ·rw[if_neg h0];generalize ztb u=ck at*;obtain⟨c0,c1⟩:=ck;simp only at h0;simp[encUnt]at hck;replace h0:=eqn h0;simp[*,F13,encUnt,encRn,ints]
mutual
def wgN:Node->Nat
 |⟨_,_,_,s,a,u,p,ks⟩=>a.length+u.length+p.length+s.length+wgK ks
def wgS:List Node->Nat
 | []=>0
 |x::r=>wgN x+wgS r
def wgK:List (List Node)->Nat
 | []=>0
 |l::r=>1+(l.length+wgS l)+wgK r
end
theorem wgN_eq(x:Node):wgN x=x.args.length+x.outs.length+x.params.length+x.name.length+wgK x.kids:=by cases x;rfl
theorem wgS_append(a b:List Node):wgS (a++b)=wgS a+wgS b:=by
 induction a with
 |nil=>simp[wgS]
 |cons x r ih=>simp[wgS,ih];omega
theorem wgK_append(a b:List (List Node)):wgK (a++b)=wgK a+wgK b:=by
 induction a with
 |nil=>simp[wgK]
 |cons x r ih=>simp[wgK,ih];omega
mutual
theorem wgN_le:∀x:Node,wgN x<=wtN x
 |⟨_,_,_,s,a,u,p,ks⟩=>by have:=wgK_le ks;simp only[wgN,wtN];omega
theorem wgS_le:∀l:List Node,l.length+wgS l<=wtL l
 | []=>by simp[wgS,wtL]
 |x::r=>by have h1:=wgN_le x;have h2:=wgS_le r;simp only[wgS,wtL,yP];omega
theorem wgK_le:∀l:List (List Node),wgK l<=wtK l
 | []=>by simp[wgK,wtK]
 |x::r=>by have h1:=wgS_le x;have h2:=wgK_le r;simp only[wgK,wtK];omega
end
theorem split_wgS{l d:List Node}{x:Node}{r:List Node}(h:Split l d x r):wgS l=wgS d+wgN x+wgS r:=by
 have:=h.eq;subst this;simp[wgS_append,PE.U.wgS];omega
theorem split_wgK{l d:List (List Node)}{x:List Node}{r:List (List Node)}(h:Split l d x r):PE.U.wgK l=PE.U.wgK d+(1+(x.length+PE.U.wgS x))+PE.U.wgK r:=by
 have:=h.eq;subst this;simp[wgK_append,PE.U.wgK];omega
theorem wnodes_spec:∀(N:Nat) (l:List Node) (σ:zc),wtL l<=N->N<1099511627776->zi E 20 [zk l] σ=some (.ret (.int .i64 ((l.length:Int)+(wgS l:Int))),σ):=by
 intro N
 induction N using Nat.strongRecOn with
 |ind N ih=>
  intro l σ hl hN;refine zb rfl rfl rfl (by simp) ?_;have hll:=zdd l;have hgl:=wgS_le l;simp[F20,zk];refine zy l K20_1 B20_1 (fun d=>[(3,.int .i64 ((l.length:Int)+(wgS d:Int))),(4,.int .i64 d.length)]) (fun _=>σ) (fun d=>True) (by omega) (by simp[wgS]) ?_ ?_
  ·intros d x r s hl' hlt hget hget' hw hp h1 h2 h3 h4;simp at h1 h3;clear h2;have hx:=hl'.mem;have hs:=split_wgS hl';have hwx:=wt_mem hx;have hne:=wgN_eq x;have hxk:=zEa x;have hlk:=len_wtK x.kids;have hgk:=wgK_le x.kids;have w1:zR .i64 ((l.length:Int)+(wgS d:Int)+(x.args.length:Int))=(l.length:Int)+(wgS d:Int)+(x.args.length:Int):=zr (by omega) (by omega);have w2:zR .i64 ((l.length:Int)+(wgS d:Int)+(x.args.length:Int)+(x.outs.length:Int))=(l.length:Int)+(wgS d:Int)+(x.args.length:Int)+(x.outs.length:Int):=zr (by omega) (by omega);have w3:zR .i64 ((l.length:Int)+(wgS d:Int)+(x.args.length:Int)+(x.outs.length:Int)+(x.params.length:Int))=(l.length:Int)+(wgS d:Int)+(x.args.length:Int)+(x.outs.length:Int)+(x.params.length:Int):=zr (by omega) (by omega);have w4:zR .i64 ((l.length:Int)+(wgS d:Int)+(x.args.length:Int)+(x.outs.length:Int)+(x.params.length:Int)+(x.name.length:Int))=(l.length:Int)+(wgS d:Int)+(x.args.length:Int)+(x.outs.length:Int)+(x.params.length:Int)+(x.name.length:Int):=zr (by omega) (by omega);have hk:∀q∈x.kids,zi E 20 [zk q] []=some (.ret (.int .i64 ((q.length:Int)+(wgS q:Int))),[]):=fun q hq=>ih (wtL q) (by have:=wt_kid hq;omega) q [] (yk _) (by have:=wt_kid hq;omega)
   have he:(wgS (d++[x]):Int)=(wgS d:Int)+(x.args.length:Int)+(x.outs.length:Int)+(x.params.length:Int)+(x.name.length:Int)+(wgK x.kids:Int):=by rw[wgS_append];simp only[wgS];omega
   have hb:(l.length:Int)+(wgS d:Int)+(x.args.length:Int)+(x.outs.length:Int)+(x.params.length:Int)+(x.name.length:Int)+(wgK x.kids:Int)<9000000000000:=by omega
   have hkl:x.kids.length<1099511627776:=by omega
   clear hs hwx hne hxk hgk hgl;simp[*,za,ints,kids];generalize hA:(l.length:Int)+(wgS d:Int)+(x.args.length:Int)+(x.outs.length:Int)+(x.params.length:Int)+(x.name.length:Int)=A at*;have hA0:0<=A:=by omega
   clear w1 w2 w3 w4;refine zy x.kids K20_0 B20_0 (fun d=>[(3,.int .i64 (A+(wgK d:Int))),(5,.int .i64 d.length)]) (fun _=>σ) (fun d=>True) (by omega) (by simp[wgK]) ?_ ?_
   ·intros e y r' s' hl2 hlt2 hget2 hget2' hw2 hp' k1 k2 k3 k4;simp at k1 k3;clear k2;have hy:=hl2.mem;have hsk:=split_wgK hl2;have hv:=hk y hy;have v1:zR .i64 (A+(wgK e:Int)+1)=A+(wgK e:Int)+1:=zr (by omega) (by omega);have v2:zR .i64 (A+(wgK e:Int)+1+((y.length:Int)+(wgS y:Int)))=A+(wgK e:Int)+1+((y.length:Int)+(wgS y:Int)):=zr (by omega) (by omega);have hf:(wgK (e++[y]):Int)=(wgK e:Int)+1+((y.length:Int)+(wgS y:Int)):=by rw[wgK_append];simp only[wgK];omega
    clear hsk hb hA0 hl2 hk he;simp[zk]at hv
    (simp[*,zk,kids,za])<;>(repeat' (first|((first|refine sP _ ?_ ?_|refine gP _ ?_ ?_|refine sN _ ?_ ?_|refine gN _ ?_ ?_)<;>intro hc<;>(first|replace hc:=eqn hc|replace hc:=eqp hc)<;>simp[*,zk,kids,za])|((first|refine sM _ ?_ ?_|refine gM _ ?_ ?_|refine sB _ ?_ ?_|refine gB _ ?_ ?_)<;>intro hc<;>simp[*,zk,kids,za])))
    all_goals omega
   ·intros s' hp' k1 k2 k3 k4;simp at k1 k3;clear k2
    (simp[*,zk,kids,za])<;>(repeat' (first|((first|refine sP _ ?_ ?_|refine gP _ ?_ ?_|refine sN _ ?_ ?_|refine gN _ ?_ ?_)<;>intro hc<;>(first|replace hc:=eqn hc|replace hc:=eqp hc)<;>simp[*,zk,kids,za])|((first|refine sM _ ?_ ?_|refine gM _ ?_ ?_|refine sB _ ?_ ?_|refine gB _ ?_ ?_)<;>intro hc<;>simp[*,zk,kids,za])))
    all_goals omega
  ·intros s hp h1 h2 h3 h4;simp at h1 h3
   (simp[*,zk])<;>(repeat' (first|((first|refine sP _ ?_ ?_|refine gP _ ?_ ?_|refine sN _ ?_ ?_|refine gN _ ?_ ?_)<;>intro hc<;>(first|replace hc:=eqn hc|replace hc:=eqp hc)<;>simp[*,zk])|((first|refine sM _ ?_ ?_|refine gM _ ?_ ?_|refine sB _ ?_ ?_|refine gB _ ?_ ?_)<;>intro hc<;>simp[*,zk])))
def wgF:List Flow->Nat
 | []=>0
 |f::r=>f.name.length+f.types.length+(f.body.length+wgS f.body)+wgF r
def wgA:List Arr->Nat
 | []=>0
 |a::r=>a.name.length+wgA r
theorem wgF_append(a b:List Flow):wgF (a++b)=wgF a+wgF b:=by
 induction a with
 |nil=>simp[wgF]
 |cons x r ih=>simp[wgF,ih];omega
theorem wgA_append(a b:List Arr):wgA (a++b)=wgA a+wgA b:=by
 induction a with
 |nil=>simp[wgA]
 |cons x r ih=>simp[wgA,ih];omega
def weightM(u:Unt):Nat:=u.arrays.length+u.flows.length+wgA u.arrays+wgF u.flows
theorem weight_spec(u:Unt)(h:weightM u<1099511627776)(hb:∀f∈u.flows,wtL f.body<1099511627776):zi E 8 [encUnt u] []=some (.ret (.int .i64 (weightM u)),[]):=by
 refine zb rfl rfl rfl (by simp[encUnt]) ?_;unfold weightM at h ⊢;have w0:zR .i64 ((u.arrays.length:Int)+(u.flows.length:Int))=(u.arrays.length:Int)+(u.flows.length:Int):=zr (by omega) (by omega);simp[F8,encUnt,arrs,flows,w0];generalize hA:(u.arrays.length:Int)+(u.flows.length:Int)=A at*;have hA0:0<=A:=by omega
 have hA1:A+(wgA u.arrays:Int)+(wgF u.flows:Int)<1099511627776:=by omega
 refine zy u.arrays K8_0 B8_0 (fun d=>[(3,.int .i64 (A+(wgA d:Int))),(4,.int .i64 d.length)]) (fun _=>[]) (fun d=>True) (by omega) (by simp[wgA]) ?_ ?_
 ·intros d x r s hl' hlt hget hget' hw hp h1 h2 h3 h4;simp at h1 h3;have hs:wgA u.arrays=wgA d+x.name.length+wgA r:=by rw[hl'.eq,wgA_append];simp only[wgA];omega
  have v1:zR .i64 (A+(wgA d:Int)+(x.name.length:Int))=A+(wgA d:Int)+(x.name.length:Int):=zr (by omega) (by omega);have hf:(wgA (d++[x]):Int)=(wgA d:Int)+(x.name.length:Int):=by rw[wgA_append];simp only[wgA];omega
  clear hs hA hA0 hA1 h
  (simp[*,zz,arrs,encUnt,flows])<;>(repeat' (first|((first|refine sP _ ?_ ?_|refine gP _ ?_ ?_|refine sN _ ?_ ?_|refine gN _ ?_ ?_)<;>intro hc<;>(first|replace hc:=eqn hc|replace hc:=eqp hc)<;>simp[*,zz,arrs,encUnt,flows])|((first|refine sM _ ?_ ?_|refine gM _ ?_ ?_|refine sB _ ?_ ?_|refine gB _ ?_ ?_)<;>intro hc<;>simp[*,zz,arrs,encUnt,flows])))
  all_goals omega
 ·intros s hp h1 h2 h3 h4;simp at h1 h3
  (simp[*,zz,arrs,encUnt,flows])<;>(repeat' (first|((first|refine sP _ ?_ ?_|refine gP _ ?_ ?_|refine sN _ ?_ ?_|refine gN _ ?_ ?_)<;>intro hc<;>(first|replace hc:=eqn hc|replace hc:=eqp hc)<;>simp[*,zz,arrs,encUnt,flows])|((first|refine sM _ ?_ ?_|refine gM _ ?_ ?_|refine sB _ ?_ ?_|refine gB _ ?_ ?_)<;>intro hc<;>simp[*,zz,arrs,encUnt,flows])))
  refine zy u.flows K8_1 B8_1 (fun d=>[(3,.int .i64 (A+(wgA u.arrays:Int)+(wgF d:Int))),(5,.int .i64 d.length)]) (fun _=>[]) (fun d=>True) (by omega) (by simp[wgF]) ?_ ?_
  ·intros d x r s hl' hlt hget hget' hw hp h1 h2 h3 h4;simp at h1 h3;have hs:wgF u.flows=wgF d+(x.name.length+x.types.length+(x.body.length+wgS x.body))+wgF r:=by rw[hl'.eq,wgF_append];simp only[wgF];omega
   have v1:zR .i64 (A+(wgA u.arrays:Int)+(wgF d:Int)+(x.name.length:Int))=A+(wgA u.arrays:Int)+(wgF d:Int)+(x.name.length:Int):=zr (by omega) (by omega);have v2:zR .i64 (A+(wgA u.arrays:Int)+(wgF d:Int)+(x.name.length:Int)+(x.types.length:Int))=A+(wgA u.arrays:Int)+(wgF d:Int)+(x.name.length:Int)+(x.types.length:Int):=zr (by omega) (by omega);have v3:zR .i64 (A+(wgA u.arrays:Int)+(wgF d:Int)+(x.name.length:Int)+(x.types.length:Int)+((x.body.length:Int)+(wgS x.body:Int)))=A+(wgA u.arrays:Int)+(wgF d:Int)+(x.name.length:Int)+(x.types.length:Int)+((x.body.length:Int)+(wgS x.body:Int)):=zr (by omega) (by omega);have hf:(wgF (d++[x]):Int)=(wgF d:Int)+(x.name.length:Int)+(x.types.length:Int)+((x.body.length:Int)+(wgS x.body:Int)):=by rw[wgF_append];simp only[wgF];omega
   have hv:=wnodes_spec (wtL x.body) x.body [] (yk _) (hb x hl'.mem);simp[zk]at hv;clear hs hA hA0 hA1 h
   (simp[*,ze,zk,ints,arrs,encUnt,flows])<;>(repeat' (first|((first|refine sP _ ?_ ?_|refine gP _ ?_ ?_|refine sN _ ?_ ?_|refine gN _ ?_ ?_)<;>intro hc<;>(first|replace hc:=eqn hc|replace hc:=eqp hc)<;>simp[*,ze,zk,ints,arrs,encUnt,flows])|((first|refine sM _ ?_ ?_|refine gM _ ?_ ?_|refine sB _ ?_ ?_|refine gB _ ?_ ?_)<;>intro hc<;>simp[*,ze,zk,ints,arrs,encUnt,flows])))
   all_goals omega
  ·intros s hp h1 h2 h3 h4;simp at h1 h3
   (simp[*,zz,arrs,encUnt,flows])<;>(repeat' (first|((first|refine sP _ ?_ ?_|refine gP _ ?_ ?_|refine sN _ ?_ ?_|refine gN _ ?_ ?_)<;>intro hc<;>(first|replace hc:=eqn hc|replace hc:=eqp hc)<;>simp[*,zz,arrs,encUnt,flows])|((first|refine sM _ ?_ ?_|refine gM _ ?_ ?_|refine sB _ ?_ ?_|refine gB _ ?_ ?_)<;>intro hc<;>simp[*,zz,arrs,encUnt,flows])))
   all_goals omega
theorem playAny_spec(u:Unt)(hz:USz u)(hb:∀f∈u.flows,wtL f.body<1099511000000)(hw:weightM u<1099511627776)(inp:List Int)(hi:inp.length<=9223372036854775807)(fu:Int):
  zi E 3 [encUnt u,ints inp,.int .i64 fu] []=some (.ret (.bool true),[]):=by
 refine zb rfl rfl rfl (by simp[encUnt,ints]) ?_;have ha:=awake10_spec;have hwt:=weight_spec u hw (fun f hf=>by have:=hb f hf;omega);have hin:=ins_spec inp hi;simp[encUnt]at hwt;by_cases c1:(1000:Int)<weightM u
 ·have c1':=eqp c1;clear hw hi hz hb
  (simp[*,F3,encUnt,ints])<;>(repeat' (first|((first|refine sP _ ?_ ?_|refine gP _ ?_ ?_|refine sN _ ?_ ?_|refine gN _ ?_ ?_)<;>intro hc<;>(first|replace hc:=eqn hc|replace hc:=eqp hc)<;>simp[*,F3,encUnt,ints])|((first|refine sM _ ?_ ?_|refine gM _ ?_ ?_|refine sB _ ?_ ?_|refine gB _ ?_ ?_)<;>intro hc<;>simp[*,F3,encUnt,ints])))
 by_cases c2:300<fu
 ·have c1':=eqn c1;have c2':=eqp c2;clear hw hi hz hb
  (simp[*,F3,encUnt,ints])<;>(repeat' (first|((first|refine sP _ ?_ ?_|refine gP _ ?_ ?_|refine sN _ ?_ ?_|refine gN _ ?_ ?_)<;>intro hc<;>(first|replace hc:=eqn hc|replace hc:=eqp hc)<;>simp[*,F3,encUnt,ints])|((first|refine sM _ ?_ ?_|refine gM _ ?_ ?_|refine sB _ ?_ ?_|refine gB _ ?_ ?_)<;>intro hc<;>simp[*,F3,encUnt,ints])))
 have hp:=playrun_spec u hz (inp.take 10) fu (by omega);have hq:=refplay_spec u hz hb (inp.take 10) fu (by omega);have ho:=playM_out u (inp.take 10) fu (by omega) hz;have hs:=sameR_spec (playM u (inp.take 10) fu) (playM u (inp.take 10) fu) ho ho;rw[sameRn_self]at hs;have c1':=eqn c1;have c2':=eqn c2;generalize playM u (inp.take 10) fu=r at*;generalize inp.take 10=z at*;generalize weightM u=wu at*;clear ho hz hb hw hi c1 c2;simp[encUnt,ints,encRn]at hin hp hq hs
 (simp[*,F3,encUnt,ints])<;>(repeat' (first|((first|refine sP _ ?_ ?_|refine gP _ ?_ ?_|refine sN _ ?_ ?_|refine gN _ ?_ ?_)<;>intro hc<;>(first|replace hc:=eqn hc|replace hc:=eqp hc)<;>simp[*,F3,encUnt,ints])|((first|refine sM _ ?_ ?_|refine gM _ ?_ ?_|refine sB _ ?_ ?_|refine gB _ ?_ ?_)<;>intro hc<;>simp[*,F3,encUnt,ints])))
end PE.U

namespace PE
open Go Go.RowKit
def Kept(w w':World):Prop:=w.keptBut w' (fun _=>False)/\∀k,k<w.heap.size->w'.heap[k]? =w.heap[k]?
theorem Kept.frame{w w':World}(h:Kept w w')(X:MemPlace->Prop):w.keptBut w' X:=World.keptBut_mono (fun p hp=>hp.elim) h.1
theorem kept_of_ext{w w':World}{G':Gh}{st':zc}(h:Ext (gh0 w) [] w G' st' w'):Kept w w':=
 ⟨by
  refine⟨h.os,h.output,fun i hi=>?_⟩;have hb:=(h.prot i (by simp[gh0,hi])).2.2;rw[hb];cases w.heap[i]? with
  |none=>rfl
  |some o=>cases o<;>first|exact⟨rfl,rfl,rfl,fun _ _=>rfl⟩|exact .inr ⟨rfl,rfl⟩|rfl,fun k hk=>(h.prot k (by simp[gh0,hk])).2.2⟩
theorem Kept.same{W w':World}(h:Kept W w'){p:MemPlace}(hp:p.block<W.heap.size):W.sameAt w' p:=by
 cases p with
 |cell b o=>exact World.cell?_of_block (w:=W) (h.2 b hp)
 |map b=>exact h.2 b hp
theorem Kept.trod{H:Type}{enc:TypeId×Value->H}{P:Program}{t:TypeId}(hl:laidOutB P=true)(hr:P.readableRec t=true)(hrow:t<P.types.size){W W':World}{v:Value}{d:DataW H}{ps:List MemPlace}
  (h:DataW.Trod enc P W 0 (fun _=>true) true t v d ps) (hb:Kept W W') (hlt:∀x∈ps,x.block<W.heap.size):
  DataW.Trod enc P W' 0 (fun b=>decide (b<W.heap.size)) true t v d ps:=
 WideElems.Trod_stays hl hr hrow h (fun x hx=>hb.same (hlt x hx)) (fun x hx=>by simpa using hlt x hx)
theorem walk_kept{P:Program}{T:Tabs}{E:Env}(hE:EnvOk P T E){f:Nat}{args:List PV}{margs:Array Value}{w:World}{st':zc}(hT:T.In (gh0 w) w)
  (h:zi E f args []=some (.ret (.bool true),st')) (hsz:margs.size=args.length)
  (hv:∀(j:Nat) c x,args[j]? =some c->margs[j]? =some x->VR ((gh0 w).im w) (fun _=>none) c x):
  Calls P f margs w fun e w'=>e= .returned (.bool true)/\Kept w w':=by
 obtain⟨n,hn⟩:=zHb.1 h;have hloc:zg (gh0 w).lc []=fun _=>none:=by funext l;simp[zg]
 refine((callF_good hE n _ _ _ _ _ hn (gh0 w) w margs rfl hT (gh0_sim w) hsz (by rw[hloc];exact hv)).2).mono ?_;intro e w' he;cases e with
 |returned mv=>
  obtain⟨G',q1,q2,q3⟩:=he;exact⟨by rw[VR.bool_inv q3],kept_of_ext q2⟩
 |panicked ch=>exact he.elim
 |outgrown=>exact he.elim
def IsRow(k:IntKind)(w:World)(a:Option Addr)(len cap:Nat)(zs:List Int):Prop:=
 (a=none/\len=0/\cap=0/\zs=[])∨
 ∃x,a=some x/\len<=cap/\cap<=maxLen/\zs.length=cap/\(∀i,i<zs.length->w.cell? (x.add i)=some (.int k (zs.getD i 0)))/\∀n∈zs,(Lit.int k n).wf=true
theorem row_vr{k:IntKind}{w:World}{a:Option Addr}{len cap:Nat}{zs:List Int}(h:IsRow k w a len cap zs):VR ((gh0 w).im w) (fun _=>none) (.slice .plain 1 ((zs.take len).map (PV.int k))) (.slice a len cap):=by
 rcases h with⟨rfl,rfl,rfl,rfl⟩|⟨x,rfl,hl,hm,hz,hcell,hwz⟩
 ·exact .slice0 _ _ _ _ (by simp) (by simp)
 ·by_cases h0:len=0
  ·subst h0;exact .slice0 _ _ _ _ (by simp) (by simp)
  ·obtain⟨b,off,spot⟩:=x;have hc:=hcell 0 (by omega);have hspot:spot=none:=by simpa[Addr.add]using World.cell?_spot hc
   subst hspot;have hlen:((zs.take len).map (PV.int k)).length=len:=by simp;omega
   have hget:∀(i:Nat) e,((zs.take len).map (PV.int k))[i]? =some e->i<len/\e= .int k (zs.getD i 0):=by
    intro i e he;rw[yi,yc]at he;obtain⟨n,hn,rfl⟩:=he;rw[yz]at hn;split at hn
    ·rename_i hi;refine⟨hi,?_⟩;rw[List.getD_eq_getElem?_getD,hn];rfl
    ·cases hn
   have:=VR.slice (I:=(gh0 w).im w) (L:=fun _=>none) (k:= .plain) (sz:=1) (l:=(zs.take len).map (PV.int k)) (b:=b) (o:=off) (cap:=cap)
    (by simp) (by simp) (by rw[hlen];exact hl) (fun i _=> .int k (zs.getD i 0)) ?_ ?_ ?_
   ·rw[hlen]at this;exact this
   ·intro i e he;obtain⟨_,rfl⟩:=hget i e he;exact⟨rfl,rfl⟩
   ·intro i e j c he hc;obtain⟨hi,rfl⟩:=hget i e he;cases j with
    |zero=>
     refine⟨gh0_im ?_,rfl⟩;have:=hcell i (by omega);have e:(⟨b,off,none⟩:Addr).add i=⟨b,off+i*1+0,none⟩:=by
      unfold Addr.add;by_cases hi0:i=0<;>simp[hi0]
     rw[<-e];exact this
    |succ j=>simp[cellsOf]at hc
   ·intro i e j c he hc;obtain⟨hi,rfl⟩:=hget i e he;cases j with
    |zero=>simp[cellsOf]at hc;subst hc;exact .int _ _
    |succ j=>simp[cellsOf]at hc
theorem row_len{k:IntKind}{w:World}{a:Option Addr}{len cap:Nat}{zs:List Int}(h:IsRow k w a len cap zs):(zs.take len).length<=maxLen:=by
 rcases h with⟨rfl,rfl,rfl,rfl⟩|⟨x,rfl,hl,hm,hz,hcell,hwz⟩
 ·simp
 ·rw[List.length_take];omega
def bytesOf(zs:List Int):List UInt8:=zs.map fun n=>yBa n.toNat
theorem row_u8{w:World}{a:Option Addr}{len cap:Nat}{zs:List Int}(h:IsRow .u8 w a len cap zs):VR ((gh0 w).im w) (fun _=>none) (.slice .plain 1 ((bytesOf (zs.take len)).map fun b=> .int .u8 b.toNat)) (.slice a len cap):=by
 have hv:=row_vr h;have:(bytesOf (zs.take len)).map (fun b=>PV.int .u8 b.toNat)=(zs.take len).map (PV.int .u8):=by
  unfold bytesOf;rw[List.map_map];apply List.map_congr_left;intro n hn;have hwf:(Lit.int .u8 n).wf=true:=by
   rcases h with⟨rfl,rfl,rfl,rfl⟩|⟨x,rfl,hl,hm,hz,hcell,hwz⟩
   ·simp at hn
   ·exact hwz n (List.mem_of_mem_take hn)
  have hb:0<=n/\n<=255:=by
   simp only[Lit.wf,ya,decide_eq_true_eq]at hwf;exact hwf
  simp only[Function.comp_apply,PV.int.injEq,true_and];have:(yBa n.toNat).toNat=n.toNat:=by
   rw[UInt8.toNat_ofNat'];omega
  omega
 rw[this];exact hv
theorem bytes_len{w:World}{a:Option Addr}{len cap:Nat}{zs:List Int}(h:IsRow .u8 w a len cap zs):(bytesOf (zs.take len)).length<=maxLen:=by
 unfold bytesOf;rw[yfa];exact row_len h
theorem str_vr(I:Im)(L:Loc){b:ByteArray}:VR I L (.str b.data.toList) (.string b):=VR.str b.data.toList
theorem str_len{b:ByteArray}(h:b.size<=maxLen):b.data.toList.length<=maxLen:=by
 rw[Array.length_toList];exact h
theorem maxLen_eq:maxLen=9223372036854775807:=by decide
def packT(P:Program)(e:TypeId)(l:List PV):PV:=match P.underlying e with
 |some (.struct _)=> .agg l
 |_=>l.headD .undef
def CellsT(P:Program):Nat->TypeId->List PV->Prop
 |0,_,_=>False
 |n+1,t,l=>match P.underlying t with
  |some (.int k)=>∃z,l=[.int k z]/\(Lit.int k z).wf=true
  |some .bool=>∃b,l=[.bool b]
  |some .string=>∃s:List UInt8,l=[.str s]/\s.length<=maxLen
  |some (.struct fs)=>l.length=P.cellsOf t/\∀f∈fs.toList,CellsT P n f.type ((l.drop f.offset).take (P.cellsOf f.type))
  |some (.slice e)=>∃es:List (List PV),l=[.slice .plain (P.cellsOf e) (es.map (packT P e))]/\es.length<=maxLen/\∀c∈es,CellsT P n e c
  |_=>False
def layB(P:Program):List Field->Nat->Nat->Bool
 | [],o,total=>o==total
 |f::r,o,total=>f.offset==o&&layB P r (o+P.cellsOf f.type) total
def plainB(P:Program)(S:List TypeId):Bool:=S.all fun t=>match P.underlying t with
 |some (.int _)=>P.cellsOf t==1
 |some .bool=>P.cellsOf t==1
 |some .string=>P.cellsOf t==1
 |some (.struct fs)=>fs.toList.all (fun f=>S.contains f.type)&&layB P fs.toList 0 (P.cellsOf t)
 |some (.slice e)=>S.contains e&&decide (0<P.cellsOf e)&&(P.cellsOf t==1)
 |_=>false
def R1(w:World)(c:PV)(v:Value):Prop:=VR ((gh0 w).im w) (fun _=>none) c v/\zic c=true/\v.oneCell'=true
def Rs(w:World)(l:List PV)(cs:List Value):Prop:=l.length=cs.length/\∀(j:Nat) c v,l[j]? =some c->cs[j]? =some v->R1 w c v
theorem Rs.one{w:World}{c:PV}{v:Value}(h:R1 w c v):Rs w [c] [v]:=by
 refine⟨rfl,fun j c' v' hc hv=>?_⟩;cases j with
 |zero=>cases hc;cases hv;exact h
 |succ j=>simp at hc
theorem Rs.append{w:World}{l l':List PV}{cs cs':List Value}(h:Rs w l cs)(h':Rs w l' cs'):Rs w (l++l') (cs++cs'):=by
 refine⟨by simp[h.1,h'.1],fun j c v hc hv=>?_⟩;by_cases hj:j<l.length
 ·rw[yj hj]at hc;rw[yj (by rw[<-h.1];exact hj)]at hv;exact h.2 j c v hc hv
 ·rw[yn (by omega)]at hc;rw[yn (by rw[<-h.1];omega)]at hv;rw[<-h.1]at hv;exact h'.2 _ c v hc hv
theorem lay_join{P:Program}{w:World}{n:Nat}{cs:List Value}:∀(fs:List Field) (o total:Nat),layB P fs o total=true->total=cs.length→
  (∀f∈fs,∃l,Rs w l ((cs.drop f.offset).take (P.cellsOf f.type))/\CellsT P n f.type l)→
  ∃l,Rs w l (cs.drop o)/\∀f∈fs,o<=f.offset/\CellsT P n f.type ((l.drop (f.offset-o)).take (P.cellsOf f.type)):=by
 intro fs
 induction fs with
 |nil=>
  intro o total hl ht _;simp only[layB,beq_iff_eq]at hl;refine⟨[],⟨?_,fun j c v hc=>by simp at hc⟩,fun f hf=>by simp at hf⟩;simp;omega
 |cons f r ih=>
  intro o total hl ht hf;simp only[layB,ya,beq_iff_eq]at hl;obtain⟨ho,hl⟩:=hl;obtain⟨l1,h1,c1⟩:=hf f (by simp);obtain⟨l2,h2,c2⟩:=ih _ _ hl ht (fun g hg=>hf g (by simp[hg]));have hle:∀(fs:List Field) (o total:Nat),layB P fs o total=true->o<=total:=by
   intro fs
   induction fs with
   |nil=>intro o total h;simp only[layB,beq_iff_eq]at h;omega
   |cons g s ihs=>
    intro o total h;simp only[layB,ya,beq_iff_eq]at h;have:=ihs _ _ h.2;omega
  have hn:=hle _ _ _ hl;have hlen1:l1.length=P.cellsOf f.type:=by
   rw[h1.1,List.length_take,List.length_drop,ho];omega
  refine⟨l1++l2,?_,?_⟩
  ·have:cs.drop o=(cs.drop f.offset).take (P.cellsOf f.type)++cs.drop (o+P.cellsOf f.type):=by
    rw[ho,<-List.drop_drop,List.take_append_drop]
   rw[this];exact h1.append h2
  ·intro g hg;rcases yS.1 hg with rfl|hg
   ·refine⟨by omega,?_⟩;rw[ho,yHa,List.drop_zero,List.take_append_of_le_length (by omega),<-hlen1,yFa];exact c1
   ·obtain⟨h3,h4⟩:=c2 g hg;refine⟨by omega,?_⟩;have:(l1++l2).drop (g.offset-o)=l2.drop (g.offset-(o+P.cellsOf f.type)):=by
     rw[List.drop_append,List.drop_of_length_le (by omega),List.nil_append];congr 1;omega
    rw[this];exact h4
theorem cells_packed{P:Program}{n:Nat}{e:TypeId}{l:List PV}{w:World}{cs:List Value}(hr:Rs w l cs)(h:CellsT P n e l)(hsz:cs.length=P.cellsOf e):cellsOf (packT P e l)=l/\zo (packT P e l)=true:=by
 cases n with
 |zero=>exact h.elim
 |succ n=>
  unfold CellsT at h;unfold packT;split at h
  ·rename_i hu;rw[hu];obtain⟨z,rfl,_⟩:=h;exact⟨rfl,rfl⟩
  ·rename_i hu;rw[hu];obtain⟨z,rfl⟩:=h;exact⟨rfl,rfl⟩
  ·rename_i hu;rw[hu];obtain⟨z,rfl,_⟩:=h;exact⟨rfl,rfl⟩
  ·rename_i hu;rw[hu];exact⟨rfl,rfl⟩
  ·rename_i hu;rw[hu];obtain⟨z,rfl,_⟩:=h;exact⟨rfl,rfl⟩
  ·exact h.elim
theorem cells?_get{w:World}{a:Addr}{n:Nat}{cs:List Value}(h:w.cells? 0 a n=some cs):cs.length=n/\∀(j:Nat) v,cs[j]? =some v->w.cell? (a.add j)=some v:=by
 unfold World.cells? at h;rw[if_pos (Nat.zero_le _)]at h;have hl:=mapM_some_length h;rw[List.length_range]at hl;refine⟨hl,fun j v hv=>?_⟩;have hj:j<n:=by rw[<-hl];exact(yb.1 hv).1
 have:=mapM_some_get h j j (by rw[List.getElem?_range hj]);rw[this,hv]
theorem add_add(a:Addr)(ha:a.spot=none)(x:Nat):a.add x=⟨a.block,a.off+x,none⟩:=by
 obtain⟨b,o,s⟩:=a;simp only at ha;subst ha;unfold Addr.add;by_cases h:x=0<;>simp[h]
theorem read_cells{P:Program}{S:List TypeId}(hp:plainB P S=true){H:Type}{enc:TypeId×Value->H}{w:World}{sp:Nat->Bool}:∀(n:Nat) (t:TypeId) (cs:List Value) (x:DataW H×List MemPlace),t∈S→
  DataW.trod enc P w 0 sp true n t cs=some x->∃l,Rs w l cs/\CellsT P n t l/\cs.length=P.cellsOf t:=by
 intro n
 induction n with
 |zero=>intro t cs x _ h;simp[DataW.trod]at h
 |succ n ih=>
  intro t cs x ht h;have hp':=ym.1 hp t ht;split at hp'
  ·rename_i k hu;obtain⟨z,rfl,_,hw⟩:=DataW.trod_int hu h;simp only[beq_iff_eq]at hp';exact⟨[.int k z],Rs.one ⟨.int _ _,rfl,rfl⟩,by unfold CellsT;rw[hu];exact⟨z,rfl,hw⟩,by simp[hp']⟩
  ·rename_i hu;obtain⟨z,rfl,_⟩:=DataW.trod_bool hu h;simp only[beq_iff_eq]at hp';exact⟨[.bool z],Rs.one ⟨.bool _,rfl,rfl⟩,by unfold CellsT;rw[hu];exact⟨z,rfl⟩,by simp[hp']⟩
  ·rename_i hu;obtain⟨s,rfl,_,hm⟩:=DataW.trod_string hu h;simp only[beq_iff_eq]at hp';exact⟨[.str s.data.toList],Rs.one ⟨str_vr _ _,rfl,rfl⟩,by unfold CellsT;rw[hu];exact⟨_,rfl,str_len hm⟩,by simp[hp']⟩
  ·rename_i fs hu;simp only[ya,ym,List.contains_iff_mem]at hp';obtain⟨hS,hlay⟩:=hp';obtain⟨xs,m,hm,_,hlen,hxs,hget⟩:=DataW.trod_struct hu h;cases hm;obtain⟨l,hl,hc⟩:=lay_join (w:=w) (n:=n) (cs:=cs) fs.toList 0 _ hlay hlen.symm (by
    intro f hf;obtain⟨i,hi⟩:=List.getElem?_of_mem hf;have hi':fs[i]? =some f:=by simpa using hi
    have hg:=hget i f hi';have hlt:i<xs.length:=by rw[hxs];simpa using(yb.1 hi).1
    rw[ye hlt]at hg;obtain⟨l,h1,h2,_⟩:=ih _ _ _ (hS f hf) hg;exact⟨l,h1,h2⟩)
   rw[List.drop_zero]at hl;refine⟨l,hl,?_,hlen⟩;unfold CellsT;rw[hu];exact⟨by rw[hl.1,hlen],fun f hf=>by have:=(hc f hf).2;rwa[Nat.sub_zero]at this⟩
  ·rename_i e hu;simp only[ya,List.contains_iff_mem,decide_eq_true_eq,beq_iff_eq]at hp';obtain⟨⟨hS,hpos⟩,h1⟩:=hp';rcases DataW.trod_slice hu h with⟨rfl,_⟩|⟨a,len,cap,elems,rest,m,hm,rfl,_,_,hle,hcap,hel,hget,_,_⟩
   ·exact⟨[.slice .plain (P.cellsOf e) []],Rs.one ⟨.slice0 _ _ _ _ (by simp) (by simp),rfl,rfl⟩,by unfold CellsT;rw[hu];exact⟨[],rfl,by simp,by simp⟩,by simp[h1]⟩
   ·cases hm;have key:∀i,i<len->∃l:List PV,l.length=P.cellsOf e/\CellsT P n e l/\cellsOf (packT P e l)=l/\zo (packT P e l)=true/\∀(j:Nat) c,l[j]? =some c->∃v,w.cell? ((a.add (i*P.cellsOf e)).add j)=some v/\R1 w c v:=by
     intro i hi;have hg:=hget i hi;have hlt:i<elems.length:=by omega
     rw[ye hlt,yI]at hg;obtain⟨cs',h2,h3⟩:=hg;obtain⟨l,h4,h5,h6⟩:=ih _ _ _ hS h3;obtain⟨h7,h8⟩:=cells?_get h2;obtain⟨h9,h10⟩:=cells_packed h4 h5 h6;refine⟨l,by rw[h4.1,h6],h5,h9,h10,fun j c hc=>?_⟩;have hj:j<cs'.length:=by rw[<-h4.1];exact(yb.1 hc).1
     exact⟨cs'[j],h8 j _ (ye hj),h4.2 j c _ hc (ye hj)⟩
    let g:Nat->List PV:=fun i=>if hi:i<len then(key i hi).choose else[]
    have hg:∀i,i<len->(g i).length=P.cellsOf e/\CellsT P n e (g i)/\cellsOf (packT P e (g i))=g i/\zo (packT P e (g i))=true/\∀(j:Nat) c,(g i)[j]? =some c->∃v,w.cell? ((a.add (i*P.cellsOf e)).add j)=some v/\R1 w c v:=by
     intro i hi;have:=(key i hi).choose_spec;simp only[g,dif_pos hi];exact this
    have hel':∀(i:Nat) x,(((yO len).map g).map (packT P e))[i]? =some x->i<len/\x=packT P e (g i):=by
     intro i x hx;rw[List.map_map,yi,yc]at hx;obtain⟨k,hk,rfl⟩:=hx;obtain⟨hk1,hk2⟩:=yb.1 hk;rw[List.length_range]at hk1;rw[List.getElem_range]at hk2;subst hk2;exact⟨hk1,rfl⟩
    refine⟨[.slice .plain (P.cellsOf e) (((yO len).map g).map (packT P e))],Rs.one ⟨?_,rfl,rfl⟩,?_,by simp[h1]⟩
    ·by_cases h0:len=0
     ·subst h0;exact .slice0 _ _ _ _ (by simp) (by simp)
     ·obtain⟨q1,q2,q3,q4,q5⟩:=hg 0 (by omega);have hspot:a.spot=none:=by
       have hlt:0<(g 0).length:=by omega
       obtain⟨v,hv,_⟩:=q5 0 _ (ye hlt);have hsp:=World.cell?_spot hv;obtain⟨b,o,s⟩:=a;simpa[Addr.add]using hsp
      obtain⟨b,o,s⟩:=a;simp only at hspot;subst hspot;have hcell:∀(i:Nat) x (j:Nat) c,(((yO len).map g).map (packT P e))[i]? =some x->(cellsOf x)[j]? =some c->∃v,(gh0 w).im w b (o+i*P.cellsOf e+j)=some v/\R1 w c v:=by
       intro i x j c hx hc;obtain⟨hi,rfl⟩:=hel' i x hx;obtain⟨r1,r2,r3,r4,r5⟩:=hg i hi;rw[r3]at hc;obtain⟨v,hv,hr⟩:=r5 j c hc;refine⟨v,gh0_im ?_,hr⟩;rw[add_add ⟨b,o,none⟩ rfl,add_add ⟨b,o+i*P.cellsOf e,none⟩ rfl]at hv;exact hv
      have hlen:(((yO len).map g).map (packT P e)).length=len:=by simp
      have:=VR.slice (I:=(gh0 w).im w) (L:=fun _=>none) (k:= .plain) (sz:=P.cellsOf e) (l:=((yO len).map g).map (packT P e)) (b:=b) (o:=o) (cap:=cap)
       (by simp) (by simp) (by rw[hlen];exact hle) (fun i j=>((gh0 w).im w b (o+i*P.cellsOf e+j)).getD (.bool false)) ?_ ?_ ?_
      ·rw[hlen]at this;exact this
      ·intro i x hx;obtain⟨hi,rfl⟩:=hel' i x hx;obtain⟨r1,r2,r3,r4,r5⟩:=hg i hi;exact⟨by rw[r3,r1],r4⟩
      ·intro i x j c hx hc;obtain⟨v,hv,hr⟩:=hcell i x j c hx hc;simp only[hv,yU];exact⟨trivial,hr.2.2⟩
      ·intro i x j c hx hc;obtain⟨v,hv,hr⟩:=hcell i x j c hx hc;simp only[hv,yU];exact hr.1
    ·unfold CellsT;rw[hu];refine⟨(yO len).map g,rfl,by simp;omega,?_⟩;intro c hc;rw[ysa]at hc;obtain⟨i,hi,rfl⟩:=hc;exact(hg i (yqa.1 hi)).2.1
  ·cases hp'
theorem packT_struct{P:Program}{e:TypeId}{fs:Array Field}(hu:P.underlying e=some (.struct fs))(l:List PV):packT P e l= .agg l:=by
 unfold packT;rw[hu]
theorem le_max{n:Nat}(h:n<=maxLen):n<=9223372036854775807:=by rw[maxLen_eq]at h;exact h
theorem read_row{P:Program}{S:List TypeId}(hp:plainB P S=true){H:Type}{enc:TypeId×Value->H}{w:World}{sp:Nat->Bool}{t e:TypeId}(hu:P.underlying t=some (.slice e))(ht:t∈S){v:Value}{d:DataW H}{ps:List MemPlace}(h:DataW.Trod enc P w 0 sp true t v d ps){a:Option Addr}{len cap:Nat}(hv:v= .slice a len cap):
  ∃(n:Nat) (es:List (List PV)),VR ((gh0 w).im w) (fun _=>none) (.slice .plain (P.cellsOf e) (es.map (packT P e))) v/\es.length<=maxLen/\∀c∈es,CellsT P n e c:=by
 subst hv;obtain⟨n,hf⟩:=h;obtain⟨l,h1,h2,h3⟩:=read_cells hp n t _ _ ht hf;cases n with
 |zero=>exact h2.elim
 |succ n=>
  unfold CellsT at h2;rw[hu]at h2;obtain⟨es,rfl,hm,hc⟩:=h2;exact⟨n,es,(h1.2 0 _ _ rfl (by simp[Value.cells])).1,hm,hc⟩
end PE
