/-
  Texts joined by program: PfDefs, PfDraw, PfOrd, PfOrdO, PfSim, PfCheck, PfOpA, PfOpB, PfOpC, PfOpD, PfOpE, PfOpF, PfOpG.
-/
import Derived.Calls
import Derived.Orders
import Derived.Laws.Cells
import Derived.Laws.Rows
import Derived.Laws.AppendOwn
import Derived.WideLaws
import Derived.Laws.StructEq
import Derived.IntWalk
import Derived.Laws.CopyRow
set_option linter.unusedVariables false
set_option linter.unusedSectionVars false
set_option linter.unusedSimpArgs false
open Array renaming eq_empty_of_size_eq_zero→ypa,getD_eq_getD_getElem?→yda,getElem?_eq_getElem→yD,getElem?_eq_some_iff→yu,getElem?_setIfInBounds→yja
open BitVec renaming ofInt→yza
open Bool renaming and_eq_true→ya,false_eq_true→yi,false_or→yI,not_eq_true'→yC,or_eq_true→yF
open Classical renaming propDecidable→yHa
open Function renaming comp_def→yP
open List renaming all_eq_true→yr,append_assoc→ym,cons_append→yk,eq_nil_of_length_eq_zero→yy,ext_getElem?→yBa,filter_append→yRa,filter_congr→ySa,getElem?_append_left→yq,getElem?_append_right→yv,getElem?_drop→yN,getElem?_eq_getElem→yj,getElem?_eq_none→yfa,getElem?_eq_some_iff→yc,getElem?_map→yn,getElem?_set_ne→yB,getElem?_set_self→yx,getElem?_take→yH,length_append→ye,length_cons→yd,length_nil→yg,map_cons→yz,mem_append→yw,mem_cons→yia,mem_cons_of_mem→yGa,mem_cons_self→yua,mem_flatMap→ysa,mem_iff_getElem?→yR,mem_range→yta,range→yQ,replicate→yya,toArray→yAa
open Nat renaming add_assoc→yEa,add_mul→yE,le_refl→yh,le_trans→yha,lt_or_ge→yA,mul_le_mul_right→yo,zero_add→yV
open Option renaming bind_eq_some_iff→yaa,getD_some→yma,isSome_iff_exists→yX,map_eq_some_iff→yb,map_some→yZ
open Go.Result renaming andThen_ok→yl
open UInt8 renaming ofNat→yY
namespace PE
open Go
inductive SK where
 |plain|fit|own|firm
 deriving DecidableEq
@[simp] def SK.full:SK->Bool
 | .fit| .firm=>true
 |_=>false
inductive PV where
 |undef
 |bool (b:Bool)
 |int (k:IntKind) (n:Int)
 |str (s:List UInt8)
 |nilp
 |ptr (l i off:Nat)
 |lptr (k off:Nat)
 |iptr (cells:List PV) (off:Nat)
 |slice (k:SK) (sz:Nat) (l:List PV)
 |mslice (l off len sz:Nat)
 |agg (cells:List PV)
 |tup (vs:List PV)
 |fn (f:Nat) (first caps:List PV)
 |nilfn
 |mp (r:Nat)
 |nilmap
 |iface (t:Nat) (v:PV)
 |nilif
 deriving Inhabited
inductive Obj where
 |arr (sz:Nat) (es:List PV)
 |mp (es:List (PV×PV))
 |dead (sz:Nat)
abbrev ze:=List Obj
inductive Bx where
 |no
 |cells (l:List PV)
 |iter (s:List UInt8) (pos:Nat)
abbrev Fr:=Nat->PV
abbrev Bxs:=Nat->Bx
def upd{α:Type}(f:Nat->α)(k:Nat)(v:α):Nat->α:=fun j=>if j=k then v else f j
theorem upd_eq{α:Type}(f:Nat->α)(k:Nat)(v:α):upd f k v k=v:=by simp[upd]
theorem zEa{α:Type}(f:Nat->α){k j:Nat}(v:α)(h:j≠k):upd f k v j=f j:=by simp[upd,h]
theorem upd_comm{α:Type}(f:Nat->α){k j:Nat}(u v:α)(h:j≠k):upd (upd f k u) j v=upd (upd f j v) k u:=by
 funext x;unfold upd;split<;>split<;>simp_all
structure St where
 fr:Fr
 bx:Bxs
 st:ze
def strip:PV->PV
 | .slice .own sz l=> .slice .plain sz l
 |v=>v
def canon1:PV->PV
 | .slice .own sz l=> .slice .plain sz l
 | .slice .fit sz l=> .slice .plain sz l
 |v=>v
def stripA:PV->PV
 | .agg cs=> .agg (cs.map canon1)
 |v=>canon1 v
def cellsOf:PV->List PV
 | .agg cs=>cs
 |v=>[v]
def zlc:PV->Bool
 | .undef| .agg _| .tup _| .lptr .. =>false
 |_=>true
def zG:PV->Bool
 | .agg _=>true
 |v=>zlc v
def avoids(dead:List Nat):PV->Bool
 | .lptr k _=> !dead.contains k
 |_=>true
inductive Arg where
 |t (n:Nat)
 |c (v:PV)
def Arg.val(fr:Fr):Arg->PV
 | .t n=>fr n
 | .c v=>v
inductive CRes where
 |ret (v:PV)
 |pan (v:PV)
inductive Where where
 |any
 |imm
 |box (k:Nat)
def bytesV:List PV->Option (List UInt8)
 | []=>some []
 | .int .u8 n::r=>(bytesV r).map (yY n.toNat:: ·)
 |_::_=>none
inductive IOp where
 |mv (a:Arg)
 |take (s:Nat)
 |pick (c a b:Arg)
 |boxL (k:Nat) (a:Arg)
 |boxI (a:Arg)
 |boxS (sz:Nat) (a:Arg)
 |build (zero:List PV) (parts:List (Nat×Nat×Arg))
 |buildF (zero:List PV) (parts:List (Nat×Nat×Arg))
 |bslice (sz:Nat) (zero:PV) (n:Nat) (parts:List (Nat×Arg))
 |bsliceS (sz:Nat) (zero:PV) (n:Nat) (parts:List (Nat×Arg))
 |load (w:Where) (ag:Bool) (sz:Nat) (a:Arg)
 |loadT (w:Where) (a:Arg)
 |loadB (ag:Bool) (sz:Nat) (a:Arg)
 |store (w:Where) (sz:Nat) (a v:Arg)
 |loadN (q:Nat) (ag:Bool) (sz:Nat) (a:Arg)
 |storeN (q:Nat) (sz:Nat) (a v:Arg)
 |storeT (w:Where) (a:Arg) (t:Nat)
 |nilck (a:Arg)
 |bin (tk:Nat) (ks:List Nat) (op:BinOp) (a b:Arg)
 |un (op:UnOp) (a:Arg)
 |conv (k:IntKind) (a:Arg)
 |bstr (a:Arg)
 |rstr (a:Arg)
 |mkif (t:Nat) (a:Arg)
 |mkfn (f:Nat) (first caps:List Arg)
 |mkmap
 |lookup (ks ok:Bool) (zero:PV) (m k:Arg)
 |mapset (ks:Bool) (m k v:Arg)
 |mkslice (sz:Nat) (zero:PV) (bytes:Nat) (len cap:Arg)
 |mksliceS (sz:Nat) (zero:PV) (bytes:Nat) (len cap:Arg)
 |slc (isS:Bool) (sz:Nat) (x:Arg) (lo hi mx:Option Arg)
 |faddr (off:Nat) (a:Arg)
 |iaddr (sz:Nat) (a i:Arg)
 |iaddrA (n sz:Nat) (a i:Arg)
 |idxS (a i:Arg)
 |idxA (n sz:Nat) (ag:Bool) (a i:Arg)
 |ext (a:Arg) (i:Nat)
 |ifnil (neq:Bool) (a:Arg)
 |tassert (t:Nat) (a:Arg)
 |fld (ag:Bool) (off sz:Nat) (a:Arg)
 |call (pk:Bool) (f:Arg) (args:List Arg)
 |callP (pk:Bool) (f:Arg) (args:List Arg)
 |callR (f:Arg) (args:List Arg)
 |callK (f:Arg) (args:List Arg)
 |callV (f:Arg) (args:List Arg)
 |len (tk:Nat) (a:Arg)
 |append (sz bytes:Nat) (a b:Arg)
 |appendS (sz bytes:Nat) (a b:Arg)
 |copyS (sz bytes:Nat) (a b:Arg)
 |max2 (a b:Arg)
 |min2 (a b:Arg)
 |panic (a:Arg)
 |rng (k:Nat) (a:Arg)
 |next (k:Nat) (a:Arg)
structure GOp where
 g:Option (Nat×Bool)
 dst:Option Nat
 op:IOp
inductive ICode where
 |skip
 |region (ops:List GOp)
 |seq (a b:ICode)
 |cond (c:Arg) (a b:ICode)
 |block (id:Nat) (b:ICode)
 |loop (keep dead:List Nat) (b:ICode)
 |exit (id:Nat)
 |ret
 |bad
 |sealK (ks:List Nat) (b:ICode)
inductive IRes where
 |tmp (t:Nat)
 |cell (t:Nat) (ag:Bool) (sz:Nat)
structure IFn where
 ntmps:Nat
 nargs:Nat
 res:List IRes
 freeze:Bool
 deep:Bool:=false
 own:Option Nat:=none
 body:ICode
def zzd(cs:List PV)(off:Nat)(vs:List PV):List PV:=cs.take off++vs++cs.drop (off+vs.length)
def zIb(fr:Fr)(cs:List PV):List (Nat×Nat×Arg)->Option (List PV)
 | []=>some cs
 |(off,sz,a)::r=>
  let v:=stripA (a.val fr)
  if zG v&&(cellsOf v).length==sz&&decide (off+sz<=cs.length)then zIb fr (zzd cs off (cellsOf v)) r else none
def zvb(fr:Fr)(cs:List PV):List (Nat×Nat×Arg)->Option (List PV)
 | []=>some cs
 |(off,sz,a)::r=>
  let v:=strip (a.val fr)
  if zG v&&(cellsOf v).length==sz&&decide (off+sz<=cs.length)then zvb fr (zzd cs off (cellsOf v)) r else none
def zib(fr:Fr)(sz:Nat)(es:List PV):List (Nat×Arg)->Option (List PV)
 | []=>some es
 |(i,a)::r=>
  let v:=stripA (a.val fr)
  if zG v&&(cellsOf v).length==sz&&decide (i<es.length)then zib fr sz (es.set i v) r else none
def zM(ag:Bool)(sz:Nat)(cs:List PV)(off:Nat):Option PV:=
 if ag then(if off+sz<=cs.length then some (.agg ((cs.drop off).take sz))else none)else cs[off]?
def scalarEq:Nat->PV->PV->Option Bool
 |0,.int k a,.int k' b=>if k=k' then some (decide (a=b))else none
 |1,.bool a,.bool b=>some (a==b)
 |2,.str a,.str b=>some (decide (a=b))
 |_,_,_=>none
def zLb:List Nat->List PV->List PV->Option Bool
 | [],[],[]=>some true
 |k::ks,x::xs,y::ys=>match scalarEq k x y,zLb ks xs ys with
  |some b,some c=>some (b&&c)
  |_,_=>none
 |_,_,_=>none
noncomputable def hide(n:Int):Int:=Classical.choose (⟨n,rfl⟩:∃x,x=n)
theorem hide_eq(n:Int):hide n=n:=Classical.choose_spec (⟨n,rfl⟩:∃x,x=n)
noncomputable def zra(k:IntKind)(n:Int):Int:=hide (k.wrap n)
noncomputable def andK(k:IntKind)(a b:Int):Int:=hide (k.wrap (yza k.bits a&&&yza k.bits b).toNat)
noncomputable def orK(k:IntKind)(a b:Int):Int:=hide (k.wrap (yza k.bits a|||yza k.bits b).toNat)
noncomputable def xorK(k:IntKind)(a b:Int):Int:=hide (k.wrap (yza k.bits a^^^yza k.bits b).toNat)
noncomputable def remK(a b:Int):Int:=hide (a.tmod b)
noncomputable def shrK(a:Int)(n:Nat):Int:=hide (a.fdiv (2^n))
theorem zRd(k:IntKind)(n:Int):zra k n=k.wrap n:=hide_eq _
theorem andK_eq(k:IntKind)(a b:Int):andK k a b=k.wrap (yza k.bits a&&&yza k.bits b).toNat:=hide_eq _
theorem orK_eq(k:IntKind)(a b:Int):orK k a b=k.wrap (yza k.bits a|||yza k.bits b).toNat:=hide_eq _
theorem xorK_eq(k:IntKind)(a b:Int):xorK k a b=k.wrap (yza k.bits a^^^yza k.bits b).toNat:=hide_eq _
theorem remK_eq(a b:Int):remK a b=a.tmod b:=hide_eq _
theorem shrK_eq(a:Int)(n:Nat):shrK a n=a.fdiv (2^n):=hide_eq _
noncomputable def zKa(tk:Nat)(ks:List Nat)(op:BinOp):PV->PV->Option PV
 | .int k a,.int k' b=>
  match op with
  | .shl=>if b<0 then none else some (.int k (zra k (a*2^(min b.toNat k.bits))))
  | .shr=>if b<0 then none else some (.int k (shrK a (min b.toNat k.bits)))
  |_=>
  if k=k' then
   match op with
   | .add=>some (.int k (zra k (a+b)))
   | .sub=>some (.int k (zra k (a-b)))
   | .mul=>some (.int k (zra k (a*b)))
   | .quo=>if b=0 then none else some (.int k (zra k (a.tdiv b)))
   | .rem=>if b=0 then none else some (.int k (remK a b))
   | .and=>some (.int k (andK k a b))
   | .or=>some (.int k (orK k a b))
   | .xor=>some (.int k (xorK k a b))
   | .eql=>some (.bool (decide (a=b)))
   | .neq=>some (.bool (!decide (a=b)))
   | .lss=>some (.bool (decide (a<b)))
   | .leq=>some (.bool (decide (a<=b)))
   | .gtr=>some (.bool (decide (b<a)))
   | .geq=>some (.bool (decide (b<=a)))
   |_=>none
  else none
 | .str a,.str b=>
  match op with
  | .add=>if a.length+b.length<=9223372036854775807 then some (.str (a++b))else none
  | .eql=>some (.bool (decide (a=b)))
  | .neq=>some (.bool (!decide (a=b)))
  |_=>none
 | .bool a,.bool b=>
  if tk=1 then
  match op with
  | .eql=>some (.bool (a==b))
  | .neq=>some (.bool (!(a==b)))
  |_=>none
  else none
 | .nilp,.nilp=>
  if tk=3 then
  match op with
  | .eql=>some (.bool true)
  | .neq=>some (.bool false)
  |_=>none
  else none
 | .iptr _ _,.nilp| .ptr _ _ _,.nilp=>
  if tk=3 then
  match op with
  | .eql=>some (.bool false)
  | .neq=>some (.bool true)
  |_=>none
  else none
 | .agg xs,.agg ys=>
  if tk=4 then
  match op with
  | .eql=>(zLb ks xs ys).map .bool
  | .neq=>(zLb ks xs ys).map fun b=> .bool (!b)
  |_=>none
  else none
 |_,_=>none
noncomputable def unSem:UnOp->PV->Option PV
 | .neg,.int k n=>some (.int k (zra k (0-n)))
 | .xor,.int k n=>some (.int k (xorK k (if k.signed then-1 else k.max) n))
 | .not,.bool b=>some (.bool !b)
 |_,_=>none
def keyEq(ks:Bool):PV->PV->Option Bool
 | .int k a,.int k' b=>if k=k'/\ks=false then some (decide (a=b))else none
 | .str a,.str b=>if ks=true then some (decide (a=b))else none
 |_,_=>none
def keyOk:PV->Bool
 | .int .. | .str _=>true
 |_=>false
def zqb(ks:Bool)(k:PV):List (PV×PV)->Option (Option PV)
 | []=>some none
 |(k',v)::r=>
  match keyEq ks k k' with
  |some true=>some (some v)
  |some false=>zqb ks k r
  |none=>none
def mapSet(ks:Bool)(k v:PV):List (PV×PV)->Option (List (PV×PV))
 | []=>some [(k,v)]
 |(k',v')::r=>
  match keyEq ks k k' with
  |some true=>some ((k,v)::r)
  |some false=>(mapSet ks k v r).map ((k',v'):: ·)
  |none=>none
def asNat:PV->Option Nat
 | .int _ n=>if 0<=n then some n.toNat else none
 |_=>none
def zXc(fr:Fr):Option Arg->Nat->Option Nat
 |none,d=>some d
 |some a,_=>asNat (a.val fr)
def slcSem(isS:Bool)(z:Nat)(x:PV)(lo hi:Nat)(mx:Option Nat):Option PV:=
 match isS,x with
 |true,.str s=>if lo<=hi/\hi<=s.length/\mx=none then some (.str ((s.take hi).drop lo))else none
 |false,.slice _ sz l=>
  match mx with
  |none=>if lo<=hi/\hi<=l.length/\z=sz then some (.slice .plain sz ((l.take hi).drop lo))else none
  |some m=>if lo<=hi/\hi=m/\hi<=l.length/\z=sz then some (.slice .fit sz ((l.take hi).drop lo))else none
 |false,.mslice l off len sz=>if lo<=hi/\hi<=len/\lo<len/\mx=none/\z=sz then some (.mslice l (off+lo) (hi-lo) sz)else none
 |_,_=>none
def lenSem(st:ze)(tk:Nat):PV->Option PV
 | .str s=>if tk=0 then some (.int .i64 s.length)else none
 | .slice _ _ l=>if tk=1 then some (.int .i64 l.length)else none
 | .mslice _ _ n _=>if tk=1 then some (.int .i64 n)else none
 | .nilmap=>if tk=2 then some (.int .i64 0)else none
 | .mp r=>if tk=2 then match st[r]? with
  |some (.mp es)=>some (.int .i64 es.length)
  |_=>none
  else none
 |_=>none
def bigAt(st:ze)(l:Nat):Option (List PV):=match st[l]? with
 |some (.arr z es)=>if 2<=z then some es else none
 |_=>none
def lenOf(x:Nat)(v:PV):Nat:=match v with
 | .str s=>s.length
 | .slice _ _ l=>l.length
 | .mslice _ _ n _=>n
 |_=>x
def zJb(st:ze)(sz:Nat):PV->Option (List PV)
 | .slice _ sz' l=>if sz=sz' then some l else none
 | .mslice l off len sz'=>if sz=sz' then
   match st[l]? with
   |some (.arr s es)=>if s=sz&&off+len<=es.length then some (((es.drop off).take len).map stripA)else none
   |_=>none
  else none
 | .str s=>if sz=1 then some (s.map fun b=> .int .u8 b.toNat)else none
 |_=>none
def zU:Nat:=140737488355328
def isAggV:PV->Bool
 | .agg _=>true
 |_=>false
def kindZ:PV->SK
 | .slice .firm _ _=> .firm
 |_=> .fit
def zCa(e:PV)(cs:List PV):PV:=match e with
 | .agg _=> .agg cs
 |_=>cs.headD .undef
def isOwn:PV->Option (Nat×List PV)
 | .slice .own z l=>some (z,l)
 |_=>none
def zUb(fr:Fr)(b:Bx)(st:ze)(w:Where)(sz:Nat)(a:Arg)(v:PV):Option (PV×Bx×ze):=
  if zG (strip v)&&(cellsOf (strip v)).length==sz then
  match w,a.val fr with
  | .box k,.lptr k' off=>if k=k' then
    match b with
    | .cells cs=>if off+sz<=cs.length then some (.undef,.cells (zzd cs off (cellsOf (strip v))),st)else none
    |_=>none
   else none
  | .any,.ptr l i off=>
   match st[l]? with
   |some (.arr s es)=>match es[i]? with
    |some e=>if off+sz<=(cellsOf e).length/\(isAggV e||zlc (strip v))=true then some (.undef,b,st.set l (.arr s (es.set i (zCa e (zzd (cellsOf e) off (cellsOf (strip v)))))))else none
    |none=>none
   |_=>none
  |_,_=>none
  else none
noncomputable def IOp.sem(fr:Fr)(b:Bx)(st:ze):IOp->Option (PV×Bx×ze)
 | .mv a=>some (strip (a.val fr),b,st)
 | .take s=>some (fr s,b,st)
 | .pick c x y=>match c.val fr with
  | .bool true=>some (strip (x.val fr),b,st)
  | .bool false=>some (strip (y.val fr),b,st)
  |_=>none
 | .boxL k a=>
  match b with
  | .no=>if zG (strip (a.val fr))then some (.lptr k 0,.cells (cellsOf (strip (a.val fr))),st)else none
  |_=>none
 | .boxI a=>if zG (stripA (a.val fr))then some (.iptr (cellsOf (stripA (a.val fr))) 0,b,st)else none
 | .boxS sz a=>
  if zG (strip (a.val fr))&&(cellsOf (strip (a.val fr))).length==sz then some (.ptr st.length 0 0,b,st++[.arr sz [strip (a.val fr)]])else none
 | .build zero parts=>(zIb fr zero parts).map fun cs=>(.agg cs,b,st)
 | .buildF zero parts=>(zvb fr zero parts).map fun cs=>(.agg cs,b,st)
 | .bslice sz zero n parts=>(zib fr sz (yya n zero) parts).map fun es=>(.slice (kindZ zero) sz es,b,st)
 | .bsliceS sz zero n parts=>(zib fr sz (yya n zero) parts).map fun es=>(.mslice st.length 0 n sz,b,st++[.arr sz es])
 | .load w ag sz a=>
  match w,a.val fr with
  | .box k,.lptr k' off=>if k=k' then
    match b with
    | .cells cs=>(zM ag sz cs off).map fun v=>(stripA v,b,st)
    |_=>none
   else none
  | .any,.iptr cs off=>(zM ag sz cs off).map fun v=>(v,b,st)
  | .imm,.iptr cs off=>(zM ag sz cs off).map fun v=>(v,b,st)
  | .any,.ptr l i off=>
   match st[l]? with
   |some (.arr _ es)=>match es[i]? with
    |some e=>(zM ag sz (cellsOf e) off).map fun v=>(stripA v,b,st)
    |none=>none
   |_=>none
  |_,_=>none
 | .loadB ag sz a=>
  match a.val fr with
  | .ptr l i off=>(bigAt st l).bind fun es=>(es[i]?).bind fun e=>(zM ag sz (cellsOf e) off).map fun v=>(stripA v,b,st)
  |_=>none
 | .loadN q ag sz a=>match a.val fr with
  | .ptr l i off=>if l=q then(match st[q]? with
   |some (.arr _ es)=>match es[i]? with
    |some e=>(zM ag sz (cellsOf e) off).map fun v=>(stripA v,b,st)
    |none=>none
   |_=>none)else none
  |_=>none
 | .storeN q sz a v=>match a.val fr with
  | .ptr l i off=>if l=q then(if zG (strip (v.val fr))&&(cellsOf (strip (v.val fr))).length==sz then
   match st[q]? with
   |some (.arr s es)=>match es[i]? with
    |some e=>if off+sz<=(cellsOf e).length/\(isAggV e||zlc (strip (v.val fr)))=true then some (.undef,b,st.set q (.arr s (es.set i (zCa e (zzd (cellsOf e) off (cellsOf (strip (v.val fr))))))))else none
    |none=>none
   |_=>none else none)else none
  |_=>none
 | .loadT w a=>
  match w,a.val fr with
  | .box k,.lptr k' off=>if k=k' then
    match b with
    | .cells cs=>(cs[off]?).map fun v=>(v,.cells (cs.set off (strip v)),st)
    |_=>none
   else none
  | .any,.ptr l i off=>
   match st[l]? with
   |some (.arr sz es)=>match es[i]? with
    |some e=>((cellsOf e)[off]?).map fun v=>(v,b,st.set l (.arr sz (es.set i (zCa e ((cellsOf e).set off (strip v))))))
    |none=>none
   |_=>none
  |_,_=>none
 | .store w sz a v=>zUb fr b st w sz a (v.val fr)
 | .storeT w a t=>
  match isOwn (fr t)with
  |none=>zUb fr b st w 1 a (fr t)
  |some (z,l)=>
   match w,a.val fr with
   | .box k,.lptr k' off=>if k=k' then
     match b with
     | .cells cs=>if off<cs.length then some (.undef,.cells (cs.set off (.slice .own z l)),st)else none
     |_=>none
    else none
   | .any,.ptr l' i off=>
    match st[l']? with
    |some (.arr s es)=>match es[i]? with
     |some e=>if off<(cellsOf e).length then some (.undef,b,st.set l' (.arr s (es.set i (zCa e ((cellsOf e).set off (.slice .own z l))))))else none
     |none=>none
    |_=>none
   |_,_=>none
 | .nilck a=>match a.val fr with
  | .iptr cs off=>some (.iptr cs off,b,st)
  | .ptr l i off=>some (.ptr l i off,b,st)
  | .lptr k off=>some (.lptr k off,b,st)
  | .fn f x y=>some (.fn f x y,b,st)
  |_=>none
 | .bin tk ks op x y=>(zKa tk ks op (x.val fr) (y.val fr)).map (·,b,st)
 | .un op x=>(unSem op (x.val fr)).map (·,b,st)
 | .conv k a=>match a.val fr with
  | .int _ n=>some (.int k (zra k n),b,st)
  |_=>none
 | .bstr a=>match a.val fr with
  | .slice _ 1 l=>(bytesV l).map fun s=>(.str s,b,st)
  |_=>none
 | .rstr a=>match a.val fr with
  | .int _ n=>if 0<=n/\n<128 then some (.str [yY n.toNat],b,st)else none
  |_=>none
 | .mkif t a=>if zG (stripA (a.val fr))then some (.iface t (stripA (a.val fr)),b,st)else none
 | .mkfn f first caps=>
  if(first.map fun a=>stripA (a.val fr)).all zG&&(caps.map fun a=>stripA (a.val fr)).all zG then
   some (.fn f (first.map fun a=>stripA (a.val fr)) (caps.map fun a=>stripA (a.val fr)),b,st)
  else none
 | .mkmap=>some (.mp st.length,b,st++[.mp []])
 | .lookup ks ok zero m k=>
  if keyOk (k.val fr)then
  match m.val fr with
  | .nilmap=>if ok then some (.tup [zero,.bool false],b,st)else some (zero,b,st)
  | .mp r=>match st[r]? with
   |some (.mp es)=>(zqb ks (k.val fr) es).map fun
    |some v=>(if ok then .tup [v,.bool true]else v,b,st)
    |none=>(if ok then .tup [zero,.bool false]else zero,b,st)
   |_=>none
  |_=>none
  else none
 | .mapset ks m k v=>
  if zG (stripA (v.val fr))&&keyOk (k.val fr)then
  match m.val fr with
  | .mp r=>match st[r]? with
   |some (.mp es)=>(mapSet ks (k.val fr) (stripA (v.val fr)) es).map fun es'=>(.undef,b,st.set r (.mp es'))
   |_=>none
  |_=>none
  else none
 | .mkslice sz zero bytes ln cp=>
  match ln.val fr,cp.val fr with
  | .int .i64 n,.int .i64 c=>if n=c/\0<=n/\n<=9223372036854775807/\bytes*n<=281474976710656 then some (.slice .fit sz (yya n.toNat zero),b,st)else none
  |_,_=>none
 | .mksliceS sz zero bytes ln cp=>
  match ln.val fr,cp.val fr with
  | .int .i64 n,.int .i64 c=>if n=c/\0<=n/\n<=9223372036854775807/\bytes*n<=281474976710656 then some (.mslice st.length 0 n.toNat sz,b,st++[.arr sz (yya n.toNat zero)])else none
  |_,_=>none
 | .slc isS z x lo hi mx=>
  match zXc fr lo 0,zXc fr hi (lenOf 0 (x.val fr)),(match mx with|none=>some none|some a=>(asNat (a.val fr)).map some)with
  |some l,some h,some m=>(slcSem isS z (x.val fr) l h m).map (·,b,st)
  |_,_,_=>none
 | .faddr off a=>match a.val fr with
  | .iptr cs o=>some (.iptr cs (o+off),b,st)
  | .ptr l i o=>some (.ptr l i (o+off),b,st)
  | .lptr k o=>some (.lptr k (o+off),b,st)
  |_=>none
 | .iaddr sz a i=>match asNat (i.val fr),a.val fr with
  |some n,.slice _ s l=>if s=sz then(l[n]?).map fun e=>(.iptr (cellsOf e) 0,b,st)else none
  |some n,.mslice l off ln s=>if s=sz/\n<ln then some (.ptr l (off+n) 0,b,st)else none
  |_,_=>none
 | .iaddrA n sz a i=>match asNat (i.val fr),a.val fr with
  |some j,.iptr cs o=>if j<n then some (.iptr cs (o+j*sz),b,st)else none
  |some j,.ptr l i o=>if j<n then some (.ptr l i (o+j*sz),b,st)else none
  |some j,.lptr k o=>if j<n then some (.lptr k (o+j*sz),b,st)else none
  |_,_=>none
 | .idxS a i=>match a.val fr,asNat (i.val fr)with
  | .str s,some n=>(s[n]?).map fun c=>(.int .u8 c.toNat,b,st)
  |_,_=>none
 | .idxA n sz ag a i=>match a.val fr,asNat (i.val fr)with
  | .agg cs,some j=>if j<n then(zM ag sz cs (j*sz)).map (·,b,st)else none
  |_,_=>none
 | .ext a i=>match a.val fr with
  | .tup vs=>(vs[i]?).map (·,b,st)
  |_=>none
 | .ifnil neq a=>match a.val fr with
  | .nilif=>some (.bool !neq,b,st)
  | .iface _ _=>some (.bool neq,b,st)
  |_=>none
 | .tassert t a=>match a.val fr with
  | .iface t' v=>if t=t' then some (v,b,st)else none
  |_=>none
 | .fld ag off sz a=>match a.val fr with
  | .agg cs=>(zM ag sz cs off).map (·,b,st)
  |_=>none
 | .call _ _ _=>none
 | .callP _ _ _=>none
 | .callR _ _=>none
 | .callK _ _=>none
 | .callV _ _=>none
 | .panic _=>none
 | .len tk a=>(lenSem st tk (a.val fr)).map (·,b,st)
 | .append sz bytes a x=>
  match a.val fr with
  | .slice .own s l=>if s=sz then
    (zJb st sz (x.val fr)).bind fun l'=>if(l.length+l'.length)*bytes<=zU then some (.slice .own sz (l++l'),b,st)else none
   else none
  | .slice .fit s l=>if s=sz then
    (zJb st sz (x.val fr)).bind fun l'=>
     if l'=[]then some (.slice .fit sz l,b,st)else
     if(l.length+l'.length)*bytes<=zU then some (.slice .own sz (l++l'),b,st)else none
   else none
  | .slice .firm s l=>if s=sz then
    (zJb st sz (x.val fr)).bind fun l'=>
     if l'=[]then some (.slice .firm sz l,b,st)else
     if(l.length+l'.length)*bytes<=zU then some (.slice .own sz (l++l'),b,st)else none
   else none
  |_=>none
 | .appendS sz bytes a x=>
  match a.val fr with
  | .slice .fit s []=>if s=sz then
    (zJb st sz (x.val fr)).bind fun l'=>if l'=[]then some (.slice .fit sz [],b,st)else if 0<l'.length/\l'.length*bytes<=zU then some (.mslice st.length 0 l'.length sz,b,st++[.arr sz l'])else none
   else none
  | .mslice l 0 (n+1) s=>if s=sz then
    (zJb st sz (.mslice l 0 (n+1) s)).bind fun l0=>(zJb st sz (x.val fr)).bind fun l'=>
     if 0<l'.length/\(l0.length+l'.length)*bytes<=zU then some (.mslice st.length 0 (l0.length+l'.length) sz,b,st.set l (.dead sz)++[.arr sz (l0++l')])else none
   else none
  |_=>none
 | .copyS sz bytes a x=>
  match a.val fr with
  | .mslice l 0 n s=>if s=sz then
    (zJb st sz (x.val fr)).bind fun l'=>match st[l]? with
     |some (.arr s' es)=>if s'=sz/\l'.length<=n/\n<=es.length then some (.int .i64 l'.length,b,st.set l (.arr sz (l'++es.drop l'.length)))else none
     |_=>none
   else none
  |_=>none
 | .max2 x y=>match x.val fr,y.val fr with
  | .int k p,.int k' q=>if k=k' then some (.int k (if p<q then q else p),b,st)else none
  |_,_=>none
 | .min2 x y=>match x.val fr,y.val fr with
  | .int k p,.int k' q=>if k=k' then some (.int k (if q<p then q else p),b,st)else none
  |_,_=>none
 | .rng k a=>match b,a.val fr with
  | .no,.str s=>some (.lptr k 0,.iter s 0,st)
  |_,_=>none
 | .next k a=>match b,a.val fr with
  | .iter s pos,.lptr k' 0=>if k=k' then
    if pos<s.length then
     some (.tup [.bool true,.int .i64 pos,.int .i32 (Utf8.decode ⟨s.toArray⟩ pos).1],.iter s (pos+(Utf8.decode ⟨s.toArray⟩ pos).2),st)
    else some (.tup [.bool false],b,st)
   else none
  |_,_=>none
def Where.box? :Where->Option Nat
 | .any| .imm=>none
 | .box k=>some k
def IOp.box? :IOp->Option Nat
 | .boxL k _| .rng k _| .next k _=>some k
 | .load w _ _ _| .loadT w _| .store w _ _ _| .storeT w _ _=>w.box?
 |_=>none
def IOp.takes:IOp->List Nat
 | .take s=>[s]
 | .storeT _ _ t=>[t]
 | .append _ _ (.t s) _=>[s]
 |_=>[]
def zSa(fr:Fr):Option Nat->PV->Fr
 |none,_=>fr
 |some d,v=>upd fr d v
def zRa(fr:Fr):List Nat->Fr
 | []=>fr
 |t::r=>zRa (upd fr t (strip (fr t))) r
def zY(bx:Bxs):Option Nat->Bx
 |none=> .no
 |some k=>bx k
def zGb(bx:Bxs):Option Nat->Bx->Bxs
 |none,_=>bx
 |some k,b=>upd bx k b
inductive SR where
 |ok (s:St)
 |pan (v:PV) (st:ze)
mutual
def zD(n:Nat):PV->Bool
 | .ptr l _ _=>decide (l<n)
 | .mslice l _ _ _=>decide (l<n)
 | .mp r=>decide (r<n)
 | .iptr cs _=>zZ n cs
 | .slice _ _ l=>zZ n l
 | .agg cs=>zZ n cs
 | .tup vs=>zZ n vs
 | .fn _ a b=>zZ n a&&zZ n b
 | .iface _ v=>zD n v
 |_=>true
def zZ(n:Nat):List PV->Bool
 | []=>true
 |v::r=>zD n v&&zZ n r
end
abbrev zH:=Nat->List PV->ze->Option (CRes×ze)
def zo(fr:Fr)(l:List Arg):List PV:=l.map fun a=>stripA (a.val fr)
noncomputable def same(a b:ze):Bool:= @decide (a=b) (yHa _)
theorem same_iff{a b:ze}:same a b=true<->a=b:=by unfold same;exact @decide_eq_true_iff _ (yHa _)
noncomputable def sameBig(a b:ze):Bool:= @decide (∀l,bigAt a l=bigAt b l) (yHa _)
theorem sameBig_iff{a b:ze}:sameBig a b=true<->∀l,bigAt a l=bigAt b l:=by unfold sameBig;exact @decide_eq_true_iff _ (yHa _)
def zHa:Nat->Nat->ze->PV->PV
 |0,_,_,v=>v
 |k+1,n,st,.mslice l off len sz=>
  if n<=l then
   match st[l]? with
   |some (.arr s es)=>if s=sz/\off+len<=es.length then .slice .plain sz (((es.drop off).take len).map fun e=>zHa k n st (stripA e))else .mslice l off len sz
   |_=> .mslice l off len sz
  else .mslice l off len sz
 |k+1,n,st,.agg cs=> .agg (cs.map (zHa k n st))
 |_+1,_,_,v=>v
def scalar1:PV->Bool
 | .bool _| .int .. =>true
 |_=>false
def scalarV:PV->Bool
 | .tup vs=>vs.all scalar1
 |v=>scalar1 v
mutual
def plainV:PV->PV
 | .slice .firm sz l=> .slice .plain sz (zDd l)
 | .slice .plain sz l=> .slice .plain sz (zDd l)
 | .agg cs=> .agg (zDd cs)
 |v=>v
def zDd:List PV->List PV
 | []=>[]
 |v::r=>plainV v::zDd r
end
theorem zWc:∀l:List PV,zDd l=l.map plainV
 | []=>rfl
 |v::r=>by rw[zDd,zWc r];rfl
def zGa(fr:Fr)(l:List Arg)(st:ze):List PV:=(zo fr l).map fun v=>plainV (zHa 12 0 st v)
noncomputable def zJ(cf:zH)(dst:Option Nat)(o:IOp)(s:St):Option SR:=
 match o with
 | .call pk f args=>
  match f.val s.fr with
  | .fn k first caps=>
   if(zo s.fr args).all zG then
   match cf k (first++zo s.fr args++caps) s.st with
   |some (.ret v,st')=>some (.ok {fr:=zSa s.fr dst v,bx:=s.bx,st:=st'})
   |some (.pan v,st')=>if pk then some (.pan v st')else none
   |none=>none
   else none
  |_=>none
 | .callP pk f args=>
  match f.val s.fr with
  | .fn k first caps=>
   if(zo s.fr args).all zG&&zZ 0 (first++zo s.fr args++caps)then
   match cf k (first++zo s.fr args++caps) []with
   |some (.ret v,_)=>if zD 0 v then some (.ok {fr:=zSa s.fr dst v,bx:=s.bx,st:=s.st})else none
   |some (.pan v,_)=>if pk&&zD 0 v then some (.pan v s.st)else none
   |none=>none
   else none
  |_=>none
 | .callR f args=>
  match f.val s.fr with
  | .fn k first caps=>
   if(zo s.fr args).all zG then
   match cf k (first++zo s.fr args++caps) s.st with
   |some (.ret v,st')=>if same st' s.st then some (.ok {fr:=zSa s.fr dst v,bx:=s.bx,st:=s.st})else none
   |_=>none
   else none
  |_=>none
 | .callK f args=>
  match f.val s.fr with
  | .fn k first caps=>
   if(zo s.fr args).all zG then
   match cf k (first++zo s.fr args++caps) s.st with
   |some (.ret v,st')=>if sameBig st' s.st then some (.ok {fr:=zSa s.fr dst v,bx:=s.bx,st:=st'})else none
   |_=>none
   else none
  |_=>none
 | .callV f args=>
  match f.val s.fr with
  | .fn k first caps=>
   if(zGa s.fr args s.st).all zG&&zZ 0 (first++zGa s.fr args s.st++caps)then
   match cf k (first++zGa s.fr args s.st++caps) []with
   |some (.ret v,_)=>if scalarV v then some (.ok {fr:=zSa s.fr dst v,bx:=s.bx,st:=s.st})else none
   |_=>none
   else none
  |_=>none
 | .panic a=>match a.val s.fr with
  | .iface t v=>some (.pan (.iface t v) s.st)
  |_=>none
 |o=>
  match o.sem s.fr (zY s.bx o.box?) s.st with
  |some (v,b',st')=>some (.ok {fr:=zSa (zRa s.fr o.takes) dst v,bx:=zGb s.bx o.box? b',st:=st'})
  |none=>none
def gate(w:Bool):PV->Option Bool
 | .bool b=>some (b==w)
 | .tup []=>some false
 |_=>none
noncomputable def step(cf:zH)(o:GOp)(s:St):Option SR:=
 match o.g with
 |none=>zJ cf o.dst o.op s
 |some (g,w)=>match gate w (s.fr g)with
  |some true=>zJ cf o.dst o.op s
  |some false=>some (.ok {s with fr:=zSa s.fr o.dst (.tup [])})
  |none=>none
noncomputable def zVb(cf:zH):List GOp->St->Option SR
 | [],s=>some (.ok s)
 |o::r,s=>match step cf o s with
  |some (.ok s')=>zVb cf r s'
  |x=>x
inductive Ex where
 |normal
 |exit (id:Nat)
 |ret
 |pan (v:PV)
def keepFr(fr:Fr):List Nat->Fr
 | []=>fun _=> .undef
 |t::r=>upd (keepFr fr r) t (fr t)
def dropBx(bx:Bxs):List Nat->Bxs
 | []=>bx
 |k::r=>upd (dropBx bx r) k .no
def havoc(keep dead:List Nat)(s:St):Option St:=
 if keep.all (fun t=>avoids dead (s.fr t))then some {fr:=keepFr s.fr keep,bx:=dropBx s.bx dead,st:=s.st}else none
def Obj.sz:Obj->Nat
 | .arr sz _=>sz
 | .mp _=>0
 | .dead sz=>sz
def killAll(st:ze):ze:=st.map fun o=> .dead o.sz
def sealBx(st:ze):Bx->Option Bx
 | .cells cs=>if cs.all (fun c=>(isOwn c).isNone)&&zZ 0 (cs.map (zHa 12 0 st))then some (.cells (cs.map (zHa 12 0 st)))else none
 |_=>none
def sealSt(ks:List Nat)(s:St):Option St:=
 if ks.all (fun k=>(sealBx s.st (s.bx k)).isSome)then some {s with bx:=fun k=>if ks.contains k then(sealBx s.st (s.bx k)).getD .no else s.bx k,st:=killAll s.st}else none
noncomputable def zE(cf:zH):Nat->ICode->St->Option (Ex×St)
 |0,_,_=>none
 |n+1,c,s=>
  match c with
  | .skip=>some (.normal,s)
  | .region ops=>match zVb cf ops s with
   |some (.ok s')=>some (.normal,s')
   |some (.pan v st')=>some (.pan v,{s with st:=st'})
   |none=>none
  | .seq a b=>match zE cf n a s with
   |some (.normal,s')=>zE cf n b s'
   |x=>x
  | .cond c a b=>match c.val s.fr with
   | .bool true=>zE cf n a s
   | .bool false=>zE cf n b s
   |_=>none
  | .block id b=>match zE cf n b s with
   |some (.exit id',s')=>if id'=id then some (.normal,s')else some (.exit id',s')
   |x=>x
  | .loop keep dead b=>match havoc keep dead s with
   |some s1=>match zE cf n b s1 with
    |some (.normal,s')=>zE cf n (.loop keep dead b) s'
    |x=>x
   |none=>none
  | .exit id=>some (.exit id,s)
  | .ret=>some (.ret,s)
  | .bad=>none
  | .sealK ks b=>match sealSt ks s with
   |some s1=>zE cf n b s1
   |none=>none
structure HFn where
 ntmps:Nat
 nargs:Nat
 pre:ICode
 d:Nat
 k:Nat
 caps:List Arg
 rest:ICode
 r1:Nat
 r2:Nat
 code:ICode
 res:List IRes:=[]
 pins:List Nat:=[]
structure Env where
 fn:Nat->Option IFn
 ext:Nat->Option (List PV->ze->Option (CRes×ze))
 hand:Nat->Option HFn:=fun _=>none
def frOf:List PV->Nat->Fr
 | [],_=>fun _=> .undef
 |v::r,k=>upd (frOf r (k+1)) k v
def IRes.get(s:St):IRes->Option PV
 | .tmp t=>some (stripA (s.fr t))
 | .cell t ag sz=>match s.fr t with
  | .lptr k off=>match s.bx k with
   | .cells cs=>(zM ag sz cs off).map stripA
   |_=>none
  | .ptr l i off=>match s.st[l]? with
   |some (.arr _ es)=>match es[i]? with
    |some e=>(zM ag sz (cellsOf e) off).map stripA
    |none=>none
   |_=>none
  |_=>none
def getAll(s:St):List IRes->Option (List PV)
 | []=>some []
 |r::rs=>match r.get s,getAll s rs with
  |some v,some vs=>some (v::vs)
  |_,_=>none
def zCd:List PV->PV
 | [v]=>v
 |vs=> .tup vs
def belowP(n:Nat):List (PV×PV)->Bool
 | []=>true
 |(k,v)::r=>zD n k&&zD n v&&belowP n r
def Obj.below(n:Nat):Obj->Bool
 | .arr _ es=>zZ n es
 | .mp es=>belowP n es
 | .dead _=>true
def ze.wf(n:Nat)(st:ze):Bool:=st.all (Obj.below n)
def freeze1(n:Nat)(st:ze):PV->PV
 | .mslice l off len sz=>
  if n<=l then
   match st[l]? with
   |some (.arr s es)=>if s=sz/\off+len<=es.length then .slice .plain sz (((es.drop off).take len).map stripA)else .mslice l off len sz
   |_=> .mslice l off len sz
  else .mslice l off len sz
 |v=>v
def zbd(n:Nat)(st:ze):PV->PV
 | .agg cs=> .agg (cs.map (freeze1 n st))
 |v=>freeze1 n st v
def frz(d:Bool)(n:Nat)(st:ze)(v:PV):PV:=if d then zHa 12 n st v else zbd n st v
def finish(F:IFn)(n:Nat)(s:St):Option (CRes×ze):=
 match F.own with
 |some t=>if zG (s.fr t)then some (.ret (s.fr t),s.st)else none
 |none=>
 match getAll s F.res with
 |none=>none
 |some vs=>
  if vs.all zG then
   if F.freeze then
    if zZ n (vs.map (frz F.deep n s.st))&&ze.wf n (s.st.take n)&&decide (n<=s.st.length)then some (.ret (zCd (vs.map (frz F.deep n s.st))),s.st.take n)else none
   else some (.ret (zCd vs),s.st)
  else none
def finishPan(F:IFn)(n:Nat)(v:PV)(s:St):Option (CRes×ze):=
 if F.freeze then
  if zD n v&&ze.wf n (s.st.take n)&&decide (n<=s.st.length)then some (.pan v,s.st.take n)else none
 else some (.pan v,s.st)
def thrown:Option (Ex×St)->Option (PV×ze)
 |some (.normal,s)=>some (.nilif,s.st)
 |some (.ret,s)=>some (.nilif,s.st)
 |some (.pan (.iface t v),s)=>some (.iface t v,s.st)
 |_=>none
def pinFr(fr:Fr)(pins:List Nat):Fr:=fun t=>if t∈pins then(match fr t with
 | .ptr l i o=> .ptr l i o
 |_=> .undef)else .undef
def zDb(H:HFn)(n:Nat)(fr:Fr)(st:ze):Option (CRes×ze):=
 match getAll {fr:=pinFr fr H.pins,bx:=fun _=> .no,st:=st} H.res with
 |none=>none
 |some vs=>if vs.all zG&&zZ n vs&&ze.wf n (st.take n)&&decide (n<=st.length)then some (.ret (zCd vs),st.take n)else none
def handEnd(H:HFn)(n:Nat)(fr:Fr):Option (Ex×St)->Option (CRes×ze)
 |some (.normal,s)=>zDb H n fr s.st
 |some (.ret,s)=>zDb H n fr s.st
 |_=>none
def handSt(H:HFn)(cv:List PV)(q:PV×ze):St:={fr:=upd (upd (frOf cv 0) H.r1 q.1) H.r2 q.1,bx:=fun _=> .no,st:=q.2}
def handF(ex:ICode->St->Option (Ex×St))(H:HFn)(args:List PV)(st:ze):Option (CRes×ze):=
 if args.length=H.nargs/\args.all zG then
  match ex H.pre {fr:=frOf args 0,bx:=fun _=> .no,st:=st}with
  |some (.normal,s1)=>
   if(zo s1.fr H.caps).all zG then
    match thrown (ex H.rest {s1 with fr:=upd s1.fr H.d (.fn H.k [] (zo s1.fr H.caps))})with
    |some q=>handEnd H st.length s1.fr (ex H.code (handSt H (zo s1.fr H.caps) q))
    |none=>none
   else none
  |some (.ret,s1)=>zDb H st.length s1.fr s1.st
  |_=>none
 else none
noncomputable def zHc(E:Env):Nat->zH
 |0,_,_,_=>none
 |n+1,f,args,st=>
  match E.ext f with
  |some g=>g args st
  |none=>match E.hand f with
  |some H=>handF (zE (zHc E n) n) H args st
  |none=>match E.fn f with
   |none=>none
   |some F=>
    if args.length=F.nargs/\args.all zG then
    match zE (zHc E n) n F.body {fr:=frOf args 0,bx:=fun _=> .no,st:=st}with
    |some (.normal,s')=>finish F st.length s'
    |some (.ret,s')=>finish F st.length s'
    |some (.pan v,s')=>finishPan F st.length v s'
    |_=>none
    else none
def Arg.tmps:Arg->List Nat
 | .t n=>[n]
 | .c _=>[]
def optTmps:Option Arg->List Nat
 |some a=>a.tmps
 |none=>[]
def argsTmps(l:List Arg):List Nat:=l.flatMap Arg.tmps
def IOp.reads:IOp->List Nat
 | .mv a| .boxL _ a| .boxI a| .boxS _ a| .load _ _ _ a| .loadB _ _ a| .loadN _ _ _ a| .loadT _ a| .nilck a| .un _ a| .conv _ a| .bstr a| .rstr a| .mkif _ a| .faddr _ a| .ext a _| .ifnil _ a| .tassert _ a| .fld _ _ _ a| .len _ a| .panic a| .rng _ a| .next _ a=>a.tmps
 | .take s=>[s]
 | .pick c a b=>c.tmps++a.tmps++b.tmps
 | .build _ ps| .buildF _ ps=>ps.flatMap fun p=>p.2.2.tmps
 | .bslice _ _ _ ps| .bsliceS _ _ _ ps=>ps.flatMap fun p=>p.2.tmps
 | .store _ _ a v| .storeN _ _ a v=>a.tmps++v.tmps
 | .storeT _ a t=>a.tmps++[t]
 | .bin _ _ _ a b| .idxS a b| .idxA _ _ _ a b| .iaddr _ a b| .iaddrA _ _ a b| .max2 a b| .min2 a b| .append _ _ a b| .appendS _ _ a b| .copyS _ _ a b| .mkslice _ _ _ a b| .mksliceS _ _ _ a b=>a.tmps++b.tmps
 | .lookup _ _ _ m k=>m.tmps++k.tmps
 | .mapset _ m k v=>m.tmps++k.tmps++v.tmps
 | .mkfn _ f c=>argsTmps f++argsTmps c
 | .mkmap=>[]
 | .slc _ _ x lo hi mx=>x.tmps++optTmps lo++optTmps hi++optTmps mx
 | .call _ f args| .callP _ f args| .callR f args| .callK f args| .callV f args=>f.tmps++argsTmps args
def IOp.stU:IOp->Nat
 | .load .any _ _ _| .loadB .. | .loadN .. | .lookup .. | .append .. | .callR .. | .callV .. =>1
 | .len tk _=>if tk=2 then 1 else 0
 | .appendS .. | .copyS .. | .boxS .. | .bsliceS .. | .mksliceS .. | .mkmap| .mapset .. | .call .. | .callK .. | .panic _| .storeN .. =>2
 | .loadT w _| .store w _ _ _| .storeT w _ _=>(match w with| .box _=>0|_=>2)
 |_=>0
def IOp.mayPan:IOp->Bool
 | .call pk _ _=>pk
 | .callP pk _ _=>pk
 | .panic _=>true
 |_=>false
theorem zR{fr fr':Fr}{a:Arg}(h:∀t∈a.tmps,fr t=fr' t):a.val fr=a.val fr':=by
 cases a with
 |t n=>exact h n (by simp[Arg.tmps])
 |c v=>rfl
theorem zIa{fr fr':Fr}{l:List Arg}(h:∀t∈argsTmps l,fr t=fr' t):zo fr l=zo fr' l:=by
 unfold zo;apply List.map_congr_left;intro a ha;rw[zR fun t ht=>h t (ysa.2 ⟨a,ha,ht⟩)]
theorem fillParts_congr{fr fr':Fr}:∀(ps:List (Nat×Nat×Arg)) (cs:List PV),(∀t∈ps.flatMap (fun p=>p.2.2.tmps),fr t=fr' t)->zIb fr cs ps=zIb fr' cs ps
 | [],cs,_=>rfl
 |(off,sz,a)::r,cs,h=>by
  have e:=zR (a:=a) fun t ht=>h t (ysa.2 ⟨_,yua,ht⟩)
  have ih:=fun cs=>fillParts_congr r cs fun t ht=>h t (by
   obtain⟨p,hp,hq⟩:=ysa.1 ht;exact ysa.2 ⟨p,yGa _ hp,hq⟩)
  simp only[zIb,e,ih]
theorem fillPartsF_congr{fr fr':Fr}:∀(ps:List (Nat×Nat×Arg)) (cs:List PV),(∀t∈ps.flatMap (fun p=>p.2.2.tmps),fr t=fr' t)->zvb fr cs ps=zvb fr' cs ps
 | [],cs,_=>rfl
 |(off,sz,a)::r,cs,h=>by
  have e:=zR (a:=a) fun t ht=>h t (ysa.2 ⟨_,yua,ht⟩)
  have ih:=fun cs=>fillPartsF_congr r cs fun t ht=>h t (by
   obtain⟨p,hp,hq⟩:=ysa.1 ht;exact ysa.2 ⟨p,yGa _ hp,hq⟩)
  simp only[zvb,e,ih]
theorem zcd{fr fr':Fr}{sz:Nat}:∀(ps:List (Nat×Arg)) (cs:List PV),(∀t∈ps.flatMap (fun p=>p.2.tmps),fr t=fr' t)->zib fr sz cs ps=zib fr' sz cs ps
 | [],cs,_=>rfl
 |(i,a)::r,cs,h=>by
  have e:=zR (a:=a) fun t ht=>h t (ysa.2 ⟨_,yua,ht⟩)
  have ih:=fun cs=>zcd (sz:=sz) r cs fun t ht=>h t (by
   obtain⟨p,hp,hq⟩:=ysa.1 ht;exact ysa.2 ⟨p,yGa _ hp,hq⟩)
  simp only[zib,e,ih]
theorem zod{fr fr':Fr}{a:Option Arg}{d:Nat}(h:∀t∈optTmps a,fr t=fr' t):zXc fr a d=zXc fr' a d:=by
 cases a with
 |none=>rfl
 |some a=>simp only[zXc,zR h]
theorem sem_congr{fr fr':Fr}{b:Bx}{st:ze}{o:IOp}(h:∀t∈o.reads,fr t=fr' t):o.sem fr b st=o.sem fr' b st:=by
 cases o<;>simp only[IOp.reads,yw,or_imp,forall_and]at h
 case take s=>simp only[IOp.sem,h s (by simp)]
 case pick c x y=>simp only[IOp.sem,zR h.1.1,zR h.1.2,zR h.2]
 case build z ps=>simp only[IOp.sem,fillParts_congr ps z h]
 case buildF z ps=>simp only[IOp.sem,fillPartsF_congr ps z h]
 case bslice sz z n ps=>simp only[IOp.sem,zcd ps _ h]
 case bsliceS sz z n ps=>simp only[IOp.sem,zcd ps _ h]
 case storeT w x t=>simp only[IOp.sem,zUb,zR h.1,h.2 t (by simp)]
 case store w sz x y=>simp only[IOp.sem,zUb,zR h.1,zR h.2]
 case mkfn f x y=>
  have e1:=zIa h.1;have e2:=zIa h.2;unfold zo at e1 e2;simp only[IOp.sem,e1,e2]
 case slc i z x lo hi mx=>
  obtain⟨⟨⟨h1,h2⟩,h3⟩,h4⟩:=h;cases mx with
  |none=>simp only[IOp.sem,zR h1,zod h2,zod h3]
  |some m=>simp only[IOp.sem,zR h1,zod h2,zod h3,zR (a:=m) h4]
 case mapset ks m k v=>simp only[IOp.sem,zR h.1.1,zR h.1.2,zR h.2]
 case mkmap=>rfl
 all_goals first
  |rfl
  |(simp only[IOp.sem,zR h];done)
  |(simp only[IOp.sem,zR h.1,zR h.2];done)
theorem sem_free{fr:Fr}{b:Bx}{st st2:ze}{o:IOp}(h0:o.stU=0):o.sem fr b st2=(o.sem fr b st).map fun r=>(r.1,r.2.1,st2):=by
 cases o<;>simp only[IOp.stU]at h0<;>try(cases h0;done)
 case len tk a=>
  split at h0
  ·cases h0
  rename_i htk;have:lenSem st2 tk (a.val fr)=lenSem st tk (a.val fr):=by
   unfold lenSem;split<;>simp[htk]
  simp only[IOp.sem,this,Option.map_map,yP]
 case load w ag sz a=>
  cases w with
  |any=>cases h0
  |_=>
   simp only[IOp.sem]
   (repeat' (first|rfl|split))<;>simp_all[yP]
 case loadT w a=>
  cases w with
  |box k=>
   simp only[IOp.sem]
   (repeat' (first|rfl|split))<;>simp_all[yP]
  |_=>cases h0
 case store w sz a x=>
  cases w with
  |box k=>
   simp only[IOp.sem,zUb]
   (repeat' (first|rfl|split))<;>simp_all[yP]
  |_=>cases h0
 case storeT w a x=>
  cases w with
  |box k=>
   simp only[IOp.sem,zUb]
   (repeat' (first|rfl|split))<;>simp_all[yP]
  |_=>cases h0
 all_goals
  simp only[IOp.sem,Option.map_map,yP]
  try((repeat' (first|rfl|split))<;>simp_all[yP])
theorem sem_reads{fr:Fr}{b b':Bx}{st st':ze}{v:PV}{o:IOp}(h0:o.stU<=1)(h:o.sem fr b st=some (v,b',st')):st'=st:=by
 by_cases hz:o.stU=0
 ·have:=sem_free (fr:=fr) (b:=b) (st:=st) (st2:=st) hz;rw[h]at this;simp only[yZ,Option.some.injEq,Prod.mk.injEq]at this;exact this.2.2
 ·cases o<;>try(first|exact absurd rfl hz|(simp[IOp.stU]at h0;done))
  case len tk a=>
   simp only[IOp.sem,yb,Prod.mk.injEq]at h;obtain⟨_,_,_,_,rfl⟩:=h;rfl
  case load w ag sz a=>
   cases w with
   |any=>
    simp only[IOp.sem]at h
    (repeat' (split at h))<;>simp_all
    all_goals(obtain⟨x,_,_,_,hx⟩:=h;exact hx.symm)
   |_=>exact absurd rfl hz
  case callR f args=>simp[IOp.sem]at h
  case callV f args=>simp[IOp.sem]at h
  case loadB ag sz a=>
   simp only[IOp.sem]at h;split at h
   ·simp only[yaa,yb,Prod.mk.injEq]at h;obtain⟨_,_,_,_,_,_,_,_,rfl⟩:=h;rfl
   ·cases h
  case loadN q ag sz a=>
   simp only[IOp.sem]at h
   (repeat' (split at h))<;>simp_all
   all_goals(obtain⟨x,_,_,_,hx⟩:=h;exact hx.symm)
  case loadT w a=>cases w<;>first|exact absurd rfl hz|(simp[IOp.stU]at h0;done)
  case store w sz a x=>cases w<;>first|exact absurd rfl hz|(simp[IOp.stU]at h0;done)
  case storeT w a x=>cases w<;>first|exact absurd rfl hz|(simp[IOp.stU]at h0;done)
  case lookup ks ok z m k=>
   simp only[IOp.sem]at h
   (repeat' (split at h))<;>simp_all
   all_goals(obtain⟨x,_,hx⟩:=h;cases x<;>simp at hx<;>exact hx.2.2.symm)
  case append sz by_ x y=>
   simp only[IOp.sem]at h
   (repeat' (split at h))<;>simp_all[yaa]
   all_goals(obtain⟨x,_,hx⟩:=h;(repeat' (split at hx))<;>simp_all)
def GOp.rds(g:GOp):List Nat:=g.op.reads++(match g.g with|some (t,_)=>[t]|none=>[])
def GOp.wrs(g:GOp):List Nat:=g.op.takes++g.dst.toList
def disj(x y:List Nat):Bool:=x.all fun t=> !y.contains t
theorem disj_spec{x y:List Nat}(h:disj x y=true):∀t,t∈x->t∈y->False:=by
 intro t h1 h2;have:=yr.1 h t h1;simp[h2]at this
def stIndep(x y:Nat):Bool:=decide (x=0)||decide (y=0)||(decide (x<=1)&&decide (y<=1))
def zsd:Option Nat->Option Nat->Bool
 |some i,some j=>decide (i≠j)
 |_,_=>true
def IOp.looks:IOp->Bool
 | .load .. =>true
 |_=>false
def IOp.ldAny:IOp->Bool
 | .load .any _ _ _=>true
 |_=>false
def IOp.ldTAny:IOp->Bool
 | .loadT .any _=>true
 |_=>false
def IOp.ldBig:IOp->Bool
 | .loadB .. =>true
 |_=>false
def IOp.ckB:IOp->Bool
 | .callK .. =>true
 |_=>false
def ld2(x y:IOp):Bool:=(x.ldAny&&y.ldTAny)||(x.ldBig&&y.ckB)
def ldIndep(x y:IOp):Bool:=ld2 x y||ld2 y x
def IOp.alc:IOp->Bool
 | .boxS .. | .bsliceS .. | .mksliceS .. | .mkmap=>true
 |_=>false
def alIndep(x y:IOp):Bool:=(x.ldAny||x.ldTAny)&&y.alc
def IOp.at? :IOp->Option Nat
 | .loadN q .. | .storeN q .. =>some q
 |_=>none
def atIndep(x y:IOp):Bool:=match x.at?,y.at? with
 |some i,some j=>decide (i≠j)
 |_,_=>false
def indep(x y:GOp):Bool:=
 !x.op.mayPan&&(!y.op.mayPan||decide (x.op.stU<=1))&&disj x.wrs y.rds&&disj y.wrs x.rds&&disj x.wrs y.wrs&&(stIndep x.op.stU y.op.stU||ldIndep x.op y.op||alIndep x.op y.op||atIndep x.op y.op)&&(zsd x.op.box? y.op.box? ||(x.op.looks&&y.op.looks))
noncomputable def eff(cf:zH)(o:IOp)(fr:Fr)(b:Bx)(st:ze):Option (PV×Bx×ze):=
 match o with
 | .call pk f args=>match f.val fr with
  | .fn k first caps=>
   if(zo fr args).all zG then
   match cf k (first++zo fr args++caps) st with
   |some (.ret v,st')=>some (v,b,st')
   |_=>none
   else none
  |_=>none
 | .callP pk f args=>match f.val fr with
  | .fn k first caps=>
   if(zo fr args).all zG&&zZ 0 (first++zo fr args++caps)then
   match cf k (first++zo fr args++caps) []with
   |some (.ret v,_)=>if zD 0 v then some (v,b,st)else none
   |_=>none
   else none
  |_=>none
 | .callR f args=>match f.val fr with
  | .fn k first caps=>
   if(zo fr args).all zG then
   match cf k (first++zo fr args++caps) st with
   |some (.ret v,st')=>if same st' st then some (v,b,st)else none
   |_=>none
   else none
  |_=>none
 | .callK f args=>match f.val fr with
  | .fn k first caps=>
   if(zo fr args).all zG then
   match cf k (first++zo fr args++caps) st with
   |some (.ret v,st')=>if sameBig st' st then some (v,b,st')else none
   |_=>none
   else none
  |_=>none
 | .callV f args=>match f.val fr with
  | .fn k first caps=>
   if(zGa fr args st).all zG&&zZ 0 (first++zGa fr args st++caps)then
   match cf k (first++zGa fr args st++caps) []with
   |some (.ret v,_)=>if scalarV v then some (v,b,st)else none
   |_=>none
   else none
  |_=>none
 | .panic _=>none
 |o=>o.sem fr b st
noncomputable def geff(cf:zH)(g:GOp)(fr:Fr)(b:Bx)(st:ze):Option (Bool×PV×Bx×ze):=
 match g.g with
 |none=>(eff cf g.op fr b st).map fun r=>(true,r.1,r.2.1,r.2.2)
 |some (t,w)=>match gate w (fr t)with
  |some true=>(eff cf g.op fr b st).map fun r=>(true,r.1,r.2.1,r.2.2)
  |some false=>some (false,.tup [],b,st)
  |none=>none
def wr(fr:Fr)(k:Bool)(T:List Nat)(d:Option Nat)(v:PV):Fr:=zSa (if k then zRa fr T else fr) d v
theorem setBx_get(bx:Bxs)(k:Option Nat):zGb bx k (zY bx k)=bx:=by
 cases k with
 |none=>rfl
 |some k=>funext j;simp only[zGb,zY,upd];split<;>simp_all
theorem step_ok{cf:zH}{g:GOp}{s s':St}:step cf g s=some (.ok s')<->∃k v b' st',geff cf g s.fr (zY s.bx g.op.box?) s.st=some (k,v,b',st')/\s'={fr:=wr s.fr k g.op.takes g.dst v,bx:=zGb s.bx g.op.box? b',st:=st'}:=by
 have hrun:zJ cf g.dst g.op s=some (.ok s')<->∃v b' st',eff cf g.op s.fr (zY s.bx g.op.box?) s.st=some (v,b',st')/\s'={fr:=wr s.fr true g.op.takes g.dst v,bx:=zGb s.bx g.op.box? b',st:=st'}:=by
  obtain⟨gd,dst,op⟩:=g;cases op
  case call pk f args=>
   simp only[zJ,eff];cases hfv:Arg.val s.fr f
   case fn k first caps=>
    simp only;by_cases hall:(zo s.fr args).all zG=true
    ·simp only[if_pos hall];cases hcf:cf k (first++zo s.fr args++caps) s.st with
     |none=>simp
     |some r=>
      obtain⟨r,st'⟩:=r;cases r with
      |ret v=>
       simp only[Option.some.injEq,SR.ok.injEq,Prod.mk.injEq];constructor
       ·rintro rfl;exact⟨_,_,_,⟨rfl,rfl,rfl⟩,rfl⟩
       ·rintro⟨_,_,_,⟨rfl,rfl,rfl⟩,rfl⟩;rfl
      |pan v=>cases pk<;>simp
    ·simp only[if_neg hall];simp
   all_goals simp
  case callP pk f args=>
   simp only[zJ,eff];cases hfv:Arg.val s.fr f
   case fn k first caps=>
    simp only;by_cases hall:((zo s.fr args).all zG&&zZ 0 (first++zo s.fr args++caps))=true
    ·simp only[if_pos hall];cases hcf:cf k (first++zo s.fr args++caps) []with
     |none=>simp
     |some r=>
      obtain⟨r,st'⟩:=r;cases r with
      |ret v=>
       simp only;by_cases hb:zD 0 v=true
       ·simp only[if_pos hb,Option.some.injEq,SR.ok.injEq,Prod.mk.injEq];constructor
        ·rintro rfl;exact⟨_,_,_,⟨rfl,rfl,rfl⟩,rfl⟩
        ·rintro⟨_,_,_,⟨rfl,rfl,rfl⟩,rfl⟩;rfl
       ·simp only[if_neg hb];simp
      |pan v=>
       simp only;by_cases hb:(pk&&zD 0 v)=true
       ·simp only[if_pos hb];simp
       ·simp only[if_neg hb];simp
    ·simp only[if_neg hall];simp
   all_goals simp
  case callR f args=>
   simp only[zJ,eff];cases hfv:Arg.val s.fr f
   case fn k first caps=>
    simp only;by_cases hall:(zo s.fr args).all zG=true
    ·simp only[if_pos hall];cases hcf:cf k (first++zo s.fr args++caps) s.st with
     |none=>simp
     |some r=>
      obtain⟨r,st'⟩:=r;cases r with
      |ret v=>
       simp only;by_cases hb:same st' s.st=true
       ·simp only[if_pos hb,Option.some.injEq,SR.ok.injEq,Prod.mk.injEq];constructor
        ·rintro rfl;exact⟨_,_,_,⟨rfl,rfl,rfl⟩,rfl⟩
        ·rintro⟨_,_,_,⟨rfl,rfl,rfl⟩,rfl⟩;rfl
       ·simp only[if_neg hb];simp
      |pan v=>simp
    ·simp only[if_neg hall];simp
   all_goals simp
  case callV f args=>
   simp only[zJ,eff];cases hfv:Arg.val s.fr f
   case fn k first caps=>
    simp only;by_cases hall:((zGa s.fr args s.st).all zG&&zZ 0 (first++zGa s.fr args s.st++caps))=true
    ·simp only[if_pos hall];cases hcf:cf k (first++zGa s.fr args s.st++caps) []with
     |none=>simp
     |some r=>
      obtain⟨r,st'⟩:=r;cases r with
      |ret v=>
       simp only;by_cases hb:scalarV v=true
       ·simp only[if_pos hb,Option.some.injEq,SR.ok.injEq,Prod.mk.injEq];constructor
        ·rintro rfl;exact⟨_,_,_,⟨rfl,rfl,rfl⟩,rfl⟩
        ·rintro⟨_,_,_,⟨rfl,rfl,rfl⟩,rfl⟩;rfl
       ·simp only[if_neg hb];simp
      |pan v=>simp
    ·simp only[if_neg hall];simp
   all_goals simp
  case callK f args=>
   simp only[zJ,eff];cases hfv:Arg.val s.fr f
   case fn k first caps=>
    simp only;by_cases hall:(zo s.fr args).all zG=true
    ·simp only[if_pos hall];cases hcf:cf k (first++zo s.fr args++caps) s.st with
     |none=>simp
     |some r=>
      obtain⟨r,st'⟩:=r;cases r with
      |ret v=>
       simp only;by_cases hb:sameBig st' s.st=true
       ·simp only[if_pos hb,Option.some.injEq,SR.ok.injEq,Prod.mk.injEq];constructor
        ·rintro rfl;exact⟨_,_,_,⟨rfl,rfl,rfl⟩,rfl⟩
        ·rintro⟨_,_,_,⟨rfl,rfl,rfl⟩,rfl⟩;rfl
       ·simp only[if_neg hb];simp
      |pan v=>simp
    ·simp only[if_neg hall];simp
   all_goals simp
  case panic a=>
   simp only[zJ,eff];split<;>simp
  all_goals
   simp only[zJ,eff];split
   ·rename_i v b' st' h;simp only[Option.some.injEq,SR.ok.injEq,h,Prod.mk.injEq];constructor
    ·rintro rfl;exact⟨_,_,_,⟨rfl,rfl,rfl⟩,rfl⟩
    ·rintro⟨_,_,_,⟨rfl,rfl,rfl⟩,rfl⟩;rfl
   ·rename_i h;simp[h]
 have hmap:(∃v b' st',eff cf g.op s.fr (zY s.bx g.op.box?) s.st=some (v,b',st')/\s'={fr:=wr s.fr true g.op.takes g.dst v,bx:=zGb s.bx g.op.box? b',st:=st'})↔
   ∃k v b' st',((eff cf g.op s.fr (zY s.bx g.op.box?) s.st).map fun r=>(true,r.1,r.2.1,r.2.2))=some (k,v,b',st')/\s'={fr:=wr s.fr k g.op.takes g.dst v,bx:=zGb s.bx g.op.box? b',st:=st'}:=by
  constructor
  ·rintro⟨v,b',st',h,rfl⟩;exact⟨true,v,b',st',by rw[h];rfl,rfl⟩
  ·rintro⟨k,v,b',st',h,rfl⟩
   simp only[yb,Prod.mk.injEq]at h;obtain⟨r,h,rfl,rfl,rfl,rfl⟩:=h;exact⟨_,_,_,h,rfl⟩
 unfold step geff;cases hg:g.g with
 |none=>
  simp only;rw[hrun];exact hmap
 |some x=>
  obtain⟨t,w⟩:=x;simp only;cases ht:gate w (s.fr t)with
  |none=>simp
  |some x=>
   cases x
   ·simp only[Option.some.injEq,SR.ok.injEq,Prod.mk.injEq];constructor
    ·rintro rfl;exact⟨_,_,_,_,⟨rfl,rfl,rfl,rfl⟩,by simp only[wr,setBx_get];rfl⟩
    ·rintro⟨_,_,_,_,⟨rfl,rfl,rfl,rfl⟩,rfl⟩;simp only[wr,setBx_get];rfl
   ·simp only;rw[hrun];exact hmap
theorem step_pan{cf:zH}{g:GOp}{s:St}(h:g.op.mayPan=false){v:PV}{st:ze}:step cf g s≠some (.pan v st):=by
 have hrun:zJ cf g.dst g.op s≠some (.pan v st):=by
  obtain⟨gd,dst,op⟩:=g;cases op
  case call pk f args=>
   simp only[IOp.mayPan]at h;subst h;simp only[zJ];cases Arg.val s.fr f
   case fn k first caps=>
    simp only;split
    ·cases cf k (first++zo s.fr args++caps) s.st with
     |none=>simp
     |some r=>
      obtain⟨r,st'⟩:=r;cases r<;>simp
    ·simp
   all_goals simp
  case callP pk f args=>
   simp only[IOp.mayPan]at h;subst h;simp only[zJ];cases Arg.val s.fr f
   case fn k first caps=>
    simp only;split
    ·cases cf k (first++zo s.fr args++caps) []with
     |none=>simp
     |some r=>
      obtain⟨r,st'⟩:=r;cases r with
      |ret v=>simp only;split<;>simp
      |pan v=>simp
    ·simp
   all_goals simp
  case callR f args=>
   simp only[zJ];cases Arg.val s.fr f
   case fn k first caps=>
    simp only;split
    ·cases cf k (first++zo s.fr args++caps) s.st with
     |none=>simp
     |some r=>
      obtain⟨r,st'⟩:=r;cases r with
      |ret v=>simp only;split<;>simp
      |pan v=>simp
    ·simp
   all_goals simp
  case callV f args=>
   simp only[zJ];cases Arg.val s.fr f
   case fn k first caps=>
    simp only;split
    ·cases cf k (first++zGa s.fr args s.st++caps) []with
     |none=>simp
     |some r=>
      obtain⟨r,st'⟩:=r;cases r with
      |ret v=>simp only;split<;>simp
      |pan v=>simp
    ·simp
   all_goals simp
  case callK f args=>
   simp only[zJ];cases Arg.val s.fr f
   case fn k first caps=>
    simp only;split
    ·cases cf k (first++zo s.fr args++caps) s.st with
     |none=>simp
     |some r=>
      obtain⟨r,st'⟩:=r;cases r with
      |ret v=>simp only;split<;>simp
      |pan v=>simp
    ·simp
   all_goals simp
  case panic a=>cases h
  all_goals
   simp only[zJ];split<;>simp
 unfold step;split
 ·exact hrun
 ·split
  ·exact hrun
  ·simp
  ·simp
theorem eff_congr{cf:zH}{o:IOp}{fr fr':Fr}{b:Bx}{st:ze}(h:∀t∈o.reads,fr t=fr' t):eff cf o fr b st=eff cf o fr' b st:=by
 cases o
 case call pk f args=>
  simp only[IOp.reads,yw,or_imp,forall_and]at h;simp only[eff,zR h.1,zIa h.2]
 case callP pk f args=>
  simp only[IOp.reads,yw,or_imp,forall_and]at h;simp only[eff,zR h.1,zIa h.2]
 case callR f args=>
  simp only[IOp.reads,yw,or_imp,forall_and]at h;simp only[eff,zR h.1,zIa h.2]
 case callK f args=>
  simp only[IOp.reads,yw,or_imp,forall_and]at h;simp only[eff,zR h.1,zIa h.2]
 case callV f args=>
  simp only[IOp.reads,yw,or_imp,forall_and]at h;have hv:zGa fr args st=zGa fr' args st:=by unfold zGa;rw[zIa h.2]
  simp only[eff,zR h.1,hv]
 case panic a=>rfl
 all_goals exact sem_congr h
theorem geff_congr{cf:zH}{g:GOp}{fr fr':Fr}{b:Bx}{st:ze}(h:∀t∈g.rds,fr t=fr' t):geff cf g fr b st=geff cf g fr' b st:=by
 unfold GOp.rds at h;simp only[yw,or_imp,forall_and]at h;have he:=eff_congr (cf:=cf) (b:=b) (st:=st) h.1;unfold geff;cases hg:g.g with
 |none=>simp only[he]
 |some x=>
  obtain⟨t,w⟩:=x;rw[hg]at h;simp only[h.2 t (by simp),he]
theorem eff_free{cf:zH}{o:IOp}{fr:Fr}{b:Bx}{st st2:ze}(h0:o.stU=0):eff cf o fr b st2=(eff cf o fr b st).map fun r=>(r.1,r.2.1,st2):=by
 cases o
 case call pk f args=>cases h0
 case callP pk f args=>
  simp only[eff];split
  ·split
   ·split
    ·split<;>rfl
    ·rfl
   ·rfl
  ·rfl
 case callR f args=>cases h0
 case callV f args=>cases h0
 case callK f args=>cases h0
 case panic a=>rfl
 all_goals exact sem_free (fr:=fr) h0
theorem geff_free{cf:zH}{g:GOp}{fr:Fr}{b:Bx}{st st2:ze}(h0:g.op.stU=0):geff cf g fr b st2=(geff cf g fr b st).map fun r=>(r.1,r.2.1,r.2.2.1,st2):=by
 unfold geff;rw[eff_free (st:=st) (st2:=st2) h0];cases g.g with
 |none=>simp[yP]
 |some x=>
  obtain⟨t,w⟩:=x;simp only;split
  ·simp[yP]
  ·rfl
  ·rfl
theorem eff_reads{cf:zH}{fr:Fr}{b b':Bx}{st st':ze}{v:PV}{o:IOp}(h0:o.stU<=1)(h:eff cf o fr b st=some (v,b',st')):st'=st:=by
 cases o
 case call pk f args=>(simp[IOp.stU]at h0;done)
 case callK f args=>(simp[IOp.stU]at h0;done)
 case callP pk f args=>
  simp only[eff]at h;split at h
  ·split at h
   ·split at h
    ·split at h
     ·cases h;rfl
     ·cases h
    ·cases h
   ·cases h
  ·cases h
 case callR f args=>
  simp only[eff]at h;split at h
  ·split at h
   ·split at h
    ·split at h
     ·cases h;rfl
     ·cases h
    ·cases h
   ·cases h
  ·cases h
 case callV f args=>
  simp only[eff]at h;split at h
  ·split at h
   ·split at h
    ·split at h
     ·cases h;rfl
     ·cases h
    ·cases h
   ·cases h
  ·cases h
 case panic a=>cases h
 all_goals exact sem_reads (fr:=fr) h0 h
theorem zpc{cf:zH}{fr:Fr}{b b':Bx}{st st':ze}{v:PV}{k:Bool}{g:GOp}(h0:g.op.stU<=1)(h:geff cf g fr b st=some (k,v,b',st')):st'=st:=by
 unfold geff at h;cases hg:g.g with
 |none=>
  rw[hg]at h;simp only[yb,Prod.mk.injEq]at h;obtain⟨r,h,rfl,rfl,rfl,rfl⟩:=h;exact eff_reads h0 h
 |some x=>
  obtain⟨t,w⟩:=x;rw[hg]at h;simp only at h;split at h
  ·simp only[yb,Prod.mk.injEq]at h;obtain⟨r,h,rfl,rfl,rfl,rfl⟩:=h;exact eff_reads h0 h
  ·cases h;rfl
  ·cases h
theorem geff_zero{cf:zH}{fr:Fr}{b b':Bx}{st st' st2:ze}{v:PV}{k:Bool}{g:GOp}(h0:g.op.stU=0)(h:geff cf g fr b st=some (k,v,b',st')):st'=st/\geff cf g fr b st2=some (k,v,b',st2):=by
 refine⟨zpc (by omega) h,?_⟩;rw[geff_free (st:=st) h0,h];rfl
theorem strip_strip(v:PV):strip (strip v)=strip v:=by
 cases v with
 |slice k z l=>cases k<;>rfl
 |_=>rfl
theorem stripAll_at(T:List Nat):∀(fr:Fr) (t:Nat),zRa fr T t=if t∈T then strip (fr t)else fr t:=by
 induction T with
 |nil=>intro fr t;simp[zRa]
 |cons x T ih=>
  intro fr t;simp only[zRa,ih,upd,yia];by_cases h1:t=x
  ·subst h1;by_cases h2:t∈T<;>simp[h2,strip_strip]
  ·by_cases h2:t∈T<;>simp[h1,h2]
theorem wr_at(fr:Fr)(k:Bool)(T:List Nat)(d:Option Nat)(v:PV)(t:Nat):wr fr k T d v t=if d=some t then v else if k=true/\t∈T then strip (fr t)else fr t:=by
 unfold wr;cases d with
 |none=>cases k<;>simp[zSa,stripAll_at]
 |some d=>
  simp only[zSa,upd,Option.some.injEq];by_cases h:t=d
  ·subst h;simp
  ·have h':¬d=t:=fun e=>h e.symm
   rw[if_neg h,if_neg h'];cases k<;>simp[stripAll_at]
theorem wr_out{fr:Fr}{k:Bool}{T:List Nat}{d:Option Nat}{v:PV}{t:Nat}(h:t ∉ T++d.toList):wr fr k T d v t=fr t:=by
 simp only[yw,Option.mem_toList,not_or]at h;rw[wr_at,if_neg h.2,if_neg (fun e=>h.1 e.2)]
theorem wr_comm{fr:Fr}{k k':Bool}{T T':List Nat}{d d':Option Nat}{v v':PV}(h:∀t,t∈T++d.toList->t∈T'++d'.toList->False):
  wr (wr fr k T d v) k' T' d' v'=wr (wr fr k' T' d' v') k T d v:=by
 funext t;by_cases h1:t∈T++d.toList
 ·have h2:t ∉ T'++d'.toList:=fun h2=>h t h1 h2
  rw[wr_out h2];simp only[wr_at (wr fr k' T' d' v'),wr_at fr k T,wr_out h2]
 ·rw[wr_out h1];simp only[wr_at (wr fr k T d v),wr_at fr k' T',wr_out h1]
theorem setBx_comm{bx:Bxs}{i j:Option Nat}(h:zsd i j=true)(u v:Bx):zGb (zGb bx i u) j v=zGb (zGb bx j v) i u:=by
 cases i with
 |none=>rfl
 |some i=>
  cases j with
  |none=>rfl
  |some j=>
   simp only[zsd,decide_eq_true_eq]at h;exact upd_comm bx u v (Ne.symm h)
theorem getBx_set{bx:Bxs}{i j:Option Nat}(h:zsd i j=true)(u:Bx):zY (zGb bx i u) j=zY bx j:=by
 cases i with
 |none=>rfl
 |some i=>
  cases j with
  |none=>rfl
  |some j=>
   simp only[zsd,decide_eq_true_eq]at h;exact zEa bx u (Ne.symm h)
theorem boxIndep_symm{i j:Option Nat}(h:zsd i j=true):zsd j i=true:=by
 cases i with
 |none=>cases j<;>rfl
 |some i=>
  cases j with
  |none=>rfl
  |some j=>simp only[zsd,decide_eq_true_eq]at h ⊢;exact Ne.symm h
theorem load_same{fr:Fr}{b b':Bx}{st st':ze}{v:PV}{wh:Where}{ag:Bool}{sz:Nat}{a:Arg}(h:IOp.sem fr b st (.load wh ag sz a)=some (v,b',st')):b'=b:=by
 simp only[IOp.sem]at h;split at h
 ·split at h
  ·split at h
   ·simp only[yb,Prod.mk.injEq]at h;obtain⟨_,_,_,h,_⟩:=h;exact h.symm
   ·cases h
  ·cases h
 ·simp only[yb,Prod.mk.injEq]at h;obtain⟨_,_,_,h,_⟩:=h;exact h.symm
 ·simp only[yb,Prod.mk.injEq]at h;obtain⟨_,_,_,h,_⟩:=h;exact h.symm
 ·split at h
  ·split at h
   ·simp only[yb,Prod.mk.injEq]at h;obtain⟨_,_,_,h,_⟩:=h;exact h.symm
   ·cases h
  ·cases h
 ·cases h
theorem geff_looks{cf:zH}{fr:Fr}{b b':Bx}{st st':ze}{v:PV}{k:Bool}{g:GOp}(hl:g.op.looks=true)(h:geff cf g fr b st=some (k,v,b',st')):b'=b:=by
 have he:∀v b' st',eff cf g.op fr b st=some (v,b',st')->b'=b:=by
  intro v b' st' h;cases ho:g.op with
  |load wh ag sz a=>rw[ho]at h;exact load_same h
  |_=>rw[ho]at hl;cases hl
 unfold geff at h;cases hg:g.g with
 |none=>
  rw[hg]at h;simp only[yb,Prod.mk.injEq]at h;obtain⟨r,h,rfl,rfl,rfl,rfl⟩:=h;exact he _ _ _ h
 |some x=>
  obtain⟨t,w⟩:=x;rw[hg]at h;simp only at h;split at h
  ·simp only[yb,Prod.mk.injEq]at h;obtain⟨r,h,rfl,rfl,rfl,rfl⟩:=h;exact he _ _ _ h
  ·cases h;rfl
  ·cases h
theorem canon1_strip(v:PV):canon1 (strip v)=canon1 v:=by
 cases v with
 |slice k z l=>cases k<;>rfl
 |_=>rfl
theorem stripA_strip(v:PV):stripA (strip v)=stripA v:=by
 cases v with
 |slice k z l=>cases k<;>rfl
 |_=>rfl
theorem map_canon_set{cs:List PV}{off:Nat}{v:PV}(h:cs[off]? =some v):(cs.set off (strip v)).map canon1=cs.map canon1:=by
 apply yBa;intro i;simp only[yn,List.getElem?_set];split
 ·rename_i e;subst e;split
  ·rw[h];simp[canon1_strip]
  ·rename_i hl;rw[yfa (by omega)]
 ·rfl
theorem cells_rebuild{e:PV}{cs:List PV}(h:cs.length=(cellsOf e).length)(hn:∀v,cs[0]? =some v->isAggV e=false->isAggV v=false):cellsOf (zCa e cs)=cs:=by
 unfold zCa;split
 ·rfl
 ·rename_i hne;have hc:cellsOf e=[e]:=by
   unfold cellsOf;split
   ·exact absurd rfl (hne _)
   ·rfl
  rw[hc]at h
  match cs,h with
  | [x],_=>
   have hx:=hn x rfl (by cases e<;>first|rfl|exact absurd rfl (hne _));cases x<;>first|rfl|(cases hx;done)
theorem readCells_set{ag:Bool}{sz off o:Nat}{cs:List PV}{v:PV}(h:cs[off]? =some v):(zM ag sz (cs.set off (strip v)) o).map stripA=(zM ag sz cs o).map stripA:=by
 unfold zM;cases ag
 ·simp only[yi,if_false];rw[List.getElem?_set];split
  ·rename_i e;subst e;split
   ·rw[h];simp[stripA_strip]
   ·rename_i hl;rw[yfa (by omega)]
  ·rfl
 ·simp only[if_true,List.length_set];split
  ·simp only[yZ,stripA,List.map_take,List.map_drop,map_canon_set h]
  ·rfl
theorem isAggV_strip(v:PV):isAggV (strip v)=isAggV v:=by
 cases v with
 |slice k z l=>cases k<;>rfl
 |_=>rfl
theorem load_loadT{fr fr':Fr}{b bt bt':Bx}{st st':ze}{ag:Bool}{sz:Nat}{a c:Arg}{v:PV}(h:IOp.sem fr' bt st (.loadT .any c)=some (v,bt',st')):
  IOp.sem fr b st' (.load .any ag sz a)=(IOp.sem fr b st (.load .any ag sz a)).map fun r=>(r.1,r.2.1,st'):=by
 simp only[IOp.sem]at h;cases hcv:Arg.val fr' c<;>rw[hcv]at h<;>try(cases h;done)
 rename_i l i off;simp only at h;split at h
 case h_2=>cases h
 rename_i s es hl;split at h
 case h_2=>cases h
 rename_i e he;cases hv:(cellsOf e)[off]? with
 |none=>rw[hv]at h;cases h
 |some x=>
  rw[hv]at h;simp only[yZ,Option.some.injEq,Prod.mk.injEq]at h;obtain⟨rfl,_,rfl⟩:=h;have hcell:cellsOf (zCa e ((cellsOf e).set off (strip x)))=(cellsOf e).set off (strip x):=by
   apply cells_rebuild (by simp);intro y hy ha;have hc:cellsOf e=[e]:=by cases e<;>first|rfl|(cases ha;done)
   rw[hc]at hv hy;cases off with
   |zero=>simp at hv hy;subst hv;subst hy;rw[isAggV_strip];exact ha
   |succ o=>simp at hv
  simp only[IOp.sem];cases hav:Arg.val fr a<;>simp only[Option.map_none,Option.map_map,yP]
  rename_i l' i' off';rw[List.getElem?_set];by_cases e1:l=l'
  ·subst e1;have hlt:l<st.length:=(yc.1 hl).1;simp only[if_pos,hlt,hl,List.getElem?_set];by_cases e2:i=i'
   ·subst e2;have hlt2:i<es.length:=(yc.1 he).1;simp only[if_pos,hlt2,he,hcell];have:=readCells_set (ag:=ag) (sz:=sz) (o:=off') hv;cases q1:zM ag sz ((cellsOf e).set off (strip x)) off'<;>cases q2:zM ag sz (cellsOf e) off'<;>rw[q1,q2]at this<;>simp at this ⊢
    exact this
   ·simp only[if_neg e2];cases es[i']? <;>simp[yP]
  ·simp only[if_neg e1];cases st[l']? with
   |none=>simp
   |some q=>cases q with
    |mp es=>simp
    |dead z=>simp
    |arr z es=>simp only;cases es[i']? <;>simp[yP]
theorem geff_load_loadT{cf:zH}{x y:GOp}{fr fr':Fr}{b bt bt':Bx}{st st':ze}{v:PV}{k:Bool}(hx:x.op.ldAny=true)(hy:y.op.ldTAny=true)(h:geff cf y fr' bt st=some (k,v,bt',st')):
  geff cf x fr b st'=(geff cf x fr b st).map fun r=>(r.1,r.2.1,r.2.2.1,st'):=by
 have hxo:∃ag sz a,x.op= .load .any ag sz a:=by
  cases hq:x.op<;>rw[hq]at hx<;>try(cases hx;done)
  rename_i w ag sz a;cases w<;>first|exact⟨_,_,_,rfl⟩|(cases hx;done)
 have hyo:∃a,y.op= .loadT .any a:=by
  cases hq:y.op<;>rw[hq]at hy<;>try(cases hy;done)
  rename_i w a;cases w<;>first|exact⟨_,rfl⟩|(cases hy;done)
 obtain⟨ag,sz,a,hxo⟩:=hxo;obtain⟨c,hyo⟩:=hyo;have hst:st'=st\/∃v,IOp.sem fr' bt st (.loadT .any c)=some (v,bt',st'):=by
  unfold geff at h;rw[hyo]at h;cases hg:y.g with
  |none=>
   rw[hg]at h;simp only[eff,yb,Prod.mk.injEq]at h;obtain⟨r,h,_,_,rfl,rfl⟩:=h;exact .inr ⟨_,h⟩
  |some g=>
   obtain⟨t,w⟩:=g;rw[hg]at h;simp only at h;split at h
   ·simp only[eff,yb,Prod.mk.injEq]at h;obtain⟨r,h,_,_,rfl,rfl⟩:=h;exact .inr ⟨_,h⟩
   ·cases h;exact .inl rfl
   ·cases h
 have he:eff cf x.op fr b st'=(eff cf x.op fr b st).map fun r=>(r.1,r.2.1,st'):=by
  rw[hxo];rcases hst with rfl|⟨v,hst⟩
  ·cases hq:eff cf (.load .any ag sz a) fr b st' with
   |none=>rfl
   |some r=>
    obtain⟨v,b',st2⟩:=r;have:=eff_reads (by simp[IOp.stU]) hq;subst this;rfl
  ·exact load_loadT hst
 unfold geff;cases x.g with
 |none=>simp[he,yP]
 |some g=>
  obtain⟨t,w⟩:=g;simp only;split
  ·simp[he,yP]
  ·rfl
  ·rfl
theorem geff_big{cf:zH}{x y:GOp}{fr fr':Fr}{b bt bt':Bx}{st st':ze}{v:PV}{k:Bool}(hx:x.op.ldBig=true)(hy:y.op.ckB=true)(h:geff cf y fr' bt st=some (k,v,bt',st')):
  geff cf x fr b st'=(geff cf x fr b st).map fun r=>(r.1,r.2.1,r.2.2.1,st'):=by
 obtain⟨ag,sz,a,hxo⟩:∃ag sz a,x.op= .loadB ag sz a:=by
  cases hq:x.op<;>rw[hq]at hx<;>first|exact⟨_,_,_,rfl⟩|(cases hx;done)
 obtain⟨f,args,hyo⟩:∃f args,y.op= .callK f args:=by
  cases hq:y.op<;>rw[hq]at hy<;>first|exact⟨_,_,rfl⟩|(cases hy;done)
 have hef:∀v bt' st',eff cf y.op fr' bt st=some (v,bt',st')->∀l,bigAt st' l=bigAt st l:=by
  intro v bt' st' h;rw[hyo]at h;simp only[eff]at h;split at h
  ·split at h
   ·split at h
    ·split at h
     ·rename_i hs;cases h;exact sameBig_iff.1 hs
     ·cases h
    ·cases h
   ·cases h
  ·cases h
 have hst:∀l,bigAt st' l=bigAt st l:=by
  unfold geff at h;cases hg:y.g with
  |none=>
   rw[hg]at h;simp only[yb,Prod.mk.injEq]at h;obtain⟨r,h,_,_,rfl,rfl⟩:=h;exact hef _ _ _ h
  |some g=>
   obtain⟨t,w⟩:=g;rw[hg]at h;simp only at h;split at h
   ·simp only[yb,Prod.mk.injEq]at h;obtain⟨r,h,_,_,rfl,rfl⟩:=h;exact hef _ _ _ h
   ·cases h;exact fun _=>rfl
   ·cases h
 have he:eff cf x.op fr b st'=(eff cf x.op fr b st).map fun r=>(r.1,r.2.1,st'):=by
  rw[hxo];simp only[eff,IOp.sem];split
  ·rw[hst];simp only[Option.map_bind,yP,Option.map_map]
  ·rfl
 unfold geff;cases x.g with
 |none=>simp[he,yP]
 |some g=>
  obtain⟨t,w⟩:=g;simp only;split
  ·simp[he,yP]
  ·rfl
  ·rfl
theorem geff_ld2{cf:zH}{x y:GOp}{fr fr':Fr}{b bt bt':Bx}{st st':ze}{v:PV}{k:Bool}(hxy:ld2 x.op y.op=true)(h:geff cf y fr' bt st=some (k,v,bt',st')):
  geff cf x fr b st'=(geff cf x fr b st).map fun r=>(r.1,r.2.1,r.2.2.1,st'):=by
 simp only[ld2,yF,ya]at hxy;rcases hxy with⟨hx,hy⟩|⟨hx,hy⟩
 ·exact geff_load_loadT hx hy h
 ·exact geff_big hx hy h
theorem ld2_stU{x y:IOp}(h:ld2 x y=true):x.stU<=1:=by
 simp only[ld2,yF,ya]at h;rcases h with⟨h,_⟩|⟨h,_⟩
 ·cases x<;>try(cases h;done)
  rename_i w _ _ _;cases w<;>first|(simp[IOp.stU];done)|(cases h;done)
 ·cases x<;>first|(simp[IOp.stU];done)|(cases h;done)
theorem runOp_npan{cf:zH}{dst:Option Nat}{op:IOp}{s:St}{v:PV}{st:ze}(hm:op.mayPan=false):zJ cf dst op s≠some (.pan v st):=
 fun h=>step_pan (g:=⟨none,dst,op⟩) (cf:=cf) (s:=s) (v:=v) (st:=st) hm h
theorem runOp_pan_congr{cf:zH}{dst:Option Nat}{op:IOp}{s s':St}{v:PV}{st:ze}(hf1:∀t∈op.reads,s'.fr t=s.fr t)(hst:s'.st=s.st)(h:zJ cf dst op s=some (.pan v st)):
  zJ cf dst op s'=some (.pan v st):=by
 cases op with
 |call pk f args=>
  simp only[IOp.reads,yw,or_imp,forall_and]at hf1;simp only[zJ]at h ⊢;rw[zR hf1.1,zIa hf1.2,hst];cases hfv:Arg.val s.fr f<;>rw[hfv]at h<;>try(cases h;done)
  rename_i k first caps;simp only at h ⊢;split at h
  case isFalse=>cases h
  rename_i hall;rw[if_pos hall];cases hcf:cf k (first++zo s.fr args++caps) s.st with
  |none=>rw[hcf]at h;cases h
  |some r=>
   obtain⟨r,st'⟩:=r;rw[hcf]at h;cases r with
   |ret v=>cases h
   |pan v=>exact h
 |callP pk f args=>
  simp only[IOp.reads,yw,or_imp,forall_and]at hf1;simp only[zJ]at h ⊢;rw[zR hf1.1,zIa hf1.2,hst];cases hfv:Arg.val s.fr f<;>rw[hfv]at h<;>try(cases h;done)
  rename_i k first caps;simp only at h ⊢;split at h
  case isFalse=>cases h
  rename_i hall;rw[if_pos hall];cases hcf:cf k (first++zo s.fr args++caps) []with
  |none=>rw[hcf]at h;cases h
  |some r=>
   obtain⟨r,st'⟩:=r;rw[hcf]at h;cases r with
   |ret v=>simp only at h;split at h<;>cases h
   |pan v=>exact h
 |panic a=>
  simp only[IOp.reads]at hf1;simp only[zJ]at h ⊢;rw[zR hf1,hst];exact h
 |_=>exact absurd h (runOp_npan rfl)
theorem step_pan_congr{cf:zH}{g:GOp}{s s':St}{v:PV}{st:ze}(hf:∀t∈g.rds,s'.fr t=s.fr t)(hst:s'.st=s.st)(h:step cf g s=some (.pan v st)):step cf g s'=some (.pan v st):=by
 unfold GOp.rds at hf;simp only[yw,or_imp,forall_and]at hf;obtain⟨hf1,hf2⟩:=hf;have hrun:zJ cf g.dst g.op s=some (.pan v st)->zJ cf g.dst g.op s'=some (.pan v st):=runOp_pan_congr hf1 hst;unfold step at h ⊢;cases hg:g.g with
 |none=>rw[hg]at h;exact hrun h
 |some x=>
  obtain⟨t,w⟩:=x;rw[hg]at h hf2;simp only at h ⊢;rw[hf2 t (by simp)];cases ht:gate w (s.fr t)with
  |none=>rw[ht]at h;cases h
  |some q=>
   rw[ht]at h;cases q
   ·cases h
   ·exact hrun h
theorem swap_pan{cf:zH}{x y:GOp}(h:indep x y=true){s s1:St}{v:PV}{st:ze}(h1:step cf x s=some (.ok s1))(h2:step cf y s1=some (.pan v st)):step cf y s=some (.pan v st):=by
 simp only[indep,ya,yF,yC,decide_eq_true_eq]at h;obtain⟨⟨⟨⟨⟨⟨_,hp⟩,d1⟩,d2⟩,d3⟩,hst⟩,hbx⟩:=h;rcases hp with hp|hp
 ·exact absurd h2 (step_pan hp)
 obtain⟨k,v',b,st',e1,rfl⟩:=step_ok.1 h1;have:=zpc hp e1;subst this;refine step_pan_congr (h:=h2) ?_ ?_
 ·intro t ht;exact(wr_out fun hw=>disj_spec d1 t hw ht).symm
 ·rfl
theorem sem_alc{o:IOp}{fr:Fr}{b b':Bx}{st st':ze}{v:PV}(ha:o.alc=true)(h:o.sem fr b st=some (v,b',st')):
  ∃ob,st'=st++[ob]/\∀st2:ze,st2.length=st.length->o.sem fr b st2=some (v,b',st2++[ob]):=by
 cases o<;>try(cases ha;done)
 case boxS sz a=>
  simp only[IOp.sem]at h ⊢;split at h
  ·rename_i hc;cases h;exact⟨_,rfl,fun st2 h2=>by rw[if_pos hc,h2]⟩
  ·cases h
 case bsliceS sz z n ps=>
  simp only[IOp.sem,yb,Prod.mk.injEq]at h ⊢;obtain⟨es,he,rfl,rfl,rfl⟩:=h;exact⟨_,rfl,fun st2 h2=>⟨es,he,by rw[h2],rfl,rfl⟩⟩
 case mkmap=>
  simp only[IOp.sem]at h ⊢;cases h;exact⟨_,rfl,fun st2 h2=>by rw[h2]⟩
 case mksliceS sz z bs l c=>
  simp only[IOp.sem]at h ⊢;split at h
  ·split at h
   ·rename_i hc;cases h;exact⟨_,rfl,fun st2 h2=>by rw[if_pos hc,h2]⟩
   ·cases h
  ·cases h
theorem sem_ldr{o:IOp}{fr:Fr}{b b':Bx}{st st':ze}{v:PV}(hl:o.ldAny=true\/o.ldTAny=true)(h:o.sem fr b st=some (v,b',st')):
  st'.length=st.length/\∀ob,o.sem fr b (st++[ob])=some (v,b',st'++[ob]):=by
 have app:∀{l:Nat} {x:Obj} (ob:Obj),st[l]? =some x->(st++[ob])[l]? =some x:=fun{l x} ob hx=>by
  rw[yq (yc.1 hx).1];exact hx
 cases o<;>try(rcases hl with hl|hl<;>(cases hl;done))
 case load w ag sz a=>
  cases w<;>try(rcases hl with hl|hl<;>(cases hl;done))
  simp only[IOp.sem]at h ⊢;cases hav:Arg.val fr a<;>rw[hav]at h<;>try(cases h;done)
  case iptr cs off=>
   simp only[yb,Prod.mk.injEq]at h ⊢;obtain⟨x,hx,rfl,rfl,rfl⟩:=h;exact⟨rfl,fun ob=>⟨x,hx,rfl,rfl,rfl⟩⟩
  case ptr l i off=>
   simp only at h ⊢;cases hs:st[l]? with
   |none=>rw[hs]at h;cases h
   |some x=>
    rw[hs]at h;cases x with
    |mp es=>cases h
    |dead z=>cases h
    |arr z es=>
     simp only at h;cases he:es[i]? with
     |none=>rw[he]at h;cases h
     |some e=>
      rw[he]at h;simp only[yb,Prod.mk.injEq]at h;obtain⟨x,hx,rfl,rfl,rfl⟩:=h;refine⟨rfl,fun ob=>?_⟩;rw[app ob hs];simp only[he,hx,yZ]
 case loadT w a=>
  cases w<;>try(rcases hl with hl|hl<;>(cases hl;done))
  simp only[IOp.sem]at h ⊢;cases hav:Arg.val fr a<;>rw[hav]at h<;>try(cases h;done)
  rename_i l i off;simp only at h ⊢;cases hs:st[l]? with
  |none=>rw[hs]at h;cases h
  |some x=>
   rw[hs]at h;cases x with
   |mp es=>cases h
   |dead z=>cases h
   |arr z es=>
    simp only at h;cases he:es[i]? with
    |none=>rw[he]at h;cases h
    |some e=>
     rw[he]at h;simp only[yb,Prod.mk.injEq]at h;obtain⟨x,hx,rfl,rfl,rfl⟩:=h;refine⟨by simp,fun ob=>?_⟩;rw[app ob hs];simp only[he,hx,yZ];rw[List.set_append_left _ _ (yc.1 hs).1]
theorem eff_alc{cf:zH}{o:IOp}{fr:Fr}{b:Bx}{st:ze}(ha:o.alc=true):eff cf o fr b st=o.sem fr b st:=by
 cases o<;>first|rfl|(cases ha;done)
theorem eff_ldr{cf:zH}{o:IOp}{fr:Fr}{b:Bx}{st:ze}(hl:o.ldAny=true\/o.ldTAny=true):eff cf o fr b st=o.sem fr b st:=by
 cases o<;>first|rfl|(rcases hl with hl|hl<;>(cases hl;done))
theorem geff_alc{cf:zH}{g:GOp}{fr:Fr}{b b':Bx}{st st':ze}{v:PV}{k:Bool}(ha:g.op.alc=true)(h:geff cf g fr b st=some (k,v,b',st')):
  (st'=st/\∀st2:ze,st2.length=st.length->geff cf g fr b st2=some (k,v,b',st2))\/∃ob,st'=st++[ob]/\∀st2:ze,st2.length=st.length->geff cf g fr b st2=some (k,v,b',st2++[ob]):=by
 unfold geff at h ⊢;simp only[eff_alc ha]at h ⊢;cases hg:g.g with
 |none=>
  rw[hg]at h;simp only[yb,Prod.mk.injEq]at h;obtain⟨⟨r1,r2,r3⟩,h,rfl,rfl,rfl,rfl⟩:=h;obtain⟨ob,h1,h2⟩:=sem_alc ha h;exact .inr ⟨ob,h1,fun st2 h3=>by simp only[h2 st2 h3,yZ]⟩
 |some x=>
  obtain⟨t,w⟩:=x;rw[hg]at h;simp only at h ⊢;cases hgt:gate w (fr t)with
  |none=>rw[hgt]at h;cases h
  |some q=>
   rw[hgt]at h;cases q with
   |false=>cases h;exact .inl ⟨rfl,fun _ _=>rfl⟩
   |true=>
    simp only[yb,Prod.mk.injEq]at h;obtain⟨⟨r1,r2,r3⟩,h,rfl,rfl,rfl,rfl⟩:=h;obtain⟨ob,h1,h2⟩:=sem_alc ha h;exact .inr ⟨ob,h1,fun st2 h3=>by simp only[h2 st2 h3,yZ]⟩
theorem geff_ldr{cf:zH}{g:GOp}{fr:Fr}{b b':Bx}{st st':ze}{v:PV}{k:Bool}(hl:g.op.ldAny=true\/g.op.ldTAny=true)(h:geff cf g fr b st=some (k,v,b',st')):
  st'.length=st.length/\∀ob,geff cf g fr b (st++[ob])=some (k,v,b',st'++[ob]):=by
 unfold geff at h ⊢;simp only[eff_ldr hl]at h ⊢;cases hg:g.g with
 |none=>
  rw[hg]at h;simp only[yb,Prod.mk.injEq]at h;obtain⟨⟨r1,r2,r3⟩,h,rfl,rfl,rfl,rfl⟩:=h;obtain⟨h1,h2⟩:=sem_ldr hl h;exact⟨h1,fun ob=>by simp only[h2 ob,yZ]⟩
 |some x=>
  obtain⟨t,w⟩:=x;rw[hg]at h;simp only at h ⊢;cases hgt:gate w (fr t)with
  |none=>rw[hgt]at h;cases h
  |some q=>
   rw[hgt]at h;cases q with
   |false=>cases h;exact⟨rfl,fun _=>rfl⟩
   |true=>
    simp only[yb,Prod.mk.injEq]at h;obtain⟨⟨r1,r2,r3⟩,h,rfl,rfl,rfl,rfl⟩:=h;obtain⟨h1,h2⟩:=sem_ldr hl h;exact⟨h1,fun ob=>by simp only[h2 ob,yZ]⟩
theorem sem_at{fr:Fr}{b b':Bx}{st st':ze}{v:PV}{o:IOp}{q:Nat}(hq:o.at? =some q)(h:o.sem fr b st=some (v,b',st')):
  ∃f:ze->ze,st'=f st/\(∀st2,st2[q]? =st[q]? ->o.sem fr b st2=some (v,b',f st2))/\(f=id\/∃ob,f=fun s=>s.set q ob):=by
 cases o<;>try(cases hq;done)
 case loadN q' ag sz a=>
  cases hq;have hr:st'=st:=sem_reads (by simp[IOp.stU]) h;subst hr;refine⟨id,rfl,fun st2 hs=>?_,.inl rfl⟩;simp only[IOp.sem]at h ⊢;rw[hs]
  (repeat' (split at h))<;>try(cases h;done)
  rename_i h1 _ _ h2 _ _ h3;simp only[yb,Prod.mk.injEq]at h;obtain⟨x,hx,rfl,rfl,_⟩:=h;simp[hx, *]
 case storeN q' sz a x=>
  cases hq;simp only[IOp.sem]at h
  (repeat' (split at h))<;>try(cases h;done)
  rename_i l i off ha hl hvar _ s es hst _ e he hc;cases h;refine⟨fun st=>st.set q (.arr s (es.set i (zCa e (zzd (cellsOf e) off (cellsOf (strip (x.val fr))))))),rfl,fun st2 hs=>?_,.inr ⟨_,rfl⟩⟩;simp only[IOp.sem,ha];rw[if_pos hl,if_pos hvar,hs,hst];simp only[he];rw[if_pos hc]
theorem geff_at{cf:zH}{x:GOp}{fr:Fr}{b b':Bx}{st st':ze}{v:PV}{k:Bool}{q:Nat}(hq:x.op.at? =some q)(h:geff cf x fr b st=some (k,v,b',st')):
  ∃f:ze->ze,st'=f st/\(∀st2,st2[q]? =st[q]? ->geff cf x fr b st2=some (k,v,b',f st2))/\(f=id\/∃ob,f=fun s=>s.set q ob):=by
 have heff:∀st,eff cf x.op fr b st=x.op.sem fr b st:=by
  intro st;cases hx:x.op<;>rw[hx]at hq<;>first|rfl|(cases hq;done)
 unfold geff at h ⊢;cases hg:x.g with
 |none=>
  rw[hg]at h;simp only[heff,yb,Prod.mk.injEq]at h ⊢;obtain⟨⟨r1,r2,r3⟩,h,rfl,rfl,rfl,rfl⟩:=h;obtain⟨f,e1,e2,e3⟩:=sem_at hq h;exact⟨f,e1,fun st2 hs=>⟨_,e2 st2 hs,rfl,rfl,rfl,rfl⟩,e3⟩
 |some g=>
  obtain⟨t,w⟩:=g;rw[hg]at h;simp only at h ⊢;cases hgt:gate w (fr t)with
  |none=>rw[hgt]at h;cases h
  |some p=>
   rw[hgt]at h;cases p with
   |false=>cases h;exact⟨id,rfl,fun st2 _=>rfl,.inl rfl⟩
   |true=>
    simp only[heff,yb,Prod.mk.injEq]at h ⊢;obtain⟨⟨r1,r2,r3⟩,h,rfl,rfl,rfl,rfl⟩:=h;obtain⟨f,e1,e2,e3⟩:=sem_at hq h;exact⟨f,e1,fun st2 hs=>⟨_,e2 st2 hs,rfl,rfl,rfl,rfl⟩,e3⟩
theorem at_other{f:ze->ze}{q p:Nat}(hf:f=id\/∃ob,f=fun s=>s.set q ob)(hne:q≠p)(st:ze):(f st)[p]? =st[p]? :=by
 rcases hf with rfl|⟨ob,rfl⟩
 ·rfl
 ·exact yB hne
theorem at_comm{f g:ze->ze}{q p:Nat}(hf:f=id\/∃ob,f=fun s=>s.set q ob)(hg:g=id\/∃ob,g=fun s=>s.set p ob)(hne:q≠p)(st:ze):g (f st)=f (g st):=by
 rcases hf with rfl|⟨ob,rfl⟩
 ·rfl
 ·rcases hg with rfl|⟨ob',rfl⟩
  ·rfl
  ·exact List.set_comm ob ob' hne
theorem swap_ok{cf:zH}{x y:GOp}(h:indep x y=true){s s1 s2:St}(h1:step cf x s=some (.ok s1))(h2:step cf y s1=some (.ok s2)):
  ∃s1',step cf y s=some (.ok s1')/\step cf x s1'=some (.ok s2):=by
 simp only[indep,ya]at h;obtain⟨⟨⟨⟨⟨⟨_,_⟩,d1⟩,d2⟩,d3⟩,hst⟩,hbx⟩:=h;obtain⟨k,v,b,st,e1,rfl⟩:=step_ok.1 h1;obtain⟨k',v',b',st',e2,rfl⟩:=step_ok.1 h2;have hb3:zY (zGb s.bx x.op.box? b) y.op.box? =zY s.bx y.op.box? /\zY (zGb s.bx y.op.box? b') x.op.box? =zY s.bx x.op.box? ∧
   zGb (zGb s.bx x.op.box? b) y.op.box? b'=zGb (zGb s.bx y.op.box? b') x.op.box? b:=by
  rw[yF,ya]at hbx;rcases hbx with hbx|⟨lx,ly⟩
  ·exact⟨getBx_set hbx _,getBx_set (boxIndep_symm hbx) _,setBx_comm hbx _ _⟩
  ·have q1:=geff_looks lx e1;subst q1;have q2:=geff_looks ly e2;subst q2;simp only[setBx_get,and_self]
 obtain⟨hb1,hb2,hb4⟩:=hb3;rw[hb1]at e2;have c2:∀st,geff cf y (wr s.fr k x.op.takes x.dst v) (zY s.bx y.op.box?) st=geff cf y s.fr (zY s.bx y.op.box?) st:=fun st=>
  geff_congr fun t ht=>wr_out fun hw=>disj_spec d1 t hw ht
 rw[c2]at e2;have c1:∀st,geff cf x (wr s.fr k' y.op.takes y.dst v') (zY s.bx x.op.box?) st=geff cf x s.fr (zY s.bx x.op.box?) st:=fun st=>
  geff_congr fun t ht=>wr_out fun hw=>disj_spec d2 t hw ht
 have key:∃sm,geff cf y s.fr (zY s.bx y.op.box?) s.st=some (k',v',b',sm)/\geff cf x s.fr (zY s.bx x.op.box?) sm=some (k,v,b,st'):=by
  simp only[stIndep,ldIndep,alIndep,yF,decide_eq_true_eq,ya]at hst;rcases hst with(((((hx|hy)|⟨hx,hy⟩)|hx|hy))|⟨hx,hy⟩)|hat
  ·obtain⟨rfl,_⟩:=geff_zero (st2:=s.st) hx e1;exact⟨st',e2,(geff_zero hx e1).2⟩
  ·obtain⟨rfl,hz⟩:=geff_zero (st2:=s.st) hy e2;exact⟨s.st,hz,e1⟩
  ·have q1:=zpc hx e1;subst q1;have q2:=zpc hy e2;subst q2;exact⟨_,e2,e1⟩
  ·have q1:=zpc (ld2_stU hx) e1;subst q1;refine⟨st',e2,?_⟩;rw[geff_ld2 (b:=zY s.bx x.op.box?) hx e2,e1];rfl
  ·have q2:=zpc (ld2_stU hy) e2;subst q2;rw[geff_ld2 (b:=zY s.bx y.op.box?) hy e1]at e2;simp only[yb,Prod.mk.injEq]at e2;obtain⟨r,e2,rfl,rfl,rfl,_⟩:=e2;obtain⟨r1,r2,r3,r4⟩:=r;have q3:=zpc (ld2_stU hy) e2;subst q3;exact⟨_,e2,e1⟩
  ·obtain⟨hl,ho⟩:=geff_ldr hx e1;rcases geff_alc hy e2 with⟨rfl,ha⟩|⟨ob,rfl,ha⟩
   ·exact⟨s.st,ha s.st hl.symm,e1⟩
   ·exact⟨s.st++[ob],ha s.st hl.symm,ho ob⟩
  ·unfold atIndep at hat;split at hat
   case h_2=>cases hat
   rename_i i j hi hj;have hne:i≠j:=of_decide_eq_true hat;obtain⟨f,rfl,f2,f3⟩:=geff_at hi e1;obtain⟨g,rfl,g2,g3⟩:=geff_at hj e2;refine⟨g s.st,g2 s.st (at_other f3 hne s.st).symm,?_⟩;rw[at_comm f3 g3 hne];exact f2 _ (at_other g3 (Ne.symm hne) s.st)
 obtain⟨sm,k1,k2⟩:=key;refine⟨_,step_ok.2 ⟨k',v',b',sm,k1,rfl⟩,step_ok.2 ⟨k,v,b,st',?_,?_⟩⟩
 ·rw[hb2,c1];exact k2
 ·simp only[St.mk.injEq];exact⟨wr_comm fun t h h'=>disj_spec d3 t h h',hb4,trivial⟩
noncomputable def runL(cf:zH)(gops:List GOp):List Nat->St->Option SR
 | [],s=>some (.ok s)
 |i::r,s=>match gops[i]? with
  |none=>none
  |some g=>match step cf g s with
   |some (.ok s')=>runL cf gops r s'
   |x=>x
theorem runL_range'(cf:zH)(gops:List GOp):∀(n k:Nat) (s:St),k+n=gops.length->runL cf gops (List.range' k n) s=zVb cf (gops.drop k) s
 |0,k,s,h=>by
  rw[List.drop_of_length_le (by omega)]<;>rfl
 |n+1,k,s,h=>by
  have hk:k<gops.length:=by omega
  rw[List.range'_succ,List.drop_eq_getElem_cons hk];simp only[runL,zVb,yj hk];have ih:=fun s=>runL_range' cf gops n (k+1) s (by omega)
  cases step cf gops[k] s with
  |none=>rfl
  |some r=>cases r<;>first|rfl|exact ih _
theorem runL_range(cf:zH)(gops:List GOp)(s:St):runL cf gops (yQ gops.length) s=zVb cf gops s:=by
 rw[List.range_eq_range',runL_range' cf gops _ 0 s (by omega)];rfl
def before(acc:List Nat)(o:Oper):Nat:=(o.after.toList.filter (Region.binds .any)).foldl (fun m e=>m|||(1<<<e.on|||acc.getD e.on 0)) 0
theorem binds_all{e:Edge}(h:Region.binds .any e=true)(md:Region.Mode):Region.binds md e=true:=by
 unfold Region.binds at h ⊢;split at h<;>first|(cases h;done)|rfl
def ancs:List Oper->List Nat->List Nat
 | [],acc=>acc
 |o::os,acc=>ancs os (acc++[before acc o])
def pairsFrom(m:Nat)(y:GOp):List GOp->Nat->Bool
 | [],_=>true
 |x::r,i=>(m.testBit i||indep x y)&&pairsFrom m y r (i+1)
def pairs(gops:List GOp):List Nat->List GOp->Nat->Bool
 |m::ms,y::r,j=>pairsFrom m y (gops.take j) 0&&pairs gops ms r (j+1)
 |_,_,_=>true
def ranked(md:Region.Mode)(ops:Array Oper)(r:Nat->Nat):Bool:=
 (yQ ops.size).all (fun j=>match ops[j]? with
  |some o=>o.after.all fun e=> !(Region.binds md e)||(decide (r e.on<r j)&&decide (e.on<ops.size))
  |none=>false)
def placeIn(L:List Nat)(j:Nat):Nat:=L.findIdx (fun i=>i==j)
def lowEdges(ops:Array Oper):Bool:=
 (yQ ops.size).all (fun j=>match ops[j]? with
  |some o=>o.after.all fun e=>decide (e.on<j)
  |none=>false)
def rankAll(ops:Array Oper):Bool:=
 ranked .text ops (placeIn (Region.linearise .text ops 0))&&ranked .gc ops (placeIn (Region.linearise .gc ops 0))&&ranked .any ops (placeIn (Region.linearise .any ops 0))
def zfd(ops:Array Oper)(gops:List GOp):Bool:=
 decide (ops.size=gops.length)&&(lowEdges ops||rankAll ops)&&
 pairs gops (ancs ops.toList []) gops 0
def rem(n:Nat)(listed:Array Bool):List Nat:=(yQ n).filter fun i=> !listed.getD i true
def Closed(ops:Array Oper)(listed:Array Bool):Prop:=∀j o,listed.getD j false=true->ops[j]? =some o->∀e∈o.after,Region.binds .any e=true->listed.getD e.on false=true
section
variable {cf:zH} {ops:Array Oper} {gops:List GOp}
def Marks(ops:Array Oper)(j m:Nat):Prop:=∀(listed:Array Bool),Closed ops listed->(∀o,ops[j]? =some o->∀e∈o.after,Region.binds .any e=true->listed.getD e.on false=true)->∀i,m.testBit i=true->listed.getD i false=true
theorem before_marks{acc:List Nat}(hacc:∀j m,acc[j]? =some m->Marks ops j m){j:Nat}{o:Oper}(ho:ops[j]? =some o):Marks ops j (before acc o):=by
 intro listed hc hj i hi;have hj:=hj o ho;have key:∀(l:List Edge) (m:Nat),(∀e∈l,e∈o.after/\Region.binds .any e=true)->(m.testBit i=true->listed.getD i false=true)->(l.foldl (fun m e=>m|||(1<<<e.on|||acc.getD e.on 0)) m).testBit i=true->listed.getD i false=true:=by
  intro l
  induction l with
  |nil=>intro m _ hm h;exact hm h
  |cons e l ih=>
   intro m hl hm h;refine ih _ (fun e he=>hl e (yGa _ he)) ?_ h;intro h';have he:=hj e (hl e yua).1 (hl e yua).2;rw[Nat.testBit_or,Nat.testBit_or,yF,yF]at h';rcases h' with h'|h'|h'
   ·exact hm h'
   ·rw[Nat.one_shiftLeft,Nat.testBit_two_pow]at h';rw[<-of_decide_eq_true h'];exact he
   ·rw[List.getD_eq_getElem?_getD]at h';cases hm':acc[e.on]? with
    |none=>rw[hm']at h';simp at h'
    |some m'=>
     rw[hm']at h';exact hacc _ _ hm' listed hc (fun o' ho'=>hc e.on o' he ho') i h'
 exact key (o.after.toList.filter (Region.binds .any)) 0 (fun e he=>by simpa using he) (fun h=>by simp at h) hi
theorem ancs_marks:∀(os:List Oper) (acc:List Nat),ops.toList.drop acc.length=os->(∀j m,acc[j]? =some m->Marks ops j m)->∀j m,(ancs os acc)[j]? =some m->Marks ops j m
 | [],acc,_,hacc=>hacc
 |o::os,acc,hd,hacc=>by
  have ho:ops[acc.length]? =some o:=by
   have:ops.toList[acc.length]? =some o:=by
    have h2:=yN (xs:=ops.toList) (i:=acc.length) (j:=0);rw[hd]at h2;simpa using h2.symm
   simpa using this
  refine ancs_marks os (acc++[before acc o]) ?_ ?_
  ·rw[ye,List.length_singleton,<-List.drop_drop,hd];rfl
  ·intro j m hm;rcases Nat.lt_trichotomy j acc.length with h|h|h
   ·rw[yq h]at hm;exact hacc j m hm
   ·subst h;simp at hm;subst hm;exact before_marks hacc ho
   ·rw[yfa (by simp;omega)]at hm;cases hm
theorem ancs_length:∀(os:List Oper) (acc:List Nat),(ancs os acc).length=acc.length+os.length
 | [],acc=>by simp[ancs]
 |o::os,acc=>by rw[ancs,ancs_length os];simp;omega
theorem pairsFrom_get{m:Nat}{y:GOp}:∀{l:List GOp} {k:Nat},pairsFrom m y l k=true->∀i x,l[i]? =some x->m.testBit (k+i)=true\/indep x y=true
 | [],k,_,i,x,hx=>by simp at hx
 |z::l,k,h,i,x,hx=>by
  simp only[pairsFrom,ya,yF]at h;cases i with
  |zero=>simp at hx;subst hx;exact h.1
  |succ i=>
   have:=pairsFrom_get h.2 i x (by simpa using hx);rw[show k+(i+1)=k+1+i by omega];exact this
theorem pairs_get:∀{ms:List Nat} {l:List GOp} {k:Nat},pairs gops ms l k=true->∀j m y,ms[j]? =some m->l[j]? =some y->∀i x,i<k+j->gops[i]? =some x->m.testBit i=true\/indep x y=true
 | [],_,_,_,j,m,y,hm,_,_,_,_,_=>by simp at hm
 |_::_,[],_,_,j,m,y,_,hy,_,_,_,_=>by simp at hy
 |m0::ms,y0::l,k,h,j,m,y,hm,hy,i,x,hi,hx=>by
  simp only[pairs,ya]at h;cases j with
  |zero=>
   simp at hm hy;subst hm;subst hy;have:=pairsFrom_get h.1 i x (by rw[yH,if_pos (by omega)];exact hx);simpa using this
  |succ j=>exact pairs_get h.2 j m y (by simpa using hm) (by simpa using hy) i x (by omega) hx
theorem swap_many{y:GOp}{i:Nat}(hi:gops[i]? =some y):∀(A:List Nat) (s:St) (B:List Nat) (sr:SR),(∀a∈A,∃x,gops[a]? =some x/\indep x y=true)→
  runL cf gops (A++i::B) s=some sr->runL cf gops (i::(A++B)) s=some sr
 | [],s,B,sr,_,h=>h
 |a::A,s,B,sr,hA,h=>by
  obtain⟨x,hx,hxy⟩:=hA a yua;have hp:=hxy;simp only[indep,ya,yC]at hp;obtain⟨⟨⟨⟨⟨⟨p1,p2⟩,_⟩,_⟩,_⟩,_⟩,_⟩:=hp;simp only[yk,runL,hx]at h;cases h1:step cf x s with
  |none=>rw[h1]at h;cases h
  |some r1=>
   cases r1 with
   |pan v st=>exact absurd h1 (step_pan p1)
   |ok s1=>
    rw[h1]at h;simp only at h;have ih:=swap_many hi A s1 B sr (fun a ha=>hA a (yGa _ ha)) h;simp only[runL,hi]at ih ⊢;cases h2:step cf y s1 with
    |none=>rw[h2]at ih;cases ih
    |some r2=>
     cases r2 with
     |pan v st=>rw[h2]at ih;rw[swap_pan hxy h1 h2];exact ih
     |ok s2=>
      rw[h2]at ih;obtain⟨s1',e1,e2⟩:=swap_ok hxy h1 h2;simp only[e1,yk,runL,hx,e2];exact ih
theorem mem_rem{n i:Nat}{listed:Array Bool}:i∈rem n listed<->i<n/\listed.getD i true=false:=by
 simp[rem]
theorem rem_split{n i:Nat}{listed:Array Bool}(hn:listed.size=n)(h:i∈rem n listed):∃A B,rem n listed=A++i::B/\rem n (listed.setIfInBounds i true)=A++B/\∀a∈A,a<i/\a∈rem n listed:=by
 have hi:=(mem_rem.1 h).1;have hr:yQ n=yQ i++i::List.range' (i+1) (n-i-1):=by
  rw[List.range_eq_range',List.range_eq_range'];have:n=i+(1+(n-i-1)):=by omega
  conv=>lhs;rw[this]
  rw[<-List.range'_append,<-List.range'_append];simp[List.range'_one]
 have hset:∀j,j≠i->(!(listed.setIfInBounds i true).getD j true)=(!listed.getD j true):=fun j hj=>by
  rw[getD_set_ne true (Ne.symm hj)]
 refine⟨(yQ i).filter fun i=> !listed.getD i true,(List.range' (i+1) (n-i-1)).filter fun i=> !listed.getD i true,?_,?_,?_⟩
 ·unfold rem;rw[hr,yRa,List.filter_cons,if_pos (by simp[(mem_rem.1 h).2])]
 ·unfold rem;rw[hr,yRa,List.filter_cons,if_neg]
  ·congr 1
   ·apply ySa;intro j hj;have:=yta.1 hj;exact hset j (by omega)
   ·apply ySa;intro j hj;have:=List.mem_range'.1 hj;exact hset j (by omega)
  ·have hlt:i<listed.size:=by omega
   simp[hlt]
 ·intro a ha;obtain⟨h1,h2⟩:=List.mem_filter.1 ha;have:=yta.1 h1;exact⟨this,mem_rem.2 ⟨by omega,by simpa using h2⟩⟩
theorem getD_tf{listed:Array Bool}{i:Nat}(h:i<listed.size)(d d':Bool):listed.getD i d=listed.getD i d':=by
 simp[h]
theorem ranks(h:(lowEdges ops||rankAll ops)=true)(md:Region.Mode):∃r:Nat->Nat,∀j o,ops[j]? =some o->∀e∈o.after,Region.binds md e=true->r e.on<r j/\e.on<ops.size:=by
 have key:∀r,ranked md ops r=true->∃r:Nat->Nat,∀j o,ops[j]? =some o->∀e∈o.after,Region.binds md e=true->r e.on<r j/\e.on<ops.size:=by
  intro r hr;refine⟨r,fun j o ho e he hb=>?_⟩;have hj:j<ops.size:=(yu.1 ho).1;simp only[ranked,yr,yta]at hr;have h1:=hr j hj;rw[ho]at h1;have h2:=Array.all_eq_true_iff_forall_mem.1 h1 e he;simp only[hb,Bool.not_true,yI,ya,decide_eq_true_eq]at h2;exact h2
 rw[yF]at h;rcases h with h|h
 ·refine⟨id,fun j o ho e he hb=>?_⟩;have hj:j<ops.size:=(yu.1 ho).1;simp only[lowEdges,yr,yta]at h;have h1:=h j hj;rw[ho]at h1;have h2:=Array.all_eq_true_iff_forall_mem.1 h1 e he;simp only[decide_eq_true_eq]at h2;exact⟨h2,by omega⟩
 ·simp only[rankAll,ya]at h;cases md with
  |text=>exact key _ h.1.1
  |gc=>exact key _ h.1.2
  |any=>exact key _ h.2
theorem go_runL(md:Region.Mode)(hck:zfd ops gops=true):∀(fuel t:Nat) (listed:Array Bool) (s:St) (sr:SR),listed.size=ops.size->Closed ops listed->(rem ops.size listed).length<=fuel→
  runL cf gops (rem ops.size listed) s=some sr->runL cf gops (Region.linearise.go md ops fuel t listed []) s=some sr
 |0,t,listed,s,sr,hsz,hc,hf,h=>by
  have:rem ops.size listed=[]:=yy (by omega);rw[this]at h;exact h
 |fuel+1,t,listed,s,sr,hsz,hc,hf,h=>by
  have hck':=hck;simp only[zfd,ya,yC,decide_eq_true_eq,yr,yta]at hck';obtain⟨⟨hlen,hlow⟩,hind⟩:=hck';have hgo:Region.linearise.go md ops (fuel+1) t listed []=(match(Region.ready md ops listed)[t%(Region.ready md ops listed).length]? with
   |some i=>Region.linearise.go md ops fuel (t/(Region.ready md ops listed).length) (listed.setIfInBounds i true) [i]
   |none=>[].reverse):=rfl
  rw[hgo];cases hpick:(Region.ready md ops listed)[t%(Region.ready md ops listed).length]? with
  |none=>
   have hnil:Region.ready md ops listed=[]:=by
    cases hr:Region.ready md ops listed with
    |nil=>rfl
    |cons x xs=>
     rw[hr]at hpick;have hlt:t%(x::xs).length<(x::xs).length:=Nat.mod_lt _ (by simp);simp at hpick;simp at hlt;omega
   have hrem:rem ops.size listed=[]:=by
    obtain⟨r,hr⟩:=ranks hlow md;have key:∀(k i:Nat),r i<=k->i∈rem ops.size listed->False:=by
     intro k
     induction k using Nat.strongRecOn with
     |ind k ihk=>
      intro i hk hi;have hlt:=(mem_rem.1 hi).1;by_cases hall:∀o,ops[i]? =some o->∀e∈o.after,Region.binds md e=true->listed.getD e.on false=true
      ·have:=mem_ready.2 ⟨(mem_rem.1 hi).2,_,yD hlt,fun e he hb=>hall _ (yD hlt) e he hb⟩;rw[hnil]at this;cases this
      ·simp only[Classical.not_forall]at hall;obtain⟨o,ho,e,he,hb,hl⟩:=hall;obtain⟨h1,h2⟩:=hr i o ho e he hb;exact ihk (r e.on) (by omega) e.on (yh _) (mem_rem.2 ⟨h2,by rw[getD_tf (by omega) true false];simpa using hl⟩)
    cases hrm:rem ops.size listed with
    |nil=>rfl
    |cons i t=>exact(key (r i) i (yh _) (by rw[hrm];exact yua)).elim
   rw[hrem]at h;exact h
  |some i=>
   simp only;rw[linearise_go_acc,List.reverse_singleton,List.singleton_append];obtain⟨hu,o,ho,hall⟩:=mem_ready.1 (List.mem_of_getElem? hpick);have hi:i<ops.size:=(yu.1 ho).1;have hirem:i∈rem ops.size listed:=mem_rem.2 ⟨hi,hu⟩;have hpre:∀o,ops[i]? =some o->∀e∈o.after,Region.binds .any e=true->listed.getD e.on false=true:=fun o' ho' e he hb=>by
    rw[ho]at ho';cases ho';exact hall e he (binds_all hb md)
   obtain⟨A,B,e1,e2,e3⟩:=rem_split hsz hirem;have hgi:i<gops.length:=by omega
   rw[e1]at h;have hsw:=swap_many (cf:=cf) (yj hgi) A s B sr (fun a ha=>by
    obtain⟨q1,q2⟩:=e3 a ha;have hga:a<gops.length:=by omega
    have hia:i<(ancs ops.toList []).length:=by rw[ancs_length];simpa using hi
    have h1:=pairs_get hind i _ _ (yj hia) (yj hgi) a _ (by omega) (yj hga);rcases h1 with h1|h1
    ·have:=ancs_marks ops.toList [] rfl (fun j m h=>by simp at h) i _ (yj hia) listed hc hpre a h1;have hq:=(mem_rem.1 q2)
     rw[getD_tf (by omega) true false]at hq;rw[hq.2]at this;cases this
    ·exact⟨_,yj hga,h1⟩) h
   simp only[runL,yj hgi]at hsw ⊢;cases hst:step cf gops[i] s with
   |none=>rw[hst]at hsw;cases hsw
   |some r=>
    cases r with
    |pan v st=>rw[hst]at hsw;exact hsw
    |ok s1=>
     rw[hst]at hsw;simp only at hsw ⊢;refine go_runL md hck fuel _ _ s1 sr (by simpa using hsz) ?_ ?_ (by rw[e2];exact hsw)
     ·intro j o' hj ho' e he hb;by_cases hji:j=i
      ·subst hji;exact getD_set_true (hpre o' ho' e he hb)
      ·rw[getD_set_ne false (Ne.symm hji)]at hj;exact getD_set_true (hc j o' hj ho' e he hb)
     ·rw[e2];rw[e1]at hf;simp only[ye,yd]at hf ⊢;omega
theorem draw_runL(hck:zfd ops gops=true){s:St}{sr:SR}(h:zVb cf gops s=some sr)(mixed:Bool)(t:Nat):runL cf gops (Region.schedule mixed ops t) s=some sr:=by
 have hck':=hck;simp only[zfd,ya,yC,decide_eq_true_eq]at hck';obtain⟨⟨hlen,_⟩,_⟩:=hck';have hrem:rem ops.size (Array.replicate ops.size false)=yQ gops.length:=by
  unfold rem;rw[hlen];apply List.filter_eq_self.2;intro i hi;have:=yta.1 hi;simp[this]
 have key:∀md t,runL cf gops (Region.linearise md ops t) s=some sr:=by
  intro md t;unfold Region.linearise;refine go_runL md hck _ _ _ s sr (by simp) ?_ ?_ ?_
  ·intro j o hj;by_cases hlt:j<ops.size
   ·simp[hlt]at hj
   ·simp[hlt]at hj
  ·rw[hrem];simp[hlen]
  ·rw[hrem,runL_range];exact h
 unfold Region.schedule;split
 ·exact key _ _
 ·exact key _ _
end
theorem runL_steps{cf:zH}{pops:List GOp}:∀(l:List Nat) (gs:List GOp) (s:St),l.length=gs.length->(∀(k i:Nat) g,l[k]? =some i->gs[k]? =some g->pops[i]? =some g)->runL cf pops l s=zVb cf gs s
 | [],[],s,_,_=>rfl
 | [],_::_,s,h,_=>by simp at h
 |_::_,[],s,h,_=>by simp at h
 |i::l,g::gs,s,h,hk=>by
  have h0:=hk 0 i g rfl rfl;simp only[runL,h0,zVb];have ih:=fun s=>runL_steps (cf:=cf) (pops:=pops) l gs s (by simpa using h) (fun k j q hj hq=>hk (k+1) j q (by simpa using hj) (by simpa using hq))
  cases step cf g s with
  |none=>rfl
  |some r=>cases r<;>first|rfl|exact ih _
def ordGo:List (Nat×Option Nat)->List GOp->List Nat
 |_,[]=>[]
 |l,g::r=>match l.find? (fun p=>p.2==g.dst)with
  |some p=>p.1::ordGo (l.filter fun q=> !(q.1==p.1)) r
  |none=>[]
def ordOf(ops:Array Oper)(gops:List GOp):List Nat:=ordGo ((yQ ops.size).map fun i=>(i,(ops[i]?).bind Oper.dst)) gops
def popsOf(n:Nat)(ord:List Nat)(gops:List GOp):List GOp:=(yQ n).map fun i=>(gops[placeIn ord i]?).getD ⟨none,none,.take 0⟩
def pairsO(an:List Nat)(pops:List GOp):List Nat->Bool
 | []=>true
 |i::r=>r.all (fun j=>(an.getD j 0).testBit i||(match pops[i]?,pops[j]? with
  |some x,some y=>indep x y
  |_,_=>false))&&pairsO an pops r
def zrc(ops:Array Oper)(pops:List GOp)(ord:List Nat):Bool:=
 decide (ops.size=pops.length)&&(lowEdges ops||rankAll ops)&&(decide ord.Nodup&&ord.all (fun i=>decide (i<ops.size))&&(yQ ops.size).all (fun i=>ord.contains i)&&decide (ord.length=ops.size))&&pairsO (ancs ops.toList []) pops ord
def remO(ord:List Nat)(listed:Array Bool):List Nat:=ord.filter fun i=> !listed.getD i true
theorem zEc{ord:List Nat}{i:Nat}{listed:Array Bool}:i∈remO ord listed<->i∈ord/\listed.getD i true=false:=by
 simp[remO]
theorem pairsO_get{an:List Nat}{pops:List GOp}:∀{A B:List Nat} {i:Nat},pairsO an pops (A++i::B)=true->∀a∈A,(an.getD i 0).testBit a=true\/∃x y,pops[a]? =some x/\pops[i]? =some y/\indep x y=true
 | [],B,i,h,a,ha=>by cases ha
 |z::A,B,i,h,a,ha=>by
  simp only[yk,pairsO,ya,yr]at h;rcases yia.1 ha with rfl|ha
  ·have:=h.1 i (by simp);rw[yF]at this;rcases this with h'|h'
   ·exact .inl h'
   ·right;split at h'
    ·rename_i x y hx hy;exact⟨x,y,hx,hy,h'⟩
    ·cases h'
  ·exact pairsO_get h.2 a ha
theorem remO_split{ord:List Nat}{n i:Nat}{listed:Array Bool}(hnd:ord.Nodup)(hn:listed.size=n)(hi:i<n)(h:i∈remO ord listed):∃A B,remO ord listed=A++i::B/\remO ord (listed.setIfInBounds i true)=A++B/\(∀a∈A,a∈remO ord listed)/\∃A' B',ord=A'++i::B'/\∀a∈A,a∈A':=by
 obtain⟨A',B',hAB⟩:=List.append_of_mem (zEc.1 h).1;have hset:∀j,j≠i->(!(listed.setIfInBounds i true).getD j true)=(!listed.getD j true):=fun j hj=>by
  rw[getD_set_ne true (Ne.symm hj)]
 have hnd':=hnd;rw[hAB,List.nodup_append]at hnd';obtain⟨n1,n2,n3⟩:=hnd';rw[List.nodup_cons]at n2;refine⟨A'.filter fun i=> !listed.getD i true,B'.filter fun i=> !listed.getD i true,?_,?_,?_,A',B',hAB,fun a ha=>(List.mem_filter.1 ha).1⟩
 ·unfold remO;rw[hAB,yRa,List.filter_cons,if_pos (by simp[(zEc.1 h).2])]
 ·unfold remO;rw[hAB,yRa,List.filter_cons,if_neg]
  ·congr 1
   ·apply ySa;intro j hj;exact hset j (fun e=>n3 j hj i (by simp) e)
   ·apply ySa;intro j hj;exact hset j (fun e=>n2.1 (e ▸ hj))
  ·have hlt:i<listed.size:=by omega
   simp[hlt]
 ·intro a ha;obtain⟨h1,h2⟩:=List.mem_filter.1 ha;exact zEc.2 ⟨by rw[hAB];simp[h1],by simpa using h2⟩
section
variable {cf:zH} {ops:Array Oper} {gops:List GOp} {ord:List Nat}
theorem go_runLO(md:Region.Mode)(hck:zrc ops gops ord=true):∀(fuel t:Nat) (listed:Array Bool) (s:St) (sr:SR),listed.size=ops.size->Closed ops listed->(remO ord listed).length<=fuel→
  runL cf gops (remO ord listed) s=some sr->runL cf gops (Region.linearise.go md ops fuel t listed []) s=some sr
 |0,t,listed,s,sr,hsz,hc,hf,h=>by
  have:remO ord listed=[]:=yy (by omega);rw[this]at h;exact h
 |fuel+1,t,listed,s,sr,hsz,hc,hf,h=>by
  have hck':=hck;simp only[zrc,ya,yC,decide_eq_true_eq,yr]at hck';obtain⟨⟨⟨hlen,hlow⟩,⟨⟨hnd,hrng⟩,hful⟩,hfl⟩,hind⟩:=hck';have hfull:∀i,i<ops.size->i∈ord:=fun i hi=>by simpa using hful i (yta.2 hi)
  have hgo:Region.linearise.go md ops (fuel+1) t listed []=(match(Region.ready md ops listed)[t%(Region.ready md ops listed).length]? with
   |some i=>Region.linearise.go md ops fuel (t/(Region.ready md ops listed).length) (listed.setIfInBounds i true) [i]
   |none=>[].reverse):=rfl
  rw[hgo];cases hpick:(Region.ready md ops listed)[t%(Region.ready md ops listed).length]? with
  |none=>
   have hnil:Region.ready md ops listed=[]:=by
    cases hr:Region.ready md ops listed with
    |nil=>rfl
    |cons x xs=>
     rw[hr]at hpick;have hlt:t%(x::xs).length<(x::xs).length:=Nat.mod_lt _ (by simp);simp at hpick;simp at hlt;omega
   have hrem:remO ord listed=[]:=by
    obtain⟨r,hr⟩:=ranks hlow md;have key:∀(k i:Nat),r i<=k->i∈remO ord listed->False:=by
     intro k
     induction k using Nat.strongRecOn with
     |ind k ihk=>
      intro i hk hi;have hlt:=hrng i (zEc.1 hi).1;by_cases hall:∀o,ops[i]? =some o->∀e∈o.after,Region.binds md e=true->listed.getD e.on false=true
      ·have:=mem_ready.2 ⟨(zEc.1 hi).2,_,yD hlt,fun e he hb=>hall _ (yD hlt) e he hb⟩;rw[hnil]at this;cases this
      ·simp only[Classical.not_forall]at hall;obtain⟨o,ho,e,he,hb,hl⟩:=hall;obtain⟨h1,h2⟩:=hr i o ho e he hb;exact ihk (r e.on) (by omega) e.on (yh _) (zEc.2 ⟨hfull _ h2,by rw[getD_tf (by omega) true false];simpa using hl⟩)
    cases hrm:remO ord listed with
    |nil=>rfl
    |cons i t=>exact(key (r i) i (yh _) (by rw[hrm];exact yua)).elim
   rw[hrem]at h;exact h
  |some i=>
   simp only;rw[linearise_go_acc,List.reverse_singleton,List.singleton_append];obtain⟨hu,o,ho,hall⟩:=mem_ready.1 (List.mem_of_getElem? hpick);have hi:i<ops.size:=(yu.1 ho).1;have hirem:i∈remO ord listed:=zEc.2 ⟨hfull _ hi,hu⟩;have hpre:∀o,ops[i]? =some o->∀e∈o.after,Region.binds .any e=true->listed.getD e.on false=true:=fun o' ho' e he hb=>by
    rw[ho]at ho';cases ho';exact hall e he (binds_all hb md)
   obtain⟨A,B,e1,e2,e3,A',B',f1,f2⟩:=remO_split hnd hsz hi hirem;have hgi:i<gops.length:=by omega
   rw[e1]at h;have hsw:=swap_many (cf:=cf) (yj hgi) A s B sr (fun a ha=>by
    have q2:=e3 a ha;have hga:a<gops.length:=by have:=hrng a (zEc.1 q2).1;omega
    have hia:i<(ancs ops.toList []).length:=by rw[ancs_length];simpa using hi
    rw[f1]at hind;rcases pairsO_get hind a (f2 a ha)with h1|⟨x,y,hx,hy,h1⟩
    ·rw[List.getD_eq_getElem?_getD,yj hia]at h1;have:=ancs_marks ops.toList [] rfl (fun j m h=>by simp at h) i _ (yj hia) listed hc hpre a h1;have hq:=(zEc.1 q2)
     rw[getD_tf (by omega) true false]at hq;rw[hq.2]at this;cases this
    ·rw[yj hgi,Option.some.injEq]at hy;exact⟨_,hx,by rw[hy];exact h1⟩) h
   simp only[runL,yj hgi]at hsw ⊢;cases hst:step cf gops[i] s with
   |none=>rw[hst]at hsw;cases hsw
   |some r=>
    cases r with
    |pan v st=>rw[hst]at hsw;exact hsw
    |ok s1=>
     rw[hst]at hsw;simp only at hsw ⊢;refine go_runLO md hck fuel _ _ s1 sr (by simpa using hsz) ?_ ?_ (by rw[e2];exact hsw)
     ·intro j o' hj ho' e he hb;by_cases hji:j=i
      ·subst hji;exact getD_set_true (hpre o' ho' e he hb)
      ·rw[getD_set_ne false (Ne.symm hji)]at hj;exact getD_set_true (hc j o' hj ho' e he hb)
     ·rw[e2];rw[e1]at hf;simp only[ye,yd]at hf ⊢;omega
theorem draw_runLO(hck:zrc ops gops ord=true){s:St}{sr:SR}(h:runL cf gops ord s=some sr)(mixed:Bool)(t:Nat):runL cf gops (Region.schedule mixed ops t) s=some sr:=by
 have hck':=hck;simp only[zrc,ya,yC,decide_eq_true_eq,yr]at hck';obtain⟨⟨⟨hlen,hlow⟩,⟨⟨hnd,hrng⟩,_⟩,hfl⟩,hind⟩:=hck';have hrem:remO ord (Array.replicate ops.size false)=ord:=by
  unfold remO;apply List.filter_eq_self.2;intro i hi;have:=hrng i hi;simp[this]
 have key:∀md t,runL cf gops (Region.linearise md ops t) s=some sr:=by
  intro md t;unfold Region.linearise;refine go_runLO (ord:=ord) md hck _ _ _ s sr (by simp) ?_ ?_ ?_
  ·intro j o hj;by_cases hlt:j<ops.size
   ·simp[hlt]at hj
   ·simp[hlt]at hj
  ·rw[hrem];omega
  ·rw[hrem];exact h
 unfold Region.schedule;split
 ·exact key _ _
 ·exact key _ _
theorem ord_steps{n:Nat}(hnd:ord.Nodup)(hrng:∀i∈ord,i<n)(hl:ord.length=gops.length)(s:St):runL cf (popsOf n ord gops) ord s=zVb cf gops s:=by
 refine runL_steps ord gops s hl (fun k i g hk hg=>?_);have hi:=hrng i (List.mem_of_getElem? hk);have hkl:=(yc.1 hk).1;have hpl:placeIn ord i=k:=by
  unfold placeIn;rw[List.findIdx_eq hkl];have hki:=(yc.1 hk).2;refine⟨by simp[hki],fun j hj=>?_⟩;have hjl:j<ord.length:=by omega
  have hne:ord[j]≠ord[k]:=List.pairwise_iff_getElem.1 hnd j k hjl hkl hj;rw[hki]at hne;simpa using hne
 unfold popsOf;rw[yn,List.getElem?_range hi];simp[hpl,hg]
end
abbrev Im:=Nat->Nat->Option Value
abbrev Loc:=Nat->Option (Nat×Nat×Nat)
def Im.le(I I':Im):Prop:=∀b o v,I b o=some v->I' b o=some v
def Loc.le(L L':Loc):Prop:=∀l x,L l=some x->L' l=some x
theorem Im.le_refl(I:Im):I.le I:=fun _ _ _ h=>h
theorem Loc.le_refl(L:Loc):L.le L:=fun _ _ h=>h
theorem Im.le_trans{I J K:Im}(h:I.le J)(h':J.le K):I.le K:=fun b o v x=>h' b o v (h b o v x)
theorem Loc.le_trans{I J K:Loc}(h:I.le J)(h':J.le K):I.le K:=fun b o x=>h' b o (h b o x)
inductive VR(I:Im)(L:Loc):PV->Value->Prop
 |undef (v:Value):VR I L .undef v
 |bool (b:Bool):VR I L (.bool b) (.bool b)
 |int (k:IntKind) (n:Int):VR I L (.int k n) (.int k n)
 |str (s:List UInt8):VR I L (.str s) (.string ⟨s.toArray⟩)
 |nilp:VR I L .nilp (.pointer none)
 |ptr {l i off b sz r:Nat} (h:L l=some (b,sz,r)):VR I L (.ptr l i off) (.pointer (some ⟨b,i*sz+off,none⟩))
 |iptr {cs:List PV} {off b o:Nat} (f:Nat->Value)
   (hi:∀(j:Nat) c,cs[j]? =some c->I b (o+j)=some (f j)/\(f j).oneCell'=true)
   (hv:∀(j:Nat) c,cs[j]? =some c->VR I L c (f j)):VR I L (.iptr cs off) (.pointer (some ⟨b,o+off,none⟩))
 |slice0 (k:SK) (sz:Nat) (a:Option Addr) (cap:Nat) (hk:k≠ .own) (hf:k.full=true->cap=0):VR I L (.slice k sz []) (.slice a 0 cap)
 |slice {k:SK} {sz:Nat} {l:List PV} {b o cap:Nat} (hk:k≠ .own) (hf:k.full=true->cap=l.length) (hc:l.length<=cap) (f:Nat->Nat->Value)
   (hz:∀(i:Nat) e,l[i]? =some e->(cellsOf e).length=sz/\zG e=true)
   (hi:∀(i:Nat) e (j:Nat) c,l[i]? =some e->(cellsOf e)[j]? =some c->I b (o+i*sz+j)=some (f i j)/\(f i j).oneCell'=true)
   (hv:∀(i:Nat) e (j:Nat) c,l[i]? =some e->(cellsOf e)[j]? =some c->VR I L c (f i j)):VR I L (.slice k sz l) (.slice (some ⟨b,o,none⟩) l.length cap)
 |mslice {l off len sz b cap r:Nat} (h:L l=some (b,sz,r)) (hc:len<=cap) (hr:(off+cap)*sz<=r):VR I L (.mslice l off len sz) (.slice (some ⟨b,off*sz,none⟩) len cap)
 |mslice0 {l off sz b cap r:Nat} (a:Option Addr) (h:L l=some (b,sz,r)):VR I L (.mslice l off 0 sz) (.slice a 0 cap)
 |agg {cs:List PV} {vs:Array Value} (hl:vs.size=cs.length) (ho:∀(j:Nat) v,vs[j]? =some v->v.oneCell'=true)
   (hv:∀(j:Nat) c v,cs[j]? =some c->vs[j]? =some v->VR I L c v):VR I L (.agg cs) (.agg vs)
 |tup {cs:List PV} {vs:Array Value} (hl:vs.size=cs.length) (hv:∀(j:Nat) c v,cs[j]? =some c->vs[j]? =some v->VR I L c v):VR I L (.tup cs) (.tuple vs)
 |fn {f:Nat} {cs ds:List PV} {vs us:Array Value} (hl:vs.size=cs.length) (hv:∀(j:Nat) c v,cs[j]? =some c->vs[j]? =some v->VR I L c v)
   (hl':us.size=ds.length) (hv':∀(j:Nat) c v,ds[j]? =some c->us[j]? =some v->VR I L c v):VR I L (.fn f cs ds) (.func (.func f) vs us)
 |nilfn:VR I L .nilfn .nilFunc
 |mp {r b sz q:Nat} (h:L r=some (b,sz,q)):VR I L (.mp r) (.map (some b))
 |nilmap:VR I L .nilmap (.map none)
 |iface {t:Nat} {v:PV} {mv:Value} (h:VR I L v mv):VR I L (.iface t v) (.iface t mv)
 |nilif:VR I L .nilif .nilIface
theorem VR.mono{I I':Im}{L L':Loc}(hI:I.le I')(hL:L.le L'){v:PV}{mv:Value}(h:VR I L v mv):VR I' L' v mv:=by
 induction h with
 |undef v=>exact .undef v
 |bool b=>exact .bool b
 |int k n=>exact .int k n
 |str s=>exact .str s
 |nilp=>exact .nilp
 |ptr h=>exact .ptr (hL _ _ h)
 |iptr f hi hv ih=>exact .iptr f (fun j c h=>⟨hI _ _ _ (hi j c h).1,(hi j c h).2⟩) ih
 |slice0 k sz a cap hk hf=>exact .slice0 k sz a cap hk hf
 |slice hk hf hc f hz hi hv ih=>exact .slice hk hf hc f hz (fun i e j c h h'=>⟨hI _ _ _ (hi i e j c h h').1,(hi i e j c h h').2⟩) ih
 |mslice h hc hr=>exact .mslice (hL _ _ h) hc hr
 |mslice0 a h=>exact .mslice0 a (hL _ _ h)
 |agg hl ho hv ih=>exact .agg hl ho ih
 |tup hl hv ih=>exact .tup hl ih
 |fn hl hv hl' hv' ih ih'=>exact .fn hl ih hl' ih'
 |nilfn=>exact .nilfn
 |mp h=>exact .mp (hL _ _ h)
 |nilmap=>exact .nilmap
 |iface h ih=>exact .iface ih
 |nilif=>exact .nilif
inductive Cl where
 |prot
 |loc (l:Nat)
 |box (k:Nat)
 |ownT (t:Nat)
 |ownB (k j:Nat)
 |ownS (l i j:Nat)
 deriving DecidableEq
structure Gh where
 fz:Nat->Nat
 loc:Nat->Nat
 room:Nat->Nat
 box:Nat->Nat
 cl:Nat->Option Cl
 dfr:List Deferred
def Gh.lc(G:Gh)(l:Nat):Nat×Nat:=(G.loc l,G.room l)
def Gh.im(G:Gh)(w:World):Im:=fun b o=>if o<G.fz b then w.cell? ⟨b,o,none⟩else none
def zi(loc:Nat->Nat×Nat)(st:ze):Loc:=fun l=>(st[l]?).map fun o=>((loc l).1,o.sz,(loc l).2)
def OwnR(G:Gh)(w:World)(L:Loc)(κ:Cl)(sz:Nat)(l:List PV)(mv:Value):Prop:=
 ∃b cap arr e,mv= .slice (some ⟨b,0,none⟩) l.length cap/\G.cl b=some κ/\w.heap[b]? =some (.cells arr e (0,0))/\arr.size=cap*sz∧
  l.length<=cap/\cap<=maxLen/\G.fz b=l.length*sz/\0<sz/\VR (G.im w) L (.slice .plain sz l) mv
def CR(G:Gh)(w:World)(L:Loc)(κ:Cl)(c:PV)(mv:Value):Prop:=
 mv.oneCell'=true/\match c with
  | .slice .own sz l=>OwnR G w L κ sz l mv
  |c=>VR (G.im w) L c mv
def TR(G:Gh)(w:World)(L:Loc)(κ:Cl)(v:PV)(mv:Value):Prop:=
 match v with
 | .slice .own sz l=>OwnR G w L κ sz l mv
 | .lptr k off=>mv= .pointer (some ⟨G.box k,off,none⟩)
 |v=>VR (G.im w) L v mv
def ObjR(G:Gh)(w:World)(L:Loc)(l:Nat):Obj->Prop
 | .arr sz es=>G.cl (G.loc l)=some (.loc l)/\G.fz (G.loc l)=0/\∃arr e,w.heap[G.loc l]? =some (.cells arr e (0,0))/\(arr.size=G.room l/\es.length*sz<=arr.size)∧
   ∀(i:Nat) v,es[i]? =some v->(cellsOf v).length=sz/\zG v=true/\∀(j:Nat) c,(cellsOf v)[j]? =some c->∃mv,arr[i*sz+j]? =some mv/\CR G w L (.ownS l i j) c mv
 | .mp es=>G.cl (G.loc l)=some (.loc l)/\G.fz (G.loc l)=0/\∃ents clock,w.heap[G.loc l]? =some (.map ents clock)/\ents.size=es.length∧
   ∀(i:Nat) k v,es[i]? =some (k,v)->∃en,ents[i]? =some en/\VR (G.im w) L k en.key/\VR (G.im w) L v en.val
 | .dead _=>True
def BxR(G:Gh)(w:World)(L:Loc)(k:Nat):Bx->Prop
 | .no=>True
 | .cells cs=>G.cl (G.box k)=some (.box k)/\G.fz (G.box k)=0/\∃arr e,w.heap[G.box k]? =some (.cells arr e (0,0))/\arr.size=cs.length∧
   ∀(j:Nat) c,cs[j]? =some c->∃mv,arr[j]? =some mv/\CR G w L (.ownB k j) c mv
 | .iter s pos=>G.cl (G.box k)=some (.box k)/\G.fz (G.box k)=0/\w.heap[G.box k]? =some (.stringIter ⟨s.toArray⟩ pos)
structure SimS(G:Gh)(st:ze)(w:World):Prop where
 obj:∀l o,st[l]? =some o->ObjR G w (zi G.lc st) l o
 fresh:∀b,w.heap.size<=b->G.fz b=0/\G.cl b=none
structure Sim(G:Gh)(N:Nat)(s:St)(a:Act)(w:World):Prop where
 defers:a.defers=G.dfr
 size:a.tmps.size=N
 tmp:∀t,t<N->TR G w (zi G.lc s.st) (.ownT t) (s.fr t) (a.tmps.getD t Go.undef)
 hi:∀t,N<=t->s.fr t= .undef
 lp:∀t k off,s.fr t= .lptr k off->s.bx k≠ .no
 box:∀k,BxR G w (zi G.lc s.st) k (s.bx k)
 store:SimS G s.st w
structure Ext(G:Gh)(st:ze)(w:World)(G':Gh)(st':ze)(w':World):Prop where
 im:(G.im w).le (G'.im w')
 loc:(zi G.lc st).le (zi G'.lc st')
 prot:∀b,G.cl b=some .prot->G'.cl b=some .prot/\G'.fz b=G.fz b/\w'.heap[b]? =w.heap[b]?
 size:w.heap.size<=w'.heap.size
 os:w'.os=w.os
 output:w'.output=w.output
 frozen:∀x,x.block<w.heap.size->w'.frozen? x=w.frozen? x
 dfr:G'.dfr=G.dfr
theorem Ext.refl(G:Gh)(st:ze)(w:World):Ext G st w G st w:=
 ⟨Im.le_refl _,Loc.le_refl _,fun _ h=>⟨h,rfl,rfl⟩,yh _,rfl,rfl,fun _ _=>rfl,rfl⟩
theorem Ext.trans{G G' G'':Gh}{st st' st'':ze}{w w' w'':World}(h:Ext G st w G' st' w')(h':Ext G' st' w' G'' st'' w''):Ext G st w G'' st'' w'':=
 ⟨Im.le_trans h.im h'.im,Loc.le_trans h.loc h'.loc,fun b hb=>⟨(h'.prot b (h.prot b hb).1).1,by rw[(h'.prot b (h.prot b hb).1).2.1,(h.prot b hb).2.1],by rw[(h'.prot b (h.prot b hb).1).2.2,(h.prot b hb).2.2]⟩,
  yha h.size h'.size,h'.os.trans h.os,h'.output.trans h.output,fun x hx=>(h'.frozen x (Nat.lt_of_lt_of_le hx h.size)).trans (h.frozen x hx),h'.dfr.trans h.dfr⟩
def Calm:Go.Obj->Prop
 | .cells _ _ fr=>fr=(0,0)
 |_=>True
theorem zce{w:World}{b:Nat}{o:Go.Obj}(h:w.heap[b]? =some o)(hc:Calm o)(x:Addr)(hx:x.block=b):w.frozen? x=false:=by
 unfold World.frozen?;rw[hx,h];cases o with
 |cells c t fr=>simp only[Calm]at hc;subst hc;simp
 |_=>rfl
theorem TR.strip{G:Gh}{w:World}{L:Loc}{κ:Cl}(κ':Cl){v:PV}{mv:Value}(h:TR G w L κ v mv):TR G w L κ' (strip v) mv:=by
 cases v with
 |slice k sz l=>
  cases k with
  |own=>exact h.choose_spec.choose_spec.choose_spec.choose_spec.2.2.2.2.2.2.2.2
  |plain=>exact h
  |fit=>exact h
  |firm=>exact h
 |_=>exact h
theorem TR.vr{G:Gh}{w:World}{L:Loc}{κ:Cl}{v:PV}{mv:Value}(h:TR G w L κ v mv)(ho:∀sz l,v≠ .slice .own sz l)(hl:∀k off,v≠ .lptr k off):VR (G.im w) L v mv:=by
 cases v with
 |slice k sz l=>
  cases k with
  |own=>exact absurd rfl (ho _ _)
  |plain=>exact h
  |fit=>exact h
  |firm=>exact h
 |lptr k off=>exact absurd rfl (hl _ _)
 |_=>exact h
theorem VR.not_own{I:Im}{L:Loc}{sz:Nat}{l:List PV}{mv:Value}(h:VR I L (.slice .own sz l) mv):False:=by
 cases h with
 |slice0 _ _ _ _ hk=>exact hk rfl
 |slice hk=>exact hk rfl
theorem VR.tr{G:Gh}{w:World}{L:Loc}{κ:Cl}{v:PV}{mv:Value}(h:VR (G.im w) L v mv):TR G w L κ v mv:=by
 cases v with
 |slice k sz l=>
  cases k with
  |own=>exact(VR.not_own h).elim
  |plain=>exact h
  |fit=>exact h
  |firm=>exact h
 |lptr k off=>cases h
 |_=>exact h
theorem VR.cr{G:Gh}{w:World}{L:Loc}{κ:Cl}{v:PV}{mv:Value}(h:VR (G.im w) L v mv)(ho:mv.oneCell'=true):CR G w L κ v mv:=by
 refine⟨ho,?_⟩;cases v with
 |slice k sz l=>
  cases k with
  |own=>exact(VR.not_own h).elim
  |plain=>exact h
  |fit=>exact h
  |firm=>exact h
 |_=>exact h
theorem CR.strip{G:Gh}{w:World}{L:Loc}{κ:Cl}{v:PV}{mv:Value}(h:CR G w L κ v mv):VR (G.im w) L (strip v) mv:=by
 obtain⟨_,h⟩:=h;cases v with
 |slice k sz l=>
  cases k with
  |own=>exact h.choose_spec.choose_spec.choose_spec.choose_spec.2.2.2.2.2.2.2.2
  |plain=>exact h
  |fit=>exact h
  |firm=>exact h
 |_=>exact h
theorem VR.strip{I:Im}{L:Loc}{v:PV}{mv:Value}(h:VR I L v mv):VR I L (PE.strip v) mv:=by
 cases v with
 |slice k sz l=>
  cases k with
  |own=>exact(VR.not_own h).elim
  |plain=>exact h
  |fit=>exact h
  |firm=>exact h
 |_=>exact h
theorem VR.canon1{I:Im}{L:Loc}{v:PV}{mv:Value}(h:VR I L (PE.strip v) mv):VR I L (PE.canon1 v) mv:=by
 cases v with
 |slice k sz l=>
  cases k with
  |own=>exact h
  |plain=>exact h
  |firm=>exact h
  |fit=>
   have h':VR I L (.slice .fit sz l) mv:=h;show VR I L (.slice .plain sz l) mv
   cases h' with
   |slice0 _ _ a cap hk hf=>exact .slice0 _ _ a cap (by simp) (by simp)
   |slice hk hf hc f hz hi hv=>exact .slice (by simp) (by simp) hc f hz hi hv
 |_=>exact h
theorem VR.stripA{I:Im}{L:Loc}{v:PV}{mv:Value}(h:VR I L (PE.strip v) mv):VR I L (PE.stripA v) mv:=by
 cases v with
 |agg cs=>
  have h':VR I L (.agg cs) mv:=h;show VR I L (.agg (cs.map PE.canon1)) mv
  cases h' with
  |agg hl ho hv=>
   refine .agg (by simpa using hl) ho (fun j c v hc hv'=>?_);rw[yn,yb]at hc;obtain⟨c0,h0,rfl⟩:=hc;exact(hv j c0 v h0 hv').strip.canon1
 |_=>exact VR.canon1 h
theorem isVar_stripA(v:PV):zG (PE.stripA v)=zG (PE.strip v):=by
 cases v with
 |slice k sz l=>cases k<;>rfl
 |_=>rfl
def zic(G:Gh)(w:World)(G':Gh)(w':World)(κ:Cl):Prop:=
 ∀b,G.cl b=some κ->G'.cl b=some κ/\G'.fz b=G.fz b/\w'.heap[b]? =w.heap[b]?
theorem zic.refl(G:Gh)(w:World)(κ:Cl):zic G w G w κ:=fun _ h=>⟨h,rfl,rfl⟩
section
variable {G G':Gh} {w w':World} {L L':Loc} {κ:Cl}
theorem OwnR.mono(hI:(G.im w).le (G'.im w'))(hL:L.le L')(hk:zic G w G' w' κ){sz:Nat}{l:List PV}{mv:Value}(h:OwnR G w L κ sz l mv):OwnR G' w' L' κ sz l mv:=by
 obtain⟨b,cap,arr,e,h1,h2,h3,h5,h6,h7,h8,h9,h10⟩:=h;obtain⟨k1,k2,k3⟩:=hk b h2;exact⟨b,cap,arr,e,h1,k1,by rw[k3];exact h3,h5,h6,h7,by rw[k2];exact h8,h9,h10.mono hI hL⟩
theorem CR.mono(hI:(G.im w).le (G'.im w'))(hL:L.le L')(hk:zic G w G' w' κ){c:PV}{mv:Value}(h:CR G w L κ c mv):CR G' w' L' κ c mv:=by
 refine⟨h.1,?_⟩;obtain⟨_,h⟩:=h;cases c with
 |slice k sz l=>
  cases k with
  |own=>exact OwnR.mono hI hL hk h
  |plain=>exact VR.mono hI hL h
  |fit=>exact VR.mono hI hL h
  |firm=>exact VR.mono hI hL h
 |_=>exact VR.mono hI hL h
theorem TR.mono(hI:(G.im w).le (G'.im w'))(hL:L.le L')(hk:zic G w G' w' κ){v:PV}(hb:∀k off,v= .lptr k off->G'.box k=G.box k){mv:Value}(h:TR G w L κ v mv):TR G' w' L' κ v mv:=by
 cases v with
 |slice k sz l=>
  cases k with
  |own=>exact OwnR.mono hI hL hk h
  |plain=>exact VR.mono hI hL h
  |fit=>exact VR.mono hI hL h
  |firm=>exact VR.mono hI hL h
 |lptr k off=>simp only[TR]at h ⊢;rw[hb k off rfl];exact h
 |_=>exact VR.mono hI hL h
theorem ObjR.mono(hI:(G.im w).le (G'.im w'))(hL:L.le L'){l:Nat}(hl':G'.lc l=G.lc l)(hk:zic G w G' w' (.loc l))(hs:∀i j,zic G w G' w' (.ownS l i j)){o:Obj}(h:ObjR G w L l o):ObjR G' w' L' l o:=by
 have hl:G'.loc l=G.loc l:=congrArg Prod.fst hl';have hrm:G'.room l=G.room l:=congrArg Prod.snd hl';cases o with
 |arr sz es=>
  obtain⟨h1,h2,arr,e,h3,h4,h5⟩:=h;obtain⟨k1,k2,k3⟩:=hk _ h1;refine⟨by rw[hl];exact k1,by rw[hl,k2];exact h2,arr,e,by rw[hl,k3];exact h3,by rw[hrm];exact h4,fun i v hv=>⟨(h5 i v hv).1,(h5 i v hv).2.1,fun j c hc=>?_⟩⟩;obtain⟨mv,m1,m2⟩:=(h5 i v hv).2.2 j c hc;exact⟨mv,m1,m2.mono hI hL (hs i j)⟩
 |mp es=>
  obtain⟨h1,h2,ents,clock,h3,h4,h6⟩:=h;obtain⟨k1,k2,k3⟩:=hk _ h1;refine⟨by rw[hl];exact k1,by rw[hl,k2];exact h2,ents,clock,by rw[hl,k3];exact h3,h4,fun i k v hv=>?_⟩;obtain⟨en,m1,m2,m3⟩:=h6 i k v hv;exact⟨en,m1,m2.mono hI hL,m3.mono hI hL⟩
 |dead z=>trivial
theorem BxR.mono(hI:(G.im w).le (G'.im w'))(hL:L.le L'){k:Nat}(hl:G'.box k=G.box k)(hk:zic G w G' w' (.box k))(hs:∀j,zic G w G' w' (.ownB k j)){o:Bx}(h:BxR G w L k o):BxR G' w' L' k o:=by
 cases o with
 |no=>trivial
 |cells cs=>
  obtain⟨h1,h2,arr,e,h3,h4,h5⟩:=h;obtain⟨k1,k2,k3⟩:=hk _ h1;refine⟨by rw[hl];exact k1,by rw[hl,k2];exact h2,arr,e,by rw[hl,k3];exact h3,h4,fun j c hc=>?_⟩;obtain⟨mv,m1,m2⟩:=h5 j c hc;exact⟨mv,m1,m2.mono hI hL (hs j)⟩
 |iter s pos=>
  obtain⟨h1,h2,h3⟩:=h;obtain⟨k1,k2,k3⟩:=hk _ h1;exact⟨by rw[hl];exact k1,by rw[hl,k2];exact h2,by rw[hl,k3];exact h3⟩
end
theorem belowL_iff{n:Nat}:∀{l:List PV},zZ n l=true<->∀v∈l,zD n v=true
 | []=>by simp[zZ]
 |v::r=>by
  simp only[zZ,ya,belowL_iff (l:=r),yia,forall_eq_or_imp]
theorem zhe{n:Nat}{e:PV}(h:zD n e=true):∀c∈cellsOf e,zD n c=true:=by
 cases e with
 |agg cs=>simpa[zD,belowL_iff,cellsOf]using h
 |_=>intro c hc;simp[cellsOf]at hc;subst hc;exact h
theorem zMa{n:Nat}{l:List PV}(h:zZ n l=true){j:Nat}{c:PV}(hc:l[j]? =some c):zD n c=true:=
 belowL_iff.1 h c (yR.2 ⟨j,hc⟩)
theorem VR.under{I I':Im}{L L':Loc}{n:Nat}(hI:I.le I')(hL:∀l x,l<n->L l=some x->L' l=some x){v:PV}{mv:Value}(h:VR I L v mv):zD n v=true->VR I' L' v mv:=by
 induction h with
 |undef v=>exact fun _=> .undef v
 |bool b=>exact fun _=> .bool b
 |int k n=>exact fun _=> .int k n
 |str s=>exact fun _=> .str s
 |nilp=>exact fun _=> .nilp
 |ptr h=>exact fun hb=> .ptr (hL _ _ (by simpa[zD]using hb) h)
 |iptr f hi hv ih=>
  intro hb;simp only[zD]at hb;exact .iptr f (fun j c h=>⟨hI _ _ _ (hi j c h).1,(hi j c h).2⟩) (fun j c h=>ih j c h (zMa hb h))
 |slice0 k sz a cap hk hf=>exact fun _=> .slice0 k sz a cap hk hf
 |slice hk hf hc f hz hi hv ih=>
  intro hb;simp only[zD]at hb;exact .slice hk hf hc f hz (fun i e j c h h'=>⟨hI _ _ _ (hi i e j c h h').1,(hi i e j c h h').2⟩)
   (fun i e j c h h'=>ih i e j c h h' (zhe (zMa hb h) c (yR.2 ⟨j,h'⟩)))
 |mslice h hc hr=>exact fun hb=> .mslice (hL _ _ (by simpa[zD]using hb) h) hc hr
 |mslice0 a h=>exact fun hb=> .mslice0 a (hL _ _ (by simpa[zD]using hb) h)
 |agg hl ho hv ih=>
  intro hb;simp only[zD]at hb;exact .agg hl ho (fun j c v h h'=>ih j c v h h' (zMa hb h))
 |tup hl hv ih=>
  intro hb;simp only[zD]at hb;exact .tup hl (fun j c v h h'=>ih j c v h h' (zMa hb h))
 |fn hl hv hl' hv' ih ih'=>
  intro hb;simp only[zD,ya]at hb;exact .fn hl (fun j c v h h'=>ih j c v h h' (zMa hb.1 h)) hl' (fun j c v h h'=>ih' j c v h h' (zMa hb.2 h))
 |nilfn=>exact fun _=> .nilfn
 |mp h=>exact fun hb=> .mp (hL _ _ (by simpa[zD]using hb) h)
 |nilmap=>exact fun _=> .nilmap
 |iface h ih=>exact fun hb=> .iface (ih (by simpa[zD]using hb))
 |nilif=>exact fun _=> .nilif
mutual
def zZb:PV->Value->Bool
 | .undef,_=>true
 | .bool a,.bool b=>a==b
 | .int k n,.int k' n'=>decide (k=k')&&decide (n=n')
 | .str s,.string b=>decide (s=b.data.toList)
 | .nilp,.pointer none=>true
 | .nilfn,.nilFunc=>true
 | .nilmap,.map none=>true
 | .nilif,.nilIface=>true
 | .slice k _ [],.slice none 0 0=>decide (k≠ .own)
 | .agg cs,.agg vs=>vs.all (·.oneCell')&&okVals cs vs.toList
 | .iface t v,.iface t' v'=>decide (t=t')&&zZb v v'
 |_,_=>false
def okVals:List PV->List Value->Bool
 | [],[]=>true
 |c::cs,v::vs=>zZb c v&&okVals cs vs
 |_,_=>false
end
def zO:Operand->Arg->Bool
 | .tmp t,.t n=>decide (t=n)
 | .const v,.c p=>zZb p v
 | .func f,.c (.fn g [] [])=>decide (f=g)
 |_,_=>false
def okArgs:List Operand->List Arg->Bool
 | [],[]=>true
 |x::xs,a::as=>zO x a&&okArgs xs as
 |_,_=>false
def okOpt:Option Operand->Option Arg->Bool
 |none,none=>true
 |some x,some a=>zO x a
 |_,_=>false
def zmc(P:Program)(t:Nat):Bool:=match P.underlying t with
 |some (.struct _)|some (.array _ _)=>true
 |some _=>false
 |none=>false
def hasU(P:Program)(t:Nat):Bool:=(P.underlying t).isSome
def szT(P:Program)(t sz:Nat):Bool:=match P.info? t with
 |some i=>decide (i.size=sz)
 |none=>false
def zeroT(P:Program)(t:Nat)(z:PV):Bool:=match P.info? t with
 |some i=>match i.zero with
  |some v=>zZb z v&&decide ((cellsOf z).length=i.size)&&zG z&&(cellsOf z).all zlc
  |none=>false
 |none=>false
def bytesT(P:Program)(t n:Nat):Bool:=match P.info? t with
 |some i=>decide (i.bytes=n)
 |none=>false
def sliceT(P:Program)(t:Nat):Option Nat:=match P.underlying t with
 |some (.slice e)=>some e
 |_=>none
def zZc(P:Program)(place:Nat->Option (Nat×Nat)):List (Nat×Operand)->List (Nat×Nat×Arg)->Bool
 | [],[]=>true
 |(i,x)::xs,(off,sz,a)::as=>decide (place i=some (off,sz))&&zO x a&&zZc P place xs as
 |_,_=>false
def okElems:List (Nat×Operand)->List (Nat×Arg)->Bool
 | [],[]=>true
 |(i,x)::xs,(j,a)::as=>decide (i=j)&&zO x a&&okElems xs as
 |_,_=>false
def zUa(P:Program)(t:Nat):Nat->Option (Nat×Nat):=match P.underlying t with
 |some (.struct fs)=>fun i=>match fs[i]? with
  |some f=>(P.info? f.type).map fun j=>(f.offset,j.size)
  |none=>none
 |some (.array _ e)=>fun i=>(P.info? e).map fun j=>(i*j.size,j.size)
 |_=>fun _=>none
def allSized(P:Program)(t:Nat):Bool:=match P.underlying t with
 |some (.struct fs)=>fs.toList.all fun f=>(P.info? f.type).isSome
 |some (.array _ e)=>(P.info? e).isSome
 |_=>false
def okField(P:Program)(t f off:Nat):Bool:=match P.underlying t with
 |some (.struct fs)=>match fs[f]? with
  |some g=>decide (g.offset=off)&&(match P.info? g.type with|some i=>decide (i.size≠0)|none=>false)
  |none=>false
 |_=>false
def okFieldV(P:Program)(t f:Nat)(ag:Bool)(off sz:Nat):Bool:=match P.underlying t with
 |some (.struct fs)=>match fs[f]? with
  |some g=>decide (g.offset=off)&&szT P g.type sz&&hasU P g.type&&(zmc P g.type==ag)
  |none=>false
 |_=>false
def intLike(P:Program)(t:Nat):Bool:=match P.underlying t with
 |some (.int _)=>true
 |_=>false
def kindT(P:Program)(t:Nat):Option Nat:=match P.underlying t with
 |some (.int _)=>some 0
 |some .bool=>some 1
 |some .string=>some 2
 |_=>none
def zQc(P:Program):List Field->Nat->List Nat->Bool
 | [],_,[]=>true
 |f::fs,i,k::ks=>decide (f.offset=i)&&decide (f.name≠ "_")&&decide (kindT P f.type=some k)&&hasU P f.type&& !(zmc P f.type)&&zQc P fs (i+1) ks
 |_,_,_=>false
def flatT(P:Program)(t:Nat)(ks:List Nat):Bool:= !(P.eqGuardType P.depth t)&&(match P.underlying t with
 |some (.struct fs)=>zQc P fs.toList 0 ks&& !(P.stoodInHeld t)
 |some (.array n e)=>szT P e 1&&hasU P e&& !(zmc P e)&&(match kindT P e with
  |some k=>decide (ks=yya n k)
  |none=>false)
 |_=>false)
def okTk(P:Program)(op:BinOp)(t tk:Nat)(ks:List Nat):Bool:=match op with
 | .eql| .neq=>match P.underlying t with
  |some .bool=>decide (tk=1)
  |some (.pointer _)=>decide (tk=3)
  |some (.int _)|some .string=>decide (tk=0)
  |some (.struct _)|some (.array _ _)=>decide (tk=4)&&flatT P t ks
  |_=>false
 |_=>decide (tk=0)
def mapT(P:Program)(t:Nat):Option (Bool×Nat):=match P.underlying t with
 |some (.map kt e)=>match P.underlying kt with
  |some (.int _)=>some (false,e)
  |some .string=>some (true,e)
  |_=>none
 |_=>none
def okSlcT(P:Program)(t:Nat):Option Bool:=match P.underlying t with
 |some .string=>some true
 |some (.slice _)=>some false
 |_=>none
def isStrT(P:Program)(t:Nat):Bool:=match P.underlying t with
 |some .string=>true
 |_=>false
def okLenT(P:Program)(t:Nat):Option Nat:=match P.underlying t with
 |some .string=>some 0
 |some (.slice _)=>some 1
 |some (.map _ _)=>some 2
 |_=>none
def arrT(P:Program)(t n sz:Nat):Option Nat:=match P.underlying t with
 |some (.array m e)=>if m=n/\szT P e sz then some e else none
 |_=>none
def okIface(P:Program)(t:Nat):Bool:=match P.underlying t with
 |some (.interface _)=>false
 |some _=>true
 |none=>false
def okConv(P:Program)(s d:Nat)(k:IntKind):Bool:=hasU P s&&(match P.underlying d with
 |some (.int k')=>decide (k=k')
 |_=>false)
def okBstr(P:Program)(s d:Nat):Bool:=(match P.underlying d with
 |some .string=>true
 |_=>false)&&(match P.underlying s with
 |some (.slice e)=>(match P.underlying e with
  |some (.int .u8)=>true
  |_=>false)
 |_=>false)
def okAppT(P:Program)(ts:List Nat)(sz by_:Nat):Bool:=match ts with
 | [t,u]=>(match sliceT P t with
   |some e=>szT P e sz&&bytesT P e by_&&decide (0<by_)&&decide (0<sz)&&(match P.info? e with
    |some i=>(match i.zero with
     |some z=>decide (z.cells.size=sz)
     |none=>false)
    |none=>false)
   |none=>false)&&(okSlcT P u).isSome
 |_=>false
def zj(P:Program)(o:Op)(g:IOp):Bool:=
 match g with
 | .mv a=>match o with
  | .move x| .assign x=>zO x a
  |_=>false
 | .take s=>match o with
  | .move x| .assign x=>zO x (.t s)
  |_=>false
 | .pick c' a' b'=>match o with
  | .pick c a b=>zO c c'&&zO a a'&&zO b b'
  |_=>false
 | .boxL _ a=>match o with
  | .alloc e=>(match a with| .c z=>zeroT P e z|_=>false)
  | .box _ x=>zO x a
  |_=>false
 | .boxI a=>match o with
  | .alloc e=>(match a with| .c z=>zeroT P e z|_=>false)
  | .box _ x=>zO x a
  |_=>false
 | .boxS sz a=>match o with
  | .alloc e=>(match a with| .c z=>zeroT P e z|_=>false)
  | .box _ x=>zO x a
  |_=>false
 | .build zero parts'=>match o with
  | .build t parts=>zeroT P t (.agg zero)&&allSized P t&&zZc P (zUa P t) parts.toList parts'
  |_=>false
 | .buildF zero parts'=>match o with
  | .build t parts=>zeroT P t (.agg zero)&&allSized P t&&zZc P (zUa P t) parts.toList parts'
  |_=>false
 | .bslice sz zero n' parts'=>match o with
  | .buildSlice t n parts=>(match sliceT P t with
   |some e=>decide (n=n')&&szT P e sz&&zeroT P e zero&&decide (0<sz)&&decide (n*sz<=16777216)&&okElems parts.toList parts'
   |none=>false)
  |_=>false
 | .bsliceS sz zero n' parts'=>match o with
  | .buildSlice t n parts=>(match sliceT P t with
   |some e=>decide (n=n')&&szT P e sz&&zeroT P e zero&&decide (0<sz)&&decide (n*sz<=16777216)&&okElems parts.toList parts'
   |none=>false)
  |_=>false
 | .load _ ag sz a| .loadB ag sz a| .loadN _ ag sz a=>match o with
  | .load t x=>zO x a&&szT P t sz&&hasU P t&&(zmc P t==ag)
  |_=>false
 | .loadT _ a=>match o with
  | .load t x=>zO x a&&szT P t 1&&hasU P t&&(zmc P t==false)
  |_=>false
 | .store _ sz a b| .storeN _ sz a b=>match o with
  | .store t x v=>zO x a&&zO v b&&szT P t sz
  |_=>false
 | .storeT _ a b=>match o with
  | .store t x v=>zO x a&&zO v (.t b)&&szT P t 1
  |_=>false
 | .nilck a=>match o with
  | .nilCheck x=>zO x a
  |_=>false
 | .bin tk ks op' a b=>match o with
  | .binOp op t x y _=>decide (op=op')&&zO x a&&zO y b&&okTk P op t tk ks
  |_=>false
 | .un op' a=>match o with
  | .unOp op _ x=>decide (op=op')&&zO x a
  |_=>false
 | .conv k a=>match o with
  | .convert s d x=>okConv P s d k&&zO x a
  |_=>false
 | .rstr a=>match o with
  | .convert s d x=>(match P.underlying d with
   |some .string=>true
   |_=>false)&&(P.underlying s).isSome&&zO x a
  |_=>false
 | .bstr a=>match o with
  | .convert s d x=>okBstr P s d&&zO x a
  |_=>false
 | .mkif t' a=>match o with
  | .makeInterface t x=>decide (t=t')&&zO x a&&okIface P t
  |_=>false
 | .mkfn f' first' caps'=>match o with
  | .makeFunc (.func f) first caps=>decide (f=f')&&okArgs first.toList first'&&okArgs caps.toList caps'
  |_=>false
 | .mkmap=>match o with
  | .makeMap _ none=>true
  |_=>false
 | .lookup ks ok' z m' k'=>match o with
  | .lookup t m k ok=>(match mapT P t with
   |some (ks',e)=>(ks==ks')&&zeroT P e z
   |none=>false)&&(ok==ok')&&zO m m'&&zO k k'
  |_=>false
 | .mapset ks m' k' v'=>match o with
  | .mapUpdate t m k v| .insert t m k v=>(match mapT P t with
   |some (ks',_)=>ks==ks'
   |none=>false)&&zO m m'&&zO k k'&&zO v v'
  |_=>false
 | .mkslice sz z by_ l' c'=>match o with
  | .makeSlice t l c=>(match sliceT P t with
   |some e=>szT P e sz&&zeroT P e z&&bytesT P e by_&&decide (0<sz)
   |none=>false)&&zO l l'&&zO c c'
  |_=>false
 | .mksliceS sz z by_ l' c'=>match o with
  | .makeSlice t l c=>(match sliceT P t with
   |some e=>szT P e sz&&zeroT P e z&&bytesT P e by_&&decide (0<sz)
   |none=>false)&&zO l l'&&zO c c'
  |_=>false
 | .slc isS z a lo' hi' mx'=>match o with
  | .slice t x lo hi mx=>decide (okSlcT P t=some isS)&&(isS||(match sliceT P t with
   |some e=>szT P e z
   |none=>false))&&zO x a&&okOpt lo lo'&&okOpt hi hi'&&okOpt mx mx'&&(mx.isNone||hi.isSome)
  |_=>false
 | .faddr off a=>match o with
  | .fieldAddr t x f=>zO x a&&okField P t f off
  |_=>false
 | .iaddr sz a i'=>match o with
  | .indexAddr t x i=>(match sliceT P t with
   |some e=>szT P e sz
   |none=>false)&&zO x a&&zO i i'
  |_=>false
 | .iaddrA n sz a i'=>match o with
  | .indexAddr t x i=>(arrT P t n sz).isSome&&decide (0<sz)&&zO x a&&zO i i'
  |_=>false
 | .idxS a i'=>match o with
  | .index t x i=>isStrT P t&&zO x a&&zO i i'
  |_=>false
 | .idxA n sz ag a i'=>match o with
  | .index t x i=>(match arrT P t n sz with
   |some e=>hasU P e&&(zmc P e==ag)
   |none=>false)&&zO x a&&zO i i'
  |_=>false
 | .ifnil neq a=>match o with
  | .binOp op t x y _=>(match op with
   | .eql=> !neq
   | .neq=>neq
   |_=>false)&&zO x a&&zO y (.c .nilif)&&(match P.underlying t with
   |some (.interface ms)=>decide (ms=P.methodsAt t)
   |_=>false)
  |_=>false
 | .tassert t' a=>match o with
  | .typeAssert x _ t ok=>decide (t=t')&&zO x a&& !ok&&(match P.underlying t with
   |some (.struct _)=>true
   |_=>false)
  |_=>false
 | .ext a i'=>match o with
  | .extract x i=>zO x a&&decide (i=i')
  |_=>false
 | .fld ag off sz a=>match o with
  | .field t x f=>zO x a&&okFieldV P t f ag off sz
  |_=>false
 | .call _ f' args'| .callP _ f' args'| .callR f' args'| .callK f' args'| .callV f' args'=>match o with
  | .call c=>(match c.callee with
   | .value f=>zO f f'&&okArgs c.args.toList args'
   |_=>false)
  |_=>false
 | .len tk a=>match o with
  | .call c=>(match c.callee with
   | .builtin .len=>(match c.args.toList,c.argTypes.toList with
    | [x],[t]=>zO x a&&decide (okLenT P t=some tk)
    |_,_=>false)
   |_=>false)
  |_=>false
 | .append sz by_ a b| .appendS sz by_ a b=>match o with
  | .call c=>(match c.callee with
   | .builtin .append=>(match c.args.toList with
    | [x,y]=>zO x a&&zO y b
    |_=>false)&&okAppT P c.argTypes.toList sz by_
   |_=>false)
  |_=>false
 | .copyS sz by_ a b=>match o with
  | .call c=>(match c.callee with
   | .builtin .copy=>(match c.args.toList with
    | [x,y]=>zO x a&&zO y b
    |_=>false)&&okAppT P c.argTypes.toList sz by_
   |_=>false)
  |_=>false
 | .max2 a b=>match o with
  | .call c=>(match c.callee with
   | .builtin .max=>(match c.args.toList with
    | [x,y]=>zO x a&&zO y b
    |_=>false)
   |_=>false)
  |_=>false
 | .min2 a b=>match o with
  | .call c=>(match c.callee with
   | .builtin .min=>(match c.args.toList with
    | [x,y]=>zO x a&&zO y b
    |_=>false)
   |_=>false)
  |_=>false
 | .panic a=>match o with
  | .panic x=>zO x a
  |_=>false
 | .rng _ a=>match o with
  | .range t x=>isStrT P t&&zO x a
  |_=>false
 | .next _ a=>match o with
  | .next i true=>zO i a
  |_=>false
mutual
theorem zpd{I:Im}{L:Loc}:∀(p:PV) (v:Value),zZb p v=true->VR I L p v
 | .undef,v,_=> .undef v
 | .bool a,v,h=>by cases v<;>simp[zZb]at h;subst h;exact .bool _
 | .int k n,v,h=>by cases v<;>simp[zZb]at h;obtain⟨rfl,rfl⟩:=h;exact .int _ _
 | .str s,v,h=>by
  cases v<;>simp[zZb]at h
  rename_i b;have:b=⟨s.toArray⟩:=by cases b;simp_all
  rw[this];exact .str _
 | .nilp,v,h=>by
  cases v<;>try(simp[zZb]at h)
  rename_i a;cases a<;>simp[zZb]at h
  exact .nilp
 | .nilfn,v,h=>by cases v<;>simp[zZb]at h;exact .nilfn
 | .nilmap,v,h=>by
  cases v<;>try(simp[zZb]at h)
  rename_i a;cases a<;>simp[zZb]at h
  exact .nilmap
 | .nilif,v,h=>by cases v<;>simp[zZb]at h;exact .nilif
 | .slice k z l,v,h=>by
  cases l with
  |cons x xs=>cases v<;>simp[zZb]at h
  |nil=>
   cases v<;>try(simp[zZb]at h)
   rename_i a n c;cases a<;>cases n<;>cases c<;>simp[zZb]at h
   exact .slice0 _ _ _ _ h (fun _=>rfl)
 | .agg cs,v,h=>by
  cases v<;>simp[zZb]at h
  rename_i vs;obtain⟨h1,h2⟩:=h;obtain⟨e1,e2⟩:=okVals_vr cs vs.toList h2;refine .agg (by simpa using e1) ?_ ?_
  ·intro j v hv;obtain⟨hj,rfl⟩:=yu.1 hv;exact h1 j hj
  ·intro j c v hc hv;exact e2 j c v hc (by simpa using hv)
 | .iface t p,v,h=>by
  cases v<;>simp[zZb]at h
  obtain⟨rfl,h⟩:=h;exact .iface (zpd p _ h)
 | .ptr ..,v,h=>by cases v<;>simp[zZb]at h
 | .lptr ..,v,h=>by cases v<;>simp[zZb]at h
 | .iptr ..,v,h=>by cases v<;>simp[zZb]at h
 | .mslice ..,v,h=>by cases v<;>simp[zZb]at h
 | .tup ..,v,h=>by cases v<;>simp[zZb]at h
 | .fn ..,v,h=>by cases v<;>simp[zZb]at h
 | .mp ..,v,h=>by cases v<;>simp[zZb]at h
theorem okVals_vr{I:Im}{L:Loc}:∀(p:List PV) (v:List Value),okVals p v=true->v.length=p.length/\∀(j:Nat) c x,p[j]? =some c->v[j]? =some x->VR I L c x
 | [],[],_=>⟨rfl,fun j c x h=>by simp at h⟩
 | [],_::_,h=>by simp[okVals]at h
 |_::_,[],h=>by simp[okVals]at h
 |c::cs,v::vs,h=>by
  simp[okVals]at h;obtain⟨e1,e2⟩:=okVals_vr (I:=I) (L:=L) cs vs h.2;refine⟨by simp[e1],fun j c' x hc hv=>?_⟩;cases j with
  |zero=>simp at hc hv;subst hc;subst hv;exact zpd _ _ h.1
  |succ j=>exact e2 j c' x (by simpa using hc) (by simpa using hv)
end
section
variable {P:Program} {G:Gh} {N:Nat} {s:St} {a:Act} {w:World}
theorem arg_tr(hS:Sim G N s a w){x:Operand}{g:Arg}(h:zO x g=true):∃κ,TR G w (zi G.lc s.st) κ (g.val s.fr) (a.eval x):=by
 cases x with
 |tmp t=>
  cases g<;>simp[zO]at h
  subst h;by_cases ht:t<N
  ·exact⟨_,hS.tmp t ht⟩
  ·refine⟨.prot,?_⟩;have e:=hS.hi t (Nat.le_of_not_lt ht);simp only[Arg.val,e];exact VR.undef _
 |const v=>
  cases g with
  |t n=>simp[zO]at h
  |c p=>exact⟨.prot,(zpd p v h).tr⟩
 |global g'=>cases g<;>simp[zO]at h
 |func f=>
  cases g with
  |t n=>simp[zO]at h
  |c p=>
   cases p<;>simp[zO]at h
   rename_i f' fs cs;cases fs<;>cases cs<;>simp[zO]at h
   subst h;exact⟨.prot,VR.fn (by simp) (by simp) (by simp) (by simp)⟩
theorem arg_strip(hS:Sim G N s a w){x:Operand}{g:Arg}(h:zO x g=true)(κ':Cl):TR G w (zi G.lc s.st) κ' (strip (g.val s.fr)) (a.eval x):=by
 obtain⟨κ,hk⟩:=arg_tr hS h;exact hk.strip κ'
theorem arg_vr(hS:Sim G N s a w){x:Operand}{g:Arg}(h:zO x g=true)(hl:∀k off,g.val s.fr≠ .lptr k off):VR (G.im w) (zi G.lc s.st) (strip (g.val s.fr)) (a.eval x):=by
 refine(arg_strip hS h .prot).vr ?_ ?_
 ·intro sz l;cases g.val s.fr<;>simp[strip]
  rename_i k _ _;cases k<;>simp
 ·intro k off;cases hv:g.val s.fr<;>simp[strip]
  ·exact fun h1 h2=>hl _ _ (by rw[hv])
  ·rename_i k _ _;cases k<;>simp
theorem zba(hS:Sim G N s a w){x:Operand}{g:Arg}(h:zO x g=true){v:PV}(hv:g.val s.fr=v)(ho:∀sz l,v≠ .slice .own sz l)(hl:∀k off,v≠ .lptr k off):VR (G.im w) (zi G.lc s.st) v (a.eval x):=by
 obtain⟨κ,hk⟩:=arg_tr hS h;rw[hv]at hk;exact hk.vr ho hl
theorem VR.int_inv{I:Im}{L:Loc}{k:IntKind}{n:Int}{mv:Value}(h:VR I L (.int k n) mv):mv= .int k n:=by cases h;rfl
theorem VR.bool_inv{I:Im}{L:Loc}{b:Bool}{mv:Value}(h:VR I L (.bool b) mv):mv= .bool b:=by cases h;rfl
theorem VR.str_inv{I:Im}{L:Loc}{t:List UInt8}{mv:Value}(h:VR I L (.str t) mv):mv= .string ⟨t.toArray⟩:=by cases h;rfl
theorem zrb(hS:Sim G N s a w){x:Operand}{g:Arg}(h:zO x g=true){k:IntKind}{n:Int}(hv:g.val s.fr= .int k n):a.eval x= .int k n:=by
 exact(zba hS h hv (by simp) (by simp)).int_inv
theorem zIc(hS:Sim G N s a w){x:Operand}{g:Arg}(h:zO x g=true){b:Bool}(hv:g.val s.fr= .bool b):a.eval x= .bool b:=by
 exact(zba hS h hv (by simp) (by simp)).bool_inv
theorem arg_str(hS:Sim G N s a w){x:Operand}{g:Arg}(h:zO x g=true){t:List UInt8}(hv:g.val s.fr= .str t):a.eval x= .string ⟨t.toArray⟩:=by
 exact(zba hS h hv (by simp) (by simp)).str_inv
theorem ztd(hS:Sim G N s a w){x:Operand}{g:Arg}(h:zO x g=true){k off:Nat}(hv:g.val s.fr= .lptr k off):a.eval x= .pointer (some ⟨G.box k,off,none⟩):=by
 obtain⟨κ,hk⟩:=arg_tr hS h;rw[hv]at hk;exact hk
theorem arg_lp(hS:Sim G N s a w){x:Operand}{g:Arg}(h:zO x g=true){k off:Nat}(hv:g.val s.fr= .lptr k off):s.bx k≠ .no:=by
 cases g with
 |t n=>exact hS.lp n k off hv
 |c p=>
  simp only[Arg.val]at hv;subst hv;cases x<;>simp[zO,zZb]at h
theorem zLc{v:PV}{k off:Nat}(h:strip v= .lptr k off):v= .lptr k off:=by
 cases v with
 |slice k' _ _=>cases k'<;>simp[strip]at h
 |_=>exact h
theorem put_getD(a:Act)(d:Nat)(v:Value)(hd:d<a.tmps.size)(t:Nat):(a.put (some d) v).tmps.getD t Go.undef=if t=d then v else a.tmps.getD t Go.undef:=by
 simp only[Act.put,yda,yja];by_cases h:t=d
 ·subst h;simp[hd]
 ·rw[if_neg (fun e=>h e.symm),if_neg h]
theorem Sim.put(hS:Sim G N s a w){d:Option Nat}(hd:∀t,d=some t->t<N){v:PV}{mv:Value}(h:∀t,d=some t->TR G w (zi G.lc s.st) (.ownT t) v mv)(hlp:∀k off,v= .lptr k off->s.bx k≠ .no):
  Sim G N {s with fr:=zSa s.fr d v} (a.put d mv) w:=by
 cases d with
 |none=>exact hS
 |some d=>
  have hdN:=hd d rfl;refine⟨hS.defers,by simp[Act.put,hS.size],?_,?_,?_,hS.box,hS.store⟩
  ·intro t ht;rw[put_getD a d mv (by rw[hS.size];exact hdN)];simp only[zSa,upd];by_cases e:t=d
   ·simp only[e,if_true];exact h d rfl
   ·simp only[e,if_false];exact hS.tmp t ht
  ·intro t ht;simp only[zSa,upd];rw[if_neg (by omega)];exact hS.hi t ht
  ·intro t k off hk;simp only[zSa,upd]at hk;split at hk
   ·exact hlp k off hk
   ·exact hS.lp t k off hk
def zYa(P:Program)(oper:Oper)(N:Nat)(G:Gh)(s:St)(a:Act)(w:World)(v:PV)(fr:Fr)(bx:Bxs)(st:ze):Prop:=
 ∃nx mv w' G',(execOp a.eval oper).run P w= .ok nx w'/\(nx= .value mv\/(nx= .skip/\mv=Go.undef))∧
  Sim G' N {fr:=zSa fr oper.dst v,bx:=bx,st:=st} (a.put oper.dst mv) w'/\Ext G s.st w G' st w'
theorem zcc{oper:Oper}(hS:Sim G N s a w)(hd:∀t,oper.dst=some t->t<N){v:PV}{mv:Value}(hrun:(execOp a.eval oper).run P w= .ok (.value mv) w)
  (hv:∀κ,TR G w (zi G.lc s.st) κ v mv) (hlp:∀k off,v= .lptr k off->s.bx k≠ .no):zYa P oper N G s a w v s.fr s.bx s.st:=
 ⟨_,mv,w,G,hrun,.inl rfl,hS.put hd (fun t _=>hv _) hlp,Ext.refl _ _ _⟩
theorem zz{oper:Oper}(hS:Sim G N s a w)(hd:∀t,oper.dst=some t->t<N){v:PV}{mv:Value}(hrun:(execOp a.eval oper).run P w= .ok (.value mv) w)
  (hv:VR (G.im w) (zi G.lc s.st) v mv):zYa P oper N G s a w v s.fr s.bx s.st:=
 zcc hS hd hrun (fun _=>hv.tr) (fun k off e=>by subst e;cases hv)
def zEb(src:Nat->Option Value)(ag:Bool)(sz off:Nat)(mv:Value):Prop:=
 if ag then∃vs:List Value,vs.length=sz/\(∀(j:Nat) v,vs[j]? =some v->src (off+j)=some v)/\mv= .agg vs.toArray else src off=some mv
theorem oneCell_not_agg{I:Im}{L:Loc}{cs:List PV}{mv:Value}(h:VR I L (.agg cs) mv):mv.oneCell'=false:=by cases h;rfl
def stripL:PV->PV
 | .agg cs=> .agg (cs.map strip)
 |v=>strip v
theorem read_ok0{I:Im}{L:Loc}{cs:List PV}{src:Nat->Option Value}(h:∀(j:Nat) c,cs[j]? =some c->∃mv,src j=some mv/\mv.oneCell'=true/\VR I L (strip c) mv)
  {ag:Bool} {sz off:Nat} {v:PV} (hr:zM ag sz cs off=some v):∃mv,zEb src ag sz off mv/\VR I L (stripL v) mv:=by
 cases ag with
 |false=>
  simp only[zM]at hr;obtain⟨mv,m1,m2,m3⟩:=h off v (by simpa using hr);refine⟨mv,m1,?_⟩;cases v with
  |agg xs=>simp only[strip]at m3;rw[oneCell_not_agg m3]at m2;cases m2
  |_=>exact m3
 |true=>
  simp only[zM,if_true]at hr;split at hr
  case isFalse=>cases hr
  case isTrue hle=>
  cases hr;have hex:∀j,j<sz->∃c mv,cs[off+j]? =some c/\src (off+j)=some mv/\mv.oneCell'=true/\VR I L (strip c) mv:=by
   intro j hj;have hl:off+j<cs.length:=by omega
   obtain⟨mv,m⟩:=h (off+j) _ (yj hl);exact⟨_,mv,yj hl,m⟩
  let vs:List Value:=(yQ sz).map fun j=>(src (off+j)).getD Go.undef
  have hvs:∀(j:Nat) x,vs[j]? =some x->j<sz/\src (off+j)=some x:=by
   intro j x hx;simp only[vs,yn,yb]at hx;obtain⟨k,hk,rfl⟩:=hx;obtain⟨hk1,hk2⟩:=yc.1 hk;simp at hk1 hk2;subst hk2;obtain⟨c,mv,_,e,_⟩:=hex j hk1;exact⟨hk1,by rw[e];rfl⟩
  refine⟨.agg vs.toArray,?_,?_⟩
  ·simp only[zEb,if_true];exact⟨vs,by simp[vs],fun j v hv=>(hvs j v hv).2,rfl⟩
  ·show VR I L (.agg _) _
   refine .agg (by simp[vs];omega) ?_ ?_
   ·intro j v hv;obtain⟨h1,h2⟩:=hvs j v (by simpa using hv);obtain⟨c,mv,_,e,o,_⟩:=hex j h1;rw[h2]at e;cases e;exact o
   ·intro j c v hc hv;obtain⟨h1,h2⟩:=hvs j v (by simpa using hv);obtain⟨c',mv,e',e,o,r⟩:=hex j h1;rw[h2]at e;cases e;simp only[yn,yH,yN,if_pos h1,e']at hc;simp at hc;subst hc;exact r
theorem read_ok{I:Im}{L:Loc}{cs:List PV}{src:Nat->Option Value}(h:∀(j:Nat) c,cs[j]? =some c->∃mv,src j=some mv/\mv.oneCell'=true/\VR I L (strip c) mv)
  {ag:Bool} {sz off:Nat} {v:PV} (hr:zM ag sz cs off=some v):∃mv,zEb src ag sz off mv/\VR I L (stripA v) mv:=by
 obtain⟨mv,h1,h2⟩:=read_ok0 h hr;refine⟨mv,h1,?_⟩;cases v with
 |agg xs=>
  have h3:VR I L (.agg (xs.map strip)) mv:=h2;have:stripA (.agg xs)=stripA (.agg (xs.map strip)):=by
   show PV.agg _=PV.agg _
   congr 1;rw[List.map_map];apply List.map_congr_left;intro c _;cases c with
   |slice k sz l=>cases k<;>rfl
   |_=>rfl
  rw[this];exact VR.stripA (v:= .agg (xs.map strip)) h3
 |_=>exact VR.stripA h2
theorem zWb{I:Im}{L:Loc}{cs:List PV}{src:Nat->Option Value}(h:∀(j:Nat) c,cs[j]? =some c->∃mv,src j=some mv/\mv.oneCell'=true/\VR I L c mv)
  {ag:Bool} {sz off:Nat} {v:PV} (hr:zM ag sz cs off=some v):∃mv,zEb src ag sz off mv/\VR I L v mv:=by
 have hstrip:∀c mv,VR I L c mv->strip c=c:=by
  intro c mv hc;cases c with
  |slice k sz l=>cases k<;>first|rfl|exact(VR.not_own hc).elim
  |_=>rfl
 obtain⟨mv,h1,h2⟩:=read_ok0 (fun j c hc=>by obtain⟨mv,m1,m2,m3⟩:=h j c hc;exact⟨mv,m1,m2,by rw[hstrip c mv m3];exact m3⟩) hr;refine⟨mv,h1,?_⟩;suffices stripL v=v by rw[<-this];exact h2
 cases ag with
 |false=>
  simp only[zM]at hr;obtain⟨mv',m1,m2,m3⟩:=h off v (by simpa using hr);cases v with
  |agg xs=>rw[oneCell_not_agg m3]at m2;cases m2
  |_=>exact hstrip _ _ m3
 |true=>
  simp only[zM,if_true]at hr;split at hr
  case isFalse=>cases hr
  case isTrue hle=>
  cases hr;simp only[stripL,PV.agg.injEq]
  conv=>rhs;rw[<-List.map_id ((cs.drop off).take sz)]
  apply List.map_congr_left;intro c hc;obtain⟨j,hj⟩:=yR.1 hc;have:∃j:Nat,cs[j]? =some c:=by
   rw[yH]at hj;split at hj
   ·rw[yN]at hj;exact⟨_,hj⟩
   ·cases hj
  obtain⟨j',hj'⟩:=this;obtain⟨mv',m1,m2,m3⟩:=h j' c hj';exact hstrip c mv' m3
theorem zob(b o j:Nat):(⟨b,o,none⟩:Addr).add j=⟨b,o+j,none⟩:=by unfold Addr.add;split<;>simp_all
theorem szT_info{t sz:Nat}(h:szT P t sz=true):∃i,P.info? t=some i/\i.size=sz:=by
 unfold szT at h;split at h
 ·exact⟨_,by assumption,by simpa using h⟩
 ·cases h
theorem zia{t sz:Nat}(h:szT P t sz=true)(w:World):(Go.sizeOf t).run P w=Result.ok sz w:=by
 obtain⟨i,hi,rfl⟩:=szT_info h;simp[Go.sizeOf,typeInfo,hi]
theorem run_isAgg{t:Nat}{ag:Bool}(hu:hasU P t=true)(h:(zmc P t==ag)=true)(w:World):(isAgg t).run P w= .ok ag w:=by
 unfold hasU at hu;rw[yX]at hu;obtain⟨d,hd⟩:=hu;have e:zmc P t=ag:=by simpa using h
 rw[<-e];unfold isAgg zmc;simp only[Sem.run_bind,underlying,run_program,hd];cases d<;>simp[hd]
theorem zUd{t sz:Nat}{ag:Bool}(hsz:szT P t sz=true)(hu:hasU P t=true)(h:(zmc P t==ag)=true){w:World}{b off:Nat}{mv:Value}
  (hl:zEb (fun j=>w.cell? ⟨b,j,none⟩) ag sz off mv):(loadVar t ⟨b,off,none⟩).run P w= .ok mv w:=by
 unfold loadVar;simp only[Sem.run_bind,run_isAgg hu h];cases ag with
 |false=>
  simp only[zEb]at hl;simp at hl;simp[hl]
 |true=>
  simp only[zEb,if_true]at hl;obtain⟨vs,h1,h2,rfl⟩:=hl;have:=run_loadCells_list (P:=P) w ⟨b,off,none⟩ vs (fun j v hv=>by rw[zob];exact h2 j v hv);simp[zia hsz,<-h1,this]
end
section
variable {P:Program} {G:Gh} {N:Nat} {s:St} {a:Act} {w:World} {oper:Oper} {b b':Bx} {st':ze} {v:PV}
def zzb(P:Program)(oper:Oper)(N:Nat)(G:Gh)(s:St)(a:Act)(w:World)(b b':Bx)(v:PV)(st':ze):Prop:=
 b'=b/\st'=s.st/\zYa P oper N G s a w v s.fr s.bx s.st
theorem op_mv{x:Arg}(hS:Sim G N s a w)(hd:∀t,oper.dst=some t->t<N)(hc:zj P oper.op (.mv x)=true)(h:(IOp.mv x).sem s.fr b s.st=some (v,b',st')):zzb P oper N G s a w b b' v st':=by
 simp only[IOp.sem,Option.some.injEq,Prod.mk.injEq]at h;obtain⟨rfl,rfl,rfl⟩:=h;simp only[zj]at hc;split at hc
 ·rename_i y ho;exact⟨rfl,rfl,zcc hS hd (mv:=a.eval y) (by simp[execOp,ho]) (fun κ=>arg_strip hS hc κ) (fun k off e=>arg_lp hS hc (zLc e))⟩
 ·rename_i y ho;exact⟨rfl,rfl,zcc hS hd (mv:=a.eval y) (by simp[execOp,ho]) (fun κ=>arg_strip hS hc κ) (fun k off e=>arg_lp hS hc (zLc e))⟩
 ·cases hc
theorem op_pick{c x y:Arg}(hS:Sim G N s a w)(hd:∀t,oper.dst=some t->t<N)(hc:zj P oper.op (.pick c x y)=true)(h:(IOp.pick c x y).sem s.fr b s.st=some (v,b',st')):zzb P oper N G s a w b b' v st':=by
 simp only[zj]at hc;split at hc
 ·rename_i c' x' y' ho;simp only[ya]at hc;obtain⟨⟨h1,h2⟩,h3⟩:=hc;simp only[IOp.sem]at h;split at h
  ·rename_i hb;simp only[Option.some.injEq,Prod.mk.injEq]at h;obtain⟨rfl,rfl,rfl⟩:=h;exact⟨rfl,rfl,zcc hS hd (mv:=a.eval x') (by simp[execOp,ho,zIc hS h1 hb,asBool]) (fun κ=>arg_strip hS h2 κ) (fun k off e=>arg_lp hS h2 (zLc e))⟩
  ·rename_i hb;simp only[Option.some.injEq,Prod.mk.injEq]at h;obtain⟨rfl,rfl,rfl⟩:=h;exact⟨rfl,rfl,zcc hS hd (mv:=a.eval y') (by simp[execOp,ho,zIc hS h1 hb,asBool]) (fun κ=>arg_strip hS h3 κ) (fun k off e=>arg_lp hS h3 (zLc e))⟩
  ·cases h
 ·cases hc
theorem iptr_cells{I:Im}{L:Loc}{cs:List PV}{off:Nat}{mv:Value}(h:VR I L (.iptr cs off) mv):∃b o,mv= .pointer (some ⟨b,o+off,none⟩)∧
  ∀(j:Nat) c,cs[j]? =some c->∃x,I b (o+j)=some x/\x.oneCell'=true/\VR I L c x:=by
 cases h with
 |iptr f hi hv=>exact⟨_,_,rfl,fun j c hc=>⟨f j,(hi j c hc).1,(hi j c hc).2,hv j c hc⟩⟩
theorem im_cell{b o:Nat}{x:Value}(h:G.im w b o=some x):w.cell? ⟨b,o,none⟩=some x:=by
 unfold Gh.im at h;split at h;exact h;cases h
theorem zyb{w:World}{g j:Nat}{cs:Array Value}{t:TypeId}{fr:Nat×Nat}(hg:w.heap[g]? =some (.cells cs t fr)):w.cell? ⟨g,j,none⟩=cs[j]? :=
 cell_of_row w g j cs t fr hg
theorem zEb.shift{src src':Nat->Option Value}{ag:Bool}{sz off off':Nat}{mv:Value}(h:zEb src ag sz off mv)(hs:∀j v,src (off+j)=some v->src' (off'+j)=some v):zEb src' ag sz off' mv:=by
 unfold zEb at h ⊢;split
 ·rename_i e;rw[if_pos e]at h;obtain⟨vs,h1,h2,h3⟩:=h;exact⟨vs,h1,fun j v hv=>hs j v (h2 j v hv),h3⟩
 ·rename_i e;rw[if_neg e]at h;exact hs 0 mv h
theorem sem_loadB{fr:Fr}{b b':Bx}{st st':ze}{ag:Bool}{sz:Nat}{x:Arg}{v:PV}(h:(IOp.loadB ag sz x).sem fr b st=some (v,b',st')):(IOp.load .any ag sz x).sem fr b st=some (v,b',st'):=by
 simp only[IOp.sem]at h ⊢;split at h
 ·rename_i l i off hx;simp only[yaa]at h;obtain⟨es,h1,e,h2,h3⟩:=h;unfold bigAt at h1;split at h1
  ·rename_i z es' hs;split at h1
   ·cases h1;rw[hx];simp only[hs,h2];exact h3
   ·cases h1
  ·cases h1
 ·cases h
theorem op_load{wh:Where}{ag:Bool}{sz:Nat}{x:Arg}(hS:Sim G N s a w)(hd:∀t,oper.dst=some t->t<N)(hc:zj P oper.op (.load wh ag sz x)=true)
  (h:(IOp.load wh ag sz x).sem s.fr (zY s.bx wh.box?) s.st=some (v,b',st')):zzb P oper N G s a w (zY s.bx wh.box?) b' v st':=by
 simp only[zj]at hc;split at hc
 case h_2=>cases hc
 rename_i t y ho;simp only[ya]at hc;obtain⟨⟨⟨h1,h2⟩,h3⟩,h4⟩:=hc;have key:∀{bk off:Nat} {mv:Value},a.eval y= .pointer (some ⟨bk,off,none⟩)->zEb (fun j=>w.cell? ⟨bk,j,none⟩) ag sz off mv->(execOp a.eval oper).run P w= .ok (.value mv) w:=by
  intro bk off mv e hl;simp[execOp,ho,Instr.loadAt,Instr.sureAddr,e,zUd h2 h3 h4 hl]
 simp only[IOp.sem]at h;split at h
 ·
  rename_i k k' off hv;split at h
  case isFalse=>cases h
  rename_i hk;subst hk;split at h
  case h_2=>cases h
  rename_i cs hb;simp only[yb,Prod.mk.injEq]at h;obtain⟨u,hu,rfl,rfl,rfl⟩:=h;have hbx:=hS.box k;simp only[zY,Where.box?]at hb;rw[hb]at hbx;obtain⟨c1,c2,arr,e,c3,c4,c5⟩:=hbx;obtain⟨mv,hl,hr⟩:=read_ok (I:=G.im w) (L:=zi G.lc s.st) (src:=fun j=>w.cell? ⟨G.box k,j,none⟩) (fun j c hj=>by
   obtain⟨mv,m1,m2⟩:=c5 j c hj;exact⟨mv,by show w.cell? _=_;rw[zyb c3];exact m1,m2.1,m2.strip⟩) hu
  refine⟨rfl,rfl,zz hS hd (key (ztd hS h1 hv) hl) hr⟩
 ·rename_i cs off hv;simp only[yb,Prod.mk.injEq]at h;obtain⟨u,hu,rfl,rfl,rfl⟩:=h;obtain⟨bk,o,e,hcell⟩:=iptr_cells (zba hS h1 hv (by simp) (by simp));obtain⟨mv,hl,hr⟩:=zWb (src:=fun j=>G.im w bk (o+j)) hcell hu;refine⟨rfl,rfl,zz hS hd (key e (hl.shift fun j x hx=>?_)) hr⟩;show w.cell? _=_
  rw[yEa];exact im_cell hx
 ·rename_i cs off hv;simp only[yb,Prod.mk.injEq]at h;obtain⟨u,hu,rfl,rfl,rfl⟩:=h;obtain⟨bk,o,e,hcell⟩:=iptr_cells (zba hS h1 hv (by simp) (by simp));obtain⟨mv,hl,hr⟩:=zWb (src:=fun j=>G.im w bk (o+j)) hcell hu;refine⟨rfl,rfl,zz hS hd (key e (hl.shift fun j x hx=>?_)) hr⟩;show w.cell? _=_
  rw[yEa];exact im_cell hx
 ·rename_i l i off hv;split at h
  case h_2=>cases h
  rename_i sz' es hst;split at h
  case h_2=>cases h
  rename_i e0 he0;simp only[yb,Prod.mk.injEq]at h;obtain⟨u,hu,rfl,rfl,rfl⟩:=h;have hptr:=zba hS h1 hv (by simp) (by simp);have hobj:=hS.store.obj l _ hst;obtain⟨c1,c2,arr,e,c3,c4,c5⟩:=hobj;obtain⟨d1,d2,d3⟩:=c5 i e0 he0;have hloc:zi G.lc s.st l=some (G.loc l,sz',G.room l):=by simp[zi,Gh.lc,hst,Obj.sz]
  have heval:a.eval y= .pointer (some ⟨G.loc l,i*sz'+off,none⟩):=by
   generalize a.eval y=m at hptr;cases hptr with
   |ptr hh=>rw[hloc]at hh;cases hh;rfl
  obtain⟨mv,hl,hr⟩:=read_ok (I:=G.im w) (L:=zi G.lc s.st) (src:=fun j=>w.cell? ⟨G.loc l,i*sz'+j,none⟩) (fun j c hj=>by
   obtain⟨mv,m1,m2⟩:=d3 j c hj;exact⟨mv,by show w.cell? _=_;rw[zyb c3];exact m1,m2.1,m2.strip⟩) hu
  refine⟨rfl,rfl,zz hS hd (key heval (hl.shift fun j x hx=>?_)) hr⟩;rw[yEa];exact hx
 ·cases h
theorem sem_loadN{fr:Fr}{b b':Bx}{st st':ze}{q:Nat}{ag:Bool}{sz:Nat}{x:Arg}{v:PV}(h:(IOp.loadN q ag sz x).sem fr b st=some (v,b',st')):(IOp.load .any ag sz x).sem fr b st=some (v,b',st'):=by
 simp only[IOp.sem]at h ⊢;split at h
 case h_2=>cases h
 rename_i l i off hx;split at h
 case isFalse=>cases h
 rename_i hl;subst hl;simp only[hx];exact h
theorem op_loadN{q:Nat}{ag:Bool}{sz:Nat}{x:Arg}(hS:Sim G N s a w)(hd:∀t,oper.dst=some t->t<N)(hc:zj P oper.op (.loadN q ag sz x)=true)
  (h:(IOp.loadN q ag sz x).sem s.fr (zY s.bx none) s.st=some (v,b',st')):zzb P oper N G s a w (zY s.bx none) b' v st':=
 op_load (wh:= .any) hS hd hc (sem_loadN h)
theorem op_loadB{ag:Bool}{sz:Nat}{x:Arg}(hS:Sim G N s a w)(hd:∀t,oper.dst=some t->t<N)(hc:zj P oper.op (.loadB ag sz x)=true)
  (h:(IOp.loadB ag sz x).sem s.fr (zY s.bx none) s.st=some (v,b',st')):zzb P oper N G s a w (zY s.bx none) b' v st':=
 op_load (wh:= .any) hS hd hc (sem_loadB h)
theorem op_nilck{x:Arg}(hS:Sim G N s a w)(hd:∀t,oper.dst=some t->t<N)(hc:zj P oper.op (.nilck x)=true)(h:(IOp.nilck x).sem s.fr b s.st=some (v,b',st')):zzb P oper N G s a w b b' v st':=by
 simp only[zj]at hc;split at hc
 case h_2=>cases hc
 rename_i y ho;simp only[IOp.sem]at h;split at h
 ·rename_i cs off hv;cases h;have:=zba hS hc hv (by simp) (by simp);obtain⟨bk,o,e,_⟩:=iptr_cells this;refine⟨rfl,rfl,zz hS hd (mv:=a.eval y) (by simp[execOp,ho,e]) this⟩
 ·rename_i l i off hv;cases h;have:=zba hS hc hv (by simp) (by simp);refine⟨rfl,rfl,zz hS hd (mv:=a.eval y) ?_ this⟩;generalize hm:a.eval y=m at this;cases this;simp[execOp,ho,hm]
 ·rename_i k off hv;cases h;have:=ztd hS hc hv;exact⟨rfl,rfl,zcc hS hd (mv:=a.eval y) (by simp[execOp,ho,this]) (fun κ=>this) (fun k' o' e=>by cases e;exact arg_lp hS hc hv)⟩
 ·rename_i f xs ys hv;cases h;have:=zba hS hc hv (by simp) (by simp);refine⟨rfl,rfl,zz hS hd (mv:=a.eval y) ?_ this⟩;generalize hm:a.eval y=m at this;cases this;simp[execOp,ho,hm]
 ·cases h
theorem ba_toList(s:List UInt8):(⟨s.toArray⟩:ByteArray).toList=s:=by rw[ByteArray.toList_eq]
theorem zie(s:List UInt8):(⟨s.toArray⟩:ByteArray).size=s.length:=by simp[ByteArray.size]
theorem op_un{op:UnOp}{x:Arg}(hS:Sim G N s a w)(hd:∀t,oper.dst=some t->t<N)(hc:zj P oper.op (.un op x)=true)(h:(IOp.un op x).sem s.fr b s.st=some (v,b',st')):zzb P oper N G s a w b b' v st':=by
 simp only[zj]at hc;split at hc
 case h_2=>cases hc
 rename_i op' t y ho;simp only[ya,decide_eq_true_eq]at hc;obtain⟨rfl,hy⟩:=hc;simp only[IOp.sem,yb,Prod.mk.injEq]at h;obtain⟨u,hu,rfl,rfl,rfl⟩:=h;unfold unSem at hu;simp only[xorK_eq,zRd]at hu;split at hu
 ·rename_i k n hv;cases hu;exact⟨rfl,rfl,zz hS hd (by simp[execOp,ho,zrb hS hy hv,Op.unary,Op.intArith]) (.int _ _)⟩
 ·rename_i k n hv;cases hu;exact⟨rfl,rfl,zz hS hd (by simp[execOp,ho,zrb hS hy hv,Op.unary,Op.intBits]) (.int _ _)⟩
 ·rename_i c hv;cases hu;exact⟨rfl,rfl,zz hS hd (by simp[execOp,ho,zIc hS hy hv,Op.unary]) (.bool _)⟩
 ·cases hu
theorem op_conv{k:IntKind}{x:Arg}(hS:Sim G N s a w)(hd:∀t,oper.dst=some t->t<N)(hc:zj P oper.op (.conv k x)=true)(h:(IOp.conv k x).sem s.fr b s.st=some (v,b',st')):zzb P oper N G s a w b b' v st':=by
 simp only[zj]at hc;split at hc
 case h_2=>cases hc
 rename_i t d y ho;simp only[ya,okConv]at hc;obtain⟨⟨h1,h2⟩,hy⟩:=hc;simp only[IOp.sem,zRd]at h;split at h
 case h_2=>cases h
 rename_i k0 n hv;cases h;unfold hasU at h1;rw[yX]at h1;obtain⟨td,htd⟩:=h1;split at h2
 case h_2=>cases h2
 rename_i k' hk';simp only[decide_eq_true_eq]at h2;subst h2;refine⟨rfl,rfl,zz hS hd (mv:= .int k (k.wrap n)) ?_ (.int _ _)⟩;simp only[execOp,ho,convert,zrb hS hy hv,Sem.run_bind,run_underlying htd,run_underlying hk',yl];cases td<;>simp[Conv.intToInt]
theorem op_mkif{t:Nat}{x:Arg}(hS:Sim G N s a w)(hd:∀t,oper.dst=some t->t<N)(hc:zj P oper.op (.mkif t x)=true)(h:(IOp.mkif t x).sem s.fr b s.st=some (v,b',st')):zzb P oper N G s a w b b' v st':=by
 simp only[zj]at hc;split at hc
 case h_2=>cases hc
 rename_i t' y ho;simp only[ya,decide_eq_true_eq]at hc;obtain⟨⟨rfl,hy⟩,h2⟩:=hc;simp only[IOp.sem]at h;split at h
 case isFalse=>cases h
 rename_i hvar;cases h;have hl:∀k off,x.val s.fr≠ .lptr k off:=by
  intro k off e;rw[e]at hvar;simp[stripA,canon1,zG,zlc]at hvar
 refine⟨rfl,rfl,zz hS hd (mv:= .iface t' (a.eval y)) ?_ (.iface (arg_vr hS hy hl).stripA)⟩;unfold okIface at h2;simp only[execOp,ho,Instr.makeInterface];cases hd:P.underlying t' with
 |none=>rw[hd]at h2;cases h2
 |some d=>
  simp only[Sem.run_bind,run_underlying hd,yl];cases d<;>simp[hd]at h2 ⊢
theorem zHd(hS:Sim G N s a w):∀{xs:List Operand} {gs:List Arg},okArgs xs gs=true->(gs.map fun g=>stripA (g.val s.fr)).all zG=true→
  xs.length=gs.length/\∀(j:Nat) c x,(gs.map fun g=>stripA (g.val s.fr))[j]? =some c->(xs.map a.eval)[j]? =some x->VR (G.im w) (zi G.lc s.st) c x
 | [],[],_,_=>⟨rfl,fun j c x h=>by simp at h⟩
 | [],_::_,h,_=>by simp[okArgs]at h
 |_::_,[],h,_=>by simp[okArgs]at h
 |y::ys,g::gs,h,hv=>by
  simp only[okArgs,ya]at h;simp only[yz,List.all_cons,ya]at hv;obtain⟨e1,e2⟩:=zHd hS h.2 hv.2;refine⟨by simp[e1],fun j c x hc hx=>?_⟩;cases j with
  |zero=>
   simp at hc hx;subst hc;subst hx;refine(arg_vr hS h.1 ?_).stripA;intro k off e;rw[e]at hv;simp[stripA,canon1,zG,zlc]at hv
  |succ j=>exact e2 j c x (by simpa using hc) (by simpa using hx)
theorem op_mkfn{f:Nat}{first caps:List Arg}(hS:Sim G N s a w)(hd:∀t,oper.dst=some t->t<N)(hc:zj P oper.op (.mkfn f first caps)=true)(h:(IOp.mkfn f first caps).sem s.fr b s.st=some (v,b',st')):zzb P oper N G s a w b b' v st':=by
 simp only[zj]at hc;split at hc
 case h_2=>cases hc
 rename_i f' fs cs ho;simp only[ya,decide_eq_true_eq]at hc;obtain⟨⟨rfl,h1⟩,h2⟩:=hc;simp only[IOp.sem]at h;split at h
 case isFalse=>cases h
 rename_i hvar;simp only[ya]at hvar;cases h;obtain⟨e1,e2⟩:=zHd hS h1 hvar.1;obtain⟨e3,e4⟩:=zHd hS h2 hvar.2;refine⟨rfl,rfl,zz hS hd (mv:= .func (.func f') (fs.map a.eval) (cs.map a.eval)) (by simp[execOp,ho,Instr.makeFunc]) ?_⟩;refine .fn (by simpa using e1) (fun j c x hc hx=>e2 j c x hc (by simpa using hx)) (by simpa using e3) (fun j c x hc hx=>e4 j c x hc (by simpa using hx))
theorem op_faddr{off:Nat}{x:Arg}(hS:Sim G N s a w)(hd:∀t,oper.dst=some t->t<N)(hc:zj P oper.op (.faddr off x)=true)(h:(IOp.faddr off x).sem s.fr b s.st=some (v,b',st')):zzb P oper N G s a w b b' v st':=by
 simp only[zj]at hc;split at hc
 case h_2=>cases hc
 rename_i t y f ho;simp only[ya,okField]at hc;obtain⟨hy,h2⟩:=hc;split at h2
 case h_2=>cases h2
 rename_i fs hfs;split at h2
 case h_2=>cases h2
 rename_i g hg;simp only[ya,decide_eq_true_eq]at h2;obtain⟨rfl,h3⟩:=h2;split at h3
 case h_2=>cases h3
 rename_i i hi;have hne:i.size≠0:=by simpa using h3
 have key:∀{bk o:Nat},a.eval y= .pointer (some ⟨bk,o,none⟩)->(execOp a.eval oper).run P w= .ok (.value (.pointer (some ⟨bk,o+g.offset,none⟩))) w:=by
  intro bk o e;simp[execOp,ho,e,Instr.fieldAt,run_underlying hfs,hg,Instr.sureAddr,fieldPlace,Go.sizeOf,typeInfo,hi,hne,zob]
 simp only[IOp.sem]at h;split at h
 ·rename_i cs o hv;cases h;have hr:=zba hS hy hv (by simp) (by simp);generalize hm:a.eval y=m at hr;cases hr with
  |iptr f hi' hv'=>
   refine⟨rfl,rfl,zz hS hd (key hm) ?_⟩;rw[yEa];exact .iptr f hi' hv'
 ·rename_i l i' o hv;cases h;have hr:=zba hS hy hv (by simp) (by simp);generalize hm:a.eval y=m at hr;cases hr with
  |ptr hh=>
   refine⟨rfl,rfl,zz hS hd (key hm) ?_⟩;rw[yEa];exact .ptr hh
 ·rename_i k o hv;cases h;exact⟨rfl,rfl,zcc hS hd (key (ztd hS hy hv)) (fun κ=>rfl) (fun k' o' e=>by cases e;exact arg_lp hS hy hv)⟩
 ·cases h
theorem run_typeAssert_struct(t xT:Nat)(v:Value){fs:Array Field}(h:P.underlying t=some (.struct fs)):(Instr.typeAssert (.iface t v) xT t false).run P w= .ok v w:=by
 simp[Instr.typeAssert,run_underlying h,go_sem,Result.andThen]
theorem op_ifnil{x:Arg}{q:Bool}(hS:Sim G N s a w)(hd:∀t,oper.dst=some t->t<N)(hc:zj P oper.op (.ifnil q x)=true)(h:(IOp.ifnil q x).sem s.fr b s.st=some (v,b',st')):zzb P oper N G s a w b b' v st':=by
 simp only[zj]at hc;split at hc
 case h_2=>cases hc
 rename_i op t y z zt ho;simp only[ya]at hc;obtain⟨⟨⟨hop,hy⟩,hz⟩,ht⟩:=hc;split at ht
 case h_2=>cases ht
 rename_i ms hu;simp only[decide_eq_true_eq]at ht;subst ht;obtain⟨cz,rfl⟩:∃c,z= .const c:=by cases z<;>simp[zO]at hz<;>exact⟨_,rfl⟩
 have hnil:a.eval (.const cz)= .nilIface:=by
  have hr:=zba hS hz (v:= .nilif) rfl (by simp) (by simp);generalize a.eval (.const cz)=m at hr;cases hr;rfl
 simp only[IOp.sem]at h;split at h
 case h_3=>cases h
 ·rename_i hv;cases h;have hr:=zba hS hy hv (by simp) (by simp);have e:a.eval y= .nilIface:=by generalize a.eval y=m at hr;cases hr;rfl
  refine⟨rfl,rfl,zz hS hd (mv:= .bool !q) ?_ (.bool _)⟩;split at hop
  ·simp only[yC]at hop;subst hop;simp[execOp,ho,e,hnil,eqGuard,run_eql_nil_nil w t hu]
  ·subst hop;simp[execOp,ho,e,hnil,eqGuard,run_neq_nil_nil w t hu]
  ·cases hop
 ·rename_i t' u hv;cases h;have hr:=zba hS hy hv (by simp) (by simp);obtain⟨mv,e⟩:∃mv,a.eval y= .iface t' mv:=by generalize a.eval y=m at hr;cases hr;exact⟨_,rfl⟩
  refine⟨rfl,rfl,zz hS hd (mv:= .bool q) ?_ (.bool _)⟩;split at hop
  ·simp only[yC]at hop;subst hop;simp[execOp,ho,e,hnil,eqGuard,run_eql_held_nil w t _ _ hu]
  ·subst hop;simp[execOp,ho,e,hnil,eqGuard,run_neq_held_nil w t _ _ hu]
  ·cases hop
theorem op_tassert{x:Arg}{q:Nat}(hS:Sim G N s a w)(hd:∀t,oper.dst=some t->t<N)(hc:zj P oper.op (.tassert q x)=true)(h:(IOp.tassert q x).sem s.fr b s.st=some (v,b',st')):zzb P oper N G s a w b b' v st':=by
 simp only[zj]at hc;split at hc
 case h_2=>cases hc
 rename_i y xT t ok ho;simp only[ya,decide_eq_true_eq,yC]at hc;obtain⟨⟨⟨rfl,hy⟩,rfl⟩,ht⟩:=hc;split at ht
 case h_2=>cases ht
 rename_i fs hu;simp only[IOp.sem]at h;split at h
 case h_2=>cases h
 rename_i t' u hv;split at h
 case isFalse=>cases h
 rename_i he;subst he;cases h;have hr:=zba hS hy hv (by simp) (by simp);obtain⟨mv,e,hm⟩:∃mv,a.eval y= .iface t mv/\VR (G.im w) (zi G.lc s.st) v mv:=by generalize a.eval y=m at hr;cases hr;rename_i h;exact⟨_,rfl,h⟩
 exact⟨rfl,rfl,zz hS hd (mv:=mv) (by simp[execOp,ho,e,run_typeAssert_struct t xT mv hu]) hm⟩
theorem op_ext{x:Arg}{i:Nat}(hS:Sim G N s a w)(hd:∀t,oper.dst=some t->t<N)(hc:zj P oper.op (.ext x i)=true)(h:(IOp.ext x i).sem s.fr b s.st=some (v,b',st')):zzb P oper N G s a w b b' v st':=by
 simp only[zj]at hc;split at hc
 case h_2=>cases hc
 rename_i y i' ho;simp only[ya,decide_eq_true_eq]at hc;obtain⟨hy,rfl⟩:=hc;simp only[IOp.sem]at h;split at h
 case h_2=>cases h
 rename_i vs hv;simp only[yb,Prod.mk.injEq]at h;obtain⟨u,hu,rfl,rfl,rfl⟩:=h;have hr:=zba hS hy hv (by simp) (by simp);generalize hm:a.eval y=m at hr;cases hr with
 |tup hl hvs=>
  rename_i us;have hi:i'<us.size:=by rw[hl];exact(yc.1 hu).1
  refine⟨rfl,rfl,zz hS hd (mv:=us[i']) (by simp[execOp,ho,hm,Instr.extract,hi]) (hvs i' u _ hu (by simp[hi]))⟩
theorem run_part{t sz:Nat}{ag:Bool}(hsz:szT P t sz=true)(hu:hasU P t=true)(hag:(zmc P t==ag)=true){cs:Array Value}{off:Nat}{mv:Value}(hl:zEb (fun j=>cs[j]?) ag sz off mv):
  (part t cs off).run P w= .ok mv w:=by
 unfold part;simp only[Sem.run_bind,run_isAgg hu hag];cases ag with
 |false=>
  simp only[zEb]at hl;simp at hl;simp[hl]
 |true=>
  simp only[zEb,if_true]at hl;obtain⟨vs,h1,h2,rfl⟩:=hl;simp only[yl,if_true,Sem.run_bind,zia hsz,Sem.run_pure];congr 2;have:off+sz<=cs.size\/sz=0:=by
   by_cases h0:sz=0
   ·exact .inr h0
   ·left;have:=h2 (sz-1) vs[sz-1] (by simp[yj (show sz-1<vs.length by omega)]);have:=(yu.1 this).1;omega
  apply Array.ext
  ·simp;omega
  ·intro j hj hj';simp at hj';have:=h2 j vs[j] (by simp[yj hj']);obtain⟨q1,q2⟩:=yu.1 this;simp[q2]
theorem op_fld{ag:Bool}{off sz:Nat}{x:Arg}(hS:Sim G N s a w)(hd:∀t,oper.dst=some t->t<N)(hc:zj P oper.op (.fld ag off sz x)=true)(h:(IOp.fld ag off sz x).sem s.fr b s.st=some (v,b',st')):zzb P oper N G s a w b b' v st':=by
 simp only[zj]at hc;split at hc
 case h_2=>cases hc
 rename_i t y f ho;simp only[ya,okFieldV]at hc;obtain⟨hy,h2⟩:=hc;split at h2
 case h_2=>cases h2
 rename_i fs hfs;split at h2
 case h_2=>cases h2
 rename_i g hg;simp only[ya,decide_eq_true_eq]at h2;obtain⟨⟨⟨rfl,h3⟩,h4⟩,h5⟩:=h2;simp only[IOp.sem]at h;split at h
 case h_2=>cases h
 rename_i cs hv;simp only[yb,Prod.mk.injEq]at h;obtain⟨u,hu,rfl,rfl,rfl⟩:=h;have hr:=zba hS hy hv (by simp) (by simp);generalize hm:a.eval y=m at hr;cases hr with
 |agg hl ho' hvs=>
  rename_i us;obtain⟨mv,hl',hr'⟩:=zWb (src:=fun j=>us[j]?) (fun j c hj=>by
   have hj':j<us.size:=by rw[hl];exact(yc.1 hj).1
   exact⟨us[j],by simp[hj'],ho' j _ (by simp[hj']),hvs j c _ hj (by simp[hj'])⟩) hu
  refine⟨rfl,rfl,zz hS hd (mv:=mv) ?_ hr'⟩;simp[execOp,ho,hm,Instr.field,run_underlying hfs,hg,asAgg,run_part h3 h4 h5 hl']
end
section
variable {P:Program} {G:Gh} {N:Nat} {s:St} {a:Act} {w:World} {oper:Oper} {b b':Bx} {st':ze} {v:PV}
theorem zhc{p:PV}{n:Nat}(h:asNat p=some n):∃k,p= .int k n:=by
 unfold asNat at h;split at h
 ·rename_i k z;split at h
  ·cases h;refine⟨k,?_⟩;rw[Int.toNat_of_nonneg (by assumption)]
  ·cases h
 ·cases h
theorem op_iaddr{sz:Nat}{x i:Arg}(hS:Sim G N s a w)(hd:∀t,oper.dst=some t->t<N)(hc:zj P oper.op (.iaddr sz x i)=true)(h:(IOp.iaddr sz x i).sem s.fr b s.st=some (v,b',st')):zzb P oper N G s a w b b' v st':=by
 simp only[zj]at hc;split at hc
 case h_2=>cases hc
 rename_i t y i' ho;simp only[ya]at hc;obtain⟨⟨h1,hy⟩,hi⟩:=hc;split at h1
 case h_2=>cases h1
 rename_i e he;have hu:P.underlying t=some (.slice e):=by
  unfold sliceT at he;split at he
  ·rename_i hh;cases he;exact hh
  ·cases he
 have key:∀{n bk o len cap:Nat} {k:IntKind},i.val s.fr= .int k n->n<len->a.eval y= .slice (some ⟨bk,o,none⟩) len cap→
   (execOp a.eval oper).run P w= .ok (.value (.pointer (some ⟨bk,o+n*sz,none⟩))) w:=by
  intro n bk o len cap k hn hlt e';have:((n:Int)<(len:Int)):=by omega
  simp[execOp,ho,Instr.indexAt,zrb hS hi hn,asIntOf,e',run_underlying hu,Nat.not_le.2 hlt,hlt,zia h1,zob]
 simp only[IOp.sem]at h;split at h
 ·rename_i n k sz' l hn hv;obtain⟨ki,hki⟩:=zhc hn;split at h
  case isFalse=>cases h
  rename_i hsz;subst hsz;simp only[yb,Prod.mk.injEq]at h;obtain⟨u,hu',rfl,rfl,rfl⟩:=h;obtain⟨κ,hk⟩:=arg_tr hS hy;rw[hv]at hk;have hpl:VR (G.im w) (zi G.lc s.st) (.slice (if k= .own then .plain else k) sz' l) (a.eval y):=by
   cases k with
   |own=>simpa using hk.choose_spec.choose_spec.choose_spec.choose_spec.2.2.2.2.2.2.2.2
   |plain=>exact hk
   |fit=>exact hk
   |firm=>exact hk
  have hlt:=(yc.1 hu').1;generalize hm:a.eval y=m at hpl;cases hpl with
  |slice0=>simp at hlt
  |slice hk' hf hcap f hz hi' hv'=>
   refine⟨rfl,rfl,zz hS hd (key hki hlt hm) ?_⟩;exact .iptr (fun j=>f n j) (fun j c hj=>hi' n u j c hu' hj) (fun j c hj=>hv' n u j c hu' hj)
 ·rename_i n l off ln sz' hn hv;obtain⟨ki,hki⟩:=zhc hn;split at h
  case isFalse=>cases h
  rename_i hsz;obtain⟨rfl,hlt⟩:=hsz;cases h;have hr:=zba hS hy hv (by simp) (by simp);generalize hm:a.eval y=m at hr;cases hr with
  |mslice hL hcp=>
   refine⟨rfl,rfl,zz hS hd (key hki hlt hm) ?_⟩;have e':∀q,q*sz'+n*sz'=(q+n)*sz'+0:=by intro q;rw[yE];rfl
   rw[e'];exact .ptr hL
  |mslice0 a' hL=>omega
 ·cases h
theorem arrT_info{t n sz e:Nat}(h:arrT P t n sz=some e):P.underlying t=some (.array n e)/\szT P e sz=true:=by
 unfold arrT at h;split at h
 ·rename_i m e' hh;split at h
  ·rename_i hc;cases h;obtain⟨rfl,h2⟩:=hc;exact⟨hh,h2⟩
  ·cases h
 ·cases h
theorem op_iaddrA{n sz:Nat}{x i:Arg}(hS:Sim G N s a w)(hd:∀t,oper.dst=some t->t<N)(hc:zj P oper.op (.iaddrA n sz x i)=true)(h:(IOp.iaddrA n sz x i).sem s.fr b s.st=some (v,b',st')):zzb P oper N G s a w b b' v st':=by
 simp only[zj]at hc;split at hc
 case h_2=>cases hc
 rename_i t y i' ho;simp only[ya,decide_eq_true_eq]at hc;obtain⟨⟨⟨h1,h0⟩,hy⟩,hi⟩:=hc;rw[yX]at h1;obtain⟨e,he⟩:=h1;obtain⟨hu,hsz⟩:=arrT_info he;have key:∀{j bk o:Nat} {k:IntKind},i.val s.fr= .int k j->j<n->a.eval y= .pointer (some ⟨bk,o,none⟩)→
   (execOp a.eval oper).run P w= .ok (.value (.pointer (some ⟨bk,o+j*sz,none⟩))) w:=by
  intro j bk o k hn hlt e';have:((j:Int)<(n:Int)):=by omega
  simp[execOp,ho,Instr.indexAt,zrb hS hi hn,asIntOf,e',run_underlying hu,Instr.sureAddr,Nat.not_le.2 hlt,hlt,zia hsz,zob]
 simp only[IOp.sem]at h;split at h
 ·rename_i j cs o hn hv;obtain⟨ki,hki⟩:=zhc hn;split at h
  case isFalse=>cases h
  rename_i hlt;cases h;have hr:=zba hS hy hv (by simp) (by simp);generalize hm:a.eval y=m at hr;cases hr with
  |iptr f hi' hv'=>
   refine⟨rfl,rfl,zz hS hd (key hki hlt hm) ?_⟩;rw[yEa];exact .iptr f hi' hv'
 ·rename_i j l i0 o hn hv;obtain⟨ki,hki⟩:=zhc hn;split at h
  case isFalse=>cases h
  rename_i hlt;cases h;have hr:=zba hS hy hv (by simp) (by simp);generalize hm:a.eval y=m at hr;cases hr with
  |ptr hh=>
   refine⟨rfl,rfl,zz hS hd (key hki hlt hm) ?_⟩;rw[yEa];exact .ptr hh
 ·rename_i j k o hn hv;obtain⟨ki,hki⟩:=zhc hn;split at h
  case isFalse=>cases h
  rename_i hlt;cases h;exact⟨rfl,rfl,zcc hS hd (key hki hlt (ztd hS hy hv)) (fun κ=>rfl) (fun k' o' e=>by cases e;exact arg_lp hS hy hv)⟩
 ·cases h
theorem op_idxS{x i:Arg}(hS:Sim G N s a w)(hd:∀t,oper.dst=some t->t<N)(hc:zj P oper.op (.idxS x i)=true)(h:(IOp.idxS x i).sem s.fr b s.st=some (v,b',st')):zzb P oper N G s a w b b' v st':=by
 simp only[zj]at hc;split at hc
 case h_2=>cases hc
 rename_i t y i' ho;simp only[ya]at hc;obtain⟨⟨h1,hy⟩,hi⟩:=hc;have hu:P.underlying t=some .string:=by
  unfold isStrT at h1;split at h1;assumption;cases h1
 simp only[IOp.sem]at h;split at h
 case h_2=>cases h
 rename_i l n hv hn;obtain⟨ki,hki⟩:=zhc hn;simp only[yb,Prod.mk.injEq]at h;obtain⟨u,hu',rfl,rfl,rfl⟩:=h;refine⟨rfl,rfl,zz hS hd (mv:= .int .u8 u.toNat) ?_ (.int _ _)⟩;have hb:(⟨l.toArray⟩:ByteArray)[n]? =some u:=by
  obtain⟨h1,h2⟩:=yc.1 hu';have hs:n<(⟨l.toArray⟩:ByteArray).size:=by rw[zie];exact h1
  rw[getElem?_pos _ n hs];congr 1
 simp[execOp,ho,Instr.index,zrb hS hi hki,arg_str hS hy hv,asIntOf,run_underlying hu,hb]
theorem op_idxA{n sz:Nat}{ag:Bool}{x i:Arg}(hS:Sim G N s a w)(hd:∀t,oper.dst=some t->t<N)(hc:zj P oper.op (.idxA n sz ag x i)=true)(h:(IOp.idxA n sz ag x i).sem s.fr b s.st=some (v,b',st')):zzb P oper N G s a w b b' v st':=by
 simp only[zj]at hc;split at hc
 case h_2=>cases hc
 rename_i t y i' ho;simp only[ya]at hc;obtain⟨⟨h1,hy⟩,hi⟩:=hc;split at h1
 case h_2=>cases h1
 rename_i e he;obtain⟨hu,hsz⟩:=arrT_info he;simp only[ya]at h1;simp only[IOp.sem]at h;split at h
 case h_2=>cases h
 rename_i cs j hv hn;obtain⟨ki,hki⟩:=zhc hn;split at h
 case isFalse=>cases h
 rename_i hlt;simp only[yb,Prod.mk.injEq]at h;obtain⟨u,hu',rfl,rfl,rfl⟩:=h;have hr:=zba hS hy hv (by simp) (by simp);generalize hm:a.eval y=m at hr;cases hr with
 |agg hl ho' hvs=>
  rename_i us;obtain⟨mv,hl',hr'⟩:=zWb (src:=fun j=>us[j]?) (fun j c hj=>by
   have hj':j<us.size:=by rw[hl];exact(yc.1 hj).1
   exact⟨us[j],by simp[hj'],ho' j _ (by simp[hj']),hvs j c _ hj (by simp[hj'])⟩) hu'
  refine⟨rfl,rfl,zz hS hd (mv:=mv) ?_ hr'⟩;have:((j:Int)<(n:Int)):=by omega
  simp[execOp,ho,Instr.index,zrb hS hi hki,asIntOf,hm,run_underlying hu,Nat.not_le.2 hlt,hlt,zia hsz,run_part hsz h1.1 h1.2 hl']
theorem op_len{tk:Nat}{x:Arg}(hS:Sim G N s a w)(hd:∀t,oper.dst=some t->t<N)(hc:zj P oper.op (.len tk x)=true)(h:(IOp.len tk x).sem s.fr b s.st=some (v,b',st')):zzb P oper N G s a w b b' v st':=by
 simp only[zj]at hc;split at hc
 case h_2=>cases hc
 rename_i c ho;split at hc
 case h_2=>cases hc
 rename_i hcal;split at hc
 case h_2=>cases hc
 rename_i y t hargs hts;simp only[ya,decide_eq_true_eq]at hc;obtain⟨hy,hT⟩:=hc;have hargs':c.args= #[y]:=by
  have:=congrArg yAa hargs;simpa using this
 have hts':c.argTypes= #[t]:=by
  have:=congrArg yAa hts;simpa using this
 simp only[IOp.sem,yb,Prod.mk.injEq]at h;obtain⟨u,hu',rfl,rfl,rfl⟩:=h;have hrun:(execOp a.eval oper).run P w=((Builtin.len_ #[t] oper.type #[a.eval y]).run P w).andThen fun v w'=> .ok (.value v) w':=by
  simp[execOp,ho,resolve,hcal,hargs',hts',invoke,builtin]
 have hslc:tk=1->∃p,P.underlying t=some (.slice p):=by
  rintro rfl
  unfold okLenT at hT;split at hT<;>simp at hT
  exact⟨_,by assumption⟩
 have hmap:tk=2->∃p q,P.underlying t=some (.map p q):=by
  rintro rfl
  unfold okLenT at hT;split at hT<;>simp at hT
  exact⟨_,_,by assumption⟩
 unfold lenSem at hu';split at hu'
 ·rename_i l hv;split at hu'
  case isFalse=>cases hu'
  rename_i htk;subst htk;cases hu';have hst:P.underlying t=some .string:=by
   unfold okLenT at hT;split at hT<;>simp at hT
   assumption
  refine⟨rfl,rfl,zz hS hd (mv:= .int .i64 l.length) ?_ (.int _ _)⟩;rw[hrun];simp[Builtin.len_,run_underlying hst,arg_str hS hy hv,goInt,zie]
 ·rename_i k sz l hv;split at hu'
  case isFalse=>cases hu'
  rename_i htk;cases hu';obtain⟨p,hp⟩:=hslc htk;obtain⟨κ,hk⟩:=arg_tr hS hy;rw[hv]at hk;have:∃ad cap,a.eval y= .slice ad l.length cap:=by
   cases k with
   |own=>obtain⟨b0,cap,arr,e,h1,_⟩:=hk;exact⟨_,_,h1⟩
   |plain=>generalize a.eval y=m at hk;cases hk<;>exact⟨_,_,rfl⟩
   |fit=>generalize a.eval y=m at hk;cases hk<;>exact⟨_,_,rfl⟩
   |firm=>generalize a.eval y=m at hk;cases hk<;>exact⟨_,_,rfl⟩
  obtain⟨ad,cap,e⟩:=this;refine⟨rfl,rfl,zz hS hd (mv:= .int .i64 l.length) ?_ (.int _ _)⟩;rw[hrun];simp[Builtin.len_,run_underlying hp,e,goInt]
 ·rename_i l off n sz hv;split at hu'
  case isFalse=>cases hu'
  rename_i htk;cases hu';obtain⟨p,hp⟩:=hslc htk;have hk:=zba hS hy hv (by simp) (by simp);have:∃ad cap,a.eval y= .slice ad n cap:=by
   generalize a.eval y=m at hk;cases hk<;>exact⟨_,_,rfl⟩
  obtain⟨ad,cap,e⟩:=this;refine⟨rfl,rfl,zz hS hd (mv:= .int .i64 n) ?_ (.int _ _)⟩;rw[hrun];simp[Builtin.len_,run_underlying hp,e,goInt]
 ·rename_i hv;split at hu'
  case isFalse=>cases hu'
  rename_i htk;cases hu';obtain⟨p,q,hp⟩:=hmap htk;have hk:=zba hS hy hv (by simp) (by simp);have e:a.eval y= .map none:=by
   generalize a.eval y=m at hk;cases hk;rfl
  refine⟨rfl,rfl,zz hS hd (mv:= .int .i64 0) ?_ (.int _ _)⟩;rw[hrun];simp[Builtin.len_,run_underlying hp,e,goInt]
 ·rename_i r hv;split at hu'
  case isFalse=>cases hu'
  rename_i htk;obtain⟨p,q,hp⟩:=hmap htk;split at hu'
  case h_2=>cases hu'
  rename_i es hst;cases hu';obtain⟨c1,c2,ents,clock,c3,c4,c5⟩:=hS.store.obj r _ hst;have hk:=zba hS hy hv (by simp) (by simp);have e:a.eval y= .map (some (G.loc r)):=by
   generalize a.eval y=m at hk;cases hk with
   |mp hh=>simp[zi,Gh.lc,hst]at hh;rw[hh.1]
  refine⟨rfl,rfl,zz hS hd (mv:= .int .i64 es.length) ?_ (.int _ _)⟩;rw[hrun];simp[Builtin.len_,run_underlying hp,e,goInt,getObj,Sem.run,c3,c4]
 ·cases hu'
theorem op_max2{x y:Arg}(hS:Sim G N s a w)(hd:∀t,oper.dst=some t->t<N)(hc:zj P oper.op (.max2 x y)=true)(h:(IOp.max2 x y).sem s.fr b s.st=some (v,b',st')):zzb P oper N G s a w b b' v st':=by
 simp only[zj]at hc;split at hc
 case h_2=>cases hc
 rename_i c ho;split at hc
 case h_2=>cases hc
 rename_i hcal;split at hc
 case h_2=>cases hc
 rename_i x' y' hargs;simp only[ya]at hc;have hargs':c.args= #[x',y']:=by
  have:=congrArg yAa hargs;simpa using this
 simp only[IOp.sem]at h;split at h
 case h_2=>cases h
 rename_i k p k' q hv1 hv2;split at h
 case isFalse=>cases h
 cases h;refine⟨rfl,rfl,zz hS hd (mv:= .int k (if p<q then q else p)) ?_ (.int _ _)⟩;simp[execOp,ho,resolve,hcal,hargs',invoke,builtin,Builtin.max_,Builtin.max2,zrb hS hc.1 hv1,zrb hS hc.2 hv2]
theorem op_min2{x y:Arg}(hS:Sim G N s a w)(hd:∀t,oper.dst=some t->t<N)(hc:zj P oper.op (.min2 x y)=true)(h:(IOp.min2 x y).sem s.fr b s.st=some (v,b',st')):zzb P oper N G s a w b b' v st':=by
 simp only[zj]at hc;split at hc
 case h_2=>cases hc
 rename_i c ho;split at hc
 case h_2=>cases hc
 rename_i hcal;split at hc
 case h_2=>cases hc
 rename_i x' y' hargs;simp only[ya]at hc;have hargs':c.args= #[x',y']:=by
  have:=congrArg yAa hargs;simpa using this
 simp only[IOp.sem]at h;split at h
 case h_2=>cases h
 rename_i k p k' q hv1 hv2;split at h
 case isFalse=>cases h
 cases h;refine⟨rfl,rfl,zz hS hd (mv:= .int k (if q<p then q else p)) ?_ (.int _ _)⟩;simp[execOp,ho,resolve,hcal,hargs',invoke,builtin,Builtin.min_,Builtin.min2,zrb hS hc.1 hv1,zrb hS hc.2 hv2]
theorem ba_append(x y:List UInt8):(⟨(x++y).toArray⟩:ByteArray)=⟨x.toArray⟩++⟨y.toArray⟩:=by
 apply ByteArray.ext;simp
theorem scalarEq_run{I:Im}{L:Loc}{d t k:Nat}{p q:PV}{x y:Value}(hp:VR I L p x)(hq:VR I L q y){r:Bool}(h:scalarEq k p q=some r)(hT:kindT P t=some k)(w:World):
  (Op.equalIn (d+1) t x y).run P w= .ok r w:=by
 unfold kindT at hT;unfold scalarEq at h;split at h
 ·rename_i k n k' n';split at h<;>cases h
  rename_i hk;subst hk;rw[hp.int_inv,hq.int_inv];split at hT<;>simp at hT
  rename_i k' hk';rw[run_equalIn_int w d t k k' n n' hk'];simp[BEq.beq]
 ·cases h;split at hT<;>simp at hT
  rename_i hk';rw[hp.bool_inv,hq.bool_inv,run_equalIn_bool' w d t _ _ hk']
 ·cases h;split at hT<;>simp at hT
  rename_i hk';rw[hp.str_inv,hq.str_inv,run_equalIn_string w d t _ _ hk',ba_toList,ba_toList];rename_i a1 b1 _;congr 1;by_cases e:a1=b1<;>simp[e]
 ·cases h
theorem eqCells_cons{k:Nat}{ks:List Nat}{xs ys:List PV}{r:Bool}(h:zLb (k::ks) xs ys=some r):∃x xs' y ys' b c,xs=x::xs'/\ys=y::ys'/\scalarEq k x y=some b/\zLb ks xs' ys'=some c/\r=(b&&c):=by
 cases xs with
 |nil=>simp[zLb]at h
 |cons x xs=>cases ys with
  |nil=>simp[zLb]at h
  |cons y ys=>
   simp only[zLb]at h;split at h
   ·rename_i b c hb hc;cases h;exact⟨x,xs,y,ys,b,c,rfl,rfl,hb,hc,rfl⟩
   ·cases h
theorem zWa{t:Nat}(hu:hasU P t=true)(hag:zmc P t=false){cs:Array Value}{off:Nat}{mv:Value}(hl:cs[off]? =some mv)(w:World):
  (part t cs off).run P w= .ok mv w:=by
 unfold part;simp[run_isAgg (ag:=false) hu (by simp[hag]),hl]
theorem eqFields_run{I:Im}{L:Loc}{xs ys:Array Value}{w:World}(d:Nat):∀(fs:List Field) (i:Nat) (ks:List Nat) (cs ds:List PV) (r:Bool),
  zQc P fs i ks=true->zLb ks cs ds=some r→
  (∀(j:Nat) c,cs[j]? =some c->∃x,xs[i+j]? =some x/\VR I L c x)->(∀(j:Nat) c,ds[j]? =some c->∃x,ys[i+j]? =some x/\VR I L c x)→
  (Op.eqFields (d+1) xs ys fs).run P w= .ok r w
 | [],i,ks,cs,ds,r,hf,he,hx,hy=>by
  cases ks with
  |cons=>simp[zQc]at hf
  |nil=>cases cs<;>cases ds<;>simp[zLb]at he;subst he;simp[Op.eqFields]
 |f::fs,i,[],cs,ds,r,hf,he,hx,hy=>by simp[zQc]at hf
 |f::fs,i,k::ks,cs,ds,r,hf,he,hx,hy=>by
  obtain⟨c,cs',e,ds',p,q,rfl,rfl,h1,h2,rfl⟩:=eqCells_cons he;simp only[zQc,ya,decide_eq_true_eq]at hf;obtain⟨⟨⟨⟨⟨f1,f2⟩,f3⟩,f4⟩,f5⟩,f6⟩:=hf;have f5':zmc P f.type=false:=by simpa using f5
  obtain⟨x,x1,x2⟩:=hx 0 c (by simp);obtain⟨y,y1,y2⟩:=hy 0 e (by simp);have ih:=eqFields_run (I:=I) (L:=L) (xs:=xs) (ys:=ys) (w:=w) d fs (i+1) ks cs' ds' q f6 h2 (fun j c hc=>by
   have:=hx (j+1) c (by simpa using hc);rwa[show i+(j+1)=i+1+j from by omega]at this) (fun j c hc=>by
   have:=hy (j+1) c (by simpa using hc);rwa[show i+(j+1)=i+1+j from by omega]at this)
  rw[Nat.add_zero]at x1 y1;subst f1;simp only[Op.eqFields,if_pos f2,Sem.run_bind,zWa f4 f5' x1,zWa f4 f5' y1,yl,scalarEq_run (d:=d) x2 y2 h1 f3 w];cases p
  ·simp
  ·simp[ih]
theorem arrayEq_run{I:Im}{L:Loc}{xs ys:Array Value}{w:World}(d e:Nat)(hu:hasU P e=true)(hag:zmc P e=false){k:Nat}(hk:kindT P e=some k):
  ∀(n i:Nat) (cs ds:List PV) (r:Bool),zLb (yya n k) cs ds=some r→
  (∀(j:Nat) c,cs[j]? =some c->∃x,xs[i+j]? =some x/\VR I L c x)->(∀(j:Nat) c,ds[j]? =some c->∃x,ys[i+j]? =some x/\VR I L c x)→
  ∃u,(forIn (List.range' i n) ((none,()):Option Bool×Unit) (fun i _=>do
    let a<-part e xs i
    let b<-part e ys i
    let x<-Op.equalIn (d+1) e a b
    if x=false then pure (ForInStep.done (some false,()))else pure (ForInStep.yield (none,()))):Sem (Option Bool×Unit)).run P w= .ok u w/\u.1=if r then none else some false
 |0,i,cs,ds,r,he,hx,hy=>by
  cases cs<;>cases ds<;>simp[zLb]at he;subst he
  exact⟨_,by simp;rfl,rfl⟩
 |n+1,i,cs,ds,r,he,hx,hy=>by
  rw[List.replicate_succ]at he;obtain⟨c,cs',e',ds',p,q,rfl,rfl,h1,h2,rfl⟩:=eqCells_cons he;obtain⟨x,x1,x2⟩:=hx 0 c (by simp);obtain⟨y,y1,y2⟩:=hy 0 e' (by simp);obtain⟨u,ih1,ih2⟩:=arrayEq_run (I:=I) (L:=L) (xs:=xs) (ys:=ys) (w:=w) d e hu hag hk n (i+1) cs' ds' q h2 (fun j c hc=>by
   have:=hx (j+1) c (by simpa using hc);rwa[show i+(j+1)=i+1+j from by omega]at this) (fun j c hc=>by
   have:=hy (j+1) c (by simpa using hc);rwa[show i+(j+1)=i+1+j from by omega]at this)
  rw[Nat.add_zero]at x1 y1;cases p
  ·refine⟨(some false,()),?_,rfl⟩;simp[List.range'_succ,zWa hu hag x1,zWa hu hag y1,scalarEq_run (d:=d) x2 y2 h1 hk w]
  ·refine⟨u,?_,by simpa using ih2⟩;simp[List.range'_succ,zWa hu hag x1,zWa hu hag y1,scalarEq_run (d:=d) x2 y2 h1 hk w,ih1]
theorem bin_int{I:Im}{L:Loc}{tk:Nat}{ks:List Nat}{op:BinOp}{k k':IntKind}{p q:Int}{u:PV}{t:Nat}(h:zKa tk ks op (.int k p) (.int k' q)=some u)(w:World):
  ∃mv,(binOp op t (.int k p) (.int k' q)).run P w= .ok mv w/\VR I L u mv:=by
 simp only[zKa,andK_eq,orK_eq,xorK_eq,zRd,remK_eq,shrK_eq]at h;split at h
 ·split at h
  ·cases h
  ·rename_i hneg;cases h;exact⟨_,by simp[binOp,Op.shift,hneg],.int _ _⟩
 ·split at h
  ·cases h
  ·rename_i hneg;cases h;exact⟨_,by simp[binOp,Op.shift,hneg],.int _ _⟩
 ·split at h
  case isFalse=>cases h
  rename_i hk;subst hk;split at h
  ·cases h;exact⟨_,by simp[binOp,Op.intArith],.int _ _⟩
  ·cases h;exact⟨_,by simp[binOp,Op.intArith],.int _ _⟩
  ·cases h;exact⟨_,by simp[binOp,Op.intArith],.int _ _⟩
  ·split at h
   ·cases h
   ·rename_i hz;cases h;exact⟨_,by simp[binOp,Op.intDiv,hz],.int _ _⟩
  ·split at h
   ·cases h
   ·rename_i hz;cases h;exact⟨_,by simp[binOp,Op.intDiv,hz],.int _ _⟩
  ·cases h;exact⟨_,by simp[binOp,Op.intBits],.int _ _⟩
  ·cases h;exact⟨_,by simp[binOp,Op.intBits],.int _ _⟩
  ·cases h;exact⟨_,by simp[binOp,Op.intBits],.int _ _⟩
  ·cases h;exact⟨.bool (decide (p=q)),by simp[binOp,Op.intCmp,BEq.beq],.bool _⟩
  ·cases h;exact⟨.bool (!decide (p=q)),by simp[binOp,Op.intCmp,bne,BEq.beq],.bool _⟩
  ·cases h;exact⟨_,by simp[binOp,Op.intCmp],.bool _⟩
  ·cases h;exact⟨_,by simp[binOp,Op.intCmp],.bool _⟩
  ·cases h;exact⟨.bool (decide (q<p)),by simp[binOp,Op.intCmp],.bool _⟩
  ·cases h;exact⟨.bool (decide (q<=p)),by simp[binOp,Op.intCmp],.bool _⟩
  ·cases h
theorem run_equalIn_ptr_nil(w:World)(d t el:Nat)(x:Option Addr)(h:P.underlying t=some (.pointer el)):(Op.equalIn (d+1) t (.pointer x) (.pointer none)).run P w= .ok x.isNone w:=by
 cases x<;>simp[Op.equalIn,run_underlying h]
theorem zAd(w:World)(t el:Nat)(x:Option Addr)(h:P.underlying t=some (.pointer el)):(Op.equal t (.pointer x) (.pointer none)).run P w= .ok x.isNone w:=run_equalIn_ptr_nil w 9999 t el x h
theorem okTk_ptr{op:BinOp}{t:Nat}{ks:List Nat}(hT:okTk P op t 3 ks=true)(hop:op= .eql\/op= .neq):∃el,P.underlying t=some (.pointer el):=by
 unfold okTk at hT;rcases hop with rfl|rfl
 all_goals
  simp only at hT;split at hT<;>first|exact⟨_,by assumption⟩|simp at hT
theorem okTk_flat{op:BinOp}{t:Nat}{ks:List Nat}(hT:okTk P op t 4 ks=true)(hop:op= .eql\/op= .neq):flatT P t ks=true:=by
 unfold okTk at hT;rcases hop with rfl|rfl
 all_goals
  simp only at hT;split at hT<;>simp at hT<;>assumption
theorem bin_ptr{op':BinOp}{t yt:Nat}{x' y':Operand}(ho:oper.op= .binOp op' t x' y' yt){x:Option Addr}(e1:a.eval x'= .pointer x)(e2:a.eval y'= .pointer none)(hop:op'= .eql\/op'= .neq)
  {ks:List Nat} (hT:okTk P op' t 3 ks=true):(execOp a.eval oper).run P w= .ok (.value (.bool (if op'= .eql then x.isNone else !x.isNone))) w:=by
 obtain⟨el,hp⟩:=okTk_ptr hT hop;rcases hop with rfl|rfl
 ·simp[execOp,ho,e1,e2,eqGuard,binOp,zAd w t el x hp]
 ·simp[execOp,ho,e1,e2,eqGuard,binOp,zAd w t el x hp]
theorem agg_core(D d:Nat)(hD:D=d+1){t:Nat}{ks:List Nat}{I:Im}{L:Loc}{cs ds:List PV}{us us':Array Value}{w:World}(hf:flatT P t ks=true){r:Bool}(hr:zLb ks cs ds=some r)
  (cx:∀(j:Nat) c,cs[j]? =some c->∃x,us[0+j]? =some x/\VR I L c x) (cy:∀(j:Nat) c,ds[j]? =some c->∃x,us'[0+j]? =some x/\VR I L c x):
  (Op.equalIn (D+1) t (.agg us) (.agg us')).run P w= .ok r w:=by
 unfold flatT at hf;simp only[ya]at hf;obtain⟨_,hf⟩:=hf;split at hf
 ·rename_i fs hfs;simp only[ya]at hf;have hfo:P.fieldsOf t=fs:=by simp[Program.fieldsOf,hfs]
  rw[run_equalIn_struct w D t us us' (by rw[hfo];exact hfs) (by simpa using hf.2),hfo,hD];exact eqFields_run d _ 0 ks cs ds r hf.1 hr cx cy
 ·rename_i n e hne;simp only[ya]at hf;obtain⟨⟨⟨f1,f2⟩,f3⟩,f4⟩:=hf;have f3':zmc P e=false:=by simpa using f3
  split at f4
  case h_2=>cases f4
  rename_i k hk;simp only[decide_eq_true_eq]at f4;subst f4;obtain⟨u,a1,a2⟩:=arrayEq_run (w:=w) d e f2 f3' hk n 0 cs ds r hr cx cy;rw[<-hD]at a1;simp only[Op.equalIn,Sem.run_bind,run_underlying hne,yl,zia f1,Std.Legacy.Range.forIn_eq_forIn_range',Std.Legacy.Range.size,Nat.sub_zero,Nat.add_one_sub_one,Nat.div_one,Nat.mul_one,yC];rw[a1];simp only[yl,a2];cases r<;>simp
 ·cases hf
theorem op_bin{tk:Nat}{ks:List Nat}{op:BinOp}{x y:Arg}(hS:Sim G N s a w)(hd:∀t,oper.dst=some t->t<N)(hc:zj P oper.op (.bin tk ks op x y)=true)(h:(IOp.bin tk ks op x y).sem s.fr b s.st=some (v,b',st')):zzb P oper N G s a w b b' v st':=by
 simp only[zj]at hc;split at hc
 case h_2=>cases hc
 rename_i op' t x' y' yt ho;simp only[ya,decide_eq_true_eq]at hc;obtain⟨⟨⟨rfl,hx⟩,hy⟩,hT⟩:=hc;simp only[IOp.sem,yb,Prod.mk.injEq]at h;obtain⟨u,hu,rfl,rfl,rfl⟩:=h;have hu0:=hu;unfold zKa at hu;simp only[andK_eq,orK_eq,xorK_eq,zRd,remK_eq,shrK_eq]at hu;split at hu
 ·rename_i k p k' q hv1 hv2;clear hu;have e1:=zrb hS hx hv1;have e2:=zrb hS hy hv2;rw[hv1,hv2]at hu0;obtain⟨mv,m1,m2⟩:=bin_int (P:=P) (I:=G.im w) (L:=zi G.lc s.st) (t:=t) hu0 w;refine⟨rfl,rfl,zz hS hd (mv:=mv) ?_ m2⟩;simp only[execOp,ho,e1,e2,Sem.run_bind,eqGuard];split<;>simp[m1]
 ·rename_i l1 l2 hv1 hv2;have e1:=arg_str hS hx hv1;have e2:=arg_str hS hy hv2;have hex:(execOp a.eval oper).run P w=((Op.stringOp op' ⟨l1.toArray⟩ ⟨l2.toArray⟩).run P w).andThen fun v w'=> .ok (.value v) w':=by
   simp only[execOp,ho,e1,e2,Sem.run_bind,eqGuard];split<;>simp[binOp]
  split at hu
  ·split at hu<;>cases hu
   rename_i hle;refine⟨rfl,rfl,zz hS hd (mv:= .string ⟨(l1++l2).toArray⟩) ?_ (.str _)⟩;rw[hex,ba_append];have:¬(((⟨l1.toArray⟩:ByteArray).size+(⟨l2.toArray⟩:ByteArray).size:Nat):Int)>IntKind.i64.max:=by
    rw[zie,zie];show¬_>(9223372036854775807:Int);omega
   simp only[Op.stringOp,this,if_false,Sem.run_pure,yl]
  ·cases hu;refine⟨rfl,rfl,zz hS hd (mv:= .bool (decide (l1=l2))) ?_ (.bool _)⟩;rw[hex];simp[Op.stringOp,ba_toList];by_cases e:l1=l2<;>simp[e]
  ·cases hu;refine⟨rfl,rfl,zz hS hd (mv:= .bool (!decide (l1=l2))) ?_ (.bool _)⟩;rw[hex];simp[Op.stringOp,ba_toList];by_cases e:l1=l2<;>simp[e]
  ·cases hu
 ·rename_i p q hv1 hv2;have e1:=zIc hS hx hv1;have e2:=zIc hS hy hv2;split at hu
  case isFalse=>cases hu
  rename_i htk;subst htk;have hbt:op'= .eql\/op'= .neq->P.underlying t=some .bool:=by
   intro hop;unfold okTk at hT;rcases hop with rfl|rfl
   all_goals
    simp only at hT;split at hT<;>first|assumption|simp at hT
  split at hu
  ·cases hu;refine⟨rfl,rfl,zz hS hd (mv:= .bool (p==q)) ?_ (.bool _)⟩;simp[execOp,ho,e1,e2,eqGuard,binOp,run_equal_bool w t p q (hbt (.inl rfl))]
  ·cases hu;refine⟨rfl,rfl,zz hS hd (mv:= .bool (!(p==q))) ?_ (.bool _)⟩;simp[execOp,ho,e1,e2,eqGuard,binOp,run_equal_bool w t p q (hbt (.inr rfl))]
  ·cases hu
 ·rename_i hv1 hv2;split at hu
  case isFalse=>cases hu
  rename_i htk;subst htk;have e1:a.eval x'= .pointer none:=by
   have:=zba hS hx hv1 (by simp) (by simp);generalize a.eval x'=m at this;cases this;rfl
  have e2:a.eval y'= .pointer none:=by
   have:=zba hS hy hv2 (by simp) (by simp);generalize a.eval y'=m at this;cases this;rfl
  split at hu
  ·cases hu;exact⟨rfl,rfl,zz hS hd (bin_ptr ho e1 e2 (.inl rfl) hT) (.bool _)⟩
  ·cases hu;exact⟨rfl,rfl,zz hS hd (bin_ptr ho e1 e2 (.inr rfl) hT) (.bool _)⟩
  ·cases hu
 ·rename_i cs off hv1 hv2;split at hu
  case isFalse=>cases hu
  rename_i htk;subst htk;obtain⟨bk,o,e1,_⟩:=iptr_cells (zba hS hx hv1 (by simp) (by simp));have e2:a.eval y'= .pointer none:=by
   have:=zba hS hy hv2 (by simp) (by simp);generalize a.eval y'=m at this;cases this;rfl
  split at hu
  ·cases hu;exact⟨rfl,rfl,zz hS hd (bin_ptr ho e1 e2 (.inl rfl) hT) (.bool _)⟩
  ·cases hu;exact⟨rfl,rfl,zz hS hd (bin_ptr ho e1 e2 (.inr rfl) hT) (.bool _)⟩
  ·cases hu
 ·rename_i l i off hv1 hv2;split at hu
  case isFalse=>cases hu
  rename_i htk;subst htk;obtain⟨ad,e1⟩:∃ad,a.eval x'= .pointer (some ad):=by
   have:=zba hS hx hv1 (by simp) (by simp);generalize a.eval x'=m at this;cases this;exact⟨_,rfl⟩
  have e2:a.eval y'= .pointer none:=by
   have:=zba hS hy hv2 (by simp) (by simp);generalize a.eval y'=m at this;cases this;rfl
  split at hu
  ·cases hu;exact⟨rfl,rfl,zz hS hd (bin_ptr ho e1 e2 (.inl rfl) hT) (.bool _)⟩
  ·cases hu;exact⟨rfl,rfl,zz hS hd (bin_ptr ho e1 e2 (.inr rfl) hT) (.bool _)⟩
  ·cases hu
 ·rename_i cs ds hv1 hv2;split at hu
  case isFalse=>cases hu
  rename_i htk;subst htk;have r1:=zba hS hx hv1 (by simp) (by simp);have r2:=zba hS hy hv2 (by simp) (by simp);generalize e1:a.eval x'=m1 at r1;generalize e2:a.eval y'=m2 at r2;cases r1 with
  |agg hl ho1 hvs=>
  cases r2 with
  |agg hl' ho2 hvs'=>
  rename_i us us';have cx:∀(j:Nat) c,cs[j]? =some c->∃x,us[0+j]? =some x/\VR (G.im w) (zi G.lc s.st) c x:=fun j c hj=>by
   have hj':j<us.size:=by rw[hl];exact(yc.1 hj).1
   exact⟨us[j],by simp[hj'],hvs j c _ hj (by simp[hj'])⟩
  have cy:∀(j:Nat) c,ds[j]? =some c->∃x,us'[0+j]? =some x/\VR (G.im w) (zi G.lc s.st) c x:=fun j c hj=>by
   have hj':j<us'.size:=by rw[hl'];exact(yc.1 hj).1
   exact⟨us'[j],by simp[hj'],hvs' j c _ hj (by simp[hj'])⟩
  have hgd:(op'= .eql\/op'= .neq)->(eqGuard op' t x' y' (.agg us) (.agg us')).run P w= .ok () w:=by
   intro hop;have hf:=okTk_flat hT hop;unfold flatT at hf;simp only[ya]at hf;have hg:P.eqGuardType P.depth t=false:=by simpa using hf.1
   rcases hop with rfl|rfl<;>simp[eqGuard,hg]
  split at hu
  ·simp only[yb]at hu;obtain⟨r,hr,rfl⟩:=hu;refine⟨rfl,rfl,zz hS hd (mv:= .bool r) ?_ (.bool _)⟩;have:(Op.equalIn 10000 t (.agg us) (.agg us')).run P w= .ok r w:=agg_core 9999 9998 rfl (okTk_flat hT (.inl rfl)) hr cx cy;simp only[execOp,ho,e1,e2,Sem.run_bind,hgd (.inl rfl),yl,run_eql_struct];rw[this];simp
  ·simp only[yb]at hu;obtain⟨r,hr,rfl⟩:=hu;refine⟨rfl,rfl,zz hS hd (mv:= .bool (!r)) ?_ (.bool _)⟩;have:(Op.equalIn 10000 t (.agg us) (.agg us')).run P w= .ok r w:=agg_core 9999 9998 rfl (okTk_flat hT (.inr rfl)) hr cx cy;simp only[execOp,ho,e1,e2,Sem.run_bind,hgd (.inr rfl),yl,run_neq_struct];rw[this];simp
  ·cases hu
 ·cases hu
end
section
variable {P:Program} {G:Gh} {N:Nat} {s:St} {a:Act} {w:World} {oper:Oper} {b b':Bx} {st':ze} {v:PV}
theorem zSd{t e:Nat}(he:sliceT P t=some e):P.underlying t=some (.slice e):=by
 unfold sliceT at he;split at he
 ·rename_i hh;cases he;exact hh
 ·cases he
theorem zXd(hS:Sim G N s a w){x:Option Operand}{g:Option Arg}(h:okOpt x g=true){d n:Nat}(hn:zXc s.fr g d=some n):
  (x=none/\g=none/\n=d)\/∃y k,x=some y/\a.eval y= .int k n:=by
 cases x with
 |none=>cases g with
  |none=>simp only[zXc,Option.some.injEq]at hn;exact .inl ⟨rfl,rfl,hn.symm⟩
  |some g=>simp[okOpt]at h
 |some y=>cases g with
  |none=>simp[okOpt]at h
  |some g=>
   simp only[zXc]at hn;obtain⟨k,hk⟩:=zhc hn;exact .inr ⟨y,k,rfl,zrb hS h hk⟩
theorem zya{x:Value}{k:IntKind}{n y:Nat}(hx:x= .int k n)(hle:n<=y)(c:BoundsCode)(w:World):(Instr.sliceBound x y c).run P w= .ok n w:=by
 subst hx;simp[Instr.sliceBound,asIntOf,Int.ofNat_le.2 hle,Nat.not_lt.2 hle,hle]
theorem zUc(hS:Sim G N s a w){lo hi:Option Operand}{lo' hi':Option Arg}(hlo:okOpt lo lo'=true)(hhi:okOpt hi hi'=true){len cap l h:Nat}
  (el:zXc s.fr lo' 0=some l) (eh:zXc s.fr hi' len=some h) (h1:l<=h) (h2:h<=cap) (isS:Bool):
  (Instr.sliceBounds isS len cap (lo.map a.eval) (hi.map a.eval) none).run P w= .ok (l,h,cap) w:=by
 rcases zXd hS hlo el with⟨rfl,rfl,rfl⟩|⟨y,k,rfl,e⟩<;>rcases zXd hS hhi eh with⟨rfl,rfl,rfl⟩|⟨z,k',rfl,e'⟩
 ·simp[Instr.sliceBounds]
 ·simp[Instr.sliceBounds,zya e' h2]
 ·simp[Instr.sliceBounds,zya e h1]
 ·simp[Instr.sliceBounds,zya e' h2,zya e h1]
theorem run_sliceBounds3(hS:Sim G N s a w){lo hi:Option Operand}{lo' hi':Option Arg}(hlo:okOpt lo lo'=true)(hhi:okOpt hi hi'=true){len cap l h:Nat}
  (el:zXc s.fr lo' 0=some l) (eh:zXc s.fr hi' len=some h) (h1:l<=h) (h2:h<=cap) {mx:Value} {k0:IntKind} (em:mx= .int k0 h) (hsome:hi≠none):
  (Instr.sliceBounds true len cap (lo.map a.eval) (hi.map a.eval) (some mx)).run P w= .ok (l,h,h) w:=by
 rcases zXd hS hlo el with⟨rfl,rfl,rfl⟩|⟨y,k,rfl,e⟩<;>rcases zXd hS hhi eh with⟨rfl,rfl,rfl⟩|⟨z,k',rfl,e'⟩
 ·exact absurd rfl hsome
 ·simp[Instr.sliceBounds,zya em h2,zya e' (yh h)]
 ·exact absurd rfl hsome
 ·simp[Instr.sliceBounds,zya em h2,zya e' (yh h),zya e h1]
theorem VR.slice_part{I:Im}{L:Loc}{sz lo hi:Nat}{l:List PV}{b o cap:Nat}(k':SK)(hk':k'≠ .own){k:SK}(h:VR I L (.slice k sz l) (.slice (some ⟨b,o,none⟩) l.length cap))(h1:lo<=hi)(h2:hi<=l.length)
  {m:Nat} (hm:hi<=m) (hf:k'.full=true->m=hi) (hl:l≠ []):
  VR I L (.slice k' sz ((l.take hi).drop lo)) (.slice (if m=lo then some ⟨b,o,none⟩else(some (⟨b,o,none⟩:Addr)).map (·.add (lo*sz))) (hi-lo) (m-lo)):=by
 have hlen:((l.take hi).drop lo).length=hi-lo:=by simp;omega
 by_cases he:(l.take hi).drop lo=[]
 ·rw[he];have:hi-lo=0:=by rw[<-hlen,he];rfl
  rw[this];exact .slice0 _ _ _ _ hk' (fun e=>by have:=hf e;omega)
 ·have hne:m≠lo:=by
   intro e;apply he;apply yy;omega
  rw[if_neg hne];simp only[yZ,zob];rw[<-hlen];cases h with
  |slice0=>exact absurd rfl hl
  |slice hk hf' hc f hz hi' hv=>
   have hget:∀(i:Nat) e,((l.take hi).drop lo)[i]? =some e->l[lo+i]? =some e:=by
    intro i e hie;rw[yN,yH]at hie;split at hie
    ·exact hie
    ·cases hie
   refine .slice hk' (fun e=>by have:=hf e;omega) (by omega) (fun i j=>f (lo+i) j) (fun i e hie=>hz _ e (hget i e hie)) (fun i e j c hie hj=>?_) (fun i e j c hie hj=>hv _ e j c (hget i e hie) hj);have:=hi' _ e j c (hget i e hie) hj;rwa[show o+(lo+i)*sz+j=o+lo*sz+i*sz+j from by rw[yE];omega]at this
theorem op_slc{isS:Bool}{z:Nat}{x:Arg}{lo hi mx:Option Arg}(hS:Sim G N s a w)(hd:∀t,oper.dst=some t->t<N)(hc:zj P oper.op (.slc isS z x lo hi mx)=true)(h:(IOp.slc isS z x lo hi mx).sem s.fr b s.st=some (v,b',st')):zzb P oper N G s a w b b' v st':=by
 simp only[zj]at hc;split at hc
 case h_2=>cases hc
 rename_i t y lo' hi' mx' ho;simp only[ya,decide_eq_true_eq]at hc;obtain⟨⟨⟨⟨⟨⟨hT,hz⟩,hy⟩,hlo⟩,hhi⟩,hmx⟩,hmh⟩:=hc;simp only[IOp.sem]at h;split at h
 case h_2=>cases h
 rename_i l hh m el eh em;simp only[yb,Prod.mk.injEq]at h;obtain⟨u,hu,rfl,rfl,rfl⟩:=h;have hnotarr:∀(X:Value) (A B C:Option Value),(Instr.sliceAt t X A B C).run P w=(Instr.slice t X A B C).run P w:=by
  intro X A B C;unfold okSlcT at hT;unfold Instr.sliceAt;split at hT
  ·rename_i hh';simp only[Sem.run_bind,run_underlying hh',yl]
  ·rename_i hh';simp only[Sem.run_bind,run_underlying hh',yl]
  ·cases hT
 have hslT:isS=false->∃e,P.underlying t=some (.slice e)/\szT P e z=true:=by
  rintro rfl
  simp only[yI]at hz;split at hz
  ·rename_i e he;exact⟨e,zSd he,hz⟩
  ·cases hz
 unfold slcSem at hu;split at hu
 ·rename_i sl hv;split at hu
  case isFalse=>cases hu
  rename_i hle;obtain⟨h1,h2,rfl⟩:=hle;cases hu;have hst:P.underlying t=some .string:=by
   unfold okSlcT at hT;split at hT<;>simp at hT
   assumption
  have hmx':mx'=none:=by
   cases mx with
   |some _=>
    simp only at em;cases hq:asNat (Arg.val s.fr ‹Arg›)<;>simp[hq]at em
   |none=>cases mx' with
    |none=>rfl
    |some _=>simp[okOpt]at hmx
  subst hmx';rw[hv]at eh;refine⟨rfl,rfl,zz hS hd (mv:= .string ⟨((sl.take hh).drop l).toArray⟩) ?_ (.str _)⟩;have hb:=zUc (P:=P) hS hlo hhi (len:=(⟨sl.toArray⟩:ByteArray).size) (cap:=(⟨sl.toArray⟩:ByteArray).size) el (by rw[zie];exact eh) h1 (by rw[zie];exact h2) false;have hx:((⟨sl.toArray⟩:ByteArray).extract l hh)=⟨((sl.take hh).drop l).toArray⟩:=by
   apply ByteArray.ext;simp[ByteArray.data_extract,List.extract_eq_take_drop,List.drop_take]
  simp only[execOp,ho,arg_str hS hy hv,Sem.run_bind,hnotarr];simp only[Instr.slice,Sem.run_bind,run_underlying hst,yl,Option.map_none,Option.isSome_none,yi,if_false,Sem.run_pure,hb,hx]
 ·rename_i k sz sl hv;obtain⟨e,hst,hsz⟩:=hslT rfl;obtain⟨κ,hk⟩:=arg_tr hS hy;rw[hv]at hk;have hpl:∃ad cap,a.eval y= .slice ad sl.length cap/\sl.length<=cap/\(sl≠ []->∃bk o k',ad=some ⟨bk,o,none⟩/\VR (G.im w) (zi G.lc s.st) (.slice k' sz sl) (.slice (some ⟨bk,o,none⟩) sl.length cap)):=by
   have hp:VR (G.im w) (zi G.lc s.st) (.slice (if k= .own then .plain else k) sz sl) (a.eval y):=by
    cases k with
    |own=>simpa using hk.choose_spec.choose_spec.choose_spec.choose_spec.2.2.2.2.2.2.2.2
    |plain=>exact hk
    |fit=>exact hk
    |firm=>exact hk
   generalize a.eval y=mm at hp;cases hp with
   |slice0=>exact⟨_,_,rfl,by simp,fun hh=>absurd rfl hh⟩
   |slice hk' hf hc f hz' hi'' hv'=>exact⟨_,_,rfl,hc,fun _=>⟨_,_,_,rfl,.slice hk' hf hc f hz' hi'' hv'⟩⟩
  obtain⟨ad,cap,e1,hcap,hne⟩:=hpl;rw[hv]at eh;split at hu
  ·split at hu
   case isFalse=>cases hu
   rename_i hle;obtain⟨h1,h2,rfl⟩:=hle;cases hu;have hmx':mx'=none:=by
    cases mx with
    |some _=>
     simp only at em;cases hq:asNat (Arg.val s.fr ‹Arg›)<;>simp[hq]at em
    |none=>cases mx' with
     |none=>rfl
     |some _=>simp[okOpt]at hmx
   subst hmx';have hb:=zUc (P:=P) hS hlo hhi (len:=sl.length) (cap:=cap) el eh h1 (by omega) true;refine⟨rfl,rfl,zz hS hd (mv:= .slice (if cap=l then ad else ad.map (·.add (l*z))) (hh-l) (cap-l)) ?_ ?_⟩
   ·simp only[execOp,ho,e1,Sem.run_bind,hnotarr];simp only[Instr.slice,Sem.run_bind,run_underlying hst,yl,Option.map_none,Sem.run_pure,hb,zia hsz]
   ·by_cases hnil:sl=[]
    ·subst hnil;have:hh-l=0:=by simp at h2;omega
     rw[this];simp only[List.take_nil,List.drop_nil];exact .slice0 _ _ _ _ (by simp) (by simp)
    ·obtain⟨bk,o,k',rfl,hvr⟩:=hne hnil;exact VR.slice_part .plain (by simp) hvr h1 h2 (by omega) (by simp) hnil
  ·rename_i m0;split at hu
   case isFalse=>cases hu
   rename_i hle;obtain⟨h1,rfl,h2,rfl⟩:=hle;cases hu;cases mx with
   |none=>simp at em
   |some g=>
    simp only[yb,Option.some.injEq]at em;obtain⟨q,hq,rfl⟩:=em;cases mx' with
    |none=>simp[okOpt]at hmx
    |some y3=>
     obtain⟨k3,hk3⟩:=zhc hq;have e3:=zrb hS hmx hk3;have hhs:hi'≠none:=by
      rintro rfl
      simp at hmh
     have hb:=run_sliceBounds3 (P:=P) hS hlo hhi (len:=sl.length) (cap:=cap) el eh h1 (by omega) e3 hhs;refine⟨rfl,rfl,zz hS hd (mv:= .slice (if q=l then ad else ad.map (·.add (l*z))) (q-l) (q-l)) ?_ ?_⟩
     ·simp only[execOp,ho,e1,Sem.run_bind,hnotarr];simp only[Instr.slice,Sem.run_bind,run_underlying hst,yl,yZ,Sem.run_pure,hb,zia hsz]
     ·by_cases hnil:sl=[]
      ·subst hnil;have:q-l=0:=by simp at h2;omega
       rw[this];simp only[List.take_nil,List.drop_nil];exact .slice0 _ _ _ _ (by simp) (by simp)
      ·obtain⟨bk,o,k',rfl,hvr⟩:=hne hnil;exact VR.slice_part .fit (by simp) hvr h1 h2 (yh _) (fun _=>rfl) hnil
 ·rename_i l0 off n sz hv;split at hu
  case isFalse=>cases hu
  rename_i hle;obtain⟨h1,h2,h3,rfl,rfl⟩:=hle;cases hu;obtain⟨e,hst,hsz⟩:=hslT rfl;have hr:=zba hS hy hv (by simp) (by simp);have hmx':mx'=none:=by
   cases mx with
   |some _=>
    simp only at em;cases hq:asNat (Arg.val s.fr ‹Arg›)<;>simp[hq]at em
   |none=>cases mx' with
    |none=>rfl
    |some _=>simp[okOpt]at hmx
  subst hmx';rw[hv]at eh;generalize hm:a.eval y=mm at hr;cases hr with
  |mslice0=>omega
  |mslice hL hcp hrm=>
   rename_i bk cap rm;have hb:=zUc (P:=P) hS hlo hhi (len:=n) (cap:=cap) el eh h1 (by omega) true;refine⟨rfl,rfl,zz hS hd (mv:= .slice (some ⟨bk,(off+l)*z,none⟩) (hh-l) (cap-l)) ?_ (.mslice hL (by omega) (by rw[show off+l+(cap-l)=off+cap from by omega];exact hrm))⟩;have hne:¬(cap=l):=by omega
   simp only[execOp,ho,hm,Sem.run_bind,hnotarr];simp only[Instr.slice,Sem.run_bind,run_underlying hst,yl,Option.map_none,Sem.run_pure,hb,zia hsz,if_neg hne,yZ,zob];rw[yE]
 ·cases hu
theorem run_checkKey{kt:Nat}{ks:Bool}(hk:(ks=false/\∃k,P.underlying kt=some (.int k))\/(ks=true/\P.underlying kt=some .string))(e:Bool)(d:Nat)(v:Value)(w:World):
  (Instr.checkKey e (d+1) kt v).run P w= .ok () w:=by
 rcases hk with⟨_,k,hk⟩|⟨_,hk⟩
 ·simp[Instr.checkKey,run_underlying hk]
 ·simp[Instr.checkKey,run_underlying hk]
theorem keyEq_now{I:Im}{L:Loc}{ks:Bool}{dsc:TypeDesc}(hk:(ks=false/\∃k,dsc= .int k)\/(ks=true/\dsc= .string)){p q:PV}{x y:Value}(hp:VR I L p x)(hq:VR I L q y){r:Bool}
  (h:keyEq ks p q=some r):Instr.sameNow dsc x y=some r:=by
 unfold keyEq at h;split at h
 ·split at h<;>cases h
  rename_i hc;obtain⟨rfl,rfl⟩:=hc;rw[hp.int_inv,hq.int_inv];rcases hk with⟨_,k,rfl⟩|⟨hh,_⟩
  ·simp[Instr.sameNow,BEq.beq]
  ·cases hh
 ·split at h<;>cases h
  rename_i hc;subst hc;rw[hp.str_inv,hq.str_inv];rcases hk with⟨hh,_⟩|⟨_,rfl⟩
  ·cases hh
  ·rename_i l1 l2 _;simp only[Instr.sameNow,beq_toListBytes,ba_toList];by_cases e:l1=l2<;>simp[e]
 ·cases h
theorem mapFind_now{I:Im}{L:Loc}{ks:Bool}{dsc:TypeDesc}(hk:(ks=false/\∃k,dsc= .int k)\/(ks=true/\dsc= .string)){p:PV}{x:Value}(hp:VR I L p x):
  ∀(es:List (PV×PV)) (ents:List MapEntry) (i:Nat) (r:Option PV),ents.length=es.length→
   (∀(j:Nat) k v,es[j]? =some (k,v)->∃en,ents[j]? =some en/\VR I L k en.key/\VR I L v en.val)->zqb ks p es=some r→
   match r with
   |some v=>∃j mv k',Instr.findNow dsc x ents i=some (some (i+j,mv))/\VR I L v mv/\es[j]? =some (k',v)/\keyEq ks p k'=some true
   |none=>Instr.findNow dsc x ents i=some none
 | [],[],i,r,_,_,h=>by simp[zqb]at h;subst h;simp[Instr.findNow]
 | [],_::_,i,r,hl,_,h=>by simp at hl
 |_::_,[],i,r,hl,_,h=>by simp at hl
 |(k,v)::es,en::ents,i,r,hl,hr,h=>by
  obtain⟨en',e1,e2,e3⟩:=hr 0 k v (by simp);simp at e1;subst e1;simp only[zqb]at h;split at h
  ·rename_i hke;cases h;refine⟨0,en.val,k,?_,e3,by simp,hke⟩;simp[Instr.findNow,keyEq_now hk hp e2 hke]
  ·rename_i hke;have ih:=mapFind_now hk hp es ents (i+1) r (by simpa using hl) (fun j k' v' hj=>by
    obtain⟨en',a1,a2⟩:=hr (j+1) k' v' (by simpa using hj);exact⟨en',by simpa using a1,a2⟩) h
   cases r with
   |none=>simp only at ih ⊢;simp[Instr.findNow,keyEq_now hk hp e2 hke,ih]
   |some v0=>
    obtain⟨j,mv,k',f1,f2,f3,f4⟩:=ih;refine⟨j+1,mv,k',?_,f2,by simpa using f3,f4⟩;simp only[Instr.findNow,keyEq_now hk hp e2 hke];rw[f1,show i+1+j=i+(j+1)from by omega]
  ·cases h
theorem mapT_info{t e:Nat}{ks:Bool}(h:mapT P t=some (ks,e)):∃kt,P.underlying t=some (.map kt e)/\((ks=false/\∃k,P.underlying kt=some (.int k))\/(ks=true/\P.underlying kt=some .string)):=by
 unfold mapT at h;split at h
 ·rename_i kt e' hh;split at h
  ·rename_i k hk;cases h;exact⟨kt,hh,.inl ⟨rfl,k,hk⟩⟩
  ·rename_i hk;cases h;exact⟨kt,hh,.inr ⟨rfl,hk⟩⟩
  ·cases h
 ·cases h
theorem zvd{t:Nat}{z:PV}(h:zeroT P t z=true):∃i v,P.info? t=some i/\i.zero=some v/\zZb z v=true/\(cellsOf z).length=i.size/\zG z=true/\(cellsOf z).all zlc=true:=by
 unfold zeroT at h;split at h
 ·rename_i i hi;split at h
  ·rename_i v hv;simp only[ya,decide_eq_true_eq]at h;exact⟨i,v,hi,hv,h.1.1.1,h.1.1.2,h.1.2,h.2⟩
  ·cases h
 ·cases h
theorem zTd{t:Nat}{z:PV}(h:zeroT P t z=true)(I:Im)(L:Loc)(w:World):∃v,(zeroValue t).run P w= .ok v w/\VR I L z v:=by
 obtain⟨i,v,h1,h2,h3,_⟩:=zvd h;exact⟨v,by simp[zeroValue,typeInfo,h1,h2],zpd z v h3⟩
theorem run_findKey{I:Im}{L:Loc}{kt:Nat}{ks:Bool}(hk:(ks=false/\∃k,P.underlying kt=some (.int k))\/(ks=true/\P.underlying kt=some .string)){p:PV}{x:Value}(hp:VR I L p x)
  {es:List (PV×PV)} {ents:List MapEntry} (hl:ents.length=es.length)
  (hr:∀(j:Nat) k v,es[j]? =some (k,v)->∃en,ents[j]? =some en/\VR I L k en.key/\VR I L v en.val) {r:Option PV} (h:zqb ks p es=some r) (w:World):
  match r with
  |some v=>∃j mv k',(Instr.findKey kt x ents).run P w= .ok (some (j,mv)) w/\VR I L v mv/\es[j]? =some (k',v)/\keyEq ks p k'=some true
  |none=>(Instr.findKey kt x ents).run P w= .ok none w:=by
 have hk':∀dsc,P.underlying kt=some dsc->((ks=false/\∃k,dsc= .int k)\/(ks=true/\dsc= .string)):=by
  intro dsc hd;rcases hk with⟨a,k,e⟩|⟨a,e⟩
  ·rw[e]at hd;cases hd;exact .inl ⟨a,k,rfl⟩
  ·rw[e]at hd;cases hd;exact .inr ⟨a,rfl⟩
 obtain⟨dsc,hd⟩:∃dsc,P.underlying kt=some dsc:=by
  rcases hk with⟨_,k,e⟩|⟨_,e⟩<;>exact⟨_,e⟩
 have:=mapFind_now (hk' dsc hd) hp es ents 0 r hl hr h;cases r with
 |none=>
  simp only at this ⊢;simp[Instr.findKey,run_underlying hd,this]
 |some v=>
  obtain⟨j,mv,k',a1,a2,a3,a4⟩:=this;refine⟨j,mv,k',?_,a2,a3,a4⟩;simp[Instr.findKey,run_underlying hd,a1]
theorem op_lookup{ks ok:Bool}{zero:PV}{m k:Arg}(hS:Sim G N s a w)(hd:∀t,oper.dst=some t->t<N)(hc:zj P oper.op (.lookup ks ok zero m k)=true)(h:(IOp.lookup ks ok zero m k).sem s.fr b s.st=some (v,b',st')):zzb P oper N G s a w b b' v st':=by
 simp only[zj]at hc;split at hc
 case h_2=>cases hc
 rename_i t m' k' ok' ho;simp only[ya]at hc;obtain⟨⟨⟨hT,hok⟩,hm⟩,hk⟩:=hc;have hok':ok=ok':=by cases ok<;>cases ok'<;>simp_all
 subst hok';split at hT
 case h_2=>cases hT
 rename_i ks' e hmt;simp only[ya]at hT;have hks:ks=ks':=by simpa using hT.1
 subst hks;obtain⟨kt,hu,hkt⟩:=mapT_info hmt;obtain⟨zv,hz1,hz2⟩:=zTd hT.2 (G.im w) (zi G.lc s.st) w;have tupv:∀{p:PV} {mv:Value} (c:Bool),VR (G.im w) (zi G.lc s.st) p mv->VR (G.im w) (zi G.lc s.st) (if ok then .tup [p,.bool c]else p) (if ok then .tuple #[mv,.bool c]else mv):=by
  intro p mv c hp;cases ok
  ·exact hp
  ·refine .tup (by simp) ?_;intro j c' v' h1 h2
   match j with
   |0=>simp at h1 h2;subst h1;subst h2;exact hp
   |1=>simp at h1 h2;subst h1;subst h2;exact .bool _
   |j+2=>simp at h1
 simp only[IOp.sem]at h;split at h
 case isFalse=>cases h
 rename_i hko;have hkey:VR (G.im w) (zi G.lc s.st) (k.val s.fr) (a.eval k'):=by
  refine zba hS hk rfl ?_ ?_
  ·intro sz l e;rw[e]at hko;cases hko
  ·intro q off e;rw[e]at hko;cases hko
 split at h
 ·rename_i hv;have e1:a.eval m'= .map none:=by
   have:=zba hS hm hv (by simp) (by simp);generalize a.eval m'=mm at this;cases this;rfl
  have hv':v=(if ok then .tup [zero,.bool false]else zero)/\b'=b/\st'=s.st:=by
   cases ok<;>simp at h<;>obtain⟨rfl,rfl,rfl⟩:=h<;>exact⟨rfl,rfl,rfl⟩
  obtain⟨rfl,rfl,rfl⟩:=hv';refine⟨rfl,rfl,zz hS hd (mv:=if ok then .tuple #[zv,.bool false]else zv) ?_ (tupv false hz2)⟩;have hck:=run_checkKey (P:=P) hkt true 9999 (a.eval k') w;have hfk:(Instr.findKey kt (a.eval k') []).run P w= .ok none w:=by
   rcases hkt with⟨_,kk,e⟩|⟨_,e⟩<;>simp[Instr.findKey,run_underlying e,Instr.findNow]
  simp only[execOp,ho,e1];simp only[Instr.lookup,Sem.run_bind,run_underlying hu,yl,Sem.run_pure,Array.isEmpty_empty,hck,hfk,hz1]
 ·rename_i r hv;have hr:=zba hS hm hv (by simp) (by simp);split at h
  case h_2=>cases h
  rename_i es hst;obtain⟨c1,c2,ents,clock,c3,c4,c5⟩:=hS.store.obj r _ hst;have e1:a.eval m'= .map (some (G.loc r)):=by
   generalize a.eval m'=mm at hr;cases hr with
   |mp hh=>simp[zi,Gh.lc,hst]at hh;rw[hh.1]
  simp only[yb]at h;obtain⟨rr,hrr,h⟩:=h;have hck:=fun e'=>run_checkKey (P:=P) hkt e' 9999 (a.eval k') w
  by_cases hes:es=[]
  ·subst hes;have hents:ents= #[]:=by
    apply ypa;simpa using c4
   subst hents;simp[zqb]at hrr;subst hrr;simp only[Prod.mk.injEq]at h;obtain⟨rfl,rfl,rfl⟩:=h;refine⟨rfl,rfl,zz hS hd (mv:=if ok then .tuple #[zv,.bool false]else zv) ?_ (tupv false hz2)⟩;have hfk:(Instr.findKey kt (a.eval k') []).run P w= .ok none w:=by
    rcases hkt with⟨_,kk,e⟩|⟨_,e⟩<;>simp[Instr.findKey,run_underlying e,Instr.findNow]
   simp only[execOp,ho,e1];simp only[Instr.lookup,Sem.run_bind,run_underlying hu,yl,Sem.run_pure,getObj,Sem.run,c3,hck,hfk,hz1]
  ·have hf:=run_findKey hkt hkey (es:=es) (ents:=ents.toList) (by simpa using c4) (fun j k0 v0 hj=>by
    obtain⟨en,m1,m2⟩:=c5 j k0 v0 hj;exact⟨en,by simpa using m1,m2⟩) hrr w
   cases rr with
   |none=>
    simp only at hf h;simp only[Prod.mk.injEq]at h;obtain⟨rfl,rfl,rfl⟩:=h;refine⟨rfl,rfl,zz hS hd (mv:=if ok then .tuple #[zv,.bool false]else zv) ?_ (tupv false hz2)⟩;simp only[execOp,ho,e1];simp only[Instr.lookup,Sem.run_bind,run_underlying hu,yl,Sem.run_pure,getObj,Sem.run,c3,hck,hf,hz1]
   |some v0=>
    obtain⟨j,mv,k0,f1,f2,f3,f4⟩:=hf;simp only at h;simp only[Prod.mk.injEq]at h;obtain⟨rfl,rfl,rfl⟩:=h;refine⟨rfl,rfl,zz hS hd (mv:=if ok then .tuple #[mv,.bool true]else mv) ?_ (tupv true f2)⟩;simp only[execOp,ho,e1];simp only[Instr.lookup,Sem.run_bind,run_underlying hu,yl,Sem.run_pure,getObj,Sem.run,c3,hck,f1]
 ·cases h
end
section
variable {P:Program} {G G':Gh} {N:Nat} {s:St} {a:Act} {w w':World} {oper:Oper} {b b':Bx} {st':ze} {v:PV}
theorem pair_upd{f g:Nat->Nat}{n x y l:Nat}(h:l≠n):(upd f n x l,upd g n y l)=(f l,g l):=by rw[zEa _ _ h,zEa _ _ h]
theorem locOf_congr{f g:Nat->Nat×Nat}{st:ze}(h:∀l o,st[l]? =some o->g l=f l):zi g st=zi f st:=by
 funext l;unfold zi;cases e:st[l]? with
 |none=>rfl
 |some o=>simp[h l o e]
theorem fresh_ne(hS:SimS G s.st w){bk:Nat}{κ:Cl}(h:G.cl bk=some κ):bk<w.heap.size:=by
 rcases yA bk w.heap.size with h1|h1
 ·exact h1
 ·rw[(hS.fresh bk h1).2]at h;cases h
theorem heap_alloc_old'(w:World)(o:Go.Obj){i:Nat}(h:i<w.heap.size):(w.alloc o).heap[i]? =w.heap[i]? :=heap_alloc_old w o i h
theorem im_alloc(hS:SimS G s.st w)(o:Go.Obj)(hfz:∀b,b≠w.heap.size->G'.fz b=G.fz b):(G.im w).le (G'.im (w.alloc o)):=by
 intro bk of x hx;unfold Gh.im at hx ⊢;split at hx
 ·rename_i hlt;have hne:bk≠w.heap.size:=by
   rintro rfl
   rw[(hS.fresh _ (yh _)).1]at hlt;omega
  rw[hfz bk hne,if_pos hlt];rw[World.cell?_alloc_old]
  ·exact hx
  ·exact hne
 ·cases hx
theorem keeps_alloc(hS:SimS G s.st w)(o:Go.Obj)(hfz:∀b,b≠w.heap.size->G'.fz b=G.fz b)(hcl:∀b,b≠w.heap.size->G'.cl b=G.cl b)(κ:Cl):zic G w G' (w.alloc o) κ:=by
 intro bk hb;have h1:=fresh_ne hS hb;have hne:bk≠w.heap.size:=by omega
 exact⟨by rw[hcl bk hne];exact hb,hfz bk hne,heap_alloc_old' w o h1⟩
theorem Sim.alloc(hS:Sim G N s a w)(o:Go.Obj)(hcalm:Calm o)(hfz:∀b,b≠w.heap.size->G'.fz b=G.fz b)(hcl:∀b,b≠w.heap.size->G'.cl b=G.cl b)
  (hloc:∀l o,s.st[l]? =some o->G'.lc l=G.lc l) (hbox:∀k,s.bx k≠ .no->G'.box k=G.box k) (hdfr:G'.dfr=G.dfr:=by rfl):Sim G' N s a (w.alloc o)/\Ext G s.st w G' s.st (w.alloc o):=by
 have hI:=im_alloc hS.store o hfz;have hK:=keeps_alloc hS.store o hfz hcl;have hL:zi G'.lc s.st=zi G.lc s.st:=locOf_congr hloc;refine⟨⟨by rw[hdfr];exact hS.defers,hS.size,?_,hS.hi,hS.lp,?_,?_,?_⟩,?_⟩
 ·intro t ht;rw[hL];exact(hS.tmp t ht).mono hI (Loc.le_refl _) (hK _) (fun k off e=>hbox k (hS.lp t k off e))
 ·intro k;rw[hL];by_cases hk:s.bx k= .no
  ·rw[hk];trivial
  ·exact(hS.box k).mono hI (Loc.le_refl _) (hbox k hk) (hK _) (fun j=>hK _)
 ·intro l ob hl;rw[hL];exact(hS.store.obj l ob hl).mono hI (Loc.le_refl _) (hloc l ob hl) (hK _) (fun i j=>hK _)
 ·intro bk hb;simp at hb;have hne:bk≠w.heap.size:=by omega
  rw[hfz bk hne,hcl bk hne];exact hS.store.fresh bk (by omega)
 ·refine⟨hI,by rw[hL];exact Loc.le_refl _,fun bk hb=>?_,by simp,rfl,rfl,fun x hx=>?_,hdfr⟩
  ·exact hK _ bk hb
  ·rw[World.frozen?_alloc_old w o x (by omega)]
theorem zkb(loc:Nat->Nat×Nat)(st:ze)(o:Obj):(zi loc st).le (zi loc (st++[o])):=by
 intro l x h;unfold zi at h ⊢;rw[yb]at h;obtain⟨ob,h1,h2⟩:=h;rw[yq (yc.1 h1).1,h1];simp[h2]
theorem Sim.push(hS:Sim G N s a w)(o:Obj)(ho:ObjR G w (zi G.lc (s.st++[o])) s.st.length o):Sim G N {s with st:=s.st++[o]} a w:=by
 have hL:=zkb G.lc s.st o;refine⟨hS.defers,hS.size,?_,hS.hi,hS.lp,?_,?_,hS.store.fresh⟩
 ·exact fun t ht=>(hS.tmp t ht).mono (Im.le_refl _) hL (zic.refl _ _ _) (fun _ _ _=>rfl)
 ·exact fun k=>(hS.box k).mono (Im.le_refl _) hL rfl (zic.refl _ _ _) (fun _=>zic.refl _ _ _)
 ·intro l ob hl;rcases yA l s.st.length with h1|h1
  ·simp only at hl;rw[yq h1]at hl;exact(hS.store.obj l ob hl).mono (Im.le_refl _) hL rfl (zic.refl _ _ _) (fun _ _=>zic.refl _ _ _)
  ·simp only at hl;have:l=s.st.length:=by
    have:=(yc.1 hl).1;simp at this;omega
   subst this;simp at hl;subst hl;exact ho
theorem Sim.setBox(hS:Sim G N s a w){k:Nat}{o:Bx}(ho:BxR G w (zi G.lc s.st) k o)(hne:o≠ .no):Sim G N {s with bx:=upd s.bx k o} a w:=by
 refine⟨hS.defers,hS.size,hS.tmp,hS.hi,?_,?_,hS.store⟩
 ·intro t k' off h;simp only[upd];split
  ·exact hne
  ·exact hS.lp t k' off h
 ·intro k';simp only[upd];split
  ·rename_i e;subst e;exact ho
  ·exact hS.box k'
theorem vr_cells{I:Im}{L:Loc}{p:PV}{mv:Value}(hv:zG p=true)(h:VR I L p mv):mv.cells.size=(cellsOf p).length/\(∀(j:Nat) x,mv.cells[j]? =some x->x.oneCell'=true)∧
  ∀(j:Nat) c x,(cellsOf p)[j]? =some c->mv.cells[j]? =some x->VR I L c x:=by
 have one:∀{p:PV} {mv:Value},VR I L p mv->mv.cells= #[mv]->mv.oneCell'=true->cellsOf p=[p]->mv.cells.size=(cellsOf p).length/\(∀(j:Nat) x,mv.cells[j]? =some x->x.oneCell'=true)∧
   ∀(j:Nat) c x,(cellsOf p)[j]? =some c->mv.cells[j]? =some x->VR I L c x:=by
  intro p mv h e1 e2 e3;rw[e1,e3];refine⟨rfl,?_,?_⟩
  ·intro j x hx
   match j with
   |0=>simp at hx;subst hx;exact e2
   |j+1=>simp at hx
  ·intro j c x hc hx
   match j with
   |0=>simp at hc hx;subst hc;subst hx;exact h
   |j+1=>simp at hx
 cases h with
 |undef=>simp[zG,zlc]at hv
 |tup=>simp[zG,zlc]at hv
 |agg hl ho hvs=>exact⟨hl,ho,hvs⟩
 |bool b=>exact one (.bool b) rfl rfl rfl
 |int k n=>exact one (.int k n) rfl rfl rfl
 |str s=>exact one (.str s) rfl rfl rfl
 |nilp=>exact one .nilp rfl rfl rfl
 |ptr h=>exact one (.ptr h) rfl rfl rfl
 |iptr f hi hv'=>exact one (.iptr f hi hv') rfl rfl rfl
 |slice0 k sz a cap hk hf=>exact one (.slice0 k sz a cap hk hf) rfl rfl rfl
 |slice hk hf hc f hz hi hv'=>exact one (.slice hk hf hc f hz hi hv') rfl rfl rfl
 |mslice h hc hr=>exact one (.mslice h hc hr) rfl rfl rfl
 |mslice0 a h=>exact one (.mslice0 a h) rfl rfl rfl
 |fn hl hv1 hl' hv2=>exact one (.fn hl hv1 hl' hv2) rfl rfl rfl
 |nilfn=>exact one .nilfn rfl rfl rfl
 |mp h=>exact one (.mp h) rfl rfl rfl
 |nilmap=>exact one .nilmap rfl rfl rfl
 |iface h=>exact one (.iface h) rfl rfl rfl
 |nilif=>exact one .nilif rfl rfl rfl
theorem ztb{v:PV}(h:zG (strip v)=true):∀k off,v≠ .lptr k off:=by
 rintro k off rfl
 simp[strip,zG,zlc]at h
theorem zac{v:PV}(h:zG (stripA v)=true):∀k off,v≠ .lptr k off:=by
 rw[isVar_stripA]at h;exact ztb h
theorem run_box{x:Arg}(hS:Sim G N s a w)(hc:(match oper.op with
  | .alloc e=>(match x with| .c z=>zeroT P e z|_=>false)
  | .box _ y=>zO y x
  |_=>false)=true) (hvar:zG (strip (x.val s.fr))=true):
  ∃mv e,(execOp a.eval oper).run P w= .ok (.value (.pointer (some ⟨w.heap.size,0,none⟩))) (w.alloc (.cells mv.cells e))/\VR (G.im w) (zi G.lc s.st) (strip (x.val s.fr)) mv:=by
 split at hc
 ·rename_i e ho;split at hc
  case h_2=>cases hc
  rename_i z;obtain⟨i,zv,h1,h2,h3,h4,h5,h6⟩:=zvd hc;refine⟨zv,e,?_,?_⟩
  ·simp[execOp,ho,Instr.alloc,zeroValue,typeInfo,h1,h2,newVar,newRow]
  ·simp only[Arg.val]at hvar ⊢;have:=zpd (I:=G.im w) (L:=zi G.lc s.st) z zv h3;have e:strip z=z:=by
    cases z with
    |slice k _ _=>cases k<;>first|rfl|exact(VR.not_own this).elim
    |_=>rfl
   rw[e];exact this
 ·rename_i e y ho;refine⟨a.eval y,e,?_,arg_vr hS hc (ztb hvar)⟩;simp[execOp,ho,Instr.box,newVar,newRow]
 ·cases hc
theorem zub{oper:Oper}(hd:∀t,oper.dst=some t->t<N){v:PV}{mv:Value}{s1:St}(hrun:(execOp a.eval oper).run P w= .ok (.value mv) w')(hS':Sim G' N s1 a w')(hE:Ext G s.st w G' s1.st w')
  (hv:∀κ,TR G' w' (zi G'.lc s1.st) κ v mv) (hlp:∀k off,v= .lptr k off->s1.bx k≠ .no):zYa P oper N G s a w v s1.fr s1.bx s1.st:=
 ⟨_,mv,w',G',hrun,.inl rfl,hS'.put hd (fun t _=>hv _) hlp,hE⟩
theorem im_new(G:Gh)(w:World)(cs:Array Value)(e:Nat){n j:Nat}{x:Value}(hn:j<n)(hx:cs[j]? =some x):({G with fz:=upd G.fz w.heap.size n}:Gh).im (w.alloc (.cells cs e)) w.heap.size j=some x:=by
 unfold Gh.im;simp only[upd,if_true];rw[if_pos hn];exact(World.cell?_alloc_new w cs e j).trans hx
theorem op_boxI{x:Arg}(hS:Sim G N s a w)(hd:∀t,oper.dst=some t->t<N)(hc:zj P oper.op (.boxI x)=true)(h:(IOp.boxI x).sem s.fr b s.st=some (v,b',st')):zzb P oper N G s a w b b' v st':=by
 simp only[zj]at hc;simp only[IOp.sem]at h;split at h
 case isFalse=>cases h
 rename_i hvar;cases h;obtain⟨mv,e,hrun,hr⟩:=run_box hS hc (by rw[<-isVar_stripA];exact hvar);replace hr:=hr.stripA;obtain⟨c1,c2,c3⟩:=vr_cells hvar hr;obtain⟨hS',hE⟩:=hS.alloc (.cells mv.cells e) (by first|rfl|trivial) (G':={G with fz:=upd G.fz w.heap.size mv.cells.size}) (fun b hb=>zEa _ _ hb) (fun _ _=>rfl) (fun _ _ _=>rfl) (fun _ _=>rfl);refine⟨rfl,rfl,zub hd hrun hS' hE (fun κ=>VR.tr ?_) (by simp)⟩;refine .iptr (o:=0) (fun j=>mv.cells.getD j Go.undef) ?_ ?_
 ·intro j c hj;have hlt:j<mv.cells.size:=by rw[c1];exact(yc.1 hj).1
  have e1:mv.cells[j]? =some mv.cells[j]:=by simp[hlt]
  simp only[yV];rw[im_new G w mv.cells e hlt e1];refine⟨by simp[hlt],?_⟩;have:=c2 j _ e1;simpa[hlt]using this
 ·intro j c hj;have hlt:j<mv.cells.size:=by rw[c1];exact(yc.1 hj).1
  have:=c3 j c mv.cells[j] hj (by simp[hlt]);simp only[yda,hlt,yD,yma];exact this.mono hE.im hE.loc
def Box3(P:Program)(oper:Oper)(N:Nat)(G:Gh)(s:St)(a:Act)(w:World)(k:Nat)(b':Bx)(v:PV)(st':ze):Prop:=
 zYa P oper N G s a w v s.fr (upd s.bx k b') st'
theorem op_boxL{k:Nat}{x:Arg}(hS:Sim G N s a w)(hd:∀t,oper.dst=some t->t<N)(hc:zj P oper.op (.boxL k x)=true)(h:(IOp.boxL k x).sem s.fr (s.bx k) s.st=some (v,b',st')):Box3 P oper N G s a w k b' v st':=by
 simp only[zj]at hc;simp only[IOp.sem]at h;split at h
 case h_2=>cases h
 rename_i hno;split at h
 case isFalse=>cases h
 rename_i hvar;cases h;obtain⟨mv,e,hrun,hr⟩:=run_box hS hc hvar;obtain⟨c1,c2,c3⟩:=vr_cells hvar hr;obtain⟨hS',hE⟩:=hS.alloc (.cells mv.cells e) (by first|rfl|trivial) (G':={G with cl:=upd G.cl w.heap.size (some (.box k)),box:=upd G.box k w.heap.size}) (fun _ _=>rfl) (fun b hb=>zEa _ _ hb) (fun _ _ _=>rfl)
  (fun k' hk'=>zEa _ _ (by rintro rfl;exact hk' hno))
 have hbx:BxR {G with cl:=upd G.cl w.heap.size (some (.box k)),box:=upd G.box k w.heap.size} (w.alloc (.cells mv.cells e)) (zi G.lc s.st) k (.cells (cellsOf (strip (x.val s.fr)))):=by
  refine⟨by simp[upd],by simp only[upd,if_true];exact(hS.store.fresh _ (yh _)).1,mv.cells,e,by simp only[upd,if_true];exact heap_alloc_new w _,c1,?_⟩;intro j c hj;have hlt:j<mv.cells.size:=by rw[c1];exact(yc.1 hj).1
  exact⟨mv.cells[j],by simp[hlt],((c3 j c _ hj (by simp[hlt])).mono hE.im hE.loc).cr (c2 j _ (by simp[hlt]))⟩
 refine zub (s1:={s with bx:=upd s.bx k _}) hd hrun (hS'.setBox hbx (by simp)) hE (fun κ=>?_) ?_
 ·simp[TR,upd]
 ·intro k' off e';cases e';simp[upd]
theorem op_boxS{sz:Nat}{x:Arg}(hS:Sim G N s a w)(hd:∀t,oper.dst=some t->t<N)(hc:zj P oper.op (.boxS sz x)=true)(h:(IOp.boxS sz x).sem s.fr b s.st=some (v,b',st')):
  b'=b/\zYa P oper N G s a w v s.fr s.bx st':=by
 simp only[zj]at hc;simp only[IOp.sem]at h;split at h
 case isFalse=>cases h
 rename_i hvar;simp only[ya,beq_iff_eq]at hvar;obtain⟨hvar,hsz⟩:=hvar;cases h;obtain⟨mv,e,hrun,hr⟩:=run_box hS hc hvar;obtain⟨c1,c2,c3⟩:=vr_cells hvar hr;obtain⟨hS',hE⟩:=hS.alloc (.cells mv.cells e) (by first|rfl|trivial) (G':={G with cl:=upd G.cl w.heap.size (some (.loc s.st.length)),loc:=upd G.loc s.st.length w.heap.size,room:=upd G.room s.st.length mv.cells.size}) (fun _ _=>rfl) (fun b hb=>zEa _ _ hb)
  (fun l o hl=>pair_upd (by have:=(yc.1 hl).1;omega)) (fun _ _=>rfl)
 have hpush:=hS'.push (.arr sz [strip (x.val s.fr)]) (by
  refine⟨by simp[upd],by simp only[upd,if_true];exact(hS.store.fresh _ (yh _)).1,mv.cells,e,by simp only[upd,if_true];exact heap_alloc_new w _,⟨by simp[upd],by simp[c1,hsz]⟩,?_⟩;intro i p hi
  match i with
  |0=>
   simp at hi;subst hi;refine⟨hsz,hvar,fun j c hj=>?_⟩;have hlt:j<mv.cells.size:=by rw[c1];exact(yc.1 hj).1
   refine⟨mv.cells[j],by simp[hlt],((c3 j c _ hj (by simp[hlt])).mono hE.im (Loc.le_trans hE.loc (zkb _ _ _))).cr (c2 j _ (by simp[hlt]))⟩
  |i+1=>simp at hi)
 refine⟨rfl,zub (s1:={s with st:=s.st++[_]}) hd hrun hpush ⟨hE.im,Loc.le_trans hE.loc (zkb _ _ _),hE.prot,hE.size,hE.os,hE.output,hE.frozen,hE.dfr⟩ (fun κ=>VR.tr ?_) (by simp)⟩;have hL:zi ({G with cl:=upd G.cl w.heap.size (some (.loc s.st.length)),loc:=upd G.loc s.st.length w.heap.size,room:=upd G.room s.st.length mv.cells.size}:Gh).lc (s.st++[.arr sz [strip (x.val s.fr)]]) s.st.length=some (w.heap.size,sz,mv.cells.size):=by
  simp[zi,Gh.lc,upd,Obj.sz]
 have:=VR.ptr (I:=({G with cl:=upd G.cl w.heap.size (some (.loc s.st.length)),loc:=upd G.loc s.st.length w.heap.size,room:=upd G.room s.st.length mv.cells.size}:Gh).im (w.alloc (.cells mv.cells e))) (i:=0) (off:=0) hL;simpa using this
theorem op_mkmap(hS:Sim G N s a w)(hd:∀t,oper.dst=some t->t<N)(hc:zj P oper.op .mkmap=true)(h:(IOp.mkmap).sem s.fr b s.st=some (v,b',st')):
  b'=b/\zYa P oper N G s a w v s.fr s.bx st':=by
 simp only[zj]at hc;split at hc
 case h_2=>cases hc
 rename_i t ho;simp only[IOp.sem]at h;cases h;obtain⟨hS',hE⟩:=hS.alloc (.map #[] 0) (by first|rfl|trivial) (G':={G with cl:=upd G.cl w.heap.size (some (.loc s.st.length)),loc:=upd G.loc s.st.length w.heap.size,room:=upd G.room s.st.length 0}) (fun _ _=>rfl) (fun b hb=>zEa _ _ hb)
  (fun l o hl=>pair_upd (by have:=(yc.1 hl).1;omega)) (fun _ _=>rfl)
 have hpush:=hS'.push (.mp []) (by
  refine⟨by simp[upd],by simp only[upd,if_true];exact(hS.store.fresh _ (yh _)).1, #[],0,by simp only[upd,if_true];exact heap_alloc_new w _,rfl,by simp⟩)
 refine⟨rfl,zub (s1:={s with st:=s.st++[_]}) (mv:= .map (some w.heap.size)) hd (by simp[execOp,ho,Instr.makeMap]) hpush ⟨hE.im,Loc.le_trans hE.loc (zkb _ _ _),hE.prot,hE.size,hE.os,hE.output,hE.frozen,hE.dfr⟩ (fun κ=>VR.tr ?_) (by simp)⟩;exact .mp (sz:=0) (q:=0) (by simp[zi,Gh.lc,upd,Obj.sz])
theorem op_rng{k:Nat}{x:Arg}(hS:Sim G N s a w)(hd:∀t,oper.dst=some t->t<N)(hc:zj P oper.op (.rng k x)=true)(h:(IOp.rng k x).sem s.fr (s.bx k) s.st=some (v,b',st')):Box3 P oper N G s a w k b' v st':=by
 simp only[zj]at hc;split at hc
 case h_2=>cases hc
 rename_i t y ho;simp only[ya]at hc;obtain⟨h1,hy⟩:=hc;have hu:P.underlying t=some .string:=by
  unfold isStrT at h1;split at h1;assumption;cases h1
 simp only[IOp.sem]at h;split at h
 case h_2=>cases h
 rename_i str hno hv;cases h;obtain⟨hS',hE⟩:=hS.alloc (.stringIter ⟨str.toArray⟩ 0) (by first|rfl|trivial) (G':={G with cl:=upd G.cl w.heap.size (some (.box k)),box:=upd G.box k w.heap.size}) (fun _ _=>rfl) (fun b hb=>zEa _ _ hb) (fun _ _ _=>rfl)
  (fun k' hk'=>zEa _ _ (by rintro rfl;exact hk' hno))
 have hbx:BxR {G with cl:=upd G.cl w.heap.size (some (.box k)),box:=upd G.box k w.heap.size} (w.alloc (.stringIter ⟨str.toArray⟩ 0)) (zi G.lc s.st) k (.iter str 0):=by
  refine⟨by simp[upd],by simp only[upd,if_true];exact(hS.store.fresh _ (yh _)).1,by simp only[upd,if_true];exact heap_alloc_new w _⟩
 refine zub (s1:={s with bx:=upd s.bx k _}) (mv:= .pointer (some ⟨w.heap.size,0,none⟩)) hd ?_ (hS'.setBox hbx (by simp)) hE (fun κ=>?_) ?_
 ·simp[execOp,ho,Instr.range,run_underlying hu,arg_str hS hy hv]
 ·simp[TR,upd]
 ·intro k' off e';cases e';simp[upd]
end
def CellsR(I:Im)(L:Loc)(cs:List PV)(arr:Array Value):Prop:=
 arr.size=cs.length/\(∀(j:Nat) x,arr[j]? =some x->x.oneCell'=true)/\∀(j:Nat) c x,cs[j]? =some c->arr[j]? =some x->VR I L c x
def setCells(arr:Array Value)(off:Nat)(vs:Array Value):Array Value:=vs.zipIdx.foldl (fun cs (c,j)=>cs.setIfInBounds (off+j) c) arr
theorem zde(off:Nat):∀(l:List Value) (k:Nat) (arr:Array Value),
  ((l.zipIdx k).foldl (fun cs (x:Value×Nat)=>cs.setIfInBounds (off+x.2) x.1) arr).size=arr.size∧
  ∀i,((l.zipIdx k).foldl (fun cs (x:Value×Nat)=>cs.setIfInBounds (off+x.2) x.1) arr)[i]? =if off+k<=i/\i<off+k+l.length/\i<arr.size then l[i-(off+k)]? else arr[i]?
 | [],k,arr=>⟨rfl,fun i=>by
   have:¬(off+k<=i/\i<off+k+([]:List Value).length/\i<arr.size):=by simp;omega
   rw[if_neg this];rfl⟩
 |c::l,k,arr=>by
  obtain⟨h1,h2⟩:=zde off l (k+1) (arr.setIfInBounds (off+k) c);refine⟨by simp only[List.zipIdx_cons,List.foldl_cons];rw[h1];simp,fun i=>?_⟩;simp only[List.zipIdx_cons,List.foldl_cons];rw[h2];simp only[Array.size_setIfInBounds,yd];by_cases hi:i=off+k
  ·subst hi;have:¬(off+(k+1)<=off+k/\off+k<off+(k+1)+l.length/\off+k<arr.size):=by omega
   rw[if_neg this];by_cases hs:off+k<arr.size
   ·rw[if_pos ⟨yh _,by omega,hs⟩];simp[hs]
   ·rw[if_neg (by omega)];simp[hs]
  ·by_cases hc:off+(k+1)<=i/\i<off+(k+1)+l.length/\i<arr.size
   ·rw[if_pos hc,if_pos ⟨by omega,by omega,hc.2.2⟩];rw[show i-(off+k)=(i-(off+(k+1)))+1 from by omega];rfl
   ·rw[if_neg hc,if_neg (by omega)];rw[Array.getElem?_setIfInBounds_ne (by omega)]
theorem setCells_size(arr:Array Value)(off:Nat)(vs:Array Value):(setCells arr off vs).size=arr.size:=by
 unfold setCells;rw[<-Array.foldl_toList,Array.toList_zipIdx];exact(zde off vs.toList 0 arr).1
theorem zjd(arr:Array Value)(off:Nat)(vs:Array Value)(i:Nat):(setCells arr off vs)[i]? =if off<=i/\i<off+vs.size/\i<arr.size then vs[i-off]? else arr[i]? :=by
 unfold setCells;rw[<-Array.foldl_toList,Array.toList_zipIdx];have:=(zde off vs.toList 0 arr).2 i;simpa using this
theorem setAt_length{cs vs:List PV}{off:Nat}(h:off+vs.length<=cs.length):(zzd cs off vs).length=cs.length:=by
 simp[zzd];omega
theorem setAt_get{cs vs:List PV}{off:Nat}(h:off+vs.length<=cs.length)(i:Nat):(zzd cs off vs)[i]? =if off<=i/\i<off+vs.length then vs[i-off]? else cs[i]? :=by
 unfold zzd;by_cases h1:i<off
 ·rw[if_neg (by omega),ym,yq (by simp;omega),yH,if_pos h1]
 ·by_cases h2:i<off+vs.length
  ·rw[if_pos ⟨by omega,h2⟩,yq (by simp;omega),yv (by simp;omega)];simp[show min off cs.length=off from by omega]
  ·rw[if_neg (by omega),yv (by simp;omega),yN];congr 1;simp[show min off cs.length=off from by omega];omega
theorem CellsR.set{I:Im}{L:Loc}{cs vs:List PV}{arr xs:Array Value}{off:Nat}(h:CellsR I L cs arr)(h':CellsR I L vs xs)(hle:off+vs.length<=cs.length):CellsR I L (zzd cs off vs) (setCells arr off xs):=by
 obtain⟨a1,a2,a3⟩:=h;obtain⟨b1,b2,b3⟩:=h';refine⟨by rw[setCells_size,setAt_length hle,a1],?_,?_⟩
 ·intro j x hx;rw[zjd]at hx;split at hx
  ·exact b2 _ x hx
  ·exact a2 _ x hx
 ·intro j c x hc hx;rw[zjd]at hx;rw[setAt_get hle]at hc;split at hc
  ·rename_i hh;rw[if_pos ⟨hh.1,by rw[b1];exact hh.2,by rw[a1];omega⟩]at hx;exact b3 _ c x hc hx
  ·rename_i hh;rw[if_neg (by rw[b1];omega)]at hx;exact a3 _ c x hc hx
section
variable {P:Program} {G G':Gh} {N:Nat} {s:St} {a:Act} {w w':World} {oper:Oper} {b b':Bx} {st':ze} {v:PV}
theorem zxb{I:Im}{L:Loc}{p:PV}{mv:Value}(hv:zG p=true)(h:VR I L p mv):CellsR I L (cellsOf p) mv.cells:=by
 obtain⟨h1,h2,h3⟩:=vr_cells hv h;exact⟨h1,h2,h3⟩
theorem fill_ok(hS:Sim G N s a w){place:Nat->Option (Nat×Nat)}:∀(parts:List (Nat×Operand)) (parts':List (Nat×Nat×Arg)) (cs:List PV) (arr:Array Value) (cs':List PV),
  zZc P place parts parts'=true->CellsR (G.im w) (zi G.lc s.st) cs arr->zIb s.fr cs parts'=some cs'→
  ∃arr',Instr.fill place arr (parts.map fun(i,x)=>(i,a.eval x))=some arr'/\CellsR (G.im w) (zi G.lc s.st) cs' arr'
 | [],[],cs,arr,cs',_,hr,h=>by simp[zIb]at h;subst h;exact⟨arr,rfl,hr⟩
 | [],_::_,cs,arr,cs',h,_,_=>by simp[zZc]at h
 |_::_,[],cs,arr,cs',h,_,_=>by simp[zZc]at h
 |(i,x)::parts,(off,sz,g)::parts',cs,arr,cs',hok,hr,h=>by
  simp only[zZc,ya,decide_eq_true_eq]at hok;obtain⟨⟨hp,hx⟩,hrest⟩:=hok;simp only[zIb]at h;split at h
  case isFalse=>cases h
  rename_i hc;simp only[ya,beq_iff_eq,decide_eq_true_eq]at hc;obtain⟨⟨hvar,hsz⟩,hle⟩:=hc;have hv:=(arg_vr hS hx (zac hvar)).stripA;have hcr:=zxb hvar hv;have hset:=hr.set hcr (off:=off) (by rw[hsz];exact hle);obtain⟨arr',f1,f2⟩:=fill_ok hS parts parts' _ _ cs' hrest hset h;refine⟨arr',?_,f2⟩;simp only[yz,Instr.fill,hp];have e1:(a.eval x).cells.size=sz:=by rw[hcr.1,hsz]
  have e2:¬(off+(a.eval x).cells.size>arr.size):=by rw[e1,hr.1];omega
  simp only[e1,ne_eq,not_true_eq_false,decide_false,yI,decide_eq_true_eq];rw[if_neg (by rw[hr.1];omega)];exact f1
theorem fillF_ok(hS:Sim G N s a w){place:Nat->Option (Nat×Nat)}:∀(parts:List (Nat×Operand)) (parts':List (Nat×Nat×Arg)) (cs:List PV) (arr:Array Value) (cs':List PV),
  zZc P place parts parts'=true->CellsR (G.im w) (zi G.lc s.st) cs arr->zvb s.fr cs parts'=some cs'→
  ∃arr',Instr.fill place arr (parts.map fun(i,x)=>(i,a.eval x))=some arr'/\CellsR (G.im w) (zi G.lc s.st) cs' arr'
 | [],[],cs,arr,cs',_,hr,h=>by simp[zvb]at h;subst h;exact⟨arr,rfl,hr⟩
 | [],_::_,cs,arr,cs',h,_,_=>by simp[zZc]at h
 |_::_,[],cs,arr,cs',h,_,_=>by simp[zZc]at h
 |(i,x)::parts,(off,sz,g)::parts',cs,arr,cs',hok,hr,h=>by
  simp only[zZc,ya,decide_eq_true_eq]at hok;obtain⟨⟨hp,hx⟩,hrest⟩:=hok;simp only[zvb]at h;split at h
  case isFalse=>cases h
  rename_i hc;simp only[ya,beq_iff_eq,decide_eq_true_eq]at hc;obtain⟨⟨hvar,hsz⟩,hle⟩:=hc;have hv:=arg_vr hS hx (ztb hvar);have hcr:=zxb hvar hv;have hset:=hr.set hcr (off:=off) (by rw[hsz];exact hle);obtain⟨arr',f1,f2⟩:=fillF_ok hS parts parts' _ _ cs' hrest hset h;refine⟨arr',?_,f2⟩;simp only[yz,Instr.fill,hp];have e1:(a.eval x).cells.size=sz:=by rw[hcr.1,hsz]
  have e2:¬(off+(a.eval x).cells.size>arr.size):=by rw[e1,hr.1];omega
  simp only[e1,ne_eq,not_true_eq_false,decide_false,yI,decide_eq_true_eq];rw[if_neg (by rw[hr.1];omega)];exact f1
theorem run_places(fs:List Field)(w:World)(h:(fs.all fun f=>(P.info? f.type).isSome)=true):
  (fs.mapM fun f=>(do pure (f.offset,<-Go.sizeOf f.type):Sem (Nat×Nat))).run P w= .ok (fs.map fun f=>(f.offset,((P.info? f.type).map (·.size)).getD 0)) w:=by
 induction fs with
 |nil=>simp
 |cons f fs ih=>
  simp only[List.all_cons,ya]at h;obtain⟨i,hi⟩:=yX.1 h.1;have hso:(Go.sizeOf f.type).run P w=Result.ok i.size w:=by simp[Go.sizeOf,typeInfo,hi]
  simp only[List.mapM_cons,Sem.run_bind,hso,yl,Sem.run_pure,ih h.2,yz,hi,yZ,yma]
theorem op_build{zero:List PV}{parts:List (Nat×Nat×Arg)}(hS:Sim G N s a w)(hd:∀t,oper.dst=some t->t<N)(hc:zj P oper.op (.build zero parts)=true)(h:(IOp.build zero parts).sem s.fr b s.st=some (v,b',st')):zzb P oper N G s a w b b' v st':=by
 simp only[zj]at hc;split at hc
 case h_2=>cases hc
 rename_i t ps ho;simp only[ya]at hc;obtain⟨⟨hz,hsz⟩,hp⟩:=hc;simp only[IOp.sem,yb,Prod.mk.injEq]at h;obtain⟨cs,hcs,rfl,rfl,rfl⟩:=h;obtain⟨i,zv,z1,z2,z3,z4,z5,z6⟩:=zvd hz;have hzr:=zpd (I:=G.im w) (L:=zi G.lc s.st) _ _ z3;have hcr:=zxb z5 hzr;obtain⟨arr',f1,f2⟩:=fill_ok (P:=P) hS ps.toList parts zero zv.cells cs hp hcr hcs;have hzrun:(zeroValue t).run P w= .ok zv w:=by simp[zeroValue,typeInfo,z1,z2]
 refine⟨rfl,rfl,zz hS hd (mv:= .agg arr') ?_ (.agg f2.1 f2.2.1 f2.2.2)⟩;have hmap:(ps.map fun(i,x)=>(i,a.eval x)).toList=ps.toList.map fun(i,x)=>(i,a.eval x):=by simp
 unfold allSized at hsz;split at hsz
 ·rename_i fs hfs;have hpl:(fs.mapM fun f=>(do pure (f.offset,<-Go.sizeOf f.type):Sem (Nat×Nat))).run P w= .ok (fs.map fun f=>(f.offset,((P.info? f.type).map (·.size)).getD 0)) w:=by
   rw[Array.mapM_eq_mapM_toList];simp only[Sem.run_map,run_places fs.toList w hsz,yl];congr 1;apply Array.ext';simp
  have hplace:(fun i:Nat=>(fs.map fun f=>(f.offset,((P.info? f.type).map (·.size)).getD 0))[i]?)=zUa P t:=by
   funext i;unfold zUa;rw[hfs];simp only[Array.getElem?_map];cases hi:fs[i]? with
   |none=>rfl
   |some f=>
    have:(P.info? f.type).isSome=true:=by
     rw[yr]at hsz;refine hsz f ?_;have:=Array.mem_of_getElem? hi;simpa using this
    obtain⟨j,hj⟩:=yX.1 this;simp[hj]
  simp only[execOp,ho,Instr.build,Sem.run_bind,hzrun,yl,run_underlying hfs,hpl,hmap];rw[hplace,f1];simp
 ·rename_i n e hne;obtain⟨j,hj⟩:=yX.1 hsz;have hplace:(fun i:Nat=>some (i*j.size,j.size))=zUa P t:=by
   funext i;unfold zUa;rw[hne];simp[hj]
  simp only[execOp,ho,Instr.build,Sem.run_bind,hzrun,yl,run_underlying hne,Go.sizeOf,typeInfo,run_program,hj,Sem.run_pure,hmap];rw[hplace,f1];simp
 ·cases hsz
theorem op_buildF{zero:List PV}{parts:List (Nat×Nat×Arg)}(hS:Sim G N s a w)(hd:∀t,oper.dst=some t->t<N)(hc:zj P oper.op (.buildF zero parts)=true)(h:(IOp.buildF zero parts).sem s.fr b s.st=some (v,b',st')):zzb P oper N G s a w b b' v st':=by
 simp only[zj]at hc;split at hc
 case h_2=>cases hc
 rename_i t ps ho;simp only[ya]at hc;obtain⟨⟨hz,hsz⟩,hp⟩:=hc;simp only[IOp.sem,yb,Prod.mk.injEq]at h;obtain⟨cs,hcs,rfl,rfl,rfl⟩:=h;obtain⟨i,zv,z1,z2,z3,z4,z5,z6⟩:=zvd hz;have hzr:=zpd (I:=G.im w) (L:=zi G.lc s.st) _ _ z3;have hcr:=zxb z5 hzr;obtain⟨arr',f1,f2⟩:=fillF_ok (P:=P) hS ps.toList parts zero zv.cells cs hp hcr hcs;have hzrun:(zeroValue t).run P w= .ok zv w:=by simp[zeroValue,typeInfo,z1,z2]
 refine⟨rfl,rfl,zz hS hd (mv:= .agg arr') ?_ (.agg f2.1 f2.2.1 f2.2.2)⟩;have hmap:(ps.map fun(i,x)=>(i,a.eval x)).toList=ps.toList.map fun(i,x)=>(i,a.eval x):=by simp
 unfold allSized at hsz;split at hsz
 ·rename_i fs hfs;have hpl:(fs.mapM fun f=>(do pure (f.offset,<-Go.sizeOf f.type):Sem (Nat×Nat))).run P w= .ok (fs.map fun f=>(f.offset,((P.info? f.type).map (·.size)).getD 0)) w:=by
   rw[Array.mapM_eq_mapM_toList];simp only[Sem.run_map,run_places fs.toList w hsz,yl];congr 1;apply Array.ext';simp
  have hplace:(fun i:Nat=>(fs.map fun f=>(f.offset,((P.info? f.type).map (·.size)).getD 0))[i]?)=zUa P t:=by
   funext i;unfold zUa;rw[hfs];simp only[Array.getElem?_map];cases hi:fs[i]? with
   |none=>rfl
   |some f=>
    have:(P.info? f.type).isSome=true:=by
     rw[yr]at hsz;refine hsz f ?_;have:=Array.mem_of_getElem? hi;simpa using this
    obtain⟨j,hj⟩:=yX.1 this;simp[hj]
  simp only[execOp,ho,Instr.build,Sem.run_bind,hzrun,yl,run_underlying hfs,hpl,hmap];rw[hplace,f1];simp
 ·rename_i n e hne;obtain⟨j,hj⟩:=yX.1 hsz;have hplace:(fun i:Nat=>some (i*j.size,j.size))=zUa P t:=by
   funext i;unfold zUa;rw[hne];simp[hj]
  simp only[execOp,ho,Instr.build,Sem.run_bind,hzrun,yl,run_underlying hne,Go.sizeOf,typeInfo,run_program,hj,Sem.run_pure,hmap];rw[hplace,f1];simp
 ·cases hsz
def RowR(I:Im)(L:Loc)(sz:Nat)(es:List PV)(arr:Array Value):Prop:=
 arr.size=es.length*sz/\(∀(i:Nat) e,es[i]? =some e->(cellsOf e).length=sz/\zG e=true)/\(∀(j:Nat) x,arr[j]? =some x->x.oneCell'=true)∧
 ∀(i:Nat) e (j:Nat) c x,es[i]? =some e->(cellsOf e)[j]? =some c->arr[i*sz+j]? =some x->VR I L c x
theorem RowR.set{I:Im}{L:Loc}{sz:Nat}{es:List PV}{arr:Array Value}(h:RowR I L sz es arr){i:Nat}(hi:i<es.length){p:PV}{xs:Array Value}(hvar:zG p=true)(hl:(cellsOf p).length=sz)(hc:CellsR I L (cellsOf p) xs):
  RowR I L sz (es.set i p) (setCells arr (i*sz) xs):=by
 obtain⟨a1,a2,a3,a4⟩:=h;obtain⟨b1,b2,b3⟩:=hc;refine⟨by rw[setCells_size,a1];simp,?_,?_,?_⟩
 ·intro i' e he;by_cases hii:i=i'
  ·subst hii;rw[yx hi]at he;cases he;exact⟨hl,hvar⟩
  ·rw[yB hii]at he;exact a2 i' e he
 ·intro j x hx;rw[zjd]at hx;split at hx
  ·exact b2 _ x hx
  ·exact a3 _ x hx
 ·intro i' e j c x he hcj hx;have hjs:j<sz:=by
   by_cases hii:i=i'
   ·subst hii;rw[yx hi]at he;cases he;rw[<-hl];exact(yc.1 hcj).1
   ·rw[yB hii]at he;rw[<-(a2 i' e he).1];exact(yc.1 hcj).1
  rw[zjd]at hx;by_cases hii:i=i'
  ·subst hii;rw[yx hi]at he;cases he;rw[if_pos ⟨by omega,by rw[b1,hl];omega,by
    rw[a1];have:(i+1)*sz<=es.length*sz:=yo _ hi;rw[yE]at this;omega⟩]at hx
   rw[show i*sz+j-i*sz=j from by omega]at hx;exact b3 j c x hcj hx
  ·rw[yB hii]at he;have hcond:¬(i*sz<=i'*sz+j/\i'*sz+j<i*sz+xs.size/\i'*sz+j<arr.size):=by
    rw[b1,hl];rcases yA i i' with hlt|hge
    ·have:(i+1)*sz<=i'*sz:=yo _ hlt;rw[yE]at this;omega
    ·have:(i'+1)*sz<=i*sz:=yo _ (by omega);rw[yE]at this;omega
   rw[if_neg hcond]at hx;exact a4 i' e j c x he hcj hx
theorem fillElems_ok(hS:Sim G N s a w){sz:Nat}:∀(parts:List (Nat×Operand)) (parts':List (Nat×Arg)) (es:List PV) (arr:Array Value) (es':List PV),
  okElems parts parts'=true->RowR (G.im w) (zi G.lc s.st) sz es arr->zib s.fr sz es parts'=some es'→
  ∃arr',Instr.fill (fun i=>some (i*sz,sz)) arr (parts.map fun(i,x)=>(i,a.eval x))=some arr'/\RowR (G.im w) (zi G.lc s.st) sz es' arr'/\es'.length=es.length
 | [],[],es,arr,es',_,hr,h=>by simp[zib]at h;subst h;exact⟨arr,rfl,hr,rfl⟩
 | [],_::_,cs,arr,cs',h,_,_=>by simp[okElems]at h
 |_::_,[],cs,arr,cs',h,_,_=>by simp[okElems]at h
 |(i,x)::parts,(i',g)::parts',es,arr,es',hok,hr,h=>by
  simp only[okElems,ya,decide_eq_true_eq]at hok;obtain⟨⟨rfl,hx⟩,hrest⟩:=hok;simp only[zib]at h;split at h
  case isFalse=>cases h
  rename_i hc;simp only[ya,beq_iff_eq,decide_eq_true_eq]at hc;obtain⟨⟨hvar,hsz⟩,hle⟩:=hc;have hv:=(arg_vr hS hx (zac hvar)).stripA;have hcr:=zxb hvar hv;have hset:=hr.set hle hvar hsz hcr;obtain⟨arr',f1,f2,f3⟩:=fillElems_ok hS parts parts' _ _ es' hrest hset h;refine⟨arr',?_,f2,by rw[f3];simp⟩;simp only[yz,Instr.fill];have e1:(a.eval x).cells.size=sz:=by rw[hcr.1,hsz]
  simp only[e1,ne_eq,not_true_eq_false,decide_false,yI,decide_eq_true_eq];rw[if_neg (by
   rw[hr.1];have:(i+1)*sz<=es.length*sz:=yo _ hle;rw[yE]at this;omega)]
  exact f1
theorem rowR_zero{I:Im}{L:Loc}{t sz:Nat}{z:PV}{zv:Value}(hsz:szT P t sz=true)(hz:zeroT P t z=true)(hpos:0<sz)(hzv:VR I L z zv)(n:Nat):
  RowR I L sz (yya n z) ((Array.range (n*sz)).map (zv.cells[· %zv.cells.size]!))/\zv.cells.size=sz:=by
 obtain⟨i,zv',z1,z2,z3,z4,z5,z6⟩:=zvd hz;obtain⟨i',i1,i2⟩:=szT_info hsz;rw[z1]at i1;cases i1;have hcr:=zxb z5 hzv;have hs:zv.cells.size=sz:=by rw[hcr.1,z4,i2]
 have hget:∀(j:Nat) x,((Array.range (n*sz)).map (zv.cells[· %zv.cells.size]!))[j]? =some x->j<n*sz/\zv.cells[j%sz]? =some x:=by
  intro j x hx;rw[Array.getElem?_map]at hx;rw[yb]at hx;obtain⟨k,hk1,hk2⟩:=hx;obtain⟨q1,q2⟩:=yu.1 hk1;simp at q1 q2;subst q2;refine⟨q1,?_⟩;rw[hs]at hk2;have:j%sz<zv.cells.size:=by rw[hs];exact Nat.mod_lt _ hpos
  rw[getElem!_pos zv.cells (j%sz) this]at hk2;rw[yD this,hk2]
 refine⟨⟨by simp,?_,?_,?_⟩,hs⟩
 ·intro i e he;rw[List.getElem?_replicate]at he;split at he
  ·cases he;exact⟨by rw[z4,i2],z5⟩
  ·cases he
 ·intro j x hx;exact hcr.2.1 _ x (hget j x hx).2
 ·intro i e j c x he hcj hx;rw[List.getElem?_replicate]at he;split at he
  ·cases he;obtain⟨h1,h2⟩:=hget _ x hx;have hj:j<sz:=by
    have:=(yc.1 hcj).1;rw[z4,i2]at this;exact this
   rw[Nat.add_comm,Nat.add_mul_mod_self_right,Nat.mod_eq_of_lt hj]at h2;exact hcr.2.2 j c x hcj h2
  ·cases he
theorem rowR_slice{G:Gh}{w:World}{L L':Loc}{sz:Nat}{es:List PV}{arr:Array Value}(e:Nat)(h:RowR (G.im w) L sz es arr)(hpos:0<sz){k:SK}(hk:k≠ .own){n cap:Nat}(hn:es.length*sz<=n)(hcap:es.length<=cap)(hf:k.full=true->cap=es.length)
  {arr':Array Value} (harr:∀(j:Nat) x,arr[j]? =some x->arr'[j]? =some x)
  (hI:(G.im w).le (({G with fz:=upd G.fz w.heap.size n}:Gh).im (w.alloc (.cells arr' e)))) (hL:L.le L'):
  VR (({G with fz:=upd G.fz w.heap.size n}:Gh).im (w.alloc (.cells arr' e))) L' (.slice k sz es) (.slice (some ⟨w.heap.size,0,none⟩) es.length cap):=by
 have hlt:∀(i:Nat) e (j:Nat) c,es[i]? =some e->(cellsOf e)[j]? =some c->i*sz+j<arr.size:=by
  intro i e j c he hc;have h1:=(yc.1 he).1;have h2:=(yc.1 hc).1;rw[(h.2.1 i e he).1]at h2;rw[h.1];have:(i+1)*sz<=es.length*sz:=yo _ h1;rw[yE]at this;omega
 refine .slice hk hf hcap (fun i j=>arr.getD (i*sz+j) Go.undef) h.2.1 ?_ ?_
 ·intro i e' j c he hc;have h1:=hlt i e' j c he hc;have e1:arr[i*sz+j]? =some arr[i*sz+j]:=by simp[h1]
  have:=im_new G w arr' e (n:=n) (by rw[h.1]at h1;omega) (harr _ _ e1);rw[yV,this];refine⟨by simp[h1],?_⟩;have:=h.2.2.1 _ _ e1;simpa[h1]using this
 ·intro i e' j c he hc;have h1:=hlt i e' j c he hc;have e1:arr[i*sz+j]? =some arr[i*sz+j]:=by simp[h1]
  have:=h.2.2.2 i e' j c _ he hc e1;simp only[yda,e1,yma];exact this.mono hI hL
theorem run_bslice{sz n:Nat}{zero:PV}{parts':List (Nat×Arg)}{es:List PV}(hS:Sim G N s a w){t n':Nat}{parts:Array (Nat×Operand)}{e:Nat}(he:sliceT P t=some e)(h1:n'=n)(h2:szT P e sz=true)(h3:zeroT P e zero=true)(h4:0<sz)(h5:n*sz<=16777216)
  (h6:okElems parts.toList parts'=true) (ho:oper.op= .buildSlice t n' parts) (h:zib s.fr sz (yya n zero) parts'=some es):
  ∃arr,(execOp a.eval oper).run P w= .ok (.value (.slice (some ⟨w.heap.size,0,none⟩) n n)) (w.alloc (.cells arr e))/\RowR (G.im w) (zi G.lc s.st) sz es arr/\es.length=n:=by
 subst h1;obtain⟨zv,z1,z2⟩:=zTd h3 (G.im w) (zi G.lc s.st) w;obtain⟨hz1,hz2⟩:=rowR_zero h2 h3 h4 z2 n';obtain⟨arr',f1,f2,f3⟩:=fillElems_ok hS parts.toList parts' _ _ es h6 hz1 h;have hlen:es.length=n':=by rw[f3];simp
 refine⟨arr',?_,f2,hlen⟩;have hmap:(parts.map fun(i,x)=>(i,a.eval x)).toList=parts.toList.map fun(i,x)=>(i,a.eval x):=by simp
 have hbig:¬(n'*sz>2^24):=by omega
 simp only[execOp,ho,Instr.buildSlice,Sem.run_bind,run_underlying (zSd he),yl,zia h2,if_neg hbig,Sem.run_pure,hmap];by_cases h0:n'*sz=0
 ·have:n'=0:=by
   rcases Nat.mul_eq_zero.1 h0 with h|h
   ·exact h
   ·omega
  subst this;have e0:(Array.range (0*sz)).map (zv.cells[· %zv.cells.size]!)= #[]:=by simp
  rw[e0]at f1;have hpure:(pure #[]:Sem (Array Value)).run P w= .ok #[] w:=rfl;have e1:∀z:Array Value,(Array.range 0).map (fun x=>z[x%z.size]!)= #[]:=fun z=>by simp
  simp only[h0,if_true,Sem.run_bind,hpure,yl,e1];rw[f1];simp[newRow]
 ·simp only[h0,if_false,Sem.run_bind,z1,yl,Sem.run_pure];rw[f1];simp[newRow]
theorem op_bslice{sz n:Nat}{zero:PV}{parts:List (Nat×Arg)}(hS:Sim G N s a w)(hd:∀t,oper.dst=some t->t<N)(hc:zj P oper.op (.bslice sz zero n parts)=true)(h:(IOp.bslice sz zero n parts).sem s.fr b s.st=some (v,b',st')):zzb P oper N G s a w b b' v st':=by
 simp only[zj]at hc;split at hc
 case h_2=>cases hc
 rename_i t n' ps ho;split at hc
 case h_2=>cases hc
 rename_i e he;simp only[ya,decide_eq_true_eq]at hc;obtain⟨⟨⟨⟨⟨rfl,h2⟩,h3⟩,h4⟩,h5⟩,h6⟩:=hc;simp only[IOp.sem,yb,Prod.mk.injEq]at h;obtain⟨es,hes,rfl,rfl,rfl⟩:=h;obtain⟨arr,hrun,hrow,hlen⟩:=run_bslice hS he rfl h2 h3 h4 h5 h6 ho hes;obtain⟨hS',hE⟩:=hS.alloc (.cells arr e) (by first|rfl|trivial) (G':={G with fz:=upd G.fz w.heap.size (es.length*sz)}) (fun b hb=>zEa _ _ hb) (fun _ _=>rfl) (fun _ _ _=>rfl) (fun _ _=>rfl);refine⟨rfl,rfl,zub hd hrun hS' hE (fun κ=>VR.tr ?_) (by simp)⟩;have:=rowR_slice (L':=zi G.lc s.st) (arr':=arr) e hrow h4 (k:=kindZ zero) (by unfold kindZ;split<;>simp) (yh _) (yh _) (fun _=>rfl) (fun _ _ h=>h) hE.im (Loc.le_refl _);rw[hlen]at this ⊢;exact this
theorem rowR_obj{I:Im}{L:Loc}{G':Gh}{w':World}{L':Loc}{sz l:Nat}{es:List PV}{arr0 arr:Array Value}{e:Nat}(h:RowR I L sz es arr0)(hp:∀(q:Nat) x,arr0[q]? =some x->arr[q]? =some x)(hI:I.le (G'.im w'))(hL:L.le L')(h1:G'.cl (G'.loc l)=some (.loc l))(h2:G'.fz (G'.loc l)=0)
  (h3:w'.heap[G'.loc l]? =some (.cells arr e (0,0))) (h4:arr.size=G'.room l) (h5:es.length*sz<=arr.size):ObjR G' w' L' l (.arr sz es):=by
 refine⟨h1,h2,arr,e,h3,⟨h4,h5⟩,fun i p hp'=>⟨(h.2.1 i p hp').1,(h.2.1 i p hp').2,fun j c hc=>?_⟩⟩;have hlt:i*sz+j<arr0.size:=by
  have q1:=(yc.1 hp').1;have q2:=(yc.1 hc).1;rw[(h.2.1 i p hp').1]at q2;rw[h.1];have:(i+1)*sz<=es.length*sz:=yo _ q1;rw[yE]at this;omega
 have e1:arr0[i*sz+j]? =some arr0[i*sz+j]:=by simp[hlt]
 exact⟨_,hp _ _ e1,((h.2.2.2 i p j c _ hp' hc e1).mono hI hL).cr (h.2.2.1 _ _ e1)⟩
theorem good_row{sz n:Nat}{es:List PV}{arr:Array Value}{e:Nat}(hS:Sim G N s a w)(hd:∀t,oper.dst=some t->t<N)(hrow:RowR (G.im w) (zi G.lc s.st) sz es arr)(hlen:es.length=n)
  (hrun:(execOp a.eval oper).run P w= .ok (.value (.slice (some ⟨w.heap.size,0,none⟩) n n)) (w.alloc (.cells arr e))):
  zYa P oper N G s a w (.mslice s.st.length 0 n sz) s.fr s.bx (s.st++[.arr sz es]):=by
 obtain⟨hS',hE⟩:=hS.alloc (.cells arr e) (by first|rfl|trivial) (G':={G with cl:=upd G.cl w.heap.size (some (.loc s.st.length)),loc:=upd G.loc s.st.length w.heap.size,room:=upd G.room s.st.length arr.size}) (fun _ _=>rfl) (fun b hb=>zEa _ _ hb)
  (fun l o hl=>pair_upd (by have:=(yc.1 hl).1;omega)) (fun _ _=>rfl)
 have hpush:=hS'.push (.arr sz es) (by
  refine rowR_obj (e:=e) hrow (fun _ _ h=>h) hE.im (Loc.le_trans hE.loc (zkb _ _ _)) (by simp[upd]) ?_ (by simp only[upd,if_true];exact heap_alloc_new w _) (by simp[upd]) (by rw[hrow.1];exact yh _);simp only[upd,if_true];exact(hS.store.fresh _ (yh _)).1)
 refine zub (s1:={s with st:=s.st++[_]}) hd hrun hpush ⟨hE.im,Loc.le_trans hE.loc (zkb _ _ _),hE.prot,hE.size,hE.os,hE.output,hE.frozen,hE.dfr⟩ (fun κ=>VR.tr ?_) (by simp);have hL:zi ({G with cl:=upd G.cl w.heap.size (some (.loc s.st.length)),loc:=upd G.loc s.st.length w.heap.size,room:=upd G.room s.st.length arr.size}:Gh).lc (s.st++[.arr sz es]) s.st.length=some (w.heap.size,sz,arr.size):=by
  simp[zi,Gh.lc,upd,Obj.sz]
 have:=VR.mslice (I:=({G with cl:=upd G.cl w.heap.size (some (.loc s.st.length)),loc:=upd G.loc s.st.length w.heap.size,room:=upd G.room s.st.length arr.size}:Gh).im (w.alloc (.cells arr e))) (off:=0) (len:=n) (cap:=n) hL (yh _) (by rw[hrow.1,hlen,yV];exact yh _);simpa using this
theorem op_bsliceS{sz n:Nat}{zero:PV}{parts:List (Nat×Arg)}(hS:Sim G N s a w)(hd:∀t,oper.dst=some t->t<N)(hc:zj P oper.op (.bsliceS sz zero n parts)=true)(h:(IOp.bsliceS sz zero n parts).sem s.fr b s.st=some (v,b',st')):
  b'=b/\zYa P oper N G s a w v s.fr s.bx st':=by
 simp only[zj]at hc;split at hc
 case h_2=>cases hc
 rename_i t n' ps ho;split at hc
 case h_2=>cases hc
 rename_i e he;simp only[ya,decide_eq_true_eq]at hc;obtain⟨⟨⟨⟨⟨rfl,h2⟩,h3⟩,h4⟩,h5⟩,h6⟩:=hc;simp only[IOp.sem,yb,Prod.mk.injEq]at h;obtain⟨es,hes,rfl,rfl,rfl⟩:=h;obtain⟨arr,hrun,hrow,hlen⟩:=run_bslice hS he rfl h2 h3 h4 h5 h6 ho hes;exact⟨rfl,good_row hS hd hrow hlen hrun⟩
theorem run_mkslice{sz by_:Nat}{zero:PV}{ln cp:Arg}{n:Int}(hS:Sim G N s a w){t:Nat}{l c:Operand}{e:Nat}(he:sliceT P t=some e)(h2:szT P e sz=true)(h3:zeroT P e zero=true)(hb:bytesT P e by_=true)(h4:0<sz)
  (hl:zO l ln=true) (hc:zO c cp=true) (ho:oper.op= .makeSlice t l c) (el:ln.val s.fr= .int .i64 n) (ec:cp.val s.fr= .int .i64 n) (h0:0<=n) (hm:n<=9223372036854775807) (hby:by_*n<=281474976710656):
  ∃arr,(execOp a.eval oper).run P w= .ok (.value (.slice (some ⟨w.heap.size,0,none⟩) n.toNat n.toNat)) (w.alloc (.cells arr e))/\RowR (G.im w) (zi G.lc s.st) sz (yya n.toNat zero) arr:=by
 obtain⟨zv,z1,z2⟩:=zTd h3 (G.im w) (zi G.lc s.st) w;obtain⟨hz1,hz2⟩:=rowR_zero h2 h3 h4 z2 n.toNat;refine⟨_,?_,hz1⟩;have hbi:∃i,P.info? e=some i/\i.bytes=by_:=by
  unfold bytesT at hb;split at hb
  ·exact⟨_,by assumption,by simpa using hb⟩
  ·cases hb
 obtain⟨i,hi,rfl⟩:=hbi;have hw:IntKind.i64.wrap n=n:=IntWalk.i64_in n (by omega);have ht1:(decide (n<0)||decide ((i.bytes:Int)*n>2^48))=false:=by
  simp;omega
 simp only[execOp,ho,zrb hS hl el,zrb hS hc ec];simp only[Instr.makeSlice,Sem.run_bind,run_underlying (zSd he),yl,asInt,asIntOf,Sem.run_pure,typeInfo,run_program,hi,hw,ht1];have hneg:¬(n<0):=by omega
 simp only[hneg,decide_false,yI,Int.lt_irrefl,gt_iff_lt,yi,if_false,Sem.run_pure,Sem.run_bind,yl,run_askRoom,zia h2];by_cases hz:n.toNat*sz=0
 ·have:n.toNat=0:=by
   rcases Nat.mul_eq_zero.1 hz with h|h
   ·exact h
   ·omega
  have e1:∀f:Nat->Value,(Array.range 0).map f= #[]:=fun f=>by simp
  rw[this];simp[newRow,e1]
 ·simp[hz,z1,newRow]
theorem op_mkslice{sz by_:Nat}{zero:PV}{ln cp:Arg}(hS:Sim G N s a w)(hd:∀t,oper.dst=some t->t<N)(hc:zj P oper.op (.mkslice sz zero by_ ln cp)=true)(h:(IOp.mkslice sz zero by_ ln cp).sem s.fr b s.st=some (v,b',st')):zzb P oper N G s a w b b' v st':=by
 simp only[zj]at hc;split at hc
 case h_2=>cases hc
 rename_i t l c ho;simp only[ya]at hc;obtain⟨⟨hT,hl⟩,hcp⟩:=hc;split at hT
 case h_2=>cases hT
 rename_i e he;simp only[ya,decide_eq_true_eq]at hT;obtain⟨⟨⟨h2,h3⟩,hb⟩,h4⟩:=hT;simp only[IOp.sem]at h;split at h
 case h_2=>cases h
 rename_i n c' el ec;split at h
 case isFalse=>cases h
 rename_i hcond;obtain⟨rfl,h0,hm,hby⟩:=hcond;cases h;obtain⟨arr,hrun,hrow⟩:=run_mkslice hS he h2 h3 hb h4 hl hcp ho el ec h0 hm hby;obtain⟨hS',hE⟩:=hS.alloc (.cells arr e) (by first|rfl|trivial) (G':={G with fz:=upd G.fz w.heap.size (n.toNat*sz)}) (fun b hb=>zEa _ _ hb) (fun _ _=>rfl) (fun _ _ _=>rfl) (fun _ _=>rfl);refine⟨rfl,rfl,zub hd hrun hS' hE (fun κ=>VR.tr ?_) (by simp)⟩;have:=rowR_slice (L':=zi G.lc s.st) (arr':=arr) e hrow h4 (k:= .fit) (n:=n.toNat*sz) (cap:=n.toNat) (by simp) (by simp) (by simp) (fun _=>by simp) (fun _ _ h=>h) hE.im (Loc.le_refl _);show VR _ (zi G.lc s.st) _ _
 simpa using this
theorem op_mksliceS{sz by_:Nat}{zero:PV}{ln cp:Arg}(hS:Sim G N s a w)(hd:∀t,oper.dst=some t->t<N)(hc:zj P oper.op (.mksliceS sz zero by_ ln cp)=true)(h:(IOp.mksliceS sz zero by_ ln cp).sem s.fr b s.st=some (v,b',st')):
  b'=b/\zYa P oper N G s a w v s.fr s.bx st':=by
 simp only[zj]at hc;split at hc
 case h_2=>cases hc
 rename_i t l c ho;simp only[ya]at hc;obtain⟨⟨hT,hl⟩,hcp⟩:=hc;split at hT
 case h_2=>cases hT
 rename_i e he;simp only[ya,decide_eq_true_eq]at hT;obtain⟨⟨⟨h2,h3⟩,hb⟩,h4⟩:=hT;simp only[IOp.sem]at h;split at h
 case h_2=>cases h
 rename_i n c' el ec;split at h
 case isFalse=>cases h
 rename_i hcond;obtain⟨rfl,h0,hm,hby⟩:=hcond;cases h;obtain⟨arr,hrun,hrow⟩:=run_mkslice hS he h2 h3 hb h4 hl hcp ho el ec h0 hm hby;exact⟨rfl,good_row hS hd hrow (by simp) hrun⟩
end
theorem splice_get{α:Type}(l vs:List α)(o:Nat)(h:o+vs.length<=l.length)(i:Nat):(l.take o++vs++l.drop (o+vs.length))[i]? =if o<=i/\i<o+vs.length then vs[i-o]? else l[i]? :=by
 by_cases h1:i<o
 ·rw[if_neg (by omega),ym,yq (by simp;omega),yH,if_pos h1]
 ·by_cases h2:i<o+vs.length
  ·rw[if_pos ⟨by omega,h2⟩,yq (by simp;omega),yv (by simp;omega)];simp[show min o l.length=o from by omega]
  ·rw[if_neg (by omega),yv (by simp;omega),yN];congr 1;simp[show min o l.length=o from by omega];omega
def zBa(arr:Array Value)(o:Nat)(vs:List Value):Array Value:=(arr.toList.take o++vs++arr.toList.drop (o+vs.length)).toArray
theorem zpb{arr:Array Value}{o:Nat}{vs:List Value}(h:o+vs.length<=arr.size)(i:Nat):(zBa arr o vs)[i]? =if o<=i/\i<o+vs.length then vs[i-o]? else arr[i]? :=by
 unfold zBa;have:=splice_get arr.toList vs o (by simpa using h) i;simpa using this
theorem zza{arr:Array Value}{o:Nat}{vs:List Value}(h:o+vs.length<=arr.size):(zBa arr o vs).size=arr.size:=by
 simp[zBa];omega
section
variable {P:Program} {G G':Gh} {N:Nat} {s:St} {a:Act} {w w':World} {oper:Oper} {b b':Bx} {st':ze} {v:PV}
structure Turned(w w':World)(b0:Nat)(o:Go.Obj):Prop where
 here:w'.heap[b0]? =some o
 other:∀b,b≠b0->w'.heap[b]? =w.heap[b]?
 size:w'.heap.size=w.heap.size
 os:w'.os=w.os
 output:w'.output=w.output
 frozen:∀x,w'.frozen? x=w.frozen? x
theorem zcb{w:World}{b0:Nat}{cur:Array Value}{e:Nat}{fr:Nat×Nat}(h:w.heap[b0]? =some (.cells cur e fr))(cs:Array Value):Turned w (w.setRow b0 cs) b0 (.cells cs e fr):=
 ⟨setRow_heap w b0 cur cs e fr h,fun b hb=>setRow_other w b0 b cs hb,size_setRow w b0 cs,rfl,rfl,fun x=>by
  by_cases hx:x.block=b0
  ·simp[World.frozen?,hx,h,setRow_heap w b0 cur cs e fr h]
  ·simp[World.frozen?,setRow_other w b0 x.block cs hx]⟩
theorem zha{b0:Nat}{o:Go.Obj}{κ0 κ:Cl}(ht:Turned w w' b0 o)(h0:G.cl b0=some κ0)(hne:κ≠κ0):zic G w G w' κ:=by
 intro bk hb;refine⟨hb,rfl,ht.other bk ?_⟩
 rintro rfl
 rw[h0]at hb;cases hb;exact hne rfl
theorem zbc{b0:Nat}{o:Go.Obj}(ht:Turned w w' b0 o)(h:∀j,j<G.fz b0->w'.cell? ⟨b0,j,none⟩=w.cell? ⟨b0,j,none⟩):(G.im w).le (G.im w'):=by
 intro bk of x hx;unfold Gh.im at hx ⊢;split at hx
 ·rename_i hlt;rw[if_pos hlt];by_cases hb:bk=b0
  ·subst hb;rw[h of hlt];exact hx
  ·rw[World.cell?_of_block (a:=⟨bk,of,none⟩) (ht.other bk hb)];exact hx
 ·cases hx
theorem zqc{b0:Nat}{o:Go.Obj}{κ0:Cl}(ht:Turned w w' b0 o)(h0:G.cl b0=some κ0)(hp:κ0≠ .prot)(hI:(G.im w).le (G.im w')){st st':ze}(hL:(zi G.lc st).le (zi G.lc st')):Ext G st w G st' w':=
 ⟨hI,hL,fun bk hb=>zha ht h0 (fun e=>hp e.symm) bk hb,by rw[ht.size];exact yh _,ht.os,ht.output,fun x _=>ht.frozen x,rfl⟩
theorem fresh_turned{b0:Nat}{o:Go.Obj}(hS:SimS G s.st w)(ht:Turned w w' b0 o):∀b,w'.heap.size<=b->G.fz b=0/\G.cl b=none:=by
 intro bk hb;rw[ht.size]at hb;exact hS.fresh bk hb
theorem Sim.writeBox(hS:Sim G N s a w){k:Nat}{o:Go.Obj}{bn:Bx}(ht:Turned w w' (G.box k) o)(h0:G.cl (G.box k)=some (.box k))(hf:G.fz (G.box k)=0)
  (hbn:BxR G w' (zi G.lc s.st) k bn) (hne:bn≠ .no):Sim G N {s with bx:=upd s.bx k bn} a w'/\(G.im w).le (G.im w'):=by
 have hI:(G.im w).le (G.im w'):=zbc ht (fun j hj=>by rw[hf]at hj;omega);refine⟨⟨hS.defers,hS.size,?_,hS.hi,?_,?_,?_⟩,hI⟩
 ·exact fun t h=>(hS.tmp t h).mono hI (Loc.le_refl _) (zha ht h0 (by simp)) (fun _ _ _=>rfl)
 ·intro t k' off h;simp only[upd];split
  ·exact hne
  ·exact hS.lp t k' off h
 ·intro k';simp only[upd];split
  ·rename_i e;subst e;exact hbn
  ·rename_i e;exact(hS.box k').mono hI (Loc.le_refl _) rfl (zha ht h0 (by simp[e])) (fun _=>zha ht h0 (by simp))
 ·exact⟨fun l ob hl=>(hS.store.obj l ob hl).mono hI (Loc.le_refl _) rfl (zha ht h0 (by simp)) (fun _ _=>zha ht h0 (by simp)),fresh_turned hS.store ht⟩
theorem locOf_set(loc:Nat->Nat×Nat)(st:ze){l:Nat}{o o':Obj}(h:st[l]? =some o)(hs:o'.sz=o.sz):zi loc (st.set l o')=zi loc st:=by
 funext l';unfold zi;by_cases e:l=l'
 ·subst e;rw[yx (yc.1 h).1,h];simp[hs]
 ·rw[yB e]
theorem zyc(loc:Nat->Nat×Nat)(st:ze){l:Nat}{o o':Obj}(h:st[l]? =some o)(hs:o'.sz=o.sz):(zi loc st).le (zi loc (st.set l o')):=by
 rw[locOf_set loc st h hs];exact Loc.le_refl _
theorem Sim.writeObj(hS:Sim G N s a w){l:Nat}{ob on:Obj}{o:Go.Obj}(hl:s.st[l]? =some ob)(hs:on.sz=ob.sz)(ht:Turned w w' (G.loc l) o)(h0:G.cl (G.loc l)=some (.loc l))(hf:G.fz (G.loc l)=0)
  (hon:ObjR G w' (zi G.lc s.st) l on):Sim G N {s with st:=s.st.set l on} a w'/\(G.im w).le (G.im w'):=by
 have hI:(G.im w).le (G.im w'):=zbc ht (fun j hj=>by rw[hf]at hj;omega);have hL:=locOf_set G.lc s.st hl hs;refine⟨⟨hS.defers,hS.size,?_,hS.hi,hS.lp,?_,?_⟩,hI⟩
 ·intro t h;show TR _ _ (zi G.lc (s.st.set l on)) _ _ _
  rw[hL];exact(hS.tmp t h).mono hI (Loc.le_refl _) (zha ht h0 (by simp)) (fun _ _ _=>rfl)
 ·intro k';show BxR _ _ (zi G.lc (s.st.set l on)) _ _
  rw[hL];exact(hS.box k').mono hI (Loc.le_refl _) rfl (zha ht h0 (by simp)) (fun _=>zha ht h0 (by simp))
 ·refine⟨fun l' ob' hl'=>?_,fresh_turned hS.store ht⟩;show ObjR _ _ (zi G.lc (s.st.set l on)) _ _
  rw[hL];simp only at hl';by_cases e:l=l'
  ·subst e;rw[yx (yc.1 hl).1]at hl';cases hl';exact hon
  ·rw[yB e]at hl';exact(hS.store.obj l' ob' hl').mono hI (Loc.le_refl _) rfl (zha ht h0 (by simp;exact fun e'=>e e'.symm)) (fun _ _=>zha ht h0 (by simp))
theorem zJd{oper:Oper}(hdn:∀t,oper.dst=some t->t<N){s1:St}(hrun:(execOp a.eval oper).run P w= .ok .skip w')(hS':Sim G' N s1 a w')(hE:Ext G s.st w G' s1.st w'):zYa P oper N G s a w .undef s1.fr s1.bx s1.st:=
 ⟨_,Go.undef,w',G',hrun,.inr ⟨rfl,rfl⟩,hS'.put hdn (fun t _=>VR.undef _) (by simp),hE⟩
theorem run_storeVar{t sz:Nat}(hsz:szT P t sz=true){mv:Value}(hm:mv.cells.size=sz)(ho:∀(j:Nat) x,mv.cells[j]? =some x->x.oneCell'=true){w:World}{g o:Nat}{cur:Array Value}{e:Nat}(hg:w.heap[g]? =some (.cells cur e (0,0)))(hle:o+sz<=cur.size):
  (storeVar t ⟨g,o,none⟩ mv).run P w= .ok () (w.setRow g (zBa cur o mv.cells.toList)):=by
 have hlen:mv.cells.toList.length=sz:=by simpa using hm
 have:=run_storeCells_at P g o e mv.cells.toList 0 cur w hg (by rw[hlen];simpa using hle) (fun x hx=>by
  obtain⟨j,hj⟩:=yR.1 hx;exact ho j x (by simpa using hj))
 simp only[Nat.add_zero]at this;unfold storeVar;simp only[Sem.run_bind,zia hsz,yl,hm,ne_eq,not_true_eq_false,if_false,Sem.run_pure];exact this
theorem cr_keep{κ:Cl}{L:Loc}(hI:(G.im w).le (G.im w')){b0:Nat}{o:Go.Obj}{κ0:Cl}(ht:Turned w w' b0 o)(h0:G.cl b0=some κ0)(hne:κ≠κ0){c:PV}{mv:Value}(h:CR G w L κ c mv):CR G w' L κ c mv:=
 h.mono hI (Loc.le_refl _) (zha ht h0 hne)
theorem zrd{κ:Nat->Cl}{L:Loc}{κ0:Cl}{b0:Nat}{o:Go.Obj}(hI:(G.im w).le (G.im w'))(ht:Turned w w' b0 o)(h0:G.cl b0=some κ0)(hne:∀j,κ j≠κ0)
  {cs vs:List PV} {arr:Array Value} {base off:Nat} {xs:List Value} (hcs:∀(j:Nat) c,cs[j]? =some c->∃mv,arr[base+j]? =some mv/\CR G w L (κ j) c mv)
  (hle:off+vs.length<=cs.length) (hsz:base+off+xs.length<=arr.size) (hlen:xs.length=vs.length)
  (hvs:∀(j:Nat) c x,vs[j]? =some c->xs[j]? =some x->CR G w' L (κ (off+j)) c x):
  ∀(j:Nat) c,(zzd cs off vs)[j]? =some c->∃mv,(zBa arr (base+off) xs)[base+j]? =some mv/\CR G w' L (κ j) c mv:=by
 intro j c hc;rw[setAt_get hle]at hc;rw[zpb hsz];split at hc
 ·rename_i hj;rw[if_pos ⟨by omega,by omega⟩];have hlt:j-off<xs.length:=by omega
  refine⟨xs[j-off],by rw[show base+j-(base+off)=j-off from by omega];simp[hlt],?_⟩;have:=hvs (j-off) c xs[j-off] hc (by simp[hlt]);rwa[show off+(j-off)=j from by omega]at this
 ·rename_i hj;rw[if_neg (by omega)];obtain⟨mv,m1,m2⟩:=hcs j c hc;exact⟨mv,m1,cr_keep hI ht h0 (hne j) m2⟩
theorem op_store{wh:Where}{sz:Nat}{x y:Arg}(hS:Sim G N s a w)(hd:∀t,oper.dst=some t->t<N)(hc:zj P oper.op (.store wh sz x y)=true)
  (h:(IOp.store wh sz x y).sem s.fr (zY s.bx wh.box?) s.st=some (v,b',st')):v= .undef/\zYa P oper N G s a w v s.fr (zGb s.bx wh.box? b') st':=by
 simp only[zj]at hc;split at hc
 case h_2=>cases hc
 rename_i t ad vl ho;simp only[ya]at hc;obtain⟨⟨h1,h2⟩,h3⟩:=hc;simp only[IOp.sem,zUb]at h;split at h
 case isFalse=>cases h
 rename_i hvar;simp only[ya,beq_iff_eq]at hvar;obtain⟨hvar,hsz⟩:=hvar;have hvr:=arg_vr hS h2 (ztb hvar);obtain⟨c1,c2,c3⟩:=vr_cells hvar hvr;have hms:(a.eval vl).cells.size=sz:=by rw[c1,hsz]
 have hlen:(a.eval vl).cells.toList.length=sz:=by simpa using hms
 split at h
 ·rename_i k k' off hv;split at h
  case isFalse=>cases h
  rename_i hk;subst hk;split at h
  case h_2=>cases h
  rename_i cs hb;split at h
  case isFalse=>cases h
  rename_i hle;cases h;simp only[zY,Where.box?]at hb;have hbx:=hS.box k;rw[hb]at hbx;obtain⟨e1,e2,arr,e,e3,e4,e5⟩:=hbx;have hrun:=run_storeVar (P:=P) h3 hms c2 e3 (o:=off) (by rw[e4];exact hle);have ht:=zcb e3 (zBa arr off (a.eval vl).cells.toList);have hI:(G.im w).le (G.im (w.setRow (G.box k) (zBa arr off (a.eval vl).cells.toList))):=zbc ht (fun j hj=>by rw[e2]at hj;omega);have hcells:=zrd (G:=G) (κ:=fun j=> .ownB k j) (base:=0) (off:=off) (xs:=(a.eval vl).cells.toList) (vs:=cellsOf (strip (y.val s.fr))) hI ht e1 (by simp)
   (fun j c hj=>by simpa using e5 j c hj) (by rw[hsz];exact hle) (by rw[e4,hlen];omega) (by rw[hlen,hsz])
   (fun j c x hc hx=>((c3 j c x hc (by simpa using hx)).mono hI (Loc.le_refl _)).cr (c2 j x (by simpa using hx)))
  simp only[yV]at hcells;obtain⟨hS',_⟩:=hS.writeBox (bn:= .cells (zzd cs off (cellsOf (strip (y.val s.fr))))) ht e1 e2 ⟨e1,e2,_,e,ht.here,by rw[zza (by rw[e4,hlen];exact hle),setAt_length (by rw[hsz];exact hle),e4],hcells⟩ (by simp);refine⟨rfl,zJd (s1:={s with bx:=upd s.bx k _}) hd ?_ hS' (zqc ht e1 (by simp) hI (Loc.le_refl _))⟩;simp[execOp,ho,Instr.storeAt,ztd hS h1 hv,Instr.sureAddr,hrun]
 ·rename_i l i off hv;split at h
  case h_2=>cases h
  rename_i sz' es hst;split at h
  case h_2=>cases h
  rename_i e0 he0;split at h
  case isFalse=>cases h
  rename_i hle;obtain⟨hle,hkind⟩:=hle;cases h;have hptr:=zba hS h1 hv (by simp) (by simp);obtain⟨e1,e2,arr,e,e3,e4,e5⟩:=hS.store.obj l _ hst;obtain⟨d1,d2,d3⟩:=e5 i e0 he0;have hloc:zi G.lc s.st l=some (G.loc l,sz',G.room l):=by simp[zi,Gh.lc,hst,Obj.sz]
  have heval:a.eval ad= .pointer (some ⟨G.loc l,i*sz'+off,none⟩):=by
   generalize a.eval ad=m at hptr;cases hptr with
   |ptr hh=>rw[hloc]at hh;cases hh;rfl
  have hi:i<es.length:=(yc.1 he0).1;have hbound:(i+1)*sz'<=es.length*sz':=yo _ hi;rw[yE,Nat.one_mul]at hbound;have hle2:i*sz'+off+sz<=arr.size:=by have:=e4.2;rw[d1]at hle;omega
  have hrun:=run_storeVar (P:=P) h3 hms c2 e3 (o:=i*sz'+off) hle2;have ht:=zcb e3 (zBa arr (i*sz'+off) (a.eval vl).cells.toList);have hI:(G.im w).le (G.im (w.setRow (G.loc l) (zBa arr (i*sz'+off) (a.eval vl).cells.toList))):=zbc ht (fun j hj=>by rw[e2]at hj;omega);have hcells:=zrd (G:=G) (κ:=fun j=> .ownS l i j) (base:=i*sz') (off:=off) (xs:=(a.eval vl).cells.toList) (vs:=cellsOf (strip (y.val s.fr))) hI ht e1 (by simp)
   (fun j c hj=>d3 j c hj) (by rw[hsz];exact hle) (by rw[hlen];exact hle2) (by rw[hlen,hsz])
   (fun j c x hc hx=>((c3 j c x hc (by simpa using hx)).mono hI (Loc.le_refl _)).cr (c2 j x (by simpa using hx)))
  have hreb:cellsOf (zCa e0 (zzd (cellsOf e0) off (cellsOf (strip (y.val s.fr)))))=zzd (cellsOf e0) off (cellsOf (strip (y.val s.fr)))/\zG (zCa e0 (zzd (cellsOf e0) off (cellsOf (strip (y.val s.fr)))))=true:=by
   cases e0 with
   |agg cs0=>exact⟨rfl,rfl⟩
   |_=>
    simp only[isAggV,yI]at hkind;have hcv:cellsOf (strip (y.val s.fr))=[strip (y.val s.fr)]:=by
     cases hq:strip (y.val s.fr)<;>first|rfl|(rw[hq]at hkind;cases hkind)
    rw[hcv]at hsz ⊢;simp only[cellsOf,yd,yg]at hle hsz;have h0:off=0:=by omega
    subst h0;exact⟨hcv,hvar⟩
  obtain⟨hS',_⟩:=hS.writeObj (on:= .arr sz' (es.set i (zCa e0 (zzd (cellsOf e0) off (cellsOf (strip (y.val s.fr))))))) hst rfl ht e1 e2 (by
   refine⟨e1,e2,_,e,ht.here,⟨by rw[zza (by rw[hlen];exact hle2)];exact e4.1,by rw[zza (by rw[hlen];exact hle2)];simpa using e4.2⟩,?_⟩;intro i' p hp;by_cases hii:i=i'
   ·subst hii;rw[yx hi]at hp;cases hp;rw[hreb.1];exact⟨by rw[setAt_length (by rw[hsz];exact hle),d1],hreb.2,hcells⟩
   ·rw[yB hii]at hp;obtain⟨q1,q2,q3⟩:=e5 i' p hp;refine⟨q1,q2,fun j c hj=>?_⟩;obtain⟨mv,m1,m2⟩:=q3 j c hj;refine⟨mv,?_,cr_keep hI ht e1 (by simp) m2⟩;rw[zpb (by rw[hlen];exact hle2),if_neg,m1];have hj':j<sz':=by rw[<-q1];exact(yc.1 hj).1
    rw[hlen];rw[d1]at hle;rcases yA i i' with hlt|hge
    ·have:(i+1)*sz'<=i'*sz':=yo _ hlt;rw[yE]at this;omega
    ·have:(i'+1)*sz'<=i*sz':=yo _ (by omega);rw[yE]at this;omega)
  refine⟨rfl,zJd (s1:={s with st:=s.st.set l _}) hd ?_ hS' (zqc ht e1 (by simp) hI (zyc G.lc s.st hst rfl))⟩;simp[execOp,ho,Instr.storeAt,heval,Instr.sureAddr,hrun]
 ·cases h
theorem sem_storeN{fr:Fr}{b b':Bx}{st st':ze}{q:Nat}{sz:Nat}{x y:Arg}{v:PV}(h:(IOp.storeN q sz x y).sem fr b st=some (v,b',st')):(IOp.store .any sz x y).sem fr b st=some (v,b',st'):=by
 simp only[IOp.sem,zUb]at h ⊢;split at h
 case h_2=>cases h
 rename_i l i off hx;split at h
 case isFalse=>cases h
 rename_i hl;subst hl;simp only[hx];exact h
theorem op_storeN{q:Nat}{sz:Nat}{x y:Arg}(hS:Sim G N s a w)(hd:∀t,oper.dst=some t->t<N)(hc:zj P oper.op (.storeN q sz x y)=true)
  (h:(IOp.storeN q sz x y).sem s.fr (zY s.bx none) s.st=some (v,b',st')):v= .undef/\zYa P oper N G s a w v s.fr (zGb s.bx none b') st':=
 op_store (wh:= .any) hS hd hc (sem_storeN h)
theorem zFd{κ κ':Cl}{L:Loc}{sz:Nat}{l:List PV}{mv:Value}(h:OwnR G w L κ sz l mv):∃b0,G.cl b0=some κ∧
  ∀G',G'.cl b0=some κ'->G'.fz=G.fz->OwnR G' w L κ' sz l mv:=by
 obtain⟨b0,cap,arr,e,h1,h2,h3,h5,h6,h7,h8,h9,h10⟩:=h;refine⟨b0,h2,fun G' hc hf=>⟨b0,cap,arr,e,h1,hc,h3,h5,h6,h7,by rw[hf];exact h8,h9,?_⟩⟩;have:G'.im w=G.im w:=by unfold Gh.im;rw[hf]
 rw[this];exact h10
def handOn(G:Gh)(b0:Nat)(κ':Cl):Gh:={G with cl:=upd G.cl b0 (some κ')}
theorem zbb{b0:Nat}{κ0 κ' κ:Cl}(h0:G.cl b0=some κ0)(hne:κ≠κ0):zic G w (handOn G b0 κ') w κ:=by
 intro bk hb;refine⟨?_,rfl,rfl⟩;unfold handOn;simp only;rw[zEa]
 ·exact hb
 ·rintro rfl;rw[h0]at hb;cases hb;exact hne rfl
theorem zKd{b0:Nat}{κ0 κ':Cl}(h0:G.cl b0=some κ0)(hp:κ0≠ .prot){st st':ze}(hL:(zi G.lc st).le (zi G.lc st')):Ext G st w (handOn G b0 κ') st' w:=
 ⟨Im.le_refl _,hL,fun bk hb=>zbb h0 (fun e=>hp e.symm) bk hb,yh _,rfl,rfl,fun _ _=>rfl,rfl⟩
theorem zid{L:Loc}{κ:Cl}{sz:Nat}{l:List PV}{mv:Value}(h:OwnR G w L κ sz l mv):VR (G.im w) L (.slice .plain sz l) mv:=
 h.choose_spec.choose_spec.choose_spec.choose_spec.2.2.2.2.2.2.2.2
theorem tmp_handOn(hS:Sim G N s a w){src:Nat}{b0:Nat}{κ':Cl}(h0:G.cl b0=some (.ownT src)):∀t,t<N->TR (handOn G b0 κ') w (zi G.lc s.st) (.ownT t) (upd s.fr src (strip (s.fr src)) t) (a.tmps.getD t Go.undef):=by
 intro t ht;simp only[upd];split
 ·rename_i e;subst e;have:=(hS.tmp t ht).strip (.ownT t);have hs:∀sz l,strip (s.fr t)≠ .slice .own sz l:=by
   intro sz l;cases s.fr t<;>simp[strip]
   rename_i k _ _;cases k<;>simp
  cases hv:strip (s.fr t)with
  |slice k sz l=>
   rw[hv]at this;cases k with
   |own=>exact absurd hv (hs _ _)
   |plain=>exact this
   |fit=>exact this
   |firm=>exact this
  |lptr k off=>rw[hv]at this;exact this
  |_=>rw[hv]at this;exact this
 ·rename_i e;exact(hS.tmp t ht).mono (G:=G) (G':=handOn G b0 κ') (w:=w) (w':=w) (Im.le_refl _) (Loc.le_refl _) (zbb (κ:= .ownT t) h0 (by simp[e])) (fun _ _ _=>rfl)
theorem Sim.handOn(hS:Sim G N s a w){src b0:Nat}{κ':Cl}(h0:G.cl b0=some (.ownT src)):Sim (handOn G b0 κ') N {s with fr:=upd s.fr src (strip (s.fr src))} a w:=by
 refine⟨hS.defers,hS.size,tmp_handOn hS h0,?_,?_,?_,?_⟩
 ·intro t ht;simp only[upd];split
  ·rename_i e;rw[<-e,hS.hi t ht];rfl
  ·exact hS.hi t ht
 ·intro t k off h;simp only[upd]at h;split at h
  ·rename_i e;exact hS.lp src k off (zLc h)
  ·exact hS.lp t k off h
 ·exact fun k=>(hS.box k).mono (G:=G) (G':=PE.handOn G b0 κ') (w:=w) (w':=w) (Im.le_refl _) (Loc.le_refl _) rfl (zbb (κ:= .box k) h0 (by simp)) (fun j=>zbb (κ:= .ownB k j) h0 (by simp))
 ·exact⟨fun l o hl=>(hS.store.obj l o hl).mono (G:=G) (G':=PE.handOn G b0 κ') (w:=w) (w':=w) (Im.le_refl _) (Loc.le_refl _) rfl (zbb (κ:= .loc l) h0 (by simp)) (fun i j=>zbb (κ:= .ownS l i j) h0 (by simp)),fun bk hb=>by
   refine⟨(hS.store.fresh bk hb).1,?_⟩;unfold PE.handOn;simp only;rw[zEa]
   ·exact(hS.store.fresh bk hb).2
   ·rintro rfl;rw[(hS.store.fresh _ hb).2]at h0;cases h0⟩
theorem Sim.stripTmp(hS:Sim G N s a w)(src:Nat):Sim G N {s with fr:=upd s.fr src (strip (s.fr src))} a w:=by
 refine⟨hS.defers,hS.size,?_,?_,?_,hS.box,hS.store⟩
 ·intro t ht;simp only[upd];split
  ·rename_i e;subst e;exact(hS.tmp t ht).strip _
  ·exact hS.tmp t ht
 ·intro t ht;simp only[upd];split
  ·rename_i e;rw[<-e,hS.hi t ht];rfl
  ·exact hS.hi t ht
 ·intro t k off h;simp only[upd]at h;split at h
  ·exact hS.lp src k off (zLc h)
  ·exact hS.lp t k off h
theorem op_take{src:Nat}(hS:Sim G N s a w)(hd:∀t,oper.dst=some t->t<N)(hdn:oper.dst≠none)(hc:zj P oper.op (.take src)=true)(h:(IOp.take src).sem s.fr b s.st=some (v,b',st')):
  b'=b/\st'=s.st/\zYa P oper N G s a w v (upd s.fr src (strip (s.fr src))) s.bx s.st:=by
 simp only[IOp.sem,Option.some.injEq,Prod.mk.injEq]at h;obtain⟨rfl,rfl,rfl⟩:=h;refine⟨rfl,rfl,?_⟩;simp only[zj]at hc;obtain⟨x,hx,hrun⟩:∃x,zO x (.t src)=true/\(execOp a.eval oper).run P w= .ok (.value (a.eval x)) w:=by
  split at hc
  ·rename_i y ho;exact⟨y,hc,by simp[execOp,ho]⟩
  ·rename_i y ho;exact⟨y,hc,by simp[execOp,ho]⟩
  ·cases hc
 cases x<;>simp[zO]at hx
 rename_i t0;subst hx;by_cases hN:t0<N
 ·have htr:=hS.tmp t0 hN;have hev:a.eval (.tmp t0)=a.tmps.getD t0 Go.undef:=rfl;rw[hev]at hrun;by_cases hown:∃sz l,s.fr t0= .slice .own sz l
  ·obtain⟨sz,l,ho⟩:=hown;rw[ho]at htr;obtain⟨d,hdd⟩:=Option.ne_none_iff_exists'.1 hdn;obtain⟨b0,h0,hnew⟩:=zFd (κ':= .ownT d) htr;have hS':=hS.handOn (κ':= .ownT d) h0;refine⟨_,a.tmps.getD t0 Go.undef,w,PE.handOn G b0 (.ownT d),hrun,.inl rfl,hS'.put hd ?_ (by rw[ho];simp),zKd h0 (by simp) (Loc.le_refl _)⟩;intro t ht;rw[hdd]at ht;cases ht;rw[ho];exact hnew _ (by simp[PE.handOn,upd]) rfl
  ·have hS':=hS.stripTmp t0;refine⟨_,a.tmps.getD t0 Go.undef,w,G,hrun,.inl rfl,hS'.put hd ?_ (fun k off e=>hS.lp t0 k off e),Ext.refl _ _ _⟩;intro t ht;have hs:strip (s.fr t0)=s.fr t0:=by
    cases hq:s.fr t0 with
    |slice k sz l=>cases k<;>first|rfl|exact absurd ⟨_,_,hq⟩ hown
    |_=>rfl
   have:=htr.strip (.ownT t);rw[hs]at this;exact this
 ·have hu:=hS.hi t0 (Nat.le_of_not_lt hN);have hS':=hS.stripTmp t0;refine⟨_,_,w,G,hrun,.inl rfl,hS'.put hd ?_ (by rw[hu];simp),Ext.refl _ _ _⟩;intro t ht;rw[hu];exact VR.undef _
end
end PE
