/-
  When plain code is a reading of the machine's: a look at both texts, operation by operation.
-/
import Derived.Test.YtpjbeahllepfmaaPeSim
set_option linter.unusedVariables false
set_option linter.unusedSimpArgs false
namespace PE
open Go

mutual
def okVal : PV → Value → Bool
  | .undef, _ => true
  | .bool a, .bool b => a == b
  | .int k n, .int k' n' => decide (k = k') && decide (n = n')
  | .str s, .string b => decide (s = b.data.toList)
  | .nilp, .pointer none => true
  | .nilfn, .nilFunc => true
  | .nilmap, .map none => true
  | .nilif, .nilIface => true
  | .slice k _ [], .slice none 0 0 => decide (k ≠ .own)
  | .agg cs, .agg vs => vs.all (·.oneCell') && okVals cs vs.toList
  | .iface t v, .iface t' v' => decide (t = t') && okVal v v'
  | _, _ => false
def okVals : List PV → List Value → Bool
  | [], [] => true
  | c :: cs, v :: vs => okVal c v && okVals cs vs
  | _, _ => false
end

def okArg : Operand → Arg → Bool
  | .tmp t, .t n => decide (t = n)
  | .const v, .c p => okVal p v
  | .func f, .c (.fn g [] []) => decide (f = g)
  | _, _ => false

def okArgs : List Operand → List Arg → Bool
  | [], [] => true
  | x :: xs, a :: as => okArg x a && okArgs xs as
  | _, _ => false

def okOpt : Option Operand → Option Arg → Bool
  | none, none => true
  | some x, some a => okArg x a
  | _, _ => false

def isAggT (P : Program) (t : Nat) : Bool := match P.underlying t with
  | some (.struct _) | some (.array _ _) => true
  | some _ => false
  | none => false

def hasU (P : Program) (t : Nat) : Bool := (P.underlying t).isSome

/-- A type's size in cells, where it is one. -/
def szT (P : Program) (t sz : Nat) : Bool := match P.info? t with
  | some i => decide (i.size = sz)
  | none => false

def zeroT (P : Program) (t : Nat) (z : PV) : Bool := match P.info? t with
  | some i => match i.zero with
    | some v => okVal z v && decide ((cellsOf z).length = i.size) && isVar z && (cellsOf z).all isCell
    | none => false
  | none => false

def bytesT (P : Program) (t n : Nat) : Bool := match P.info? t with
  | some i => decide (i.bytes = n)
  | none => false

def sliceT (P : Program) (t : Nat) : Option Nat := match P.underlying t with
  | some (.slice e) => some e
  | _ => none

def okParts (P : Program) (place : Nat → Option (Nat × Nat)) : List (Nat × Operand) → List (Nat × Nat × Arg) → Bool
  | [], [] => true
  | (i, x) :: xs, (off, sz, a) :: as => decide (place i = some (off, sz)) && okArg x a && okParts P place xs as
  | _, _ => false

def okElems : List (Nat × Operand) → List (Nat × Arg) → Bool
  | [], [] => true
  | (i, x) :: xs, (j, a) :: as => decide (i = j) && okArg x a && okElems xs as
  | _, _ => false

def fieldPlaces (P : Program) (t : Nat) : Nat → Option (Nat × Nat) := match P.underlying t with
  | some (.struct fs) => fun i => match fs[i]? with
    | some f => (P.info? f.type).map fun j => (f.offset, j.size)
    | none => none
  | some (.array _ e) => fun i => (P.info? e).map fun j => (i * j.size, j.size)
  | _ => fun _ => none

def allSized (P : Program) (t : Nat) : Bool := match P.underlying t with
  | some (.struct fs) => fs.toList.all fun f => (P.info? f.type).isSome
  | some (.array _ e) => (P.info? e).isSome
  | _ => false

/-- A field's place: its offset, its size, whether it is an aggregate. -/
def okField (P : Program) (t f off : Nat) : Bool := match P.underlying t with
  | some (.struct fs) => match fs[f]? with
    | some g => decide (g.offset = off) && (match P.info? g.type with | some i => decide (i.size ≠ 0) | none => false)
    | none => false
  | _ => false

def okFieldV (P : Program) (t f : Nat) (ag : Bool) (off sz : Nat) : Bool := match P.underlying t with
  | some (.struct fs) => match fs[f]? with
    | some g => decide (g.offset = off) && szT P g.type sz && hasU P g.type && (isAggT P g.type == ag)
    | none => false
  | _ => false

def intLike (P : Program) (t : Nat) : Bool := match P.underlying t with
  | some (.int _) => true
  | _ => false

def kindT (P : Program) (t : Nat) : Option Nat := match P.underlying t with
  | some (.int _) => some 0
  | some .bool => some 1
  | some .string => some 2
  | _ => none

def flatFields (P : Program) : List Field → Nat → List Nat → Bool
  | [], _, [] => true
  | f :: fs, i, k :: ks => decide (f.offset = i) && decide (f.name ≠ "_") && decide (kindT P f.type = some k) && hasU P f.type && !(isAggT P f.type) && flatFields P fs (i + 1) ks
  | _, _, _ => false

/-- An aggregate of cells that are compared one by one. -/
def flatT (P : Program) (t : Nat) (ks : List Nat) : Bool := !(P.eqGuardType P.depth t) && (match P.underlying t with
  | some (.struct fs) => flatFields P fs.toList 0 ks && !(P.stoodInHeld t)
  | some (.array n e) => szT P e 1 && hasU P e && !(isAggT P e) && (match kindT P e with
    | some k => decide (ks = List.replicate n k)
    | none => false)
  | _ => false)

/-- The type's kind, as an operator's 'tk' says it. -/
def okTk (P : Program) (op : BinOp) (t tk : Nat) (ks : List Nat) : Bool := match op with
  | .eql | .neq => match P.underlying t with
    | some .bool => decide (tk = 1)
    | some (.pointer _) => decide (tk = 3)
    | some (.int _) | some .string => decide (tk = 0)
    | some (.struct _) | some (.array _ _) => decide (tk = 4) && flatT P t ks
    | _ => false
  | _ => decide (tk = 0)

def mapT (P : Program) (t : Nat) : Option (Bool × Nat) := match P.underlying t with
  | some (.map kt e) => match P.underlying kt with
    | some (.int _) => some (false, e)
    | some .string => some (true, e)
    | _ => none
  | _ => none

def okSlcT (P : Program) (t : Nat) : Option Bool := match P.underlying t with
  | some .string => some true
  | some (.slice _) => some false
  | _ => none

def isStrT (P : Program) (t : Nat) : Bool := match P.underlying t with
  | some .string => true
  | _ => false

def okLenT (P : Program) (t : Nat) : Option Nat := match P.underlying t with
  | some .string => some 0
  | some (.slice _) => some 1
  | some (.map _ _) => some 2
  | _ => none

def arrT (P : Program) (t n sz : Nat) : Option Nat := match P.underlying t with
  | some (.array m e) => if m = n ∧ szT P e sz then some e else none
  | _ => none

def okIface (P : Program) (t : Nat) : Bool := match P.underlying t with
  | some (.interface _) => false
  | some _ => true
  | none => false

def okConv (P : Program) (s d : Nat) (k : IntKind) : Bool := hasU P s && (match P.underlying d with
  | some (.int k') => decide (k = k')
  | _ => false)

def okAppT (P : Program) (ts : List Nat) (sz by_ : Nat) : Bool := match ts with
  | [t, u] => (match sliceT P t with
      | some e => szT P e sz && bytesT P e by_ && decide (0 < by_) && decide (0 < sz) && (match P.info? e with
        | some i => (match i.zero with
          | some z => decide (z.cells.size = sz)
          | none => false)
        | none => false)
      | none => false) && (okSlcT P u).isSome
  | _ => false

def checkOp (P : Program) (o : Op) (g : IOp) : Bool :=
  match g with
  | .mv a => match o with
    | .move x | .assign x => okArg x a
    | _ => false
  | .take s => match o with
    | .move x | .assign x => okArg x (.t s)
    | _ => false
  | .pick c' a' b' => match o with
    | .pick c a b => okArg c c' && okArg a a' && okArg b b'
    | _ => false
  | .boxL _ a => match o with
    | .alloc e => (match a with | .c z => zeroT P e z | _ => false)
    | .box _ x => okArg x a
    | _ => false
  | .boxI a => match o with
    | .alloc e => (match a with | .c z => zeroT P e z | _ => false)
    | .box _ x => okArg x a
    | _ => false
  | .boxS sz a => match o with
    | .alloc e => (match a with | .c z => zeroT P e z | _ => false)
    | .box _ x => okArg x a
    | _ => false
  | .build zero parts' => match o with
    | .build t parts => zeroT P t (.agg zero) && allSized P t && okParts P (fieldPlaces P t) parts.toList parts'
    | _ => false
  | .bslice sz zero n' parts' => match o with
    | .buildSlice t n parts => (match sliceT P t with
      | some e => decide (n = n') && szT P e sz && zeroT P e zero && decide (0 < sz) && decide (n * sz ≤ 16777216) && okElems parts.toList parts'
      | none => false)
    | _ => false
  | .bsliceS sz zero n' parts' => match o with
    | .buildSlice t n parts => (match sliceT P t with
      | some e => decide (n = n') && szT P e sz && zeroT P e zero && decide (0 < sz) && decide (n * sz ≤ 16777216) && okElems parts.toList parts'
      | none => false)
    | _ => false
  | .load _ ag sz a => match o with
    | .load t x => okArg x a && szT P t sz && hasU P t && (isAggT P t == ag)
    | _ => false
  | .loadT _ a => match o with
    | .load t x => okArg x a && szT P t 1 && hasU P t && (isAggT P t == false)
    | _ => false
  | .store _ sz a b => match o with
    | .store t x v => okArg x a && okArg v b && szT P t sz
    | _ => false
  | .storeT _ a b => match o with
    | .store t x v => okArg x a && okArg v (.t b) && szT P t 1
    | _ => false
  | .nilck a => match o with
    | .nilCheck x => okArg x a
    | _ => false
  | .bin tk ks op' a b => match o with
    | .binOp op t x y _ => decide (op = op') && okArg x a && okArg y b && okTk P op t tk ks
    | _ => false
  | .un op' a => match o with
    | .unOp op _ x => decide (op = op') && okArg x a
    | _ => false
  | .conv k a => match o with
    | .convert s d x => okConv P s d k && okArg x a
    | _ => false
  | .mkif t' a => match o with
    | .makeInterface t x => decide (t = t') && okArg x a && okIface P t
    | _ => false
  | .mkfn f' first' caps' => match o with
    | .makeFunc (.func f) first caps => decide (f = f') && okArgs first.toList first' && okArgs caps.toList caps'
    | _ => false
  | .mkmap => match o with
    | .makeMap _ none => true
    | _ => false
  | .lookup ks ok' z m' k' => match o with
    | .lookup t m k ok => (match mapT P t with
      | some (ks', e) => (ks == ks') && zeroT P e z
      | none => false) && (ok == ok') && okArg m m' && okArg k k'
    | _ => false
  | .mapset ks m' k' v' => match o with
    | .mapUpdate t m k v | .insert t m k v => (match mapT P t with
      | some (ks', _) => ks == ks'
      | none => false) && okArg m m' && okArg k k' && okArg v v'
    | _ => false
  | .mkslice sz z by_ l' c' => match o with
    | .makeSlice t l c => (match sliceT P t with
      | some e => szT P e sz && zeroT P e z && bytesT P e by_ && decide (0 < sz)
      | none => false) && okArg l l' && okArg c c'
    | _ => false
  | .mksliceS sz z by_ l' c' => match o with
    | .makeSlice t l c => (match sliceT P t with
      | some e => szT P e sz && zeroT P e z && bytesT P e by_ && decide (0 < sz)
      | none => false) && okArg l l' && okArg c c'
    | _ => false
  | .slc isS z a lo' hi' mx' => match o with
    | .slice t x lo hi mx => decide (okSlcT P t = some isS) && (isS || (match sliceT P t with
      | some e => szT P e z
      | none => false)) && okArg x a && okOpt lo lo' && okOpt hi hi' && okOpt mx mx' && (mx.isNone || hi.isSome)
    | _ => false
  | .faddr off a => match o with
    | .fieldAddr t x f => okArg x a && okField P t f off
    | _ => false
  | .iaddr sz a i' => match o with
    | .indexAddr t x i => (match sliceT P t with
      | some e => szT P e sz
      | none => false) && okArg x a && okArg i i'
    | _ => false
  | .iaddrA n sz a i' => match o with
    | .indexAddr t x i => (arrT P t n sz).isSome && decide (0 < sz) && okArg x a && okArg i i'
    | _ => false
  | .idxS a i' => match o with
    | .index t x i => isStrT P t && okArg x a && okArg i i'
    | _ => false
  | .idxA n sz ag a i' => match o with
    | .index t x i => (match arrT P t n sz with
      | some e => hasU P e && (isAggT P e == ag)
      | none => false) && okArg x a && okArg i i'
    | _ => false
  | .ext a i' => match o with
    | .extract x i => okArg x a && decide (i = i')
    | _ => false
  | .fld ag off sz a => match o with
    | .field t x f => okArg x a && okFieldV P t f ag off sz
    | _ => false
  | .call _ f' args' => match o with
    | .call c => (match c.callee with
      | .value f => okArg f f' && okArgs c.args.toList args'
      | _ => false)
    | _ => false
  | .len tk a => match o with
    | .call c => (match c.callee with
      | .builtin .len => (match c.args.toList, c.argTypes.toList with
        | [x], [t] => okArg x a && decide (okLenT P t = some tk)
        | _, _ => false)
      | _ => false)
    | _ => false
  | .append sz by_ a b => match o with
    | .call c => (match c.callee with
      | .builtin .append => (match c.args.toList with
        | [x, y] => okArg x a && okArg y b
        | _ => false) && okAppT P c.argTypes.toList sz by_
      | _ => false)
    | _ => false
  | .max2 a b => match o with
    | .call c => (match c.callee with
      | .builtin .max => (match c.args.toList with
        | [x, y] => okArg x a && okArg y b
        | _ => false)
      | _ => false)
    | _ => false
  | .min2 a b => match o with
    | .call c => (match c.callee with
      | .builtin .min => (match c.args.toList with
        | [x, y] => okArg x a && okArg y b
        | _ => false)
      | _ => false)
    | _ => false
  | .panic a => match o with
    | .panic x => okArg x a
    | _ => false
  | .rng _ a => match o with
    | .range t x => isStrT P t && okArg x a
    | _ => false
  | .next _ a => match o with
    | .next i true => okArg i a
    | _ => false

end PE
