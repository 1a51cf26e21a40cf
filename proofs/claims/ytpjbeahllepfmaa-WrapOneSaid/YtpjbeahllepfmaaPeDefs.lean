/-
  Plain values, plain code, and what plain code does: a big-step reading of Go code in which a slice that is only read is a list, a struct is a list of cells, and only what is shared and written lies in a store.
-/
import Derived.Calls
set_option linter.unusedVariables false
set_option linter.unusedSimpArgs false
namespace PE
open Go

/-- How a slice may grow: 'plain': not at all; 'fit': its capacity is its length; 'own': what lies behind its length is its own. -/
inductive SK where
  | plain | fit | own
  deriving DecidableEq

/-- A plain value. -/
inductive PV where
  | undef
  | bool (b : Bool)
  | int (k : IntKind) (n : Int)
  | str (s : List UInt8)
  | nilp
  | ptr (l i off : Nat)
  | lptr (k off : Nat)
  | iptr (cells : List PV) (off : Nat)
  | slice (k : SK) (sz : Nat) (l : List PV)
  | mslice (l off len sz : Nat)
  | agg (cells : List PV)
  | tup (vs : List PV)
  | fn (f : Nat) (first caps : List PV)
  | nilfn
  | mp (r : Nat)
  | nilmap
  | iface (t : Nat) (v : PV)
  | nilif
  deriving Inhabited

/-- An object of the store: a row of elements of so many cells each, or a map. -/
inductive Obj where
  | arr (sz : Nat) (es : List PV)
  | mp (es : List (PV × PV))

abbrev Store := List Obj

/-- A variable of a call's own that has an address: nothing, its cells, or an iterator over a text. -/
inductive Bx where
  | no
  | cells (l : List PV)
  | iter (s : List UInt8) (pos : Nat)

abbrev Fr := Nat → PV
abbrev Bxs := Nat → Bx

def upd {α : Type} (f : Nat → α) (k : Nat) (v : α) : Nat → α := fun j => if j = k then v else f j

theorem upd_eq {α : Type} (f : Nat → α) (k : Nat) (v : α) : upd f k v k = v := by simp [upd]
theorem upd_ne {α : Type} (f : Nat → α) {k j : Nat} (v : α) (h : j ≠ k) : upd f k v j = f j := by simp [upd, h]
theorem upd_comm {α : Type} (f : Nat → α) {k j : Nat} (u v : α) (h : j ≠ k) : upd (upd f k u) j v = upd (upd f j v) k u := by
  funext x; unfold upd; split <;> split <;> simp_all
theorem upd_same {α : Type} (f : Nat → α) (k : Nat) (u v : α) : upd (upd f k u) k v = upd f k v := by
  funext x; unfold upd; split <;> simp_all

structure St where
  fr : Fr
  bx : Bxs
  st : Store

def strip : PV → PV
  | .slice .own sz l => .slice .plain sz l
  | v => v

def cellsOf : PV → List PV
  | .agg cs => cs
  | v => [v]

/-- May stand in one cell of memory. -/
def isCell : PV → Bool
  | .undef | .agg _ | .tup _ | .lptr .. => false
  | _ => true

/-- May be laid into memory: a cell, or an aggregate (whose cells are such). -/
def isVar : PV → Bool
  | .agg _ => true
  | v => isCell v

/-- Data alone: nothing that leads into the store, but for what may not be written. -/
def avoids (dead : List Nat) : PV → Bool
  | .lptr k _ => !dead.contains k
  | _ => true

inductive Arg where
  | t (n : Nat)
  | c (v : PV)

def Arg.val (fr : Fr) : Arg → PV
  | .t n => fr n
  | .c v => v

/-- What a call comes to. -/
inductive CRes where
  | ret (v : PV)
  | pan (v : PV)

inductive Where where
  | any
  | imm
  | box (k : Nat)

inductive IOp where
  | mv (a : Arg)
  | take (s : Nat)
  | pick (c a b : Arg)
  | boxL (k : Nat) (a : Arg)
  | boxI (a : Arg)
  | boxS (sz : Nat) (a : Arg)
  | build (zero : List PV) (parts : List (Nat × Nat × Arg))
  | bslice (sz : Nat) (zero : PV) (n : Nat) (parts : List (Nat × Arg))
  | bsliceS (sz : Nat) (zero : PV) (n : Nat) (parts : List (Nat × Arg))
  | load (w : Where) (ag : Bool) (sz : Nat) (a : Arg)
  | loadT (w : Where) (a : Arg)
  | store (w : Where) (sz : Nat) (a v : Arg)
  | storeT (w : Where) (a : Arg) (t : Nat)
  | nilck (a : Arg)
  | bin (tk : Nat) (ks : List Nat) (op : BinOp) (a b : Arg)
  | un (op : UnOp) (a : Arg)
  | conv (k : IntKind) (a : Arg)
  | mkif (t : Nat) (a : Arg)
  | mkfn (f : Nat) (first caps : List Arg)
  | mkmap
  | lookup (ks ok : Bool) (zero : PV) (m k : Arg)
  | mapset (ks : Bool) (m k v : Arg)
  | mkslice (sz : Nat) (zero : PV) (bytes : Nat) (len cap : Arg)
  | mksliceS (sz : Nat) (zero : PV) (bytes : Nat) (len cap : Arg)
  | slc (isS : Bool) (sz : Nat) (x : Arg) (lo hi mx : Option Arg)
  | faddr (off : Nat) (a : Arg)
  | iaddr (sz : Nat) (a i : Arg)
  | iaddrA (n sz : Nat) (a i : Arg)
  | idxS (a i : Arg)
  | idxA (n sz : Nat) (ag : Bool) (a i : Arg)
  | ext (a : Arg) (i : Nat)
  | fld (ag : Bool) (off sz : Nat) (a : Arg)
  | call (pk : Bool) (f : Arg) (args : List Arg)
  | len (tk : Nat) (a : Arg)
  | append (sz bytes : Nat) (a b : Arg)
  | max2 (a b : Arg)
  | min2 (a b : Arg)
  | panic (a : Arg)
  | rng (k : Nat) (a : Arg)
  | next (k : Nat) (a : Arg)

structure GOp where
  g : Option (Nat × Bool)
  dst : Option Nat
  op : IOp

inductive ICode where
  | skip
  | region (ops : List GOp)
  | seq (a b : ICode)
  | cond (c : Arg) (a b : ICode)
  | block (id : Nat) (b : ICode)
  | loop (keep dead : List Nat) (b : ICode)
  | exit (id : Nat)
  | ret
  | bad

inductive IRes where
  | tmp (t : Nat)
  | cell (t : Nat) (ag : Bool) (sz : Nat)

structure IFn where
  ntmps : Nat
  nargs : Nat
  res : List IRes
  freeze : Bool
  body : ICode

/-! ### What an operation makes -/

def setAt (cs : List PV) (off : Nat) (vs : List PV) : List PV := cs.take off ++ vs ++ cs.drop (off + vs.length)

def fillParts (fr : Fr) (cs : List PV) : List (Nat × Nat × Arg) → Option (List PV)
  | [] => some cs
  | (off, sz, a) :: r =>
    let v := strip (a.val fr)
    if isVar v && (cellsOf v).length == sz && decide (off + sz ≤ cs.length) then fillParts fr (setAt cs off (cellsOf v)) r else none

def fillElems (fr : Fr) (sz : Nat) (es : List PV) : List (Nat × Arg) → Option (List PV)
  | [] => some es
  | (i, a) :: r =>
    let v := strip (a.val fr)
    if isVar v && (cellsOf v).length == sz && decide (i < es.length) then fillElems fr sz (es.set i v) r else none

def readCells (ag : Bool) (sz : Nat) (cs : List PV) (off : Nat) : Option PV :=
  if ag then (if off + sz ≤ cs.length then some (.agg ((cs.drop off).take sz)) else none) else cs[off]?

/-- Whether two cells of one plain kind are the same: 0: integers, 1: truths, 2: texts. -/
def scalarEq : Nat → PV → PV → Option Bool
  | 0, .int k a, .int k' b => if k = k' then some (decide (a = b)) else none
  | 1, .bool a, .bool b => some (a == b)
  | 2, .str a, .str b => some (decide (a = b))
  | _, _, _ => none

def eqCells : List Nat → List PV → List PV → Option Bool
  | [], [], [] => some true
  | k :: ks, x :: xs, y :: ys => match scalarEq k x y, eqCells ks xs ys with
    | some b, some c => some (b && c)
    | _, _ => none
  | _, _, _ => none

/-- A number that is not looked into. -/
noncomputable def hide (n : Int) : Int := Classical.choose (⟨n, rfl⟩ : ∃ x, x = n)
theorem hide_eq (n : Int) : hide n = n := Classical.choose_spec (⟨n, rfl⟩ : ∃ x, x = n)

noncomputable def wrapK (k : IntKind) (n : Int) : Int := hide (k.wrap n)
noncomputable def andK (k : IntKind) (a b : Int) : Int := hide (k.wrap (BitVec.ofInt k.bits a &&& BitVec.ofInt k.bits b).toNat)
noncomputable def orK (k : IntKind) (a b : Int) : Int := hide (k.wrap (BitVec.ofInt k.bits a ||| BitVec.ofInt k.bits b).toNat)
noncomputable def xorK (k : IntKind) (a b : Int) : Int := hide (k.wrap (BitVec.ofInt k.bits a ^^^ BitVec.ofInt k.bits b).toNat)
noncomputable def remK (a b : Int) : Int := hide (a.tmod b)
noncomputable def shrK (a : Int) (n : Nat) : Int := hide (a.fdiv (2 ^ n))
theorem wrapK_eq (k : IntKind) (n : Int) : wrapK k n = k.wrap n := hide_eq _
theorem andK_eq (k : IntKind) (a b : Int) : andK k a b = k.wrap (BitVec.ofInt k.bits a &&& BitVec.ofInt k.bits b).toNat := hide_eq _
theorem orK_eq (k : IntKind) (a b : Int) : orK k a b = k.wrap (BitVec.ofInt k.bits a ||| BitVec.ofInt k.bits b).toNat := hide_eq _
theorem xorK_eq (k : IntKind) (a b : Int) : xorK k a b = k.wrap (BitVec.ofInt k.bits a ^^^ BitVec.ofInt k.bits b).toNat := hide_eq _
theorem remK_eq (a b : Int) : remK a b = a.tmod b := hide_eq _
theorem shrK_eq (a : Int) (n : Nat) : shrK a n = a.fdiv (2 ^ n) := hide_eq _

/-- What an operator makes of two values; 'tk' tells of which type they are: 1: bool, 3: a pointer, 4: an aggregate. -/
noncomputable def binSem (tk : Nat) (ks : List Nat) (op : BinOp) : PV → PV → Option PV
  | .int k a, .int k' b =>
    match op with
    | .shl => if b < 0 then none else some (.int k (wrapK k (a * 2 ^ (min b.toNat k.bits))))
    | .shr => if b < 0 then none else some (.int k (shrK a (min b.toNat k.bits)))
    | _ =>
    if k = k' then
      match op with
      | .add => some (.int k (wrapK k (a + b)))
      | .sub => some (.int k (wrapK k (a - b)))
      | .mul => some (.int k (wrapK k (a * b)))
      | .quo => if b = 0 then none else some (.int k (wrapK k (a.tdiv b)))
      | .rem => if b = 0 then none else some (.int k (remK a b))
      | .and => some (.int k (andK k a b))
      | .or => some (.int k (orK k a b))
      | .xor => some (.int k (xorK k a b))
      | .eql => some (.bool (decide (a = b)))
      | .neq => some (.bool (!decide (a = b)))
      | .lss => some (.bool (decide (a < b)))
      | .leq => some (.bool (decide (a ≤ b)))
      | .gtr => some (.bool (decide (b < a)))
      | .geq => some (.bool (decide (b ≤ a)))
      | _ => none
    else none
  | .str a, .str b =>
    match op with
    | .add => if a.length + b.length ≤ 9223372036854775807 then some (.str (a ++ b)) else none
    | .eql => some (.bool (decide (a = b)))
    | .neq => some (.bool (!decide (a = b)))
    | _ => none
  | .bool a, .bool b =>
    if tk = 1 then
    match op with
    | .eql => some (.bool (a == b))
    | .neq => some (.bool (!(a == b)))
    | _ => none
    else none
  | .nilp, .nilp =>
    if tk = 3 then
    match op with
    | .eql => some (.bool true)
    | .neq => some (.bool false)
    | _ => none
    else none
  | .iptr _ _, .nilp | .ptr _ _ _, .nilp =>
    if tk = 3 then
    match op with
    | .eql => some (.bool false)
    | .neq => some (.bool true)
    | _ => none
    else none
  | .agg xs, .agg ys =>
    if tk = 4 then
    match op with
    | .eql => (eqCells ks xs ys).map .bool
    | .neq => (eqCells ks xs ys).map fun b => .bool (!b)
    | _ => none
    else none
  | _, _ => none

noncomputable def unSem : UnOp → PV → Option PV
  | .neg, .int k n => some (.int k (wrapK k (0 - n)))
  | .xor, .int k n => some (.int k (xorK k (if k.signed then -1 else k.max) n))
  | .not, .bool b => some (.bool !b)
  | _, _ => none

/-- Whether two keys of a map are the same: those of one kind alone. -/
def keyEq (ks : Bool) : PV → PV → Option Bool
  | .int k a, .int k' b => if k = k' ∧ ks = false then some (decide (a = b)) else none
  | .str a, .str b => if ks = true then some (decide (a = b)) else none
  | _, _ => none

def keyOk : PV → Bool
  | .int .. | .str _ => true
  | _ => false

def mapFind (ks : Bool) (k : PV) : List (PV × PV) → Option (Option PV)
  | [] => some none
  | (k', v) :: r =>
    match keyEq ks k k' with
    | some true => some (some v)
    | some false => mapFind ks k r
    | none => none

/-- The map with a key's element: in the key's place, or last. -/
def mapSet (ks : Bool) (k v : PV) : List (PV × PV) → Option (List (PV × PV))
  | [] => some [(k, v)]
  | (k', v') :: r =>
    match keyEq ks k k' with
    | some true => some ((k, v) :: r)
    | some false => (mapSet ks k v r).map ((k', v') :: ·)
    | none => none

def asNat : PV → Option Nat
  | .int _ n => if 0 ≤ n then some n.toNat else none
  | _ => none

def optNat (fr : Fr) : Option Arg → Nat → Option Nat
  | none, d => some d
  | some a, _ => asNat (a.val fr)

def slcSem (isS : Bool) (z : Nat) (x : PV) (lo hi : Nat) (mx : Option Nat) : Option PV :=
  match isS, x with
  | true, .str s => if lo ≤ hi ∧ hi ≤ s.length ∧ mx = none then some (.str ((s.take hi).drop lo)) else none
  | false, .slice _ sz l =>
    match mx with
    | none => if lo ≤ hi ∧ hi ≤ l.length ∧ z = sz then some (.slice .plain sz ((l.take hi).drop lo)) else none
    | some m => if lo ≤ hi ∧ hi = m ∧ hi ≤ l.length ∧ z = sz then some (.slice .fit sz ((l.take hi).drop lo)) else none
  | false, .mslice l off len sz => if lo ≤ hi ∧ hi ≤ len ∧ lo < len ∧ mx = none ∧ z = sz then some (.mslice l (off + lo) (hi - lo) sz) else none
  | _, _ => none

def lenSem (st : Store) (tk : Nat) : PV → Option PV
  | .str s => if tk = 0 then some (.int .i64 s.length) else none
  | .slice _ _ l => if tk = 1 then some (.int .i64 l.length) else none
  | .mslice _ _ n _ => if tk = 1 then some (.int .i64 n) else none
  | .nilmap => if tk = 2 then some (.int .i64 0) else none
  | .mp r => if tk = 2 then match st[r]? with
    | some (.mp es) => some (.int .i64 es.length)
    | _ => none
    else none
  | _ => none

def lenOf (x : Nat) (v : PV) : Nat := match v with
  | .str s => s.length
  | .slice _ _ l => l.length
  | .mslice _ _ n _ => n
  | _ => x

def stripA : PV → PV
  | .agg cs => .agg (cs.map strip)
  | v => strip v

/-- The elements that an append's second operand holds. -/
def srcElems (st : Store) (sz : Nat) : PV → Option (List PV)
  | .slice _ sz' l => if sz = sz' then some l else none
  | .mslice l off len sz' => if sz = sz' then
      match st[l]? with
      | some (.arr s es) => if s = sz && off + len ≤ es.length then some (((es.drop off).take len).map stripA) else none
      | _ => none
    else none
  | .str s => if sz = 1 then some (s.map fun b => .int .u8 b.toNat) else none
  | _ => none

def roomMax : Nat := 140737488355328

def isAggV : PV → Bool
  | .agg _ => true
  | _ => false

/-- An element with other cells. -/
def rebuild (e : PV) (cs : List PV) : PV := match e with
  | .agg _ => .agg cs
  | _ => cs.headD .undef

def zeroElems (zero : PV) (n : Nat) : List PV := List.replicate n zero

/-- What an operation that calls nothing makes: a value, the variable that it touches, the store. -/
noncomputable def IOp.sem (fr : Fr) (b : Bx) (st : Store) : IOp → Option (PV × Bx × Store)
  | .mv a => some (strip (a.val fr), b, st)
  | .take s => some (fr s, b, st)
  | .pick c x y => match c.val fr with
    | .bool true => some (strip (x.val fr), b, st)
    | .bool false => some (strip (y.val fr), b, st)
    | _ => none
  | .boxL k a =>
    match b with
    | .no => if isVar (strip (a.val fr)) then some (.lptr k 0, .cells (cellsOf (strip (a.val fr))), st) else none
    | _ => none
  | .boxI a => if isVar (strip (a.val fr)) then some (.iptr (cellsOf (strip (a.val fr))) 0, b, st) else none
  | .boxS sz a =>
    if isVar (strip (a.val fr)) && (cellsOf (strip (a.val fr))).length == sz then some (.ptr st.length 0 0, b, st ++ [.arr sz [strip (a.val fr)]]) else none
  | .build zero parts => (fillParts fr zero parts).map fun cs => (.agg cs, b, st)
  | .bslice sz zero n parts => (fillElems fr sz (List.replicate n zero) parts).map fun es => (.slice .fit sz es, b, st)
  | .bsliceS sz zero n parts => (fillElems fr sz (List.replicate n zero) parts).map fun es => (.mslice st.length 0 n sz, b, st ++ [.arr sz es])
  | .load w ag sz a =>
    match w, a.val fr with
    | .box k, .lptr k' off => if k = k' then
        match b with
        | .cells cs => (readCells ag sz cs off).map fun v => (stripA v, b, st)
        | _ => none
      else none
    | .any, .iptr cs off => (readCells ag sz cs off).map fun v => (v, b, st)
    | .imm, .iptr cs off => (readCells ag sz cs off).map fun v => (v, b, st)
    | .any, .ptr l i off =>
      match st[l]? with
      | some (.arr _ es) => match es[i]? with
        | some e => (readCells ag sz (cellsOf e) off).map fun v => (stripA v, b, st)
        | none => none
      | _ => none
    | _, _ => none
  | .loadT w a =>
    match w, a.val fr with
    | .box k, .lptr k' off => if k = k' then
        match b with
        | .cells cs => (cs[off]?).map fun v => (v, .cells (cs.set off (strip v)), st)
        | _ => none
      else none
    | .any, .ptr l i off =>
      match st[l]? with
      | some (.arr sz es) => match es[i]? with
        | some e => ((cellsOf e)[off]?).map fun v => (v, b, st.set l (.arr sz (es.set i (rebuild e ((cellsOf e).set off (strip v))))))
        | none => none
      | _ => none
    | _, _ => none
  | .store w sz a v =>
    if isVar (strip (v.val fr)) && (cellsOf (strip (v.val fr))).length == sz then
    match w, a.val fr with
    | .box k, .lptr k' off => if k = k' then
        match b with
        | .cells cs => if off + sz ≤ cs.length then some (.undef, .cells (setAt cs off (cellsOf (strip (v.val fr)))), st) else none
        | _ => none
      else none
    | .any, .ptr l i off =>
      match st[l]? with
      | some (.arr s es) => match es[i]? with
        | some e => if off + sz ≤ (cellsOf e).length ∧ (isAggV e || isCell (strip (v.val fr))) = true then some (.undef, b, st.set l (.arr s (es.set i (rebuild e (setAt (cellsOf e) off (cellsOf (strip (v.val fr)))))))) else none
        | none => none
      | _ => none
    | _, _ => none
    else none
  | .storeT w a t =>
    match fr t with
    | .slice .own z l =>
      match w, a.val fr with
      | .box k, .lptr k' off => if k = k' then
          match b with
          | .cells cs => if off < cs.length then some (.undef, .cells (cs.set off (.slice .own z l)), st) else none
          | _ => none
        else none
      | .any, .ptr l' i off =>
        match st[l']? with
        | some (.arr s es) => match es[i]? with
          | some e => if off < (cellsOf e).length then some (.undef, b, st.set l' (.arr s (es.set i (rebuild e ((cellsOf e).set off (.slice .own z l)))))) else none
          | none => none
        | _ => none
      | _, _ => none
    | _ => none
  | .nilck a => match a.val fr with
    | .iptr cs off => some (.iptr cs off, b, st)
    | .ptr l i off => some (.ptr l i off, b, st)
    | .lptr k off => some (.lptr k off, b, st)
    | .fn f x y => some (.fn f x y, b, st)
    | _ => none
  | .bin tk ks op x y => (binSem tk ks op (x.val fr) (y.val fr)).map (·, b, st)
  | .un op x => (unSem op (x.val fr)).map (·, b, st)
  | .conv k a => match a.val fr with
    | .int _ n => some (.int k (wrapK k n), b, st)
    | _ => none
  | .mkif t a => if isVar (strip (a.val fr)) then some (.iface t (strip (a.val fr)), b, st) else none
  | .mkfn f first caps =>
    if (first.map fun a => strip (a.val fr)).all isVar && (caps.map fun a => strip (a.val fr)).all isVar then
      some (.fn f (first.map fun a => strip (a.val fr)) (caps.map fun a => strip (a.val fr)), b, st)
    else none
  | .mkmap => some (.mp st.length, b, st ++ [.mp []])
  | .lookup ks ok zero m k =>
    if keyOk (k.val fr) then
    match m.val fr with
    | .nilmap => if ok then some (.tup [zero, .bool false], b, st) else some (zero, b, st)
    | .mp r => match st[r]? with
      | some (.mp es) => (mapFind ks (k.val fr) es).map fun
        | some v => (if ok then .tup [v, .bool true] else v, b, st)
        | none => (if ok then .tup [zero, .bool false] else zero, b, st)
      | _ => none
    | _ => none
    else none
  | .mapset ks m k v =>
    if isVar (strip (v.val fr)) && keyOk (k.val fr) then
    match m.val fr with
    | .mp r => match st[r]? with
      | some (.mp es) => (mapSet ks (k.val fr) (strip (v.val fr)) es).map fun es' => (.undef, b, st.set r (.mp es'))
      | _ => none
    | _ => none
    else none
  | .mkslice sz zero bytes ln cp =>
    match ln.val fr, cp.val fr with
    | .int .i64 n, .int .i64 c => if n = c ∧ 0 ≤ n ∧ n ≤ 9223372036854775807 ∧ bytes * n ≤ 281474976710656 then some (.slice .fit sz (List.replicate n.toNat zero), b, st) else none
    | _, _ => none
  | .mksliceS sz zero bytes ln cp =>
    match ln.val fr, cp.val fr with
    | .int .i64 n, .int .i64 c => if n = c ∧ 0 ≤ n ∧ n ≤ 9223372036854775807 ∧ bytes * n ≤ 281474976710656 then some (.mslice st.length 0 n.toNat sz, b, st ++ [.arr sz (List.replicate n.toNat zero)]) else none
    | _, _ => none
  | .slc isS z x lo hi mx =>
    match optNat fr lo 0, optNat fr hi (lenOf 0 (x.val fr)), (match mx with | none => some none | some a => (asNat (a.val fr)).map some) with
    | some l, some h, some m => (slcSem isS z (x.val fr) l h m).map (·, b, st)
    | _, _, _ => none
  | .faddr off a => match a.val fr with
    | .iptr cs o => some (.iptr cs (o + off), b, st)
    | .ptr l i o => some (.ptr l i (o + off), b, st)
    | .lptr k o => some (.lptr k (o + off), b, st)
    | _ => none
  | .iaddr sz a i => match asNat (i.val fr), a.val fr with
    | some n, .slice _ s l => if s = sz then (l[n]?).map fun e => (.iptr (cellsOf e) 0, b, st) else none
    | some n, .mslice l off ln s => if s = sz ∧ n < ln then some (.ptr l (off + n) 0, b, st) else none
    | _, _ => none
  | .iaddrA n sz a i => match asNat (i.val fr), a.val fr with
    | some j, .iptr cs o => if j < n then some (.iptr cs (o + j * sz), b, st) else none
    | some j, .ptr l i o => if j < n then some (.ptr l i (o + j * sz), b, st) else none
    | some j, .lptr k o => if j < n then some (.lptr k (o + j * sz), b, st) else none
    | _, _ => none
  | .idxS a i => match a.val fr, asNat (i.val fr) with
    | .str s, some n => (s[n]?).map fun c => (.int .u8 c.toNat, b, st)
    | _, _ => none
  | .idxA n sz ag a i => match a.val fr, asNat (i.val fr) with
    | .agg cs, some j => if j < n then (readCells ag sz cs (j * sz)).map (·, b, st) else none
    | _, _ => none
  | .ext a i => match a.val fr with
    | .tup vs => (vs[i]?).map (·, b, st)
    | _ => none
  | .fld ag off sz a => match a.val fr with
    | .agg cs => (readCells ag sz cs off).map (·, b, st)
    | _ => none
  | .call _ _ _ => none
  | .panic _ => none
  | .len tk a => (lenSem st tk (a.val fr)).map (·, b, st)
  | .append sz bytes a x =>
    match a.val fr with
    | .slice .own s l => if s = sz then
        (srcElems st sz (x.val fr)).bind fun l' => if (l.length + l'.length) * bytes ≤ roomMax then some (.slice .own sz (l ++ l'), b, st) else none
      else none
    | .slice .fit s l => if s = sz then
        (srcElems st sz (x.val fr)).bind fun l' =>
          if l' = [] then some (.slice .fit sz l, b, st) else
          if (l.length + l'.length) * bytes ≤ roomMax then some (.slice .own sz (l ++ l'), b, st) else none
      else none
    | _ => none
  | .max2 x y => match x.val fr, y.val fr with
    | .int k p, .int k' q => if k = k' then some (.int k (if p < q then q else p), b, st) else none
    | _, _ => none
  | .min2 x y => match x.val fr, y.val fr with
    | .int k p, .int k' q => if k = k' then some (.int k (if q < p then q else p), b, st) else none
    | _, _ => none
  | .rng k a => match b, a.val fr with
    | .no, .str s => some (.lptr k 0, .iter s 0, st)
    | _, _ => none
  | .next k a => match b, a.val fr with
    | .iter s pos, .lptr k' 0 => if k = k' then
        if pos < s.length then
          some (.tup [.bool true, .int .i64 pos, .int .i32 (Utf8.decode ⟨s.toArray⟩ pos).1], .iter s (pos + (Utf8.decode ⟨s.toArray⟩ pos).2), st)
        else some (.tup [.bool false], b, st)
      else none
    | _, _ => none

/-- The variable that an operation touches. -/
def Where.box? : Where → Option Nat
  | .any | .imm => none
  | .box k => some k

def IOp.box? : IOp → Option Nat
  | .boxL k _ | .rng k _ | .next k _ => some k
  | .load w _ _ _ | .loadT w _ | .store w _ _ _ | .storeT w _ _ => w.box?
  | _ => none

/-- The temporaries that hand on what they own. -/
def IOp.takes : IOp → List Nat
  | .take s => [s]
  | .storeT _ _ t => [t]
  | .append _ _ (.t s) _ => [s]
  | _ => []

def setDst (fr : Fr) : Option Nat → PV → Fr
  | none, _ => fr
  | some d, v => upd fr d v

def stripAll (fr : Fr) : List Nat → Fr
  | [] => fr
  | t :: r => stripAll (upd fr t (strip (fr t))) r

def getBx (bx : Bxs) : Option Nat → Bx
  | none => .no
  | some k => bx k

def setBx (bx : Bxs) : Option Nat → Bx → Bxs
  | none, _ => bx
  | some k, b => upd bx k b

/-- What a step comes to: it goes on, or panics. -/
inductive SR where
  | ok (s : St)
  | pan (v : PV) (st : Store)

abbrev CallF := Nat → List PV → Store → Option (CRes × Store)

def argVals (fr : Fr) (l : List Arg) : List PV := l.map fun a => strip (a.val fr)

noncomputable def runOp (cf : CallF) (dst : Option Nat) (o : IOp) (s : St) : Option SR :=
  match o with
  | .call pk f args =>
    match f.val s.fr with
    | .fn k first caps =>
      if (argVals s.fr args).all isVar then
      match cf k (first ++ argVals s.fr args ++ caps) s.st with
      | some (.ret v, st') => some (.ok { fr := setDst s.fr dst v, bx := s.bx, st := st' })
      | some (.pan v, st') => if pk then some (.pan v st') else none
      | none => none
      else none
    | _ => none
  | .panic a => match a.val s.fr with
    | .iface t v => some (.pan (.iface t v) s.st)
    | _ => none
  | o =>
    match o.sem s.fr (getBx s.bx o.box?) s.st with
    | some (v, b', st') => some (.ok { fr := setDst (stripAll s.fr o.takes) dst v, bx := setBx s.bx o.box? b', st := st' })
    | none => none

/-- Whether a guard lets an operation be done; what was passed over has the value of nothing. -/
def gate (w : Bool) : PV → Option Bool
  | .bool b => some (b == w)
  | .tup [] => some false
  | _ => none

noncomputable def step (cf : CallF) (o : GOp) (s : St) : Option SR :=
  match o.g with
  | none => runOp cf o.dst o.op s
  | some (g, w) => match gate w (s.fr g) with
    | some true => runOp cf o.dst o.op s
    | some false => some (.ok { s with fr := setDst s.fr o.dst (.tup []) })
    | none => none

noncomputable def steps (cf : CallF) : List GOp → St → Option SR
  | [], s => some (.ok s)
  | o :: r, s => match step cf o s with
    | some (.ok s') => steps cf r s'
    | x => x

inductive Ex where
  | normal
  | exit (id : Nat)
  | ret
  | pan (v : PV)

def keepFr (fr : Fr) : List Nat → Fr
  | [] => fun _ => .undef
  | t :: r => upd (keepFr fr r) t (fr t)

def dropBx (bx : Bxs) : List Nat → Bxs
  | [] => bx
  | k :: r => upd (dropBx bx r) k .no

def havoc (keep dead : List Nat) (s : St) : Option St :=
  if keep.all (fun t => avoids dead (s.fr t)) then some { fr := keepFr s.fr keep, bx := dropBx s.bx dead, st := s.st } else none

/-- What code comes to, with so much fuel. -/
noncomputable def execF (cf : CallF) : Nat → ICode → St → Option (Ex × St)
  | 0, _, _ => none
  | n + 1, c, s =>
    match c with
    | .skip => some (.normal, s)
    | .region ops => match steps cf ops s with
      | some (.ok s') => some (.normal, s')
      | some (.pan v st') => some (.pan v, { s with st := st' })
      | none => none
    | .seq a b => match execF cf n a s with
      | some (.normal, s') => execF cf n b s'
      | x => x
    | .cond c a b => match c.val s.fr with
      | .bool true => execF cf n a s
      | .bool false => execF cf n b s
      | _ => none
    | .block id b => match execF cf n b s with
      | some (.exit id', s') => if id' = id then some (.normal, s') else some (.exit id', s')
      | x => x
    | .loop keep dead b => match havoc keep dead s with
      | some s1 => match execF cf n b s1 with
        | some (.normal, s') => execF cf n (.loop keep dead b) s'
        | x => x
      | none => none
    | .exit id => some (.exit id, s)
    | .ret => some (.ret, s)
    | .bad => none

structure Env where
  fn : Nat → Option IFn
  ext : Nat → Option (List PV → Store → Option (CRes × Store))

def frOf : List PV → Nat → Fr
  | [], _ => fun _ => .undef
  | v :: r, k => upd (frOf r (k + 1)) k v

/-- A result, where it lies. -/
def IRes.get (s : St) : IRes → Option PV
  | .tmp t => some (strip (s.fr t))
  | .cell t ag sz => match s.fr t with
    | .lptr k off => match s.bx k with
      | .cells cs => (readCells ag sz cs off).map stripA
      | _ => none
    | .ptr l i off => match s.st[l]? with
      | some (.arr _ es) => match es[i]? with
        | some e => (readCells ag sz (cellsOf e) off).map stripA
        | none => none
      | _ => none
    | _ => none

def getAll (s : St) : List IRes → Option (List PV)
  | [] => some []
  | r :: rs => match r.get s, getAll s rs with
    | some v, some vs => some (v :: vs)
    | _, _ => none

def resVal : List PV → PV
  | [v] => v
  | vs => .tup vs

mutual
def belowV (n : Nat) : PV → Bool
  | .ptr l _ _ => decide (l < n)
  | .mslice l _ _ _ => decide (l < n)
  | .mp r => decide (r < n)
  | .iptr cs _ => belowL n cs
  | .slice _ _ l => belowL n l
  | .agg cs => belowL n cs
  | .tup vs => belowL n vs
  | .fn _ a b => belowL n a && belowL n b
  | .iface _ v => belowV n v
  | _ => true
def belowL (n : Nat) : List PV → Bool
  | [] => true
  | v :: r => belowV n v && belowL n r
end

def belowP (n : Nat) : List (PV × PV) → Bool
  | [] => true
  | (k, v) :: r => belowV n k && belowV n v && belowP n r

def Obj.below (n : Nat) : Obj → Bool
  | .arr _ es => belowL n es
  | .mp es => belowP n es

def Store.wf (n : Nat) (st : Store) : Bool := st.all (Obj.below n)

/-- What a call hands back: rows of its own become lists. -/
def freeze1 (n : Nat) (st : Store) : PV → PV
  | .mslice l off len sz =>
    if n ≤ l then
      match st[l]? with
      | some (.arr s es) => if s = sz ∧ off + len ≤ es.length then .slice .plain sz (((es.drop off).take len).map stripA) else .mslice l off len sz
      | _ => .mslice l off len sz
    else .mslice l off len sz
  | v => v

def freezeA (n : Nat) (st : Store) : PV → PV
  | .agg cs => .agg (cs.map (freeze1 n st))
  | v => freeze1 n st v

def finish (F : IFn) (n : Nat) (s : St) : Option (CRes × Store) :=
  match getAll s F.res with
  | none => none
  | some vs =>
    if vs.all isVar then
      if F.freeze then
        if belowL n (vs.map (freezeA n s.st)) && Store.wf n (s.st.take n) && decide (n ≤ s.st.length) then some (.ret (resVal (vs.map (freezeA n s.st))), s.st.take n) else none
      else some (.ret (resVal vs), s.st)
    else none

def finishPan (F : IFn) (n : Nat) (v : PV) (s : St) : Option (CRes × Store) :=
  if F.freeze then
    if belowV n v && Store.wf n (s.st.take n) && decide (n ≤ s.st.length) then some (.pan v, s.st.take n) else none
  else some (.pan v, s.st)

noncomputable def callF (E : Env) : Nat → CallF
  | 0, _, _, _ => none
  | n + 1, f, args, st =>
    match E.ext f with
    | some g => g args st
    | none => match E.fn f with
      | none => none
      | some F =>
        if args.length = F.nargs ∧ args.all isVar then
        match execF (callF E n) n F.body { fr := frOf args 0, bx := fun _ => .no, st := st } with
        | some (.normal, s') => finish F st.length s'
        | some (.ret, s') => finish F st.length s'
        | some (.pan v, s') => finishPan F st.length v s'
        | _ => none
        else none

end PE
