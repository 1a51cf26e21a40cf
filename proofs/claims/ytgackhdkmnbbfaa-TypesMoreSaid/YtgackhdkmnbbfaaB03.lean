/-
  Texts joined by program: A5P0, A5U0.
-/
import Derived.Test.YtgackhdkmnbbfaaB02
set_option linter.unusedVariables false
set_option linter.unusedSectionVars false
set_option linter.unusedSimpArgs false
/-
  Programs: what they are in plain Lean, and as plain values.
-/
namespace PE.U
open Go PE

structure Tok where
  kind : Int
  text : List UInt8
  line : Int
  deriving DecidableEq

structure Expr where
  kind : Int
  op : Int
  n : Int
  name : List UInt8
  args : List Expr

structure Stmt where
  kind : Int
  type : Int
  name : List UInt8
  args : List Expr
  thn : List Stmt
  els : List Stmt

structure Par where
  name : List UInt8
  type : Int

structure Func where
  name : List UInt8
  type : Int
  params : List Par
  body : List Stmt

structure PArr where
  name : List UInt8
  size : Int

structure Prog where
  arrays : List PArr
  funcs : List Func

def encTok (t : Tok) : PV := .agg [.int .i64 t.kind, .str t.text, .int .i64 t.line]
def toks (l : List Tok) : PV := .slice .plain 3 (l.map encTok)

mutual
def encExpr : Expr → PV
  | ⟨k, o, n, s, a⟩ => .agg [.int .i64 k, .int .i64 o, .int .i64 n, .str s, .slice .plain 5 (encEs a)]
def encEs : List Expr → List PV
  | [] => []
  | x :: r => encExpr x :: encEs r
end
theorem encEs_eq (l : List Expr) : encEs l = l.map encExpr := by
  induction l with
  | nil => rfl
  | cons x r ih => rw [encEs, ih]; rfl
def exprs (l : List Expr) : PV := .slice .plain 5 (l.map encExpr)
theorem encExpr_eq (x : Expr) : encExpr x = .agg [.int .i64 x.kind, .int .i64 x.op, .int .i64 x.n, .str x.name, exprs x.args] := by
  cases x; simp [encExpr, encEs_eq, exprs]

mutual
def encStmt : Stmt → PV
  | ⟨k, t, s, a, th, el⟩ => .agg [.int .i64 k, .int .i64 t, .str s, exprs a, .slice .plain 6 (encSs th), .slice .plain 6 (encSs el)]
def encSs : List Stmt → List PV
  | [] => []
  | x :: r => encStmt x :: encSs r
end
theorem encSs_eq (l : List Stmt) : encSs l = l.map encStmt := by
  induction l with
  | nil => rfl
  | cons x r ih => rw [encSs, ih]; rfl
def stmts (l : List Stmt) : PV := .slice .plain 6 (l.map encStmt)
theorem encStmt_eq (x : Stmt) : encStmt x = .agg [.int .i64 x.kind, .int .i64 x.type, .str x.name, exprs x.args, stmts x.thn, stmts x.els] := by
  cases x; simp [encStmt, encSs_eq, stmts]

def encPar (p : Par) : PV := .agg [.str p.name, .int .i64 p.type]
def parsV (l : List Par) : PV := .slice .plain 2 (l.map encPar)
def encFunc (f : Func) : PV := .agg [.str f.name, .int .i64 f.type, parsV f.params, stmts f.body]
def funcs (l : List Func) : PV := .slice .plain 4 (l.map encFunc)
def encPArr (a : PArr) : PV := .agg [.str a.name, .int .i64 a.size]
def parrs (l : List PArr) : PV := .slice .plain 2 (l.map encPArr)
def encProg (p : Prog) : PV := .agg [parrs p.arrays, funcs p.funcs]

mutual
theorem flatE (k : Nat) : ∀ x : Expr, belowV k (encExpr x) = true
  | ⟨_, _, _, _, a⟩ => by simp [encExpr, flatEs k a]
theorem flatEs (k : Nat) : ∀ l : List Expr, belowL k (encEs l) = true
  | [] => rfl
  | x :: r => by simp [encEs, flatE k x, flatEs k r]
end
theorem flat_exprs (k : Nat) (l : List Expr) : belowV k (exprs l) = true := by
  have := flatEs k l; rw [encEs_eq] at this; simpa [exprs] using this
mutual
theorem flatS (k : Nat) : ∀ x : Stmt, belowV k (encStmt x) = true
  | ⟨_, _, _, a, th, el⟩ => by simp [encStmt, flat_exprs, flatSs k th, flatSs k el]
theorem flatSs (k : Nat) : ∀ l : List Stmt, belowL k (encSs l) = true
  | [] => rfl
  | x :: r => by simp [encSs, flatS k x, flatSs k r]
end
section
variable (k : Nat)
@[simp high] theorem pl_tok (l : List Tok) : belowL k (l.map encTok) = true := belowL_map _ _ _ (fun x => by simp [encTok])
@[simp high] theorem pl_expr (l : List Expr) : belowL k (l.map encExpr) = true := belowL_map _ _ _ (flatE k)
@[simp high] theorem pl_stmt (l : List Stmt) : belowL k (l.map encStmt) = true := belowL_map _ _ _ (flatS k)
@[simp high] theorem pl_par (l : List Par) : belowL k (l.map encPar) = true := belowL_map _ _ _ (fun x => by simp [encPar])
@[simp high] theorem pl_parr (l : List PArr) : belowL k (l.map encPArr) = true := belowL_map _ _ _ (fun x => by simp [encPArr])
@[simp] theorem fl_tok (x : Tok) : belowV k (encTok x) = true := by simp [encTok]
@[simp] theorem fl_toks (l : List Tok) : belowV k (toks l) = true := by simp [toks]
@[simp] theorem fl_expr (x : Expr) : belowV k (encExpr x) = true := flatE k x
@[simp] theorem fl_exprs (l : List Expr) : belowV k (exprs l) = true := flat_exprs k l
@[simp] theorem fl_stmt (x : Stmt) : belowV k (encStmt x) = true := flatS k x
@[simp] theorem fl_stmts (l : List Stmt) : belowV k (stmts l) = true := by simp [stmts]
@[simp] theorem fl_par (x : Par) : belowV k (encPar x) = true := by simp [encPar]
@[simp] theorem fl_pars (l : List Par) : belowV k (parsV l) = true := by simp [parsV]
@[simp] theorem fl_func (x : Func) : belowV k (encFunc x) = true := by simp [encFunc]
@[simp high] theorem pl_func (l : List Func) : belowL k (l.map encFunc) = true := belowL_map _ _ _ (fl_func k)
@[simp] theorem fl_funcs (l : List Func) : belowV k (funcs l) = true := by simp [funcs]
@[simp] theorem fl_parr (x : PArr) : belowV k (encPArr x) = true := by simp [encPArr]
@[simp] theorem fl_parrs (l : List PArr) : belowV k (parrs l) = true := by simp [parrs]
@[simp] theorem fl_prog (p : Prog) : belowV k (encProg p) = true := by simp [encProg]
end
section
@[simp high] theorem isCell_toks (l : List Tok) : isCell (toks l) = true := Eq.trans rfl rfl
@[simp high] theorem isVar_toks (l : List Tok) : isVar (toks l) = true := Eq.trans rfl rfl
@[simp high] theorem canon1_toks (l : List Tok) : canon1 (toks l) = toks l := Eq.trans rfl rfl
@[simp high] theorem strip_toks (l : List Tok) : strip (toks l) = toks l := Eq.trans rfl rfl
@[simp high] theorem stripA_toks (l : List Tok) : stripA (toks l) = toks l := Eq.trans rfl rfl
@[simp high] theorem isOwn_toks (l : List Tok) : isOwn (toks l) = none := Eq.trans rfl rfl
@[simp high] theorem cellsOf_toks (l : List Tok) : cellsOf (toks l) = [toks l] := Eq.trans rfl rfl
@[simp high] theorem avoids_toks (dead : List Nat) (l : List Tok) : avoids dead (toks l) = true := Eq.trans rfl rfl
end
section
@[simp high] theorem isCell_exprs (l : List Expr) : isCell (exprs l) = true := Eq.trans rfl rfl
@[simp high] theorem isVar_exprs (l : List Expr) : isVar (exprs l) = true := Eq.trans rfl rfl
@[simp high] theorem canon1_exprs (l : List Expr) : canon1 (exprs l) = exprs l := Eq.trans rfl rfl
@[simp high] theorem strip_exprs (l : List Expr) : strip (exprs l) = exprs l := Eq.trans rfl rfl
@[simp high] theorem stripA_exprs (l : List Expr) : stripA (exprs l) = exprs l := Eq.trans rfl rfl
@[simp high] theorem isOwn_exprs (l : List Expr) : isOwn (exprs l) = none := Eq.trans rfl rfl
@[simp high] theorem cellsOf_exprs (l : List Expr) : cellsOf (exprs l) = [exprs l] := Eq.trans rfl rfl
@[simp high] theorem avoids_exprs (dead : List Nat) (l : List Expr) : avoids dead (exprs l) = true := Eq.trans rfl rfl
end
section
@[simp high] theorem isCell_stmts (l : List Stmt) : isCell (stmts l) = true := Eq.trans rfl rfl
@[simp high] theorem isVar_stmts (l : List Stmt) : isVar (stmts l) = true := Eq.trans rfl rfl
@[simp high] theorem canon1_stmts (l : List Stmt) : canon1 (stmts l) = stmts l := Eq.trans rfl rfl
@[simp high] theorem strip_stmts (l : List Stmt) : strip (stmts l) = stmts l := Eq.trans rfl rfl
@[simp high] theorem stripA_stmts (l : List Stmt) : stripA (stmts l) = stmts l := Eq.trans rfl rfl
@[simp high] theorem isOwn_stmts (l : List Stmt) : isOwn (stmts l) = none := Eq.trans rfl rfl
@[simp high] theorem cellsOf_stmts (l : List Stmt) : cellsOf (stmts l) = [stmts l] := Eq.trans rfl rfl
@[simp high] theorem avoids_stmts (dead : List Nat) (l : List Stmt) : avoids dead (stmts l) = true := Eq.trans rfl rfl
end
section
@[simp high] theorem isCell_parsV (l : List Par) : isCell (parsV l) = true := Eq.trans rfl rfl
@[simp high] theorem isVar_parsV (l : List Par) : isVar (parsV l) = true := Eq.trans rfl rfl
@[simp high] theorem canon1_parsV (l : List Par) : canon1 (parsV l) = parsV l := Eq.trans rfl rfl
@[simp high] theorem strip_parsV (l : List Par) : strip (parsV l) = parsV l := Eq.trans rfl rfl
@[simp high] theorem stripA_parsV (l : List Par) : stripA (parsV l) = parsV l := Eq.trans rfl rfl
@[simp high] theorem isOwn_parsV (l : List Par) : isOwn (parsV l) = none := Eq.trans rfl rfl
@[simp high] theorem cellsOf_parsV (l : List Par) : cellsOf (parsV l) = [parsV l] := Eq.trans rfl rfl
@[simp high] theorem avoids_parsV (dead : List Nat) (l : List Par) : avoids dead (parsV l) = true := Eq.trans rfl rfl
end
section
@[simp high] theorem isCell_funcs (l : List Func) : isCell (funcs l) = true := Eq.trans rfl rfl
@[simp high] theorem isVar_funcs (l : List Func) : isVar (funcs l) = true := Eq.trans rfl rfl
@[simp high] theorem canon1_funcs (l : List Func) : canon1 (funcs l) = funcs l := Eq.trans rfl rfl
@[simp high] theorem strip_funcs (l : List Func) : strip (funcs l) = funcs l := Eq.trans rfl rfl
@[simp high] theorem stripA_funcs (l : List Func) : stripA (funcs l) = funcs l := Eq.trans rfl rfl
@[simp high] theorem isOwn_funcs (l : List Func) : isOwn (funcs l) = none := Eq.trans rfl rfl
@[simp high] theorem cellsOf_funcs (l : List Func) : cellsOf (funcs l) = [funcs l] := Eq.trans rfl rfl
@[simp high] theorem avoids_funcs (dead : List Nat) (l : List Func) : avoids dead (funcs l) = true := Eq.trans rfl rfl
end
section
@[simp high] theorem isCell_parrs (l : List PArr) : isCell (parrs l) = true := Eq.trans rfl rfl
@[simp high] theorem isVar_parrs (l : List PArr) : isVar (parrs l) = true := Eq.trans rfl rfl
@[simp high] theorem canon1_parrs (l : List PArr) : canon1 (parrs l) = parrs l := Eq.trans rfl rfl
@[simp high] theorem strip_parrs (l : List PArr) : strip (parrs l) = parrs l := Eq.trans rfl rfl
@[simp high] theorem stripA_parrs (l : List PArr) : stripA (parrs l) = parrs l := Eq.trans rfl rfl
@[simp high] theorem isOwn_parrs (l : List PArr) : isOwn (parrs l) = none := Eq.trans rfl rfl
@[simp high] theorem cellsOf_parrs (l : List PArr) : cellsOf (parrs l) = [parrs l] := Eq.trans rfl rfl
@[simp high] theorem avoids_parrs (dead : List Nat) (l : List PArr) : avoids dead (parrs l) = true := Eq.trans rfl rfl
end

mutual
def wtE : Expr → Nat
  | ⟨_, _, _, s, a⟩ => 1 + s.length + wtEs a
def wtEs : List Expr → Nat
  | [] => 0
  | x :: r => 1 + wtE x + wtEs r
end
mutual
def wtS : Stmt → Nat
  | ⟨_, _, s, a, th, el⟩ => 1 + s.length + wtEs a + wtSs th + wtSs el
def wtSs : List Stmt → Nat
  | [] => 0
  | x :: r => 1 + wtS x + wtSs r
end
theorem wtE_eq (x : Expr) : wtE x = 1 + x.name.length + wtEs x.args := by cases x; rfl
theorem wtS_eq (x : Stmt) : wtS x = 1 + x.name.length + wtEs x.args + wtSs x.thn + wtSs x.els := by cases x; rfl
theorem wtEs_append (a b : List Expr) : wtEs (a ++ b) = wtEs a + wtEs b := by
  induction a with
  | nil => simp [wtEs]
  | cons x r ih => simp [wtEs, ih]; omega
theorem wtSs_append (a b : List Stmt) : wtSs (a ++ b) = wtSs a + wtSs b := by
  induction a with
  | nil => simp [wtSs]
  | cons x r ih => simp [wtSs, ih]; omega
theorem len_wtEs (l : List Expr) : l.length ≤ wtEs l := by
  induction l with
  | nil => simp
  | cons x r ih => simp [wtEs]; omega
theorem len_wtSs (l : List Stmt) : l.length ≤ wtSs l := by
  induction l with
  | nil => simp
  | cons x r ih => simp [wtSs]; omega
theorem wtE_mem {x : Expr} {l : List Expr} (h : x ∈ l) : wtE x + 1 ≤ wtEs l := by
  induction l with
  | nil => cases h
  | cons y r ih =>
    simp only [wtEs]
    rcases List.mem_cons.1 h with rfl | h
    · omega
    · have := ih h; omega
theorem wtS_mem {x : Stmt} {l : List Stmt} (h : x ∈ l) : wtS x + 1 ≤ wtSs l := by
  induction l with
  | nil => cases h
  | cons y r ih =>
    simp only [wtSs]
    rcases List.mem_cons.1 h with rfl | h
    · omega
    · have := ih h; omega

end PE.U

/-
  Units: what they are in plain Lean, and as plain values.
-/
namespace PE.U
open Go PE

structure Node where
  kind : Int
  op : Int
  n : Int
  name : List UInt8
  args : List Int
  outs : List Int
  params : List Int
  kids : List (List Node)

structure Flow where
  name : List UInt8
  type : Int
  params : Int
  types : List Int
  body : List Node

structure Arr where
  name : List UInt8
  size : Int

structure Unt where
  arrays : List Arr
  flows : List Flow

abbrev int (n : Int) : PV := .int .i64 n
def ints (l : List Int) : PV := .slice .plain 1 (l.map (PV.int .i64))

mutual
def encNode : Node → PV
  | ⟨k, o, n, s, a, u, p, ks⟩ => .agg [.int .i64 k, .int .i64 o, .int .i64 n, .str s, ints a, ints u, ints p, .slice .plain 1 (encK ks)]
def encL : List Node → List PV
  | [] => []
  | x :: r => encNode x :: encL r
def encK : List (List Node) → List PV
  | [] => []
  | l :: r => .slice .plain 8 (encL l) :: encK r
end

theorem encL_eq (l : List Node) : encL l = l.map encNode := by
  induction l with
  | nil => rfl
  | cons x r ih => rw [encL, ih]; rfl
def nodes (l : List Node) : PV := .slice .plain 8 (l.map encNode)
def kids (l : List (List Node)) : PV := .slice .plain 1 (l.map nodes)
theorem encK_eq (l : List (List Node)) : encK l = l.map nodes := by
  induction l with
  | nil => rfl
  | cons x r ih => rw [encK, ih, encL_eq]; rfl
theorem encNode_eq (x : Node) : encNode x = .agg [.int .i64 x.kind, .int .i64 x.op, .int .i64 x.n, .str x.name, ints x.args, ints x.outs, ints x.params, kids x.kids] := by
  cases x; simp [encNode, encK_eq, kids]

mutual
theorem flatN (k : Nat) : ∀ x : Node, belowV k (encNode x) = true
  | ⟨_, _, _, _, a, u, p, ks⟩ => by simp [encNode, ints, flatK k ks]
theorem flatL (k : Nat) : ∀ l : List Node, belowL k (encL l) = true
  | [] => rfl
  | x :: r => by simp [encL, flatN k x, flatL k r]
theorem flatK (k : Nat) : ∀ l : List (List Node), belowL k (encK l) = true
  | [] => rfl
  | x :: r => by simp [encK, flatL k x, flatK k r]
end

def encFlow (f : Flow) : PV := .agg [.str f.name, .int .i64 f.type, .int .i64 f.params, ints f.types, nodes f.body]
def encArr (a : Arr) : PV := .agg [.str a.name, .int .i64 a.size]
def flows (l : List Flow) : PV := .slice .plain 5 (l.map encFlow)
def arrs (l : List Arr) : PV := .slice .plain 2 (l.map encArr)
def encUnt (u : Unt) : PV := .agg [arrs u.arrays, flows u.flows]

section
variable (k : Nat)
@[simp] theorem flat_ints (l : List Int) : belowV k (ints l) = true := by simp [ints]
@[simp] theorem flat_node (x : Node) : belowV k (encNode x) = true := flatN k x
@[simp] theorem flat_nodes (l : List Node) : belowV k (nodes l) = true := by simp [nodes]
@[simp] theorem flat_kids (l : List (List Node)) : belowV k (kids l) = true := by simp [kids]
@[simp] theorem flat_flow (f : Flow) : belowV k (encFlow f) = true := by simp [encFlow]
@[simp] theorem flat_arr (f : Arr) : belowV k (encArr f) = true := by simp [encArr]
@[simp] theorem flat_flows (f : List Flow) : belowV k (flows f) = true := by simp [flows]
@[simp] theorem flat_arrs (f : List Arr) : belowV k (arrs f) = true := by simp [arrs]
@[simp] theorem flat_unt (f : Unt) : belowV k (encUnt f) = true := by simp [encUnt]
end

section
variable (n : Nat)
@[simp high] theorem bl_int (l : List Int) : belowL n (l.map (PV.int .i64)) = true := belowL_map _ _ _ (fun _ => rfl)
@[simp high] theorem bl_node (l : List Node) : belowL n (l.map encNode) = true := belowL_map _ _ _ (flat_node n)
@[simp high] theorem bl_nodes (l : List (List Node)) : belowL n (l.map nodes) = true := belowL_map _ _ _ (flat_nodes n)
@[simp high] theorem bl_flow (l : List Flow) : belowL n (l.map encFlow) = true := belowL_map _ _ _ (flat_flow n)
@[simp high] theorem bl_arr (l : List Arr) : belowL n (l.map encArr) = true := belowL_map _ _ _ (flat_arr n)
end
section
@[simp high] theorem isCell_ints (l : List Int) : isCell (ints l) = true := Eq.trans rfl rfl
@[simp high] theorem isVar_ints (l : List Int) : isVar (ints l) = true := Eq.trans rfl rfl
@[simp high] theorem canon1_ints (l : List Int) : canon1 (ints l) = ints l := Eq.trans rfl rfl
@[simp high] theorem strip_ints (l : List Int) : strip (ints l) = ints l := Eq.trans rfl rfl
@[simp high] theorem stripA_ints (l : List Int) : stripA (ints l) = ints l := Eq.trans rfl rfl
@[simp high] theorem isOwn_ints (l : List Int) : isOwn (ints l) = none := Eq.trans rfl rfl
@[simp high] theorem cellsOf_ints (l : List Int) : cellsOf (ints l) = [ints l] := Eq.trans rfl rfl
@[simp high] theorem isCell_nodes (l : List Node) : isCell (nodes l) = true := Eq.trans rfl rfl
@[simp high] theorem isVar_nodes (l : List Node) : isVar (nodes l) = true := Eq.trans rfl rfl
@[simp high] theorem canon1_nodes (l : List Node) : canon1 (nodes l) = nodes l := Eq.trans rfl rfl
@[simp high] theorem strip_nodes (l : List Node) : strip (nodes l) = nodes l := Eq.trans rfl rfl
@[simp high] theorem stripA_nodes (l : List Node) : stripA (nodes l) = nodes l := Eq.trans rfl rfl
@[simp high] theorem isOwn_nodes (l : List Node) : isOwn (nodes l) = none := Eq.trans rfl rfl
@[simp high] theorem cellsOf_nodes (l : List Node) : cellsOf (nodes l) = [nodes l] := Eq.trans rfl rfl
@[simp high] theorem isCell_kids (l : List (List Node)) : isCell (kids l) = true := Eq.trans rfl rfl
@[simp high] theorem isVar_kids (l : List (List Node)) : isVar (kids l) = true := Eq.trans rfl rfl
@[simp high] theorem canon1_kids (l : List (List Node)) : canon1 (kids l) = kids l := Eq.trans rfl rfl
@[simp high] theorem strip_kids (l : List (List Node)) : strip (kids l) = kids l := Eq.trans rfl rfl
@[simp high] theorem stripA_kids (l : List (List Node)) : stripA (kids l) = kids l := Eq.trans rfl rfl
@[simp high] theorem isOwn_kids (l : List (List Node)) : isOwn (kids l) = none := Eq.trans rfl rfl
@[simp high] theorem cellsOf_kids (l : List (List Node)) : cellsOf (kids l) = [kids l] := Eq.trans rfl rfl
@[simp high] theorem isCell_flows (l : List Flow) : isCell (flows l) = true := Eq.trans rfl rfl
@[simp high] theorem isVar_flows (l : List Flow) : isVar (flows l) = true := Eq.trans rfl rfl
@[simp high] theorem canon1_flows (l : List Flow) : canon1 (flows l) = flows l := Eq.trans rfl rfl
@[simp high] theorem strip_flows (l : List Flow) : strip (flows l) = flows l := Eq.trans rfl rfl
@[simp high] theorem stripA_flows (l : List Flow) : stripA (flows l) = flows l := Eq.trans rfl rfl
@[simp high] theorem isOwn_flows (l : List Flow) : isOwn (flows l) = none := Eq.trans rfl rfl
@[simp high] theorem cellsOf_flows (l : List Flow) : cellsOf (flows l) = [flows l] := Eq.trans rfl rfl
@[simp high] theorem isCell_arrs (l : List Arr) : isCell (arrs l) = true := Eq.trans rfl rfl
@[simp high] theorem isVar_arrs (l : List Arr) : isVar (arrs l) = true := Eq.trans rfl rfl
@[simp high] theorem canon1_arrs (l : List Arr) : canon1 (arrs l) = arrs l := Eq.trans rfl rfl
@[simp high] theorem strip_arrs (l : List Arr) : strip (arrs l) = arrs l := Eq.trans rfl rfl
@[simp high] theorem stripA_arrs (l : List Arr) : stripA (arrs l) = arrs l := Eq.trans rfl rfl
@[simp high] theorem isOwn_arrs (l : List Arr) : isOwn (arrs l) = none := Eq.trans rfl rfl
@[simp high] theorem cellsOf_arrs (l : List Arr) : cellsOf (arrs l) = [arrs l] := Eq.trans rfl rfl
end

mutual
def wtN : Node → Nat
  | ⟨_, _, _, s, a, u, p, ks⟩ => 1 + s.length + a.length + u.length + p.length + wtK ks
def wtL : List Node → Nat
  | [] => 0
  | x :: r => 1 + wtN x + wtL r
def wtK : List (List Node) → Nat
  | [] => 0
  | l :: r => 1 + wtL l + wtK r
end
theorem wtN_eq (x : Node) : wtN x = 1 + x.name.length + x.args.length + x.outs.length + x.params.length + wtK x.kids := by cases x; rfl
theorem wtL_append (a b : List Node) : wtL (a ++ b) = wtL a + wtL b := by
  induction a with
  | nil => simp [wtL]
  | cons x r ih => simp [wtL, ih]; omega
theorem wtK_append (a b : List (List Node)) : wtK (a ++ b) = wtK a + wtK b := by
  induction a with
  | nil => simp [wtK]
  | cons x r ih => simp [wtK, ih]; omega
theorem len_wtL (l : List Node) : l.length ≤ wtL l := by
  induction l with
  | nil => simp
  | cons x r ih => simp [wtL]; omega
theorem len_wtK (l : List (List Node)) : l.length ≤ wtK l := by
  induction l with
  | nil => simp
  | cons x r ih => simp [wtK]; omega
theorem wt_kid {x : Node} {l : List Node} (h : l ∈ x.kids) : wtL l + 2 ≤ wtN x := by
  rw [wtN_eq]
  have : ∀ ks : List (List Node), l ∈ ks → wtL l + 1 ≤ wtK ks := by
    intro ks
    induction ks with
    | nil => intro h; cases h
    | cons y r ih =>
      intro h
      simp only [wtK]
      rcases List.mem_cons.1 h with rfl | h
      · omega
      · have := ih h; omega
  have := this _ h
  omega
theorem wt_mem {x : Node} {l : List Node} (h : x ∈ l) : wtN x + 1 ≤ wtL l := by
  induction l with
  | nil => cases h
  | cons y r ih =>
    simp only [wtL]
    rcases List.mem_cons.1 h with rfl | h
    · omega
    · have := ih h; omega

end PE.U
