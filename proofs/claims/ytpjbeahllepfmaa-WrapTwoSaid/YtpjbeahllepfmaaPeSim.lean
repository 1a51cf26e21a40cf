/-
  How plain values stand for the machine's: what is related, and what keeps it.
-/
import Derived.Test.YtpjbeahllepfmaaPeDefs
import Derived.Laws.Cells
import Derived.Laws.Rows
import Derived.Laws.AppendOwn
set_option linter.unusedVariables false
set_option linter.unusedSimpArgs false
namespace PE
open Go

/-- What no one writes any more: a block's cell, and what it holds. -/
abbrev Im := Nat → Nat → Option Value
/-- Where the store's objects lie, and how many cells an element has. -/
abbrev Loc := Nat → Option (Nat × Nat)

def Im.le (I I' : Im) : Prop := ∀ b o v, I b o = some v → I' b o = some v
def Loc.le (L L' : Loc) : Prop := ∀ l x, L l = some x → L' l = some x

theorem Im.le_refl (I : Im) : I.le I := fun _ _ _ h => h
theorem Loc.le_refl (L : Loc) : L.le L := fun _ _ h => h
theorem Im.le_trans {I J K : Im} (h : I.le J) (h' : J.le K) : I.le K := fun b o v x => h' b o v (h b o v x)
theorem Loc.le_trans {I J K : Loc} (h : I.le J) (h' : J.le K) : I.le K := fun b o x => h' b o (h b o x)

inductive VR (I : Im) (L : Loc) : PV → Value → Prop
  | undef (v : Value) : VR I L .undef v
  | bool (b : Bool) : VR I L (.bool b) (.bool b)
  | int (k : IntKind) (n : Int) : VR I L (.int k n) (.int k n)
  | str (s : List UInt8) : VR I L (.str s) (.string ⟨s.toArray⟩)
  | nilp : VR I L .nilp (.pointer none)
  | ptr {l i off b sz : Nat} (h : L l = some (b, sz)) : VR I L (.ptr l i off) (.pointer (some ⟨b, i * sz + off, none⟩))
  | iptr {cs : List PV} {off b o : Nat} (f : Nat → Value)
      (hi : ∀ (j : Nat) c, cs[j]? = some c → I b (o + j) = some (f j) ∧ (f j).oneCell' = true)
      (hv : ∀ (j : Nat) c, cs[j]? = some c → VR I L c (f j)) : VR I L (.iptr cs off) (.pointer (some ⟨b, o + off, none⟩))
  | slice0 (k : SK) (sz : Nat) (a : Option Addr) (cap : Nat) (hk : k ≠ .own) (hf : k = .fit → cap = 0) : VR I L (.slice k sz []) (.slice a 0 cap)
  | slice {k : SK} {sz : Nat} {l : List PV} {b o cap : Nat} (hk : k ≠ .own) (hf : k = .fit → cap = l.length) (hc : l.length ≤ cap) (f : Nat → Nat → Value)
      (hz : ∀ (i : Nat) e, l[i]? = some e → (cellsOf e).length = sz ∧ isVar e = true)
      (hi : ∀ (i : Nat) e (j : Nat) c, l[i]? = some e → (cellsOf e)[j]? = some c → I b (o + i * sz + j) = some (f i j) ∧ (f i j).oneCell' = true)
      (hv : ∀ (i : Nat) e (j : Nat) c, l[i]? = some e → (cellsOf e)[j]? = some c → VR I L c (f i j)) : VR I L (.slice k sz l) (.slice (some ⟨b, o, none⟩) l.length cap)
  | mslice {l off len sz b cap : Nat} (h : L l = some (b, sz)) (hc : len ≤ cap) : VR I L (.mslice l off len sz) (.slice (some ⟨b, off * sz, none⟩) len cap)
  | mslice0 {l off sz b cap : Nat} (a : Option Addr) (h : L l = some (b, sz)) : VR I L (.mslice l off 0 sz) (.slice a 0 cap)
  | agg {cs : List PV} {vs : Array Value} (hl : vs.size = cs.length) (ho : ∀ (j : Nat) v, vs[j]? = some v → v.oneCell' = true)
      (hv : ∀ (j : Nat) c v, cs[j]? = some c → vs[j]? = some v → VR I L c v) : VR I L (.agg cs) (.agg vs)
  | tup {cs : List PV} {vs : Array Value} (hl : vs.size = cs.length) (hv : ∀ (j : Nat) c v, cs[j]? = some c → vs[j]? = some v → VR I L c v) : VR I L (.tup cs) (.tuple vs)
  | fn {f : Nat} {cs ds : List PV} {vs us : Array Value} (hl : vs.size = cs.length) (hv : ∀ (j : Nat) c v, cs[j]? = some c → vs[j]? = some v → VR I L c v)
      (hl' : us.size = ds.length) (hv' : ∀ (j : Nat) c v, ds[j]? = some c → us[j]? = some v → VR I L c v) : VR I L (.fn f cs ds) (.func (.func f) vs us)
  | nilfn : VR I L .nilfn .nilFunc
  | mp {r b sz : Nat} (h : L r = some (b, sz)) : VR I L (.mp r) (.map (some b))
  | nilmap : VR I L .nilmap (.map none)
  | iface {t : Nat} {v : PV} {mv : Value} (h : VR I L v mv) : VR I L (.iface t v) (.iface t mv)
  | nilif : VR I L .nilif .nilIface

theorem VR.mono {I I' : Im} {L L' : Loc} (hI : I.le I') (hL : L.le L') {v : PV} {mv : Value} (h : VR I L v mv) : VR I' L' v mv := by
  induction h with
  | undef v => exact .undef v
  | bool b => exact .bool b
  | int k n => exact .int k n
  | str s => exact .str s
  | nilp => exact .nilp
  | ptr h => exact .ptr (hL _ _ h)
  | iptr f hi hv ih => exact .iptr f (fun j c h => ⟨hI _ _ _ (hi j c h).1, (hi j c h).2⟩) ih
  | slice0 k sz a cap hk hf => exact .slice0 k sz a cap hk hf
  | slice hk hf hc f hz hi hv ih => exact .slice hk hf hc f hz (fun i e j c h h' => ⟨hI _ _ _ (hi i e j c h h').1, (hi i e j c h h').2⟩) ih
  | mslice h hc => exact .mslice (hL _ _ h) hc
  | mslice0 a h => exact .mslice0 a (hL _ _ h)
  | agg hl ho hv ih => exact .agg hl ho ih
  | tup hl hv ih => exact .tup hl ih
  | fn hl hv hl' hv' ih ih' => exact .fn hl ih hl' ih'
  | nilfn => exact .nilfn
  | mp h => exact .mp (hL _ _ h)
  | nilmap => exact .nilmap
  | iface h ih => exact .iface ih
  | nilif => exact .nilif

/-- Who may write a block. 'prot': a caller. -/
inductive Cl where
  | prot
  | loc (l : Nat)
  | box (k : Nat)
  | ownT (t : Nat)
  | ownB (k j : Nat)
  | ownS (l i j : Nat)
  deriving DecidableEq

structure Gh where
  fz : Nat → Nat
  loc : Nat → Nat
  box : Nat → Nat
  cl : Nat → Option Cl

def Gh.im (G : Gh) (w : World) : Im := fun b o => if o < G.fz b then w.cell? ⟨b, o, none⟩ else none

def Obj.sz : Obj → Nat
  | .arr sz _ => sz
  | .mp _ => 0

def locOf (loc : Nat → Nat) (st : Store) : Loc := fun l => (st[l]?).map fun o => (loc l, o.sz)

/-- A slice whose spare room is its own. -/
def OwnR (G : Gh) (w : World) (L : Loc) (κ : Cl) (sz : Nat) (l : List PV) (mv : Value) : Prop :=
  ∃ b cap arr e, mv = .slice (some ⟨b, 0, none⟩) l.length cap ∧ G.cl b = some κ ∧ w.heap[b]? = some (.cells arr e (0, 0)) ∧ arr.size = cap * sz ∧
    l.length ≤ cap ∧ cap ≤ maxLen ∧ G.fz b = l.length * sz ∧ 0 < sz ∧ VR (G.im w) L (.slice .plain sz l) mv

/-- A cell. -/
def CR (G : Gh) (w : World) (L : Loc) (κ : Cl) (c : PV) (mv : Value) : Prop :=
  mv.oneCell' = true ∧ match c with
    | .slice .own sz l => OwnR G w L κ sz l mv
    | c => VR (G.im w) L c mv

/-- A temporary. -/
def TR (G : Gh) (w : World) (L : Loc) (κ : Cl) (v : PV) (mv : Value) : Prop :=
  match v with
  | .slice .own sz l => OwnR G w L κ sz l mv
  | .lptr k off => mv = .pointer (some ⟨G.box k, off, none⟩)
  | v => VR (G.im w) L v mv

def ObjR (G : Gh) (w : World) (L : Loc) (l : Nat) : Obj → Prop
  | .arr sz es => G.cl (G.loc l) = some (.loc l) ∧ G.fz (G.loc l) = 0 ∧ ∃ arr e, w.heap[G.loc l]? = some (.cells arr e (0, 0)) ∧ arr.size = es.length * sz ∧
      ∀ (i : Nat) v, es[i]? = some v → (cellsOf v).length = sz ∧ isVar v = true ∧ ∀ (j : Nat) c, (cellsOf v)[j]? = some c → ∃ mv, arr[i * sz + j]? = some mv ∧ CR G w L (.ownS l i j) c mv
  | .mp es => G.cl (G.loc l) = some (.loc l) ∧ G.fz (G.loc l) = 0 ∧ ∃ ents clock, w.heap[G.loc l]? = some (.map ents clock) ∧ ents.size = es.length ∧
      ∀ (i : Nat) k v, es[i]? = some (k, v) → ∃ en, ents[i]? = some en ∧ VR (G.im w) L k en.key ∧ VR (G.im w) L v en.val

def BxR (G : Gh) (w : World) (L : Loc) (k : Nat) : Bx → Prop
  | .no => True
  | .cells cs => G.cl (G.box k) = some (.box k) ∧ G.fz (G.box k) = 0 ∧ ∃ arr e, w.heap[G.box k]? = some (.cells arr e (0, 0)) ∧ arr.size = cs.length ∧
      ∀ (j : Nat) c, cs[j]? = some c → ∃ mv, arr[j]? = some mv ∧ CR G w L (.ownB k j) c mv
  | .iter s pos => G.cl (G.box k) = some (.box k) ∧ G.fz (G.box k) = 0 ∧ w.heap[G.box k]? = some (.stringIter ⟨s.toArray⟩ pos)

structure SimS (G : Gh) (st : Store) (w : World) : Prop where
  obj : ∀ l o, st[l]? = some o → ObjR G w (locOf G.loc st) l o
  fresh : ∀ b, w.heap.size ≤ b → G.fz b = 0 ∧ G.cl b = none

structure Sim (G : Gh) (N : Nat) (s : St) (a : Act) (w : World) : Prop where
  defers : a.defers = []
  size : a.tmps.size = N
  tmp : ∀ t, t < N → TR G w (locOf G.loc s.st) (.ownT t) (s.fr t) (a.tmps.getD t Go.undef)
  hi : ∀ t, N ≤ t → s.fr t = .undef
  lp : ∀ t k off, s.fr t = .lptr k off → s.bx k ≠ .no
  box : ∀ k, BxR G w (locOf G.loc s.st) k (s.bx k)
  store : SimS G s.st w

/-- What a run keeps. -/
structure Ext (G : Gh) (st : Store) (w : World) (G' : Gh) (st' : Store) (w' : World) : Prop where
  im : (G.im w).le (G'.im w')
  loc : (locOf G.loc st).le (locOf G'.loc st')
  prot : ∀ b, G.cl b = some .prot → G'.cl b = some .prot ∧ G'.fz b = G.fz b ∧ w'.heap[b]? = w.heap[b]?
  size : w.heap.size ≤ w'.heap.size
  os : w'.os = w.os
  output : w'.output = w.output
  frozen : ∀ x, w'.frozen? x = w.frozen? x

theorem Ext.refl (G : Gh) (st : Store) (w : World) : Ext G st w G st w :=
  ⟨Im.le_refl _, Loc.le_refl _, fun _ h => ⟨h, rfl, rfl⟩, Nat.le_refl _, rfl, rfl, fun _ => rfl⟩

theorem Ext.trans {G G' G'' : Gh} {st st' st'' : Store} {w w' w'' : World} (h : Ext G st w G' st' w') (h' : Ext G' st' w' G'' st'' w'') : Ext G st w G'' st'' w'' :=
  ⟨Im.le_trans h.im h'.im, Loc.le_trans h.loc h'.loc, fun b hb => ⟨(h'.prot b (h.prot b hb).1).1, by rw [(h'.prot b (h.prot b hb).1).2.1, (h.prot b hb).2.1], by rw [(h'.prot b (h.prot b hb).1).2.2, (h.prot b hb).2.2]⟩,
   Nat.le_trans h.size h'.size, h'.os.trans h.os, h'.output.trans h.output, fun x => (h'.frozen x).trans (h.frozen x)⟩

/-- Nothing of it is frozen. -/
def Calm : Go.Obj → Prop
  | .cells _ _ fr => fr = (0, 0)
  | _ => True

theorem frozen_calm {w : World} {b : Nat} {o : Go.Obj} (h : w.heap[b]? = some o) (hc : Calm o) (x : Addr) (hx : x.block = b) : w.frozen? x = false := by
  unfold World.frozen?
  rw [hx, h]
  cases o with
  | cells c t fr => simp only [Calm] at hc; subst hc; simp
  | _ => rfl

theorem frozen_none {w : World} (x : Addr) (h : w.heap[x.block]? = none) : w.frozen? x = false := by
  unfold World.frozen?
  rw [h]

theorem TR.strip {G : Gh} {w : World} {L : Loc} {κ : Cl} (κ' : Cl) {v : PV} {mv : Value} (h : TR G w L κ v mv) : TR G w L κ' (strip v) mv := by
  cases v with
  | slice k sz l =>
    cases k with
    | own => exact h.choose_spec.choose_spec.choose_spec.choose_spec.2.2.2.2.2.2.2.2
    | plain => exact h
    | fit => exact h
  | _ => exact h

theorem TR.vr {G : Gh} {w : World} {L : Loc} {κ : Cl} {v : PV} {mv : Value} (h : TR G w L κ v mv) (ho : ∀ sz l, v ≠ .slice .own sz l) (hl : ∀ k off, v ≠ .lptr k off) : VR (G.im w) L v mv := by
  cases v with
  | slice k sz l =>
    cases k with
    | own => exact absurd rfl (ho _ _)
    | plain => exact h
    | fit => exact h
  | lptr k off => exact absurd rfl (hl _ _)
  | _ => exact h

theorem VR.not_own {I : Im} {L : Loc} {sz : Nat} {l : List PV} {mv : Value} (h : VR I L (.slice .own sz l) mv) : False := by
  cases h with
  | slice0 _ _ _ _ hk => exact hk rfl
  | slice hk => exact hk rfl

theorem VR.tr {G : Gh} {w : World} {L : Loc} {κ : Cl} {v : PV} {mv : Value} (h : VR (G.im w) L v mv) : TR G w L κ v mv := by
  cases v with
  | slice k sz l =>
    cases k with
    | own => exact (VR.not_own h).elim
    | plain => exact h
    | fit => exact h
  | lptr k off => cases h
  | _ => exact h

theorem VR.cr {G : Gh} {w : World} {L : Loc} {κ : Cl} {v : PV} {mv : Value} (h : VR (G.im w) L v mv) (ho : mv.oneCell' = true) : CR G w L κ v mv := by
  refine ⟨ho, ?_⟩
  cases v with
  | slice k sz l =>
    cases k with
    | own => exact (VR.not_own h).elim
    | plain => exact h
    | fit => exact h
  | _ => exact h

theorem CR.strip {G : Gh} {w : World} {L : Loc} {κ : Cl} {v : PV} {mv : Value} (h : CR G w L κ v mv) : VR (G.im w) L (strip v) mv := by
  obtain ⟨_, h⟩ := h
  cases v with
  | slice k sz l =>
    cases k with
    | own => exact h.choose_spec.choose_spec.choose_spec.choose_spec.2.2.2.2.2.2.2.2
    | plain => exact h
    | fit => exact h
  | _ => exact h

/-! ### What keeps what -/

/-- What so claimed is, is as it was. -/
def Keeps (G : Gh) (w : World) (G' : Gh) (w' : World) (κ : Cl) : Prop :=
  ∀ b, G.cl b = some κ → G'.cl b = some κ ∧ G'.fz b = G.fz b ∧ w'.heap[b]? = w.heap[b]?

theorem Keeps.refl (G : Gh) (w : World) (κ : Cl) : Keeps G w G w κ := fun _ h => ⟨h, rfl, rfl⟩

section
variable {G G' : Gh} {w w' : World} {L L' : Loc} {κ : Cl}

theorem OwnR.mono (hI : (G.im w).le (G'.im w')) (hL : L.le L') (hk : Keeps G w G' w' κ) {sz : Nat} {l : List PV} {mv : Value} (h : OwnR G w L κ sz l mv) : OwnR G' w' L' κ sz l mv := by
  obtain ⟨b, cap, arr, e, h1, h2, h3, h5, h6, h7, h8, h9, h10⟩ := h
  obtain ⟨k1, k2, k3⟩ := hk b h2
  exact ⟨b, cap, arr, e, h1, k1, by rw [k3]; exact h3, h5, h6, h7, by rw [k2]; exact h8, h9, h10.mono hI hL⟩

theorem CR.mono (hI : (G.im w).le (G'.im w')) (hL : L.le L') (hk : Keeps G w G' w' κ) {c : PV} {mv : Value} (h : CR G w L κ c mv) : CR G' w' L' κ c mv := by
  refine ⟨h.1, ?_⟩
  obtain ⟨_, h⟩ := h
  cases c with
  | slice k sz l =>
    cases k with
    | own => exact OwnR.mono hI hL hk h
    | plain => exact VR.mono hI hL h
    | fit => exact VR.mono hI hL h
  | _ => exact VR.mono hI hL h

theorem TR.mono (hI : (G.im w).le (G'.im w')) (hL : L.le L') (hk : Keeps G w G' w' κ) {v : PV} (hb : ∀ k off, v = .lptr k off → G'.box k = G.box k) {mv : Value} (h : TR G w L κ v mv) : TR G' w' L' κ v mv := by
  cases v with
  | slice k sz l =>
    cases k with
    | own => exact OwnR.mono hI hL hk h
    | plain => exact VR.mono hI hL h
    | fit => exact VR.mono hI hL h
  | lptr k off => simp only [TR] at h ⊢; rw [hb k off rfl]; exact h
  | _ => exact VR.mono hI hL h

theorem ObjR.mono (hI : (G.im w).le (G'.im w')) (hL : L.le L') {l : Nat} (hl : G'.loc l = G.loc l) (hk : Keeps G w G' w' (.loc l)) (hs : ∀ i j, Keeps G w G' w' (.ownS l i j)) {o : Obj} (h : ObjR G w L l o) : ObjR G' w' L' l o := by
  cases o with
  | arr sz es =>
    obtain ⟨h1, h2, arr, e, h3, h4, h5⟩ := h
    obtain ⟨k1, k2, k3⟩ := hk _ h1
    refine ⟨by rw [hl]; exact k1, by rw [hl, k2]; exact h2, arr, e, by rw [hl, k3]; exact h3, h4, fun i v hv => ⟨(h5 i v hv).1, (h5 i v hv).2.1, fun j c hc => ?_⟩⟩
    obtain ⟨mv, m1, m2⟩ := (h5 i v hv).2.2 j c hc
    exact ⟨mv, m1, m2.mono hI hL (hs i j)⟩
  | mp es =>
    obtain ⟨h1, h2, ents, clock, h3, h4, h6⟩ := h
    obtain ⟨k1, k2, k3⟩ := hk _ h1
    refine ⟨by rw [hl]; exact k1, by rw [hl, k2]; exact h2, ents, clock, by rw [hl, k3]; exact h3, h4, fun i k v hv => ?_⟩
    obtain ⟨en, m1, m2, m3⟩ := h6 i k v hv
    exact ⟨en, m1, m2.mono hI hL, m3.mono hI hL⟩

theorem BxR.mono (hI : (G.im w).le (G'.im w')) (hL : L.le L') {k : Nat} (hl : G'.box k = G.box k) (hk : Keeps G w G' w' (.box k)) (hs : ∀ j, Keeps G w G' w' (.ownB k j)) {o : Bx} (h : BxR G w L k o) : BxR G' w' L' k o := by
  cases o with
  | no => trivial
  | cells cs =>
    obtain ⟨h1, h2, arr, e, h3, h4, h5⟩ := h
    obtain ⟨k1, k2, k3⟩ := hk _ h1
    refine ⟨by rw [hl]; exact k1, by rw [hl, k2]; exact h2, arr, e, by rw [hl, k3]; exact h3, h4, fun j c hc => ?_⟩
    obtain ⟨mv, m1, m2⟩ := h5 j c hc
    exact ⟨mv, m1, m2.mono hI hL (hs j)⟩
  | iter s pos =>
    obtain ⟨h1, h2, h3⟩ := h
    obtain ⟨k1, k2, k3⟩ := hk _ h1
    exact ⟨by rw [hl]; exact k1, by rw [hl, k2]; exact h2, by rw [hl, k3]; exact h3⟩
end

end PE
