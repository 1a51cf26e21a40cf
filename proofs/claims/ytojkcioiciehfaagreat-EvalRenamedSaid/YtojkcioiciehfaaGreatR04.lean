/-
  Texts joined by program: A7T1, A7P2, A7P3, A7P4, A7P5, A7P6, A7T0r, A7P7, A7P8, A7P9, A7P10, A7P11, A7P12, A7P13, A7P14, A7P15, A7P16, A7P17, A7P18, A7P19, A7P20, A7T2, A7T3, A7T4, A7T5, A7T6, A7T7, A7T8, A7T9, A7R1.
-/
import Derived.Test.YtojkcioiciehfaaGreatR03
set_option linter.unusedVariables false
set_option linter.unusedSectionVars false
set_option linter.unusedSimpArgs false
namespace PE.U
open Go PE
def idx {α : Type} (p : α -> Bool) (l : List α) : Int := match l.findIdx? p with
 | some i => (i : Int)
 | none => -1
theorem idx_hit {α : Type} {p : α -> Bool} {l d : List α} {x : α} {r : List α} (h : Split l d x r) (hd : ∀ y ∈ d, p y = false) (hx : p x = true) : idx p l = d.length := by
 have : l.findIdx? p = some d.length := by
  rw [h.eq, List.findIdx?_append]
  have : d.findIdx? p = none := by rw [List.findIdx?_eq_none_iff]; exact hd
  rw [this]
  simp [List.findIdx?_cons, hx]
 simp [idx, this]
theorem zNd {α : Type} {p : α -> Bool} {l : List α} (hd : ∀ y ∈ l, p y = false) : idx p l = -1 := by
 have : l.findIdx? p = none := by rw [List.findIdx?_eq_none_iff]; exact hd
 simp [idx, this]
theorem idx_ge {α : Type} (p : α -> Bool) (l : List α) : decide (0 <= idx p l) = l.any p := by
 unfold idx
 cases h : l.findIdx? p with
 | none =>
  rw [List.findIdx?_eq_none_iff] at h
  simp; exact h
 | some i =>
  have : (l.findIdx? p).isSome = true := by rw [h]; rfl
  rw [List.findIdx?_isSome] at this
  simp [this]
theorem indexFuncFunc (l : List (Func)) (p : Func -> Bool) (k : Nat) (first caps : List PV) (σ : ze) (hl : l.length < 1099511627776) (hf : ∀ x ∈ l, zi E k (first ++ [zm x] ++ caps) σ = some (.ret (.bool (p x)), σ)) :
  zi E 96 [.slice .plain 4 (l.map (zm)), .fn k first caps] σ = some (.ret (.int .i64 (idx p l)), σ) := by
 refine zc rfl rfl rfl (by simp) ?_
 simp [F96]
 refine zG l K96_0 B96_0 (fun d => [(8, .int .i64 d.length)]) (fun _ => σ) (fun d => ∀ y ∈ d, p y = false) (by omega) (by simp) ?_ ?_
 ·intros d x r s hl' hlt hget hget' hw hp h1 h2 h3 h4
  have hfx := hf x hl'.mem
  simp [zm] at h1 h3 hfx
  clear h2 hf
  cases hx : p x
  ·(simp [*, zm]) <;> (repeat' ((first | refine sP _ ?_ ?_ | refine gP _ ?_ ?_ | refine sN _ ?_ ?_ | refine gN _ ?_ ?_ | refine sM _ ?_ ?_ | refine gM _ ?_ ?_ | refine sB _ ?_ ?_ | refine gB _ ?_ ?_) <;> intro hc <;> simp [*, zm]))
   all_goals grind
  ·have := idx_hit hl' hp hx
   (simp [*, zm]) <;> (repeat' ((first | refine sP _ ?_ ?_ | refine gP _ ?_ ?_ | refine sN _ ?_ ?_ | refine gN _ ?_ ?_ | refine sM _ ?_ ?_ | refine gM _ ?_ ?_ | refine sB _ ?_ ?_ | refine gB _ ?_ ?_) <;> intro hc <;> simp [*, zm]))
 ·intros s hp h1 h2 h3 h4
  have := zNd hp
  simp at h1 h3
  (simp [*, zm]) <;> (repeat' ((first | refine sP _ ?_ ?_ | refine gP _ ?_ ?_ | refine sN _ ?_ ?_ | refine gN _ ?_ ?_ | refine sM _ ?_ ?_ | refine gM _ ?_ ?_ | refine sB _ ?_ ?_ | refine gB _ ?_ ?_) <;> intro hc <;> simp [*, zm]))
theorem containsFuncFunc (l : List (Func)) (p : Func -> Bool) (k : Nat) (first caps : List PV) (σ : ze) (hl : l.length < 1099511627776) (hc : (first.map stripA) = first /\ (caps.map stripA) = caps) (hf : ∀ x ∈ l, zi E k (first ++ [zm x] ++ caps) σ = some (.ret (.bool (p x)), σ)) :
  zi E 87 [.slice .plain 4 (l.map (zm)), .fn k first caps] σ = some (.ret (.bool (l.any p)), σ) := by
 refine zc rfl rfl rfl (by simp) ?_
 have h := indexFuncFunc l p k first caps σ hl hf
 have h2 := idx_ge p l
 clear hf
 (simp [*, F87]) <;> (repeat' ((first | refine sP _ ?_ ?_ | refine gP _ ?_ ?_ | refine sN _ ?_ ?_ | refine gN _ ?_ ?_ | refine sM _ ?_ ?_ | refine gM _ ?_ ?_ | refine sB _ ?_ ?_ | refine gB _ ?_ ?_) <;> intro hc <;> simp [*, F87]))
theorem indexFuncPArr (l : List (PArr)) (p : PArr -> Bool) (k : Nat) (first caps : List PV) (σ : ze) (hl : l.length < 1099511627776) (hf : ∀ x ∈ l, zi E k (first ++ [zR x] ++ caps) σ = some (.ret (.bool (p x)), σ)) :
  zi E 108 [.slice .plain 2 (l.map (zR)), .fn k first caps] σ = some (.ret (.int .i64 (idx p l)), σ) := by
 refine zc rfl rfl rfl (by simp) ?_
 simp [F108]
 refine zG l K108_0 B108_0 (fun d => [(8, .int .i64 d.length)]) (fun _ => σ) (fun d => ∀ y ∈ d, p y = false) (by omega) (by simp) ?_ ?_
 ·intros d x r s hl' hlt hget hget' hw hp h1 h2 h3 h4
  have hfx := hf x hl'.mem
  simp [zR] at h1 h3 hfx
  clear h2 hf
  cases hx : p x
  ·(simp [*, zR]) <;> (repeat' ((first | refine sP _ ?_ ?_ | refine gP _ ?_ ?_ | refine sN _ ?_ ?_ | refine gN _ ?_ ?_ | refine sM _ ?_ ?_ | refine gM _ ?_ ?_ | refine sB _ ?_ ?_ | refine gB _ ?_ ?_) <;> intro hc <;> simp [*, zR]))
   all_goals grind
  ·have := idx_hit hl' hp hx
   (simp [*, zR]) <;> (repeat' ((first | refine sP _ ?_ ?_ | refine gP _ ?_ ?_ | refine sN _ ?_ ?_ | refine gN _ ?_ ?_ | refine sM _ ?_ ?_ | refine gM _ ?_ ?_ | refine sB _ ?_ ?_ | refine gB _ ?_ ?_) <;> intro hc <;> simp [*, zR]))
 ·intros s hp h1 h2 h3 h4
  have := zNd hp
  simp at h1 h3
  (simp [*, zR]) <;> (repeat' ((first | refine sP _ ?_ ?_ | refine gP _ ?_ ?_ | refine sN _ ?_ ?_ | refine gN _ ?_ ?_ | refine sM _ ?_ ?_ | refine gM _ ?_ ?_ | refine sB _ ?_ ?_ | refine gB _ ?_ ?_) <;> intro hc <;> simp [*, zR]))
theorem containsFuncPArr (l : List (PArr)) (p : PArr -> Bool) (k : Nat) (first caps : List PV) (σ : ze) (hl : l.length < 1099511627776) (hc : (first.map stripA) = first /\ (caps.map stripA) = caps) (hf : ∀ x ∈ l, zi E k (first ++ [zR x] ++ caps) σ = some (.ret (.bool (p x)), σ)) :
  zi E 86 [.slice .plain 2 (l.map (zR)), .fn k first caps] σ = some (.ret (.bool (l.any p)), σ) := by
 refine zc rfl rfl rfl (by simp) ?_
 have h := indexFuncPArr l p k first caps σ hl hf
 have h2 := idx_ge p l
 clear hf
 (simp [*, F86]) <;> (repeat' ((first | refine sP _ ?_ ?_ | refine gP _ ?_ ?_ | refine sN _ ?_ ?_ | refine gN _ ?_ ?_ | refine sM _ ?_ ?_ | refine gM _ ?_ ?_ | refine sB _ ?_ ?_ | refine gB _ ?_ ?_) <;> intro hc <;> simp [*, F86]))
theorem indexFuncExpr (l : List (Expr)) (p : Expr -> Bool) (k : Nat) (first caps : List PV) (σ : ze) (hl : l.length < 1099511627776) (hf : ∀ x ∈ l, zi E k (first ++ [zw x] ++ caps) σ = some (.ret (.bool (p x)), σ)) :
  zi E 163 [.slice .plain 5 (l.map (zw)), .fn k first caps] σ = some (.ret (.int .i64 (idx p l)), σ) := by
 refine zc rfl rfl rfl (by simp) ?_
 simp [F163]
 refine zG l K163_0 B163_0 (fun d => [(8, .int .i64 d.length)]) (fun _ => σ) (fun d => ∀ y ∈ d, p y = false) (by omega) (by simp) ?_ ?_
 ·intros d x r s hl' hlt hget hget' hw hp h1 h2 h3 h4
  have hfx := hf x hl'.mem
  simp [za] at h1 h3 hfx
  clear h2 hf
  cases hx : p x
  ·(simp [*, za]) <;> (repeat' ((first | refine sP _ ?_ ?_ | refine gP _ ?_ ?_ | refine sN _ ?_ ?_ | refine gN _ ?_ ?_ | refine sM _ ?_ ?_ | refine gM _ ?_ ?_ | refine sB _ ?_ ?_ | refine gB _ ?_ ?_) <;> intro hc <;> simp [*, za]))
   all_goals grind
  ·have := idx_hit hl' hp hx
   (simp [*, za]) <;> (repeat' ((first | refine sP _ ?_ ?_ | refine gP _ ?_ ?_ | refine sN _ ?_ ?_ | refine gN _ ?_ ?_ | refine sM _ ?_ ?_ | refine gM _ ?_ ?_ | refine sB _ ?_ ?_ | refine gB _ ?_ ?_) <;> intro hc <;> simp [*, za]))
 ·intros s hp h1 h2 h3 h4
  have := zNd hp
  simp at h1 h3
  (simp [*, za]) <;> (repeat' ((first | refine sP _ ?_ ?_ | refine gP _ ?_ ?_ | refine sN _ ?_ ?_ | refine gN _ ?_ ?_ | refine sM _ ?_ ?_ | refine gM _ ?_ ?_ | refine sB _ ?_ ?_ | refine gB _ ?_ ?_) <;> intro hc <;> simp [*, za]))
theorem containsFuncExpr (l : List (Expr)) (p : Expr -> Bool) (k : Nat) (first caps : List PV) (σ : ze) (hl : l.length < 1099511627776) (hc : (first.map stripA) = first /\ (caps.map stripA) = caps) (hf : ∀ x ∈ l, zi E k (first ++ [zw x] ++ caps) σ = some (.ret (.bool (p x)), σ)) :
  zi E 152 [.slice .plain 5 (l.map (zw)), .fn k first caps] σ = some (.ret (.bool (l.any p)), σ) := by
 refine zc rfl rfl rfl (by simp) ?_
 have h := indexFuncExpr l p k first caps σ hl hf
 have h2 := idx_ge p l
 clear hf
 (simp [*, F152]) <;> (repeat' ((first | refine sP _ ?_ ?_ | refine gP _ ?_ ?_ | refine sN _ ?_ ?_ | refine gN _ ?_ ?_ | refine sM _ ?_ ?_ | refine gM _ ?_ ?_ | refine sB _ ?_ ?_ | refine gB _ ?_ ?_) <;> intro hc <;> simp [*, F152]))
theorem indexFuncStmt (l : List (Stmt)) (p : Stmt -> Bool) (k : Nat) (first caps : List PV) (σ : ze) (hl : l.length < 1099511627776) (hf : ∀ x ∈ l, zi E k (first ++ [zda x] ++ caps) σ = some (.ret (.bool (p x)), σ)) :
  zi E 117 [.slice .plain 6 (l.map (zda)), .fn k first caps] σ = some (.ret (.int .i64 (idx p l)), σ) := by
 refine zc rfl rfl rfl (by simp) ?_
 simp [F117]
 refine zG l K117_0 B117_0 (fun d => [(8, .int .i64 d.length)]) (fun _ => σ) (fun d => ∀ y ∈ d, p y = false) (by omega) (by simp) ?_ ?_
 ·intros d x r s hl' hlt hget hget' hw hp h1 h2 h3 h4
  have hfx := hf x hl'.mem
  simp [zb] at h1 h3 hfx
  clear h2 hf
  cases hx : p x
  ·(simp [*, zb]) <;> (repeat' ((first | refine sP _ ?_ ?_ | refine gP _ ?_ ?_ | refine sN _ ?_ ?_ | refine gN _ ?_ ?_ | refine sM _ ?_ ?_ | refine gM _ ?_ ?_ | refine sB _ ?_ ?_ | refine gB _ ?_ ?_) <;> intro hc <;> simp [*, zb]))
   all_goals grind
  ·have := idx_hit hl' hp hx
   (simp [*, zb]) <;> (repeat' ((first | refine sP _ ?_ ?_ | refine gP _ ?_ ?_ | refine sN _ ?_ ?_ | refine gN _ ?_ ?_ | refine sM _ ?_ ?_ | refine gM _ ?_ ?_ | refine sB _ ?_ ?_ | refine gB _ ?_ ?_) <;> intro hc <;> simp [*, zb]))
 ·intros s hp h1 h2 h3 h4
  have := zNd hp
  simp at h1 h3
  (simp [*, zb]) <;> (repeat' ((first | refine sP _ ?_ ?_ | refine gP _ ?_ ?_ | refine sN _ ?_ ?_ | refine gN _ ?_ ?_ | refine sM _ ?_ ?_ | refine gM _ ?_ ?_ | refine sB _ ?_ ?_ | refine gB _ ?_ ?_) <;> intro hc <;> simp [*, zb]))
theorem zIa (l : List (Stmt)) (p : Stmt -> Bool) (k : Nat) (first caps : List PV) (σ : ze) (hl : l.length < 1099511627776) (hc : (first.map stripA) = first /\ (caps.map stripA) = caps) (hf : ∀ x ∈ l, zi E k (first ++ [zda x] ++ caps) σ = some (.ret (.bool (p x)), σ)) :
  zi E 92 [.slice .plain 6 (l.map (zda)), .fn k first caps] σ = some (.ret (.bool (l.any p)), σ) := by
 refine zc rfl rfl rfl (by simp) ?_
 have h := indexFuncStmt l p k first caps σ hl hf
 have h2 := idx_ge p l
 clear hf
 (simp [*, F92]) <;> (repeat' ((first | refine sP _ ?_ ?_ | refine gP _ ?_ ?_ | refine sN _ ?_ ?_ | refine gN _ ?_ ?_ | refine sM _ ?_ ?_ | refine gM _ ?_ ?_ | refine sB _ ?_ ?_ | refine gB _ ?_ ?_) <;> intro hc <;> simp [*, F92]))
theorem indexFuncPar (l : List (Par)) (p : Par -> Bool) (k : Nat) (first caps : List PV) (σ : ze) (hl : l.length < 1099511627776) (hf : ∀ x ∈ l, zi E k (first ++ [encPar x] ++ caps) σ = some (.ret (.bool (p x)), σ)) :
  zi E 132 [.slice .plain 2 (l.map (encPar)), .fn k first caps] σ = some (.ret (.int .i64 (idx p l)), σ) := by
 refine zc rfl rfl rfl (by simp) ?_
 simp [F132]
 refine zG l K132_0 B132_0 (fun d => [(8, .int .i64 d.length)]) (fun _ => σ) (fun d => ∀ y ∈ d, p y = false) (by omega) (by simp) ?_ ?_
 ·intros d x r s hl' hlt hget hget' hw hp h1 h2 h3 h4
  have hfx := hf x hl'.mem
  simp [encPar] at h1 h3 hfx
  clear h2 hf
  cases hx : p x
  ·(simp [*, encPar]) <;> (repeat' ((first | refine sP _ ?_ ?_ | refine gP _ ?_ ?_ | refine sN _ ?_ ?_ | refine gN _ ?_ ?_ | refine sM _ ?_ ?_ | refine gM _ ?_ ?_ | refine sB _ ?_ ?_ | refine gB _ ?_ ?_) <;> intro hc <;> simp [*, encPar]))
   all_goals grind
  ·have := idx_hit hl' hp hx
   (simp [*, encPar]) <;> (repeat' ((first | refine sP _ ?_ ?_ | refine gP _ ?_ ?_ | refine sN _ ?_ ?_ | refine gN _ ?_ ?_ | refine sM _ ?_ ?_ | refine gM _ ?_ ?_ | refine sB _ ?_ ?_ | refine gB _ ?_ ?_) <;> intro hc <;> simp [*, encPar]))
 ·intros s hp h1 h2 h3 h4
  have := zNd hp
  simp at h1 h3
  (simp [*, encPar]) <;> (repeat' ((first | refine sP _ ?_ ?_ | refine gP _ ?_ ?_ | refine sN _ ?_ ?_ | refine gN _ ?_ ?_ | refine sM _ ?_ ?_ | refine gM _ ?_ ?_ | refine sB _ ?_ ?_ | refine gB _ ?_ ?_) <;> intro hc <;> simp [*, encPar]))
theorem containsFuncPar (l : List (Par)) (p : Par -> Bool) (k : Nat) (first caps : List PV) (σ : ze) (hl : l.length < 1099511627776) (hc : (first.map stripA) = first /\ (caps.map stripA) = caps) (hf : ∀ x ∈ l, zi E k (first ++ [encPar x] ++ caps) σ = some (.ret (.bool (p x)), σ)) :
  zi E 111 [.slice .plain 2 (l.map (encPar)), .fn k first caps] σ = some (.ret (.bool (l.any p)), σ) := by
 refine zc rfl rfl rfl (by simp) ?_
 have h := indexFuncPar l p k first caps σ hl hf
 have h2 := idx_ge p l
 clear hf
 (simp [*, F111]) <;> (repeat' ((first | refine sP _ ?_ ?_ | refine gP _ ?_ ?_ | refine sN _ ?_ ?_ | refine gN _ ?_ ?_ | refine sM _ ?_ ?_ | refine gM _ ?_ ?_ | refine sB _ ?_ ?_ | refine gB _ ?_ ?_) <;> intro hc <;> simp [*, F111]))
end PE.U

namespace PE.U
open Go PE
def tokKind (w : List UInt8) (b : UInt8) : Int := if wordM w then 2 else if zRa b.toNat then 1 else 0
def tokBad (w : List UInt8) (b : UInt8) : Bool := (decide (tokKind w b = 1) && !znb w) || (decide (tokKind w b = 0) && !zWd w)
def blank (b : UInt8) : Bool := b == 32 || b == 9 || b == 13
def zmb : Nat -> List UInt8 -> Int -> List Tok -> List Tok × Int × Int
 | 0, _, _, acc => (acc, 0, 0)
 | _ + 1, [], line, acc => (acc ++ [⟨3, [], line⟩], 0, 0)
 | n + 1, b :: r, line, acc =>
  if b = 10 then zmb n r (line + 1) acc
  else if blank b then zmb n r line acc
  else if b = 47 /\ r.head? = some 47 then zmb n ((b :: r).dropWhile (· != 10)) line acc
  else if zA b then
   if tokBad ((b :: r).takeWhile zA) b then ([], 20, line)
   else zmb n ((b :: r).drop ((b :: r).takeWhile zA).length) line (acc ++ [⟨tokKind ((b :: r).takeWhile zA) b, (b :: r).takeWhile zA, line⟩])
  else if zbe (b :: r) = [] then ([], 20, line)
  else zmb n ((b :: r).drop (zbe (b :: r)).length) line (acc ++ [⟨2, zbe (b :: r), line⟩])
def zD (s : List UInt8) : List Tok × Int × Int := if 100000 < s.length then ([], 2, 0) else zmb (s.length + 1) s 1 []
example : zD [105, 110, 116, 32, 120, 61, 49, 59, 10] = ([⟨2, [105, 110, 116], 1⟩, ⟨1, [120], 1⟩, ⟨2, [61], 1⟩, ⟨0, [49], 1⟩, ⟨2, [59], 1⟩, ⟨3, [], 2⟩], 0, 0) := by decide
theorem sign_len (s : List UInt8) : (zbe s).length <= s.length := by
 unfold zbe
 cases h : signsL.find? (fun x => x.isPrefixOf s) with
 | none => simp
 | some x =>
  have := List.find?_some h
  simp only [List.isPrefixOf_iff_prefix] at this
  simpa using this.length_le
end PE.U

namespace PE.U
open Go PE
theorem zNa {s : List UInt8} {i : Nat} (h : i < s.length) : s.drop i = s[i] :: s.drop (i + 1) := List.drop_eq_getElem_cons h
theorem takeWhile_all (p : UInt8 -> Bool) (l : List UInt8) (j : Nat) (h : j < (l.takeWhile p).length) (h' : j < l.length) : p l[j] = true := by
 have h1 : (l.takeWhile p)[j] = l[j] := by
  have := List.takeWhile_prefix (l := l) (p := p)
  exact this.getElem h
 rw [<- h1]
 exact (List.all_eq_true.1 (List.all_takeWhile (l := l) (p := p))) _ (List.getElem_mem h)
theorem zTd (p : UInt8 -> Bool) : ∀ (l : List UInt8) (h : (l.takeWhile p).length < l.length), p (l[(l.takeWhile p).length]) = false
 | [], h => by simp at h
 | b :: r, h => by
  cases hp : p b
  ·have e : (b :: r).takeWhile p = [] := by simp [hp]
   simp only [e]; simpa using hp
  ·have e : (b :: r).takeWhile p = b :: r.takeWhile p := by simp [hp]
   simp only [e, List.length_cons, List.getElem_cons_succ]
   exact zTd p r (by rw [e] at h; simpa using h)
theorem zIc (p : UInt8 -> Bool) (l : List UInt8) : l.dropWhile p = l.drop (l.takeWhile p).length := by
 induction l with
 | nil => rfl
 | cons b r ih =>
  cases hp : p b <;> simp [hp, ih]
theorem takeWhile_eq_take (p : UInt8 -> Bool) (l : List UInt8) : l.takeWhile p = l.take (l.takeWhile p).length := by
 induction l with
 | nil => rfl
 | cons b r ih =>
  cases hp : p b
  ·simp [hp]
  ·simp only [List.takeWhile_cons, hp, if_true, List.length_cons, List.take_succ_cons]; rw [<- ih]
def zwb (s : List UInt8) (at' : Nat) : Nat := ((s.drop at').takeWhile zA).length
theorem runLen_le (s : List UInt8) (i : Nat) (h : i <= s.length) : i + zwb s i <= s.length := by
 unfold zwb
 have := (List.takeWhile_prefix (l := s.drop i) (p := zA)).length_le
 simp at this; omega
theorem runLen_in (s : List UInt8) (i j : Nat) (h : j < zwb s i) (h' : i + j < s.length) : zA (s[i + j]) = true := by
 have := takeWhile_all zA (s.drop i) j h (by simp; omega)
 simpa using this
theorem runLen_end (s : List UInt8) (i : Nat) (h : i + zwb s i < s.length) : zA (s[i + zwb s i]) = false := by
 unfold zwb at h ⊢
 have := zTd zA (s.drop i) (by simp; omega)
 simpa using this
def comLen (s : List UInt8) (i : Nat) : Nat := ((s.drop i).takeWhile (· != 10)).length
theorem comLen_le (s : List UInt8) (i : Nat) (h : i <= s.length) : i + comLen s i <= s.length := by
 unfold comLen
 have := (List.takeWhile_prefix (l := s.drop i) (p := (· != 10))).length_le
 simp at this; omega
theorem comLen_in (s : List UInt8) (i j : Nat) (h : j < comLen s i) (h' : i + j < s.length) : ¬ s[i + j] = 10 := by
 have := takeWhile_all (· != 10) (s.drop i) j h (by simp; omega)
 simpa using this
theorem comLen_end (s : List UInt8) (i : Nat) (h : i + comLen s i < s.length) : s[i + comLen s i] = 10 := by
 unfold comLen at h ⊢
 have := zTd (· != 10) (s.drop i) (by simp; omega)
 simpa using this
structure TS where
 at' : Nat
 line : Nat
 acc : List Tok
def OnRoad (s : List UInt8) (c : TS) : Prop := c.at' <= s.length /\ c.line <= c.at' + 1 /\ c.acc.length <= c.at' /\ ∃ n, s.length - c.at' < n /\ zmb (s.length + 1) s 1 [] = zmb n (s.drop c.at') c.line c.acc
theorem getD_idx {s : List UInt8} {i : Nat} (h : i < s.length) : s[i]? = some s[i] := by simp [h]
end PE.U

namespace PE.U
open Go PE
abbrev encTokR (r : List Tok × Int × Int) : List PV := [toks r.1, .int .i64 r.2.1, .int .i64 r.2.2]
theorem road_nl {s : List UInt8} {i line : Nat} {ac : List Tok} (h : OnRoad s ⟨i, line, ac⟩) (hi : i < s.length) (hb : (s[i].toNat : Int) = 10) : OnRoad s ⟨i + 1, line + 1, ac⟩ := by
 obtain ⟨h1, h2, h3, n, h4, h5⟩ := h
 simp only at h1 h2 h3 h4 h5
 obtain ⟨n, rfl⟩ : ∃ m, n = m + 1 := ⟨n - 1, by omega⟩
 have hb' : s[i] = 10 := UInt8.toNat_inj.1 (by simp; omega)
 refine ⟨by simp only; omega, by simp only; omega, by simp only; omega, n, by simp only; omega, ?_⟩
 rw [h5, zNa hi]
 simp [zmb, hb']
theorem road_blank {s : List UInt8} {i line : Nat} {ac : List Tok} (h : OnRoad s ⟨i, line, ac⟩) (hi : i < s.length) (hb : blank s[i] = true) : OnRoad s ⟨i + 1, line, ac⟩ := by
 obtain ⟨h1, h2, h3, n, h4, h5⟩ := h
 simp only at h1 h2 h3 h4 h5
 obtain ⟨n, rfl⟩ : ∃ m, n = m + 1 := ⟨n - 1, by omega⟩
 have hb' : ¬ s[i] = 10 := by intro h; rw [h] at hb; exact absurd hb (by decide)
 refine ⟨by simp only; omega, by simp only; omega, by simp only; omega, n, by simp only; omega, ?_⟩
 rw [h5, zNa hi]
 simp [zmb, hb', hb]
theorem road_com {s : List UInt8} {i line : Nat} {ac : List Tok} (h : OnRoad s ⟨i, line, ac⟩) (hi : i < s.length) (hb : (s[i].toNat : Int) = 47) (hi2 : i + 1 < s.length) (hb2 : (s[i + 1].toNat : Int) = 47) : OnRoad s ⟨i + comLen s i, line, ac⟩ /\ 0 < comLen s i := by
 obtain ⟨h1, h2, h3, n, h4, h5⟩ := h
 simp only at h1 h2 h3 h4 h5
 obtain ⟨n, rfl⟩ : ∃ m, n = m + 1 := ⟨n - 1, by omega⟩
 have hb' : s[i] = 47 := UInt8.toNat_inj.1 (by simp; omega)
 have hb2' : s[i + 1] = 47 := UInt8.toNat_inj.1 (by simp; omega)
 have hpos : 0 < comLen s i := by
  unfold comLen; rw [zNa hi, List.takeWhile_cons]; simp [hb']
 have hle := comLen_le s i h1
 refine ⟨⟨by simp only; omega, by simp only; omega, by simp only; omega, n, by simp only; omega, ?_⟩, hpos⟩
 have e : (s[i] :: s.drop (i + 1)).dropWhile (· != 10) = s.drop (i + comLen s i) := by
  rw [<- zNa hi, zIc, List.drop_drop]; rfl
 have hh : (s.drop (i + 1)).head? = some 47 := by rw [zNa hi2, hb2']; rfl
 rw [h5, zNa hi]
 simp only [zmb]
 rw [if_neg (by rw [hb']; decide), if_neg (by rw [hb']; decide), if_pos ⟨hb', hh⟩, e]
structure Plain (s : List UInt8) (i : Nat) (hi : i < s.length) : Prop where
 nl : ¬ (s[i].toNat : Int) = 10
 blank : blank s[i] = false
 com : ¬ (s[i] = 47 /\ (s.drop (i + 1)).head? = some 47)
theorem road_name {s : List UInt8} {i line : Nat} {ac : List Tok} (h : OnRoad s ⟨i, line, ac⟩) (hi : i < s.length) (hp : Plain s i hi) (hn : zA s[i] = true) :
  (tokBad ((s.take (i + zwb s i)).drop i) s[i] = true -> zmb (s.length + 1) s 1 [] = ([], 20, (line : Int))) ∧
  (tokBad ((s.take (i + zwb s i)).drop i) s[i] = false -> OnRoad s ⟨i + zwb s i, line, ac ++ [⟨tokKind ((s.take (i + zwb s i)).drop i) s[i], (s.take (i + zwb s i)).drop i, line⟩]⟩) := by
 obtain ⟨h1, h2, h3, n, h4, h5⟩ := h
 simp only at h1 h2 h3 h4 h5
 obtain ⟨n, rfl⟩ : ∃ m, n = m + 1 := ⟨n - 1, by omega⟩
 have hnl : ¬ s[i] = 10 := by intro h; exact hp.nl (by rw [h]; rfl)
 have hpos : 0 < zwb s i := by
  unfold zwb; rw [zNa hi, List.takeWhile_cons]; simp [hn]
 have hle := runLen_le s i h1
 have e : (s[i] :: s.drop (i + 1)).takeWhile zA = (s.take (i + zwb s i)).drop i := by
  rw [<- zNa hi, takeWhile_eq_take]
  rw [List.drop_take]; congr 1; unfold zwb; omega
 have el : ((s.take (i + zwb s i)).drop i).length = zwb s i := by simp; omega
 have hs : ∀ k : Nat, zmb (k + 1) (s[i] :: s.drop (i + 1)) line ac = if tokBad ((s.take (i + zwb s i)).drop i) s[i] then ([], 20, (line : Int)) else zmb k (s.drop (i + zwb s i)) line (ac ++ [⟨tokKind ((s.take (i + zwb s i)).drop i) s[i], (s.take (i + zwb s i)).drop i, line⟩]) := by
  intro k
  simp only [zmb]
  rw [if_neg hnl, if_neg (by rw [hp.blank]; decide), if_neg hp.com, if_pos hn, e, el]
  rw [<- zNa hi, List.drop_drop]
 refine ⟨fun hb => by rw [h5, zNa hi, hs, if_pos hb], fun hb => ⟨by simp only; omega, by simp only; omega, by simp only [List.length_append, List.length_cons, List.length_nil]; omega, n, by simp only; omega, ?_⟩⟩
 rw [h5, zNa hi, hs, if_neg (by rw [hb]; decide)]
theorem road_sign {s : List UInt8} {i line : Nat} {ac : List Tok} (h : OnRoad s ⟨i, line, ac⟩) (hi : i < s.length) (hp : Plain s i hi) (hn : zA s[i] = false) :
  (zbe (s.drop i) = [] -> zmb (s.length + 1) s 1 [] = ([], 20, (line : Int))) ∧
  (¬ zbe (s.drop i) = [] -> OnRoad s ⟨i + (zbe (s.drop i)).length, line, ac ++ [⟨2, zbe (s.drop i), line⟩]⟩) := by
 obtain ⟨h1, h2, h3, n, h4, h5⟩ := h
 simp only at h1 h2 h3 h4 h5
 obtain ⟨n, rfl⟩ : ∃ m, n = m + 1 := ⟨n - 1, by omega⟩
 have hnl : ¬ s[i] = 10 := by intro h; exact hp.nl (by rw [h]; rfl)
 have hle := sign_len (s.drop i)
 rw [List.length_drop] at hle
 have hs : ∀ k : Nat, zmb (k + 1) (s.drop i) line ac = if zbe (s.drop i) = [] then ([], 20, (line : Int)) else zmb k (s.drop (i + (zbe (s.drop i)).length)) line (ac ++ [⟨2, zbe (s.drop i), line⟩]) := by
  intro k
  rw [<- List.drop_drop]
  rw [zNa hi]
  simp only [zmb]
  rw [if_neg hnl, if_neg (by rw [hp.blank]; decide), if_neg hp.com, if_neg (by rw [hn]; decide)]
 refine ⟨fun hb => by rw [h5, hs, if_pos hb], fun hb => ?_⟩
 have hpos : 0 < (zbe (s.drop i)).length := List.length_pos_iff.2 hb
 refine ⟨by simp only; omega, by simp only; omega, by simp only [List.length_append, List.length_cons, List.length_nil]; omega, n, by simp only; omega, ?_⟩
 rw [h5, hs, if_neg hb]
theorem ub_eq (b : UInt8) (n : Nat) (h : n < 256) : (b == UInt8.ofNat n) = decide ((b.toNat : Int) = n) := by
 rw [Bool.eq_iff_iff]
 simp only [beq_iff_eq, decide_eq_true_eq]
 constructor
 ·rintro rfl; simp; omega
 ·intro h2; apply UInt8.toNat_inj.1; simp; omega
theorem blank_eq (b : UInt8) : blank b = (decide ((b.toNat : Int) = 32) || (decide ((b.toNat : Int) = 9) || decide ((b.toNat : Int) = 13))) := by
 unfold blank
 rw [show (32 : UInt8) = UInt8.ofNat 32 from rfl, show (9 : UInt8) = UInt8.ofNat 9 from rfl, show (13 : UInt8) = UInt8.ofNat 13 from rfl, ub_eq _ _ (by omega), ub_eq _ _ (by omega), ub_eq _ _ (by omega), Bool.or_assoc]
 rfl
theorem run_zero {s : List UInt8} {i : Nat} (hi : i < s.length) : zwb s i = 0 <-> zA s[i] = false := by
 unfold zwb
 rw [zNa hi, List.takeWhile_cons]
 cases zA s[i] <;> simp
set_option maxHeartbeats 4000000 in
set_option maxRecDepth 3000 in
theorem tokens_spec (s : List UInt8) : zi E 26 [.str s] [] = some (.ret (.tup (encTokR (zD s))), []) := by
 refine zc rfl rfl rfl (by simp) ?_
 by_cases hlong : 100000 < s.length
 ·have e : zD s = ([], 2, 0) := by unfold zD; rw [if_pos hlong]
  have hlong' : (100000 : Int) < s.length := by omega
  simp [F26, hlong', e, encTokR, toks]
 have e0 : zD s = zmb (s.length + 1) s 1 [] := by unfold zD; rw [if_neg hlong]
 have hlong' : ¬ (100000 : Int) < s.length := by omega
 simp [F26, hlong', encTokR, toks]
 refine zvb K26_2 B26_2 (fun c : TS => s.length - c.at') (fun c => [(7, .int .i64 c.at'), (6, .int .i64 c.line), (5, acc 3 (c.acc.map zq))]) (fun _ => []) (fun _ => []) (OnRoad s) ⟨0, 1, []⟩ ⟨?_, ?_, ?_, ?_⟩ ?_
 ·simp
 ·simp
 ·simp
 ·exact ⟨by simp, by simp, by simp, s.length + 1, by simp, by simp⟩
 rintro ⟨i, line, ac⟩ s1 ⟨hi, hline, hac, n, hn, hg⟩ h1 h2 h3 _ h4
 simp at hi hline hac hn hg h1 h3
 have w0 : zB .i64 ((i : Int) + 1) = (i : Int) + 1 := zj (by omega) (by omega)
 have w1 : zB .i64 ((line : Int) + 1) = (line : Int) + 1 := zj (by omega) (by omega)
 have hroad : OnRoad s ⟨i, line, ac⟩ := ⟨hi, hline, hac, n, hn, hg⟩
 obtain ⟨n, rfl⟩ : ∃ m, n = m + 1 := ⟨n - 1, by omega⟩
 by_cases hend : ¬ i < s.length
 ·have he : i = s.length := by omega
  subst he
  have e1 : zD s = (ac ++ [⟨3, [], line⟩], 0, 0) := by rw [e0, hg]; simp [zmb]
  have q4 : (ac.length + 1) * 32 <= zu := by simp only [zu]; omega
  clear hg e0 hroad
  (simp [*, zq]) <;> (repeat' (first | ((first | refine sP _ ?_ ?_ | refine gP _ ?_ ?_ | refine sN _ ?_ ?_ | refine gN _ ?_ ?_) <;> intro hc <;> (first | replace hc := eqn hc | replace hc := eqp hc) <;> simp [*, zq]) | ((first | refine sM _ ?_ ?_ | refine gM _ ?_ ?_ | refine sB _ ?_ ?_ | refine gB _ ?_ ?_) <;> intro hc <;> simp [*, zq])))
 have hend := Decidable.of_not_not hend
 have hi2 : (i : Int) < s.length := by omega
 have hgi := getD_idx hend
 clear hg hn
 have hget : s[i]? = some s[i] := by simp [hend]
 -- the run
 have hrun : ∀ (s2 : St) (Q : Ex -> St -> Prop), (∀ t ∈ K26_0, s2.fr t = s2.fr t) -> True := fun _ _ _ => trivial
 clear hrun
 have hrl := runLen_le s i hi
 have hri := runLen_in s i
 have hre := runLen_end s i
 generalize hk : zwb s i = k at *
 simp [h1, h3, h4, hend]
 refine zG (List.range k) K26_0 B26_0 (fun d => [(9, .int .i64 d.length)]) (fun _ => []) (fun d => True) (by simp; omega) (by simp; try exact h4) ?_ ?_
 ·intros d x r s3 hl' hlt hget2 hget' hw hp h1' h2' h3' h4'
  simp at h1' h3' hlt
  simp at h2'
  clear hget2 hget' hl'
  have hq : i + d.length < s.length := by omega
  have hcb := hri d.length hlt hq
  have hgc : s[i + d.length]? = some s[i + d.length] := by simp [hq]
  generalize s[i + d.length] = c at hcb hgc
  have l1 := zBa c.toNat []
  have l2 := zgb c.toNat []
  have wi : zB .i64 ((i : Int) + d.length) = ((i + d.length : Nat) : Int) := zj (by omega) (by omega)
  clear h1 h2 h3 e0 hgi hget hre hri hroad
  generalize i + d.length = q at *
  have hgc' : s[q]'hq = c := by simpa [hq] using hgc
  simp only [zA, Bool.or_eq_true] at hcb
  cases hx : zRa c.toNat
  ·have hy : zic c.toNat = true := by simpa [hx] using hcb
   clear hcb
   (simp [*]) <;> (repeat' (first | ((first | refine sP _ ?_ ?_ | refine gP _ ?_ ?_ | refine sN _ ?_ ?_ | refine gN _ ?_ ?_) <;> intro hc <;> (first | replace hc := eqn hc | replace hc := eqp hc) <;> simp [*]) | ((first | refine sM _ ?_ ?_ | refine gM _ ?_ ?_ | refine sB _ ?_ ?_ | refine gB _ ?_ ?_) <;> intro hc <;> simp [*])))
   all_goals (try grind)
  ·clear hcb
   (simp [*]) <;> (repeat' (first | ((first | refine sP _ ?_ ?_ | refine gP _ ?_ ?_ | refine sN _ ?_ ?_ | refine gN _ ?_ ?_) <;> intro hc <;> (first | replace hc := eqn hc | replace hc := eqp hc) <;> simp [*]) | ((first | refine sM _ ?_ ?_ | refine gM _ ?_ ?_ | refine sB _ ?_ ?_ | refine gB _ ?_ ?_) <;> intro hc <;> simp [*])))
   all_goals (try grind)
 ·intros s3 hp h1' h2' h3' h4'
  simp at h1' h2' h3'
  clear h1 h2 h3 hri hp
  have wk : ∃ q : Nat, q = i + k /\ zB .i64 ((i : Int) + k) = (q : Int) /\ (q = s.length \/ ∃ c, ∃ h : q < s.length, s[q]'h = c /\ s[q]? = some c /\ zRa c.toNat = false /\ zic c.toNat = false) := by
   refine ⟨i + k, rfl, zj (by omega) (by omega), ?_⟩
   by_cases h : i + k < s.length
   ·have := hre h
    simp only [zA, Bool.or_eq_false_iff] at this
    exact Or.inr ⟨s[i + k], h, rfl, by simp [h], this.1, this.2⟩
   ·exact Or.inl (by omega)
  obtain ⟨q, hq, wk, hstop⟩ := wk
  clear hre
  have hz := run_zero hend
  rw [hk] at hz
  have b10 := fun h => road_nl hroad hend h
  have bbl := fun h => road_blank hroad hend h
  have bcom := fun h => road_com hroad hend h
  have bname := fun hp h => road_name hroad hend hp h
  have bsign := fun hp h => road_sign hroad hend hp h
  rw [hk] at bname
  have hle := comLen_le s i hi
  have hci := comLen_in s i
  have hce := comLen_end s i
  generalize hbb : s[i] = b at *
  have l1 := zBa b.toNat []
  have hbl : blank b = (decide ((b.toNat : Int) = 32) || (decide ((b.toNat : Int) = 9) || decide ((b.toNat : Int) = 13))) := blank_eq b
  by_cases c10 : (b.toNat : Int) = 10
  ·have r := b10 c10
   clear b10 bbl bcom bname bsign hz hroad e0 hle hci hce hq hbl
   replace c10 := eqp c10
   rcases hstop with hst | ⟨c, hst, g1, g2, g3, g4⟩
   ·(simp [*]) <;> (repeat' (first | ((first | refine sP _ ?_ ?_ | refine gP _ ?_ ?_ | refine sN _ ?_ ?_ | refine gN _ ?_ ?_) <;> intro hc <;> (first | replace hc := eqn hc | replace hc := eqp hc) <;> simp [*]) | ((first | refine sM _ ?_ ?_ | refine gM _ ?_ ?_ | refine sB _ ?_ ?_ | refine gB _ ?_ ?_) <;> intro hc <;> simp [*])))
    all_goals exact ⟨⟨i + 1, line + 1, ac⟩, by simp only; omega, ⟨by simp, by simp, rfl⟩, r⟩
   ·have l2 := zBa c.toNat []
    have l3 := zgb c.toNat []
    (simp [*]) <;> (repeat' (first | ((first | refine sP _ ?_ ?_ | refine gP _ ?_ ?_ | refine sN _ ?_ ?_ | refine gN _ ?_ ?_) <;> intro hc <;> (first | replace hc := eqn hc | replace hc := eqp hc) <;> simp [*]) | ((first | refine sM _ ?_ ?_ | refine gM _ ?_ ?_ | refine sB _ ?_ ?_ | refine gB _ ?_ ?_) <;> intro hc <;> simp [*])))
    all_goals exact ⟨⟨i + 1, line + 1, ac⟩, by simp only; omega, ⟨by simp, by simp, rfl⟩, r⟩
  replace c10 := eqn c10
  cases hcb : blank b
  ·rw [hcb] at hbl
   replace hbl := hbl.symm
   simp only [Bool.or_eq_false_iff, decide_eq_false_iff_not] at hbl
   obtain ⟨c1, c2, c3⟩ := hbl
   have hpl : ¬ (b = 47 /\ (s.drop (i + 1)).head? = some 47) -> Plain s i hend := fun h => ⟨by rw [hbb]; simpa using c10, by rw [hbb]; exact hcb, by rw [hbb]; exact h⟩
   replace c1 := eqn c1
   replace c2 := eqn c2
   replace c3 := eqn c3
   have w1' : zB .i64 ((i : Int) + 1) = ((i + 1 : Nat) : Int) := by rw [w0]; simp
   by_cases hcom : (b.toNat : Int) = 47 /\ ∃ h : i + 1 < s.length, (s[i + 1].toNat : Int) = 47
   ·obtain ⟨c4, hj, c5⟩ := hcom
    obtain ⟨r, hpos⟩ := bcom c4 hj c5
    clear b10 bbl bcom bname bsign hz hroad e0 hq hpl hcb
    replace c4 := eqp c4
    have gj : s[i + 1]? = some s[i + 1] := by simp [hj]
    have gj' : s[i + 1]'hj = s[i + 1] := rfl
    generalize hm : comLen s i = m at *
    generalize hbj : s[i + 1] = bj at *
    have hj' : (i : Int) + 1 < s.length := by omega
    have tj : ((i : Int) + 1).toNat = i + 1 := by omega
    have nj : (0 : Int) <= (i : Int) + 1 := by omega
    replace c5 := eqp c5
    clear w1'
    rcases hstop with hst | ⟨c, hst, g1, g2, g3, g4⟩
    ·(simp [*]) <;> (repeat' (first | ((first | refine sP _ ?_ ?_ | refine gP _ ?_ ?_ | refine sN _ ?_ ?_ | refine gN _ ?_ ?_) <;> intro hc <;> (first | replace hc := eqn hc | replace hc := eqp hc) <;> simp [*]) | ((first | refine sM _ ?_ ?_ | refine gM _ ?_ ?_ | refine sB _ ?_ ?_ | refine gB _ ?_ ?_) <;> intro hc <;> simp [*])))
     refine zG (List.range m) K26_1 B26_1 (fun d => [(7, .int .i64 ((i + d.length : Nat) : Int))]) (fun _ => []) (fun _ => True) (by simp; omega) (by simp) ?_ ?_
     ·intros d x r' s4 hl' hlt hget2 hget' hw hp h1'' h2'' h3'' h4''
      simp at h1'' h3'' hlt
      have hq2 : i + d.length < s.length := by omega
      have hcb := hci d.length hlt hq2
      have hgc : s[i + d.length]? = some s[i + d.length] := by simp [hq2]
      have hcb' : ¬ (s[i + d.length].toNat : Int) = 10 := fun h => hcb (UInt8.toNat_inj.1 (by simp; omega))
      have wi : zB .i64 ((i : Int) + d.length + 1) = ((i : Int) + d.length) + 1 := zj (by omega) (by omega)
      have a0 : (0 : Int) <= (i : Int) + d.length := by omega
      have a1 : ((i : Int) + d.length).toNat = i + d.length := by omega
      have a2 : (i : Int) + d.length < s.length := by omega
      have a3 : (i : Int) + (d.length + 1) = (i : Int) + d.length + 1 := by omega
      obtain ⟨c2, hgc'⟩ : ∃ c2, s[i + d.length]'hq2 = c2 := ⟨_, rfl⟩
      rw [hgc'] at hcb hgc hcb'
      replace hcb' := eqn hcb'
      clear hci hce hget2 hget' hl' hbb hgi hget gj gj' h2'' hcb
      simp [*]
     ·intros s4 hp h1'' h2'' h3'' h4''
      simp at h1'' h3''
      have a0 : (0 : Int) <= (i : Int) + m := by omega
      have a1 : ((i : Int) + m).toNat = i + m := by omega
      clear hci hbb hgi hget gj gj' h2''
      by_cases hmm : i + m < s.length
      ·have hcb := hce hmm
       have hgc : s[i + m]? = some s[i + m] := by simp [hmm]
       have a2 : (i : Int) + m < s.length := by omega
       rw [hcb] at hgc
       clear hce
       simp [*]
       exact ⟨⟨i + m, line, ac⟩, by simp only; omega, ⟨by simp, by simp, rfl⟩, r⟩
      ·have a2 : ¬ (i : Int) + m < s.length := by omega
       clear hce
       simp [*]
       exact ⟨⟨i + m, line, ac⟩, by simp only; omega, ⟨by simp, by simp, rfl⟩, r⟩
    ·have l2 := zBa c.toNat []
     have l3 := zgb c.toNat []
     (simp [*]) <;> (repeat' (first | ((first | refine sP _ ?_ ?_ | refine gP _ ?_ ?_ | refine sN _ ?_ ?_ | refine gN _ ?_ ?_) <;> intro hc <;> (first | replace hc := eqn hc | replace hc := eqp hc) <;> simp [*]) | ((first | refine sM _ ?_ ?_ | refine gM _ ?_ ?_ | refine sB _ ?_ ?_ | refine gB _ ?_ ?_) <;> intro hc <;> simp [*])))
     refine zG (List.range m) K26_1 B26_1 (fun d => [(7, .int .i64 ((i + d.length : Nat) : Int))]) (fun _ => []) (fun _ => True) (by simp; omega) (by simp) ?_ ?_
     ·intros d x r' s4 hl' hlt hget2 hget' hw hp h1'' h2'' h3'' h4''
      simp at h1'' h3'' hlt
      have hq2 : i + d.length < s.length := by omega
      have hcb := hci d.length hlt hq2
      have hgc : s[i + d.length]? = some s[i + d.length] := by simp [hq2]
      have hcb' : ¬ (s[i + d.length].toNat : Int) = 10 := fun h => hcb (UInt8.toNat_inj.1 (by simp; omega))
      have wi : zB .i64 ((i : Int) + d.length + 1) = ((i : Int) + d.length) + 1 := zj (by omega) (by omega)
      have a0 : (0 : Int) <= (i : Int) + d.length := by omega
      have a1 : ((i : Int) + d.length).toNat = i + d.length := by omega
      have a2 : (i : Int) + d.length < s.length := by omega
      have a3 : (i : Int) + (d.length + 1) = (i : Int) + d.length + 1 := by omega
      obtain ⟨c2, hgc'⟩ : ∃ c2, s[i + d.length]'hq2 = c2 := ⟨_, rfl⟩
      rw [hgc'] at hcb hgc hcb'
      replace hcb' := eqn hcb'
      clear hci hce hget2 hget' hl' hbb hgi hget gj gj' h2'' hcb
      simp [*]
     ·intros s4 hp h1'' h2'' h3'' h4''
      simp at h1'' h3''
      have a0 : (0 : Int) <= (i : Int) + m := by omega
      have a1 : ((i : Int) + m).toNat = i + m := by omega
      clear hci hbb hgi hget gj gj' h2''
      by_cases hmm : i + m < s.length
      ·have hcb := hce hmm
       have hgc : s[i + m]? = some s[i + m] := by simp [hmm]
       have a2 : (i : Int) + m < s.length := by omega
       rw [hcb] at hgc
       clear hce
       simp [*]
       exact ⟨⟨i + m, line, ac⟩, by simp only; omega, ⟨by simp, by simp, rfl⟩, r⟩
      ·have a2 : ¬ (i : Int) + m < s.length := by omega
       clear hce
       simp [*]
       exact ⟨⟨i + m, line, ac⟩, by simp only; omega, ⟨by simp, by simp, rfl⟩, r⟩
   ·clear bcom hci hce hle
    replace hpl := hpl (by
     rintro ⟨h1, h2⟩
     apply hcom
     refine ⟨by rw [h1]; rfl, ?_⟩
     by_cases hj : i + 1 < s.length
     ·refine ⟨hj, ?_⟩
      rw [zNa hj] at h2
      simp at h2
      have h3 : s[i + 1] = 47 := by
       have : s[i + 1]? = some s[i + 1] := by simp [hj]
       rw [this] at h2; simpa using h2
      rw [h3]; rfl
     ·rw [List.drop_eq_nil_of_le (by omega)] at h2; simp at h2)
    have q4 : (ac.length + 1) * 32 <= zu := by simp only [zu]; omega
    cases hnb : zA b
    ·obtain ⟨s0, s1⟩ := bsign hpl hnb
     have hk0 : k = 0 := hz.2 hnb
     have hs := sign_spec (s.drop i) (by simp; omega)
     have hsl := sign_len (s.drop i)
     simp at hsl
     generalize hsg : zbe (s.drop i) = sg at *
     have hcc : (¬ (b.toNat : Int) = 47) \/ ((b.toNat : Int) = 47 /\ (i + 1 = s.length \/ ∃ h : i + 1 < s.length, ¬ (s[i + 1].toNat : Int) = 47)) := by
      by_cases c4 : (b.toNat : Int) = 47
      ·right; refine ⟨c4, ?_⟩
       by_cases hj : i + 1 < s.length
       ·exact Or.inr ⟨hj, fun h => hcom ⟨c4, hj, h⟩⟩
       ·exact Or.inl (by omega)
      ·exact Or.inl c4
     have he : sg = [] -> zD s = ([], 20, (line : Int)) := fun h => by rw [e0]; exact s0 h
     have hnb' := hnb
     clear b10 bbl bname bsign hz hcb hcom hpl hroad s0 hnb e0 hk hrl hsg
     subst hk0
     have hwi : zB .i64 ((i : Int) + sg.length) = ((i + sg.length : Nat) : Int) := zj (by omega) (by omega)
     have hii : i <= s.length := hi
     generalize hq2 : i + sg.length = q2 at *
     have wi0 : zB .i64 (i : Int) = i := zj (by omega) (by omega)
     have l3 := zgb b.toNat []
     simp only [zA, Bool.or_eq_false_iff] at hnb'
     obtain ⟨g3, g4⟩ := hnb'
     clear hq hstop wk
     rcases hcc with c4 | ⟨c4, hj | ⟨hj, c5⟩⟩
     ·replace c4 := eqn c4
      by_cases hsn : sg = []
      ·replace he := he hsn
       subst hsn
       clear s1
       (simp [*]) <;> (repeat' (first | ((first | refine sP _ ?_ ?_ | refine gP _ ?_ ?_ | refine sN _ ?_ ?_ | refine gN _ ?_ ?_) <;> intro hc <;> (first | replace hc := eqn hc | replace hc := eqp hc) <;> simp [*]) | ((first | refine sM _ ?_ ?_ | refine gM _ ?_ ?_ | refine sB _ ?_ ?_ | refine gB _ ?_ ?_) <;> intro hc <;> simp [*])))
      ·replace s1 := s1 hsn
       have hpos : 0 < sg.length := List.length_pos_iff.2 hsn
       replace hsn := eqn hsn
       clear he
       (simp [*, zq]) <;> (repeat' (first | ((first | refine sP _ ?_ ?_ | refine gP _ ?_ ?_ | refine sN _ ?_ ?_ | refine gN _ ?_ ?_) <;> intro hc <;> (first | replace hc := eqn hc | replace hc := eqp hc) <;> simp [*, zq]) | ((first | refine sM _ ?_ ?_ | refine gM _ ?_ ?_ | refine sB _ ?_ ?_ | refine gB _ ?_ ?_) <;> intro hc <;> simp [*, zq])))
       all_goals exact ⟨⟨q2, line, ac ++ [⟨2, sg, line⟩]⟩, by simp only; omega, ⟨by first | rfl | omega | (simp only; omega), by simp, by simp [zq]⟩, s1⟩
     ·replace c4 := eqp c4
      have hj1 : ¬ (i : Int) + 1 < s.length := by omega
      by_cases hsn : sg = []
      ·replace he := he hsn
       subst hsn
       clear s1
       (simp [*]) <;> (repeat' (first | ((first | refine sP _ ?_ ?_ | refine gP _ ?_ ?_ | refine sN _ ?_ ?_ | refine gN _ ?_ ?_) <;> intro hc <;> (first | replace hc := eqn hc | replace hc := eqp hc) <;> simp [*]) | ((first | refine sM _ ?_ ?_ | refine gM _ ?_ ?_ | refine sB _ ?_ ?_ | refine gB _ ?_ ?_) <;> intro hc <;> simp [*])))
      ·replace s1 := s1 hsn
       have hpos : 0 < sg.length := List.length_pos_iff.2 hsn
       replace hsn := eqn hsn
       clear he
       (simp [*, zq]) <;> (repeat' (first | ((first | refine sP _ ?_ ?_ | refine gP _ ?_ ?_ | refine sN _ ?_ ?_ | refine gN _ ?_ ?_) <;> intro hc <;> (first | replace hc := eqn hc | replace hc := eqp hc) <;> simp [*, zq]) | ((first | refine sM _ ?_ ?_ | refine gM _ ?_ ?_ | refine sB _ ?_ ?_ | refine gB _ ?_ ?_) <;> intro hc <;> simp [*, zq])))
       all_goals exact ⟨⟨q2, line, ac ++ [⟨2, sg, line⟩]⟩, by simp only; omega, ⟨by first | rfl | omega | (simp only; omega), by simp, by simp [zq]⟩, s1⟩
     ·replace c4 := eqp c4
      have hj1 : (i : Int) + 1 < s.length := by omega
      have tj : ((i : Int) + 1).toNat = i + 1 := by omega
      have nj : (0 : Int) <= (i : Int) + 1 := by omega
      obtain ⟨bj, gj'⟩ : ∃ bj, s[i + 1]'hj = bj := ⟨_, rfl⟩
      rw [gj'] at c5
      replace c5 := eqn c5
      clear w1'
      by_cases hsn : sg = []
      ·replace he := he hsn
       subst hsn
       clear s1
       (simp [*]) <;> (repeat' (first | ((first | refine sP _ ?_ ?_ | refine gP _ ?_ ?_ | refine sN _ ?_ ?_ | refine gN _ ?_ ?_) <;> intro hc <;> (first | replace hc := eqn hc | replace hc := eqp hc) <;> simp [*]) | ((first | refine sM _ ?_ ?_ | refine gM _ ?_ ?_ | refine sB _ ?_ ?_ | refine gB _ ?_ ?_) <;> intro hc <;> simp [*])))
      ·replace s1 := s1 hsn
       have hpos : 0 < sg.length := List.length_pos_iff.2 hsn
       replace hsn := eqn hsn
       clear he
       (simp [*, zq]) <;> (repeat' (first | ((first | refine sP _ ?_ ?_ | refine gP _ ?_ ?_ | refine sN _ ?_ ?_ | refine gN _ ?_ ?_) <;> intro hc <;> (first | replace hc := eqn hc | replace hc := eqp hc) <;> simp [*, zq]) | ((first | refine sM _ ?_ ?_ | refine gM _ ?_ ?_ | refine sB _ ?_ ?_ | refine gB _ ?_ ?_) <;> intro hc <;> simp [*, zq])))
       all_goals exact ⟨⟨q2, line, ac ++ [⟨2, sg, line⟩]⟩, by simp only; omega, ⟨by first | rfl | omega | (simp only; omega), by simp, by simp [zq]⟩, s1⟩
    ·obtain ⟨s0, s1⟩ := bname hpl hnb
     have hk0 : 0 < k := by
      rcases Nat.eq_zero_or_pos k with h | h
      ·rw [hz.1 h] at hnb; cases hnb
      ·exact h
     have c4 : ¬ (b.toNat : Int) = 47 := by
      intro h
      have : b = 47 := UInt8.toNat_inj.1 (by simp; omega)
      rw [this] at hnb; exact absurd hnb (by decide)
     rw [<- hq] at s0 s1
     have hqi : i <= q := by omega
     have hqs : q <= s.length := by omega
     have hwl : ((s.take q).drop i).length = k := by simp; omega
     have hqk : i < q := by omega
     clear hz hcom hpl hroad b10 bbl bname bsign hcb hk hrl
     have hw1 := rword_spec ((s.take q).drop i) []
     have hw2 := zhd ((s.take q).drop i) []
     have hw3 := number_spec ((s.take q).drop i) (by simp; omega)
     have he : tokBad ((s.take q).drop i) b = true -> zD s = ([], 20, (line : Int)) := fun h => by rw [e0]; exact s0 h
     clear s0 e0
     have ww : zB .i64 ((i : Int) + k) = q := wk
     have hki : i + k = q := hq.symm
     clear hq
     generalize hww : (s.take q).drop i = w at *
     replace c4 := eqn c4
     have hnbb : zA b = (zRa b.toNat || zic b.toNat) := rfl
     rw [hnb] at hnbb
     replace hnbb := hnbb.symm
     have hkn : tokKind w b = if wordM w then 2 else if zRa b.toNat then 1 else 0 := rfl
     have hbn : tokBad w b = ((decide (tokKind w b = 1) && !znb w) || (decide (tokKind w b = 0) && !zWd w)) := rfl
     rcases hstop with hst | ⟨c, hst, g1, g2, g3, g4⟩
     ·rw [hst, List.take_length] at hww
      cases f1 : wordM w
      ·cases f2 : zRa b.toNat
       ·rw [f1, f2] at hkn
        simp at hkn
        rw [hkn] at hbn s1
        cases f3 : zWd w
        ·rw [f3] at hbn
         simp at hbn
         replace he := he hbn
         clear s1 hkn hnbb hbn
         (simp [*]) <;> (repeat' (first | ((first | refine sP _ ?_ ?_ | refine gP _ ?_ ?_ | refine sN _ ?_ ?_ | refine gN _ ?_ ?_) <;> intro hc <;> (first | replace hc := eqn hc | replace hc := eqp hc) <;> simp [*]) | ((first | refine sM _ ?_ ?_ | refine gM _ ?_ ?_ | refine sB _ ?_ ?_ | refine gB _ ?_ ?_) <;> intro hc <;> simp [*])))
        ·rw [f3] at hbn
         simp at hbn
         replace s1 := s1 hbn
         clear he hkn hnbb hbn
         (simp [*, zq]) <;> (repeat' (first | ((first | refine sP _ ?_ ?_ | refine gP _ ?_ ?_ | refine sN _ ?_ ?_ | refine gN _ ?_ ?_) <;> intro hc <;> (first | replace hc := eqn hc | replace hc := eqp hc) <;> simp [*, zq]) | ((first | refine sM _ ?_ ?_ | refine gM _ ?_ ?_ | refine sB _ ?_ ?_ | refine gB _ ?_ ?_) <;> intro hc <;> simp [*, zq])))
         all_goals exact ⟨⟨q, line, ac ++ [⟨0, w, line⟩]⟩, by simp only; omega, ⟨by first | rfl | omega | (simp only; omega), by simp, by simp [zq]⟩, s1⟩
       ·rw [f1, f2] at hkn
        simp at hkn
        rw [hkn] at hbn s1
        cases f3 : znb w
        ·rw [f3] at hbn
         simp at hbn
         replace he := he hbn
         clear s1 hkn hnbb hbn
         (simp [*]) <;> (repeat' (first | ((first | refine sP _ ?_ ?_ | refine gP _ ?_ ?_ | refine sN _ ?_ ?_ | refine gN _ ?_ ?_) <;> intro hc <;> (first | replace hc := eqn hc | replace hc := eqp hc) <;> simp [*]) | ((first | refine sM _ ?_ ?_ | refine gM _ ?_ ?_ | refine sB _ ?_ ?_ | refine gB _ ?_ ?_) <;> intro hc <;> simp [*])))
        ·rw [f3] at hbn
         simp at hbn
         replace s1 := s1 hbn
         clear he hkn hnbb hbn
         (simp [*, zq]) <;> (repeat' (first | ((first | refine sP _ ?_ ?_ | refine gP _ ?_ ?_ | refine sN _ ?_ ?_ | refine gN _ ?_ ?_) <;> intro hc <;> (first | replace hc := eqn hc | replace hc := eqp hc) <;> simp [*, zq]) | ((first | refine sM _ ?_ ?_ | refine gM _ ?_ ?_ | refine sB _ ?_ ?_ | refine gB _ ?_ ?_) <;> intro hc <;> simp [*, zq])))
         all_goals exact ⟨⟨q, line, ac ++ [⟨1, w, line⟩]⟩, by simp only; omega, ⟨by first | rfl | omega | (simp only; omega), by simp, by simp [zq]⟩, s1⟩
      ·rw [f1] at hkn
       simp at hkn
       rw [hkn] at hbn s1
       simp at hbn
       replace s1 := s1 hbn
       clear he hkn hnbb hbn
       cases f2 : zRa b.toNat
       ·(simp [*, zq]) <;> (repeat' (first | ((first | refine sP _ ?_ ?_ | refine gP _ ?_ ?_ | refine sN _ ?_ ?_ | refine gN _ ?_ ?_) <;> intro hc <;> (first | replace hc := eqn hc | replace hc := eqp hc) <;> simp [*, zq]) | ((first | refine sM _ ?_ ?_ | refine gM _ ?_ ?_ | refine sB _ ?_ ?_ | refine gB _ ?_ ?_) <;> intro hc <;> simp [*, zq])))
        all_goals exact ⟨⟨q, line, ac ++ [⟨2, w, line⟩]⟩, by simp only; omega, ⟨by first | rfl | omega | (simp only; omega), by simp, by simp [zq]⟩, s1⟩
       ·(simp [*, zq]) <;> (repeat' (first | ((first | refine sP _ ?_ ?_ | refine gP _ ?_ ?_ | refine sN _ ?_ ?_ | refine gN _ ?_ ?_) <;> intro hc <;> (first | replace hc := eqn hc | replace hc := eqp hc) <;> simp [*, zq]) | ((first | refine sM _ ?_ ?_ | refine gM _ ?_ ?_ | refine sB _ ?_ ?_ | refine gB _ ?_ ?_) <;> intro hc <;> simp [*, zq])))
        all_goals exact ⟨⟨q, line, ac ++ [⟨2, w, line⟩]⟩, by simp only; omega, ⟨by first | rfl | omega | (simp only; omega), by simp, by simp [zq]⟩, s1⟩
     ·have l2 := zBa c.toNat []
      have l3 := zgb c.toNat []
      cases f1 : wordM w
      ·cases f2 : zRa b.toNat
       ·rw [f1, f2] at hkn
        simp at hkn
        rw [hkn] at hbn s1
        cases f3 : zWd w
        ·rw [f3] at hbn
         simp at hbn
         replace he := he hbn
         clear s1 hkn hnbb hbn
         (simp [*]) <;> (repeat' (first | ((first | refine sP _ ?_ ?_ | refine gP _ ?_ ?_ | refine sN _ ?_ ?_ | refine gN _ ?_ ?_) <;> intro hc <;> (first | replace hc := eqn hc | replace hc := eqp hc) <;> simp [*]) | ((first | refine sM _ ?_ ?_ | refine gM _ ?_ ?_ | refine sB _ ?_ ?_ | refine gB _ ?_ ?_) <;> intro hc <;> simp [*])))
        ·rw [f3] at hbn
         simp at hbn
         replace s1 := s1 hbn
         clear he hkn hnbb hbn
         (simp [*, zq]) <;> (repeat' (first | ((first | refine sP _ ?_ ?_ | refine gP _ ?_ ?_ | refine sN _ ?_ ?_ | refine gN _ ?_ ?_) <;> intro hc <;> (first | replace hc := eqn hc | replace hc := eqp hc) <;> simp [*, zq]) | ((first | refine sM _ ?_ ?_ | refine gM _ ?_ ?_ | refine sB _ ?_ ?_ | refine gB _ ?_ ?_) <;> intro hc <;> simp [*, zq])))
         all_goals exact ⟨⟨q, line, ac ++ [⟨0, w, line⟩]⟩, by simp only; omega, ⟨by first | rfl | omega | (simp only; omega), by simp, by simp [zq]⟩, s1⟩
       ·rw [f1, f2] at hkn
        simp at hkn
        rw [hkn] at hbn s1
        cases f3 : znb w
        ·rw [f3] at hbn
         simp at hbn
         replace he := he hbn
         clear s1 hkn hnbb hbn
         (simp [*]) <;> (repeat' (first | ((first | refine sP _ ?_ ?_ | refine gP _ ?_ ?_ | refine sN _ ?_ ?_ | refine gN _ ?_ ?_) <;> intro hc <;> (first | replace hc := eqn hc | replace hc := eqp hc) <;> simp [*]) | ((first | refine sM _ ?_ ?_ | refine gM _ ?_ ?_ | refine sB _ ?_ ?_ | refine gB _ ?_ ?_) <;> intro hc <;> simp [*])))
        ·rw [f3] at hbn
         simp at hbn
         replace s1 := s1 hbn
         clear he hkn hnbb hbn
         (simp [*, zq]) <;> (repeat' (first | ((first | refine sP _ ?_ ?_ | refine gP _ ?_ ?_ | refine sN _ ?_ ?_ | refine gN _ ?_ ?_) <;> intro hc <;> (first | replace hc := eqn hc | replace hc := eqp hc) <;> simp [*, zq]) | ((first | refine sM _ ?_ ?_ | refine gM _ ?_ ?_ | refine sB _ ?_ ?_ | refine gB _ ?_ ?_) <;> intro hc <;> simp [*, zq])))
         all_goals exact ⟨⟨q, line, ac ++ [⟨1, w, line⟩]⟩, by simp only; omega, ⟨by first | rfl | omega | (simp only; omega), by simp, by simp [zq]⟩, s1⟩
      ·rw [f1] at hkn
       simp at hkn
       rw [hkn] at hbn s1
       simp at hbn
       replace s1 := s1 hbn
       clear he hkn hnbb hbn
       cases f2 : zRa b.toNat
       ·(simp [*, zq]) <;> (repeat' (first | ((first | refine sP _ ?_ ?_ | refine gP _ ?_ ?_ | refine sN _ ?_ ?_ | refine gN _ ?_ ?_) <;> intro hc <;> (first | replace hc := eqn hc | replace hc := eqp hc) <;> simp [*, zq]) | ((first | refine sM _ ?_ ?_ | refine gM _ ?_ ?_ | refine sB _ ?_ ?_ | refine gB _ ?_ ?_) <;> intro hc <;> simp [*, zq])))
        all_goals exact ⟨⟨q, line, ac ++ [⟨2, w, line⟩]⟩, by simp only; omega, ⟨by first | rfl | omega | (simp only; omega), by simp, by simp [zq]⟩, s1⟩
       ·(simp [*, zq]) <;> (repeat' (first | ((first | refine sP _ ?_ ?_ | refine gP _ ?_ ?_ | refine sN _ ?_ ?_ | refine gN _ ?_ ?_) <;> intro hc <;> (first | replace hc := eqn hc | replace hc := eqp hc) <;> simp [*, zq]) | ((first | refine sM _ ?_ ?_ | refine gM _ ?_ ?_ | refine sB _ ?_ ?_ | refine gB _ ?_ ?_) <;> intro hc <;> simp [*, zq])))
        all_goals exact ⟨⟨q, line, ac ++ [⟨2, w, line⟩]⟩, by simp only; omega, ⟨by first | rfl | omega | (simp only; omega), by simp, by simp [zq]⟩, s1⟩
  ·have r := bbl hcb
   rw [hcb] at hbl
   replace hbl := hbl.symm
   simp only [Bool.or_eq_true, decide_eq_true_eq] at hbl
   clear b10 bbl bcom bname bsign hz hroad e0 hle hci hce hq hcb
   rcases hbl with c1 | c1 | c1
   all_goals
    replace c1 := eqp c1
    rcases hstop with hst | ⟨c, hst, g1, g2, g3, g4⟩
    ·(simp [*]) <;> (repeat' (first | ((first | refine sP _ ?_ ?_ | refine gP _ ?_ ?_ | refine sN _ ?_ ?_ | refine gN _ ?_ ?_) <;> intro hc <;> (first | replace hc := eqn hc | replace hc := eqp hc) <;> simp [*]) | ((first | refine sM _ ?_ ?_ | refine gM _ ?_ ?_ | refine sB _ ?_ ?_ | refine gB _ ?_ ?_) <;> intro hc <;> simp [*])))
     all_goals exact ⟨⟨i + 1, line, ac⟩, by simp only; omega, ⟨by simp, by simp, rfl⟩, r⟩
    ·have l2 := zBa c.toNat []
     have l3 := zgb c.toNat []
     (simp [*]) <;> (repeat' (first | ((first | refine sP _ ?_ ?_ | refine gP _ ?_ ?_ | refine sN _ ?_ ?_ | refine gN _ ?_ ?_) <;> intro hc <;> (first | replace hc := eqn hc | replace hc := eqp hc) <;> simp [*]) | ((first | refine sM _ ?_ ?_ | refine gM _ ?_ ?_ | refine sB _ ?_ ?_ | refine gB _ ?_ ?_) <;> intro hc <;> simp [*])))
     all_goals exact ⟨⟨i + 1, line, ac⟩, by simp only; omega, ⟨by simp, by simp, rfl⟩, r⟩
end PE.U

namespace PE.U
open Go PE
@[simp] theorem rebuild_agg (a l : List PV) : zPa (.agg a) l = .agg l := Eq.trans rfl rfl
structure PS where
 at' : Nat
 bad : Bool
 deep : Bool
def pob (T : List Tok) (p : PS) : ze := [.arr 4 [.agg [toks T, .int .i64 p.at', .bool p.bad, .bool p.deep]]]
def tk (T : List Tok) (i : Nat) : Tok := T[i]?.getD ⟨3, [], 0⟩
def zQa (p : PS) : Bool := p.bad || p.deep
def isF (T : List Tok) (s : List UInt8) (p : PS) : Bool := !zQa p && (decide ((tk T p.at').kind = 2) && decide ((tk T p.at').text = s))
def takeF (T : List Tok) (s : List UInt8) (p : PS) : Bool × PS := if isF T s p then (true, { p with at' := p.at' + 1 }) else (false, p)
def zxa (T : List Tok) (s : List UInt8) (p : PS) : PS := if isF T s p then { p with at' := p.at' + 1 } else if p.deep then p else { p with bad := true }
def zfa (T : List Tok) (k : Int) (p : PS) : List UInt8 × PS := if zQa p then ([], p) else if (tk T p.at').kind = k then ((tk T p.at').text, { p with at' := p.at' + 1 }) else ([], { p with bad := true })
def zha (T : List Tok) (p : PS) : Int × PS := if isF T [105, 110, 116] p then (1, { p with at' := p.at' + 1 }) else (2, zxa T [98, 111, 111, 108] p)
structure Inv1 (T : List Tok) (p : PS) : Prop where
 lt : p.at' < T.length
 last : ∃ t, T[T.length - 1]? = some t /\ t.kind = 3
 sm : T.length < 1000000
 num : ∀ t ∈ T, t.kind = 0 -> digs t.text = true /\ t.text.length < 1000000
theorem tk_get {T : List Tok} {i : Nat} (h : i < T.length) : T[i]? = some (tk T i) := by unfold tk; simp [h]
theorem tk_get' {T : List Tok} {i : Nat} (h : i < T.length) : T[i]'h = tk T i := by unfold tk; simp [h]
theorem Inv1.next {T : List Tok} {p : PS} (h : Inv1 T p) (hk : (tk T p.at').kind ≠ 3) (b d : Bool) : Inv1 T ⟨p.at' + 1, b, d⟩ := by
 obtain ⟨h1, ⟨t, h2, h3⟩, h4, h5⟩ := h
 refine ⟨?_, ⟨t, h2, h3⟩, h4, h5⟩
 show p.at' + 1 < T.length
 rcases Nat.lt_or_ge (p.at' + 1) T.length with h | h
 ·exact h
 ·have : p.at' = T.length - 1 := by omega
  unfold tk at hk
  rw [this, h2] at hk
  exact absurd h3 hk
theorem isF_kind {T : List Tok} {s : List UInt8} {p : PS} (h : isF T s p = true) : (tk T p.at').kind = 2 /\ (tk T p.at').text = s /\ p.bad = false /\ p.deep = false := by
 simp [isF, zQa] at h; grind
def adv (p : PS) : PS := { p with at' := p.at' + 1 }
theorem zO (T : List Tok) (s : List UInt8) (p : PS) : takeF T s p = if isF T s p then (true, adv p) else (false, p) := rfl
theorem Inv1.adv {T : List Tok} {p : PS} (I : Inv1 T p) (s : List UInt8) (h : isF T s p = true) : Inv1 T (adv p) := I.next (by rw [(isF_kind h).1]; decide) _ _
section
variable {T : List Tok} {p : PS}
theorem zsc (I : Inv1 T p) : zi E 52 [.ptr 0 0 0] (pob T p) = some (.ret (.bool (zQa p)), pob T p) := by
 refine zc rfl rfl rfl (by simp) ?_
 unfold zQa
 cases hb : p.bad <;> (simp [*, F52, pob, toks]) <;> (repeat' ((first | refine sP _ ?_ ?_ | refine gP _ ?_ ?_ | refine sN _ ?_ ?_ | refine gN _ ?_ ?_ | refine sM _ ?_ ?_ | refine gM _ ?_ ?_ | refine sB _ ?_ ?_ | refine gB _ ?_ ?_) <;> intro hc <;> simp [*, F52, pob, toks]))
theorem is_spec (I : Inv1 T p) (s : List UInt8) : zi E 80 [.ptr 0 0 0, .str s] (pob T p) = some (.ret (.bool (isF T s p)), pob T p) := by
 refine zc rfl rfl rfl (by simp) ?_
 have h1 := zsc I
 have hlt := I.lt
 have hg := tk_get hlt
 have hg' := tk_get' hlt
 unfold isF
 cases ho : zQa p
 ·rw [ho] at h1
  by_cases hk : (tk T p.at').kind = 2
  ·have hk' : decide ((tk T p.at').kind = 2) = true := decide_eq_true hk
   replace hk := eqp hk
   simp [pob, toks] at h1
   (simp [*, F80, pob, toks, zq]) <;> (repeat' (first | ((first | refine sP _ ?_ ?_ | refine gP _ ?_ ?_ | refine sN _ ?_ ?_ | refine gN _ ?_ ?_) <;> intro hc <;> (first | replace hc := eqn hc | replace hc := eqp hc) <;> simp [*, F80, pob, toks, zq]) | ((first | refine sM _ ?_ ?_ | refine gM _ ?_ ?_ | refine sB _ ?_ ?_ | refine gB _ ?_ ?_) <;> intro hc <;> simp [*, F80, pob, toks, zq])))
  ·have hk' : decide ((tk T p.at').kind = 2) = false := decide_eq_false hk
   replace hk := eqn hk
   simp [pob, toks] at h1
   (simp [*, F80, pob, toks, zq]) <;> (repeat' (first | ((first | refine sP _ ?_ ?_ | refine gP _ ?_ ?_ | refine sN _ ?_ ?_ | refine gN _ ?_ ?_) <;> intro hc <;> (first | replace hc := eqn hc | replace hc := eqp hc) <;> simp [*, F80, pob, toks, zq]) | ((first | refine sM _ ?_ ?_ | refine gM _ ?_ ?_ | refine sB _ ?_ ?_ | refine gB _ ?_ ?_) <;> intro hc <;> simp [*, F80, pob, toks, zq])))
 ·rw [ho] at h1
  simp [pob, toks] at h1
  (simp [*, F80, pob, toks, zq]) <;> (repeat' (first | ((first | refine sP _ ?_ ?_ | refine gP _ ?_ ?_ | refine sN _ ?_ ?_ | refine gN _ ?_ ?_) <;> intro hc <;> (first | replace hc := eqn hc | replace hc := eqp hc) <;> simp [*, F80, pob, toks, zq]) | ((first | refine sM _ ?_ ?_ | refine gM _ ?_ ?_ | refine sB _ ?_ ?_ | refine gB _ ?_ ?_) <;> intro hc <;> simp [*, F80, pob, toks, zq])))
theorem Inv1.bad' (I : Inv1 T p) : Inv1 T { p with bad := true } := ⟨I.lt, I.last, I.sm, I.num⟩
theorem Inv1.deep' (I : Inv1 T p) : Inv1 T { p with deep := true } := ⟨I.lt, I.last, I.sm, I.num⟩
theorem Inv1.must (I : Inv1 T p) (s : List UInt8) : Inv1 T (zxa T s p) := by
 unfold zxa
 split
 ·rename_i h
  exact I.next (by rw [(isF_kind h).1]; decide) _ _
 ·split
  ·exact I
  ·exact I.bad'
theorem Inv1.text (I : Inv1 T p) (k : Int) (hk : k ≠ 3) : Inv1 T (zfa T k p).2 := by
 unfold zfa
 split
 ·exact I
 ·split
  ·rename_i h
   exact I.next (by rw [h]; exact hk) _ _
  ·exact I.bad'
theorem Inv1.typed (I : Inv1 T p) : Inv1 T (zha T p).2 := by
 unfold zha
 split
 ·rename_i h
  exact I.next (by rw [(isF_kind h).1]; decide) _ _
 ·exact I.must _
theorem zz (I : Inv1 T p) (s : List UInt8) : zi E 55 [.ptr 0 0 0, .str s] (pob T p) = some (.ret (.bool (takeF T s p).1), pob T (takeF T s p).2) := by
 refine zc rfl rfl rfl (by simp) ?_
 have h1 := is_spec I s
 have hw : zB .i64 ((p.at' : Int) + 1) = (p.at' : Int) + 1 := zj (by omega) (by have := I.lt; have := I.sm; omega)
 unfold takeF
 cases ho : isF T s p
 ·rw [ho] at h1
  simp [pob, toks] at h1
  (simp [*, F55, pob, toks]) <;> (repeat' (first | ((first | refine sP _ ?_ ?_ | refine gP _ ?_ ?_ | refine sN _ ?_ ?_ | refine gN _ ?_ ?_) <;> intro hc <;> (first | replace hc := eqn hc | replace hc := eqp hc) <;> simp [*, F55, pob, toks]) | ((first | refine sM _ ?_ ?_ | refine gM _ ?_ ?_ | refine sB _ ?_ ?_ | refine gB _ ?_ ?_) <;> intro hc <;> simp [*, F55, pob, toks])))
 ·rw [ho] at h1
  simp [pob, toks] at h1
  (simp [*, F55, pob, toks]) <;> (repeat' (first | ((first | refine sP _ ?_ ?_ | refine gP _ ?_ ?_ | refine sN _ ?_ ?_ | refine gN _ ?_ ?_) <;> intro hc <;> (first | replace hc := eqn hc | replace hc := eqp hc) <;> simp [*, F55, pob, toks]) | ((first | refine sM _ ?_ ?_ | refine gM _ ?_ ?_ | refine sB _ ?_ ?_ | refine gB _ ?_ ?_) <;> intro hc <;> simp [*, F55, pob, toks])))
theorem zx (I : Inv1 T p) (s : List UInt8) : zi E 57 [.ptr 0 0 0, .str s] (pob T p) = some (.ret (.tup []), pob T (zxa T s p)) := by
 refine zc rfl rfl rfl (by simp) ?_
 have h1 := zz I s
 unfold zxa
 unfold takeF at h1
 cases ho : isF T s p
 ·rw [ho] at h1
  simp [pob, toks] at h1
  cases hd : p.deep
  ·rw [hd] at h1
   (simp [*, F57, pob, toks]) <;> (repeat' (first | ((first | refine sP _ ?_ ?_ | refine gP _ ?_ ?_ | refine sN _ ?_ ?_ | refine gN _ ?_ ?_) <;> intro hc <;> (first | replace hc := eqn hc | replace hc := eqp hc) <;> simp [*, F57, pob, toks]) | ((first | refine sM _ ?_ ?_ | refine gM _ ?_ ?_ | refine sB _ ?_ ?_ | refine gB _ ?_ ?_) <;> intro hc <;> simp [*, F57, pob, toks])))
  ·rw [hd] at h1
   (simp [*, F57, pob, toks]) <;> (repeat' (first | ((first | refine sP _ ?_ ?_ | refine gP _ ?_ ?_ | refine sN _ ?_ ?_ | refine gN _ ?_ ?_) <;> intro hc <;> (first | replace hc := eqn hc | replace hc := eqp hc) <;> simp [*, F57, pob, toks]) | ((first | refine sM _ ?_ ?_ | refine gM _ ?_ ?_ | refine sB _ ?_ ?_ | refine gB _ ?_ ?_) <;> intro hc <;> simp [*, F57, pob, toks])))
 ·rw [ho] at h1
  simp [pob, toks] at h1
  (simp [*, F57, pob, toks]) <;> (repeat' (first | ((first | refine sP _ ?_ ?_ | refine gP _ ?_ ?_ | refine sN _ ?_ ?_ | refine gN _ ?_ ?_) <;> intro hc <;> (first | replace hc := eqn hc | replace hc := eqp hc) <;> simp [*, F57, pob, toks]) | ((first | refine sM _ ?_ ?_ | refine gM _ ?_ ?_ | refine sB _ ?_ ?_ | refine gB _ ?_ ?_) <;> intro hc <;> simp [*, F57, pob, toks])))
theorem zOc (I : Inv1 T p) (k : Int) : zi E 54 [.ptr 0 0 0, .int .i64 k] (pob T p) = some (.ret (.str (zfa T k p).1), pob T (zfa T k p).2) := by
 refine zc rfl rfl rfl (by simp) ?_
 have h1 := zsc I
 have hlt := I.lt
 have hg := tk_get hlt
 have hg' := tk_get' hlt
 have hw : zB .i64 ((p.at' : Int) + 1) = (p.at' : Int) + 1 := zj (by omega) (by have := I.lt; have := I.sm; omega)
 unfold zfa
 cases ho : zQa p
 ·rw [ho] at h1
  simp [pob, toks] at h1
  by_cases hk : (tk T p.at').kind = k
  ·replace hk := eqp hk
   (simp [*, F54, pob, toks, zq]) <;> (repeat' (first | ((first | refine sP _ ?_ ?_ | refine gP _ ?_ ?_ | refine sN _ ?_ ?_ | refine gN _ ?_ ?_) <;> intro hc <;> (first | replace hc := eqn hc | replace hc := eqp hc) <;> simp [*, F54, pob, toks, zq]) | ((first | refine sM _ ?_ ?_ | refine gM _ ?_ ?_ | refine sB _ ?_ ?_ | refine gB _ ?_ ?_) <;> intro hc <;> simp [*, F54, pob, toks, zq])))
  ·replace hk := eqn hk
   (simp [*, F54, pob, toks, zq]) <;> (repeat' (first | ((first | refine sP _ ?_ ?_ | refine gP _ ?_ ?_ | refine sN _ ?_ ?_ | refine gN _ ?_ ?_) <;> intro hc <;> (first | replace hc := eqn hc | replace hc := eqp hc) <;> simp [*, F54, pob, toks, zq]) | ((first | refine sM _ ?_ ?_ | refine gM _ ?_ ?_ | refine sB _ ?_ ?_ | refine gB _ ?_ ?_) <;> intro hc <;> simp [*, F54, pob, toks, zq])))
 ·rw [ho] at h1
  simp [pob, toks] at h1
  (simp [*, F54, pob, toks, zq]) <;> (repeat' (first | ((first | refine sP _ ?_ ?_ | refine gP _ ?_ ?_ | refine sN _ ?_ ?_ | refine gN _ ?_ ?_) <;> intro hc <;> (first | replace hc := eqn hc | replace hc := eqp hc) <;> simp [*, F54, pob, toks, zq]) | ((first | refine sM _ ?_ ?_ | refine gM _ ?_ ?_ | refine sB _ ?_ ?_ | refine gB _ ?_ ?_) <;> intro hc <;> simp [*, F54, pob, toks, zq])))
theorem typed_spec (I : Inv1 T p) : zi E 53 [.ptr 0 0 0] (pob T p) = some (.ret (.int .i64 (zha T p).1), pob T (zha T p).2) := by
 refine zc rfl rfl rfl (by simp) ?_
 have h1 := zz I [105, 110, 116]
 have h2 := zx I [98, 111, 111, 108]
 unfold zha
 unfold takeF at h1
 cases ho : isF T [105, 110, 116] p
 ·rw [ho] at h1
  (simp [*, F53]) <;> (repeat' (first | ((first | refine sP _ ?_ ?_ | refine gP _ ?_ ?_ | refine sN _ ?_ ?_ | refine gN _ ?_ ?_) <;> intro hc <;> (first | replace hc := eqn hc | replace hc := eqp hc) <;> simp [*, F53]) | ((first | refine sM _ ?_ ?_ | refine gM _ ?_ ?_ | refine sB _ ?_ ?_ | refine gB _ ?_ ?_) <;> intro hc <;> simp [*, F53])))
 ·rw [ho] at h1
  (simp [*, F53]) <;> (repeat' (first | ((first | refine sP _ ?_ ?_ | refine gP _ ?_ ?_ | refine sN _ ?_ ?_ | refine gN _ ?_ ?_) <;> intro hc <;> (first | replace hc := eqn hc | replace hc := eqp hc) <;> simp [*, F53]) | ((first | refine sM _ ?_ ?_ | refine gM _ ?_ ?_ | refine sB _ ?_ ?_ | refine gB _ ?_ ?_) <;> intro hc <;> simp [*, F53])))
end
end PE.U

namespace PE.U
open Go PE
def signsR : List (List UInt8) := [[43], [45], [42], [47], [37], [38], [124], [94], [60, 60], [62, 62], [62, 62, 62], [60], [60, 61], [62], [62, 61], [61, 61], [33, 61], [38, 38], [124, 124], [45], [126], [33], [105, 56], [105, 49, 54], [105, 51, 50], [117, 56], [117, 49, 54], [117, 51, 50]]
def signR (op : Int) : List UInt8 := if op < 1 \/ 28 < op then [] else signsR[(op - 1).toNat]?.getD []
def zge (op : Int) : Int :=
 if op = 19 then 1 else if op = 18 then 2 else if op = 7 then 3 else if op = 8 then 4 else if op = 6 then 5
 else if op = 16 \/ op = 17 then 6 else if op = 12 \/ op = 13 \/ op = 14 \/ op = 15 then 7 else if op = 9 \/ op = 10 \/ op = 11 then 8
 else if op = 1 \/ op = 2 then 9 else if op = 3 \/ op = 4 \/ op = 5 then 10 else 0
def oneR (op : Int) : Bool := decide (20 <= op) && decide (op <= 28)
theorem signs_spec : zi E 40 [] [] = some (.ret (.slice .plain 1 (signsR.map PV.str)), []) := by
 refine zc rfl rfl rfl (by simp) ?_
 have : signsR.map PV.str = [PV.str [43], PV.str [45], PV.str [42], PV.str [47], PV.str [37], PV.str [38], PV.str [124], PV.str [94], PV.str [60, 60], PV.str [62, 62], PV.str [62, 62, 62], PV.str [60], PV.str [60, 61], PV.str [62], PV.str [62, 61], PV.str [61, 61], PV.str [33, 61], PV.str [38, 38], PV.str [124, 124], PV.str [45], PV.str [126], PV.str [33], PV.str [105, 56], PV.str [105, 49, 54], PV.str [105, 51, 50], PV.str [117, 56], PV.str [117, 49, 54], PV.str [117, 51, 50]] := rfl
 rw [this]
 simp [F40]
theorem rsign_spec (op : Int) : zi E 21 [.int .i64 op] [] = some (.ret (.str (signR op)), []) := by
 refine zc rfl rfl rfl (by simp) ?_
 have hs := signs_spec
 unfold signR
 by_cases h1 : op < 1
 ·(simp [*, F21]) <;> (repeat' ((first | refine sP _ ?_ ?_ | refine gP _ ?_ ?_ | refine sN _ ?_ ?_ | refine gN _ ?_ ?_ | refine sM _ ?_ ?_ | refine gM _ ?_ ?_ | refine sB _ ?_ ?_ | refine gB _ ?_ ?_) <;> intro hc <;> simp [*, F21]))
 ·by_cases h2 : 28 < op
  ·(simp [*, F21]) <;> (repeat' ((first | refine sP _ ?_ ?_ | refine gP _ ?_ ?_ | refine sN _ ?_ ?_ | refine gN _ ?_ ?_ | refine sM _ ?_ ?_ | refine gM _ ?_ ?_ | refine sB _ ?_ ?_ | refine gB _ ?_ ?_) <;> intro hc <;> simp [*, F21]))
  ·have hw : zB .i64 (op - 1) = op - 1 := zj (by omega) (by omega)
   have h3 : 0 <= op - 1 := by omega
   have hl : signsR.length = 28 := rfl
   have h4 : op.toNat - 1 < signsR.length := by omega
   have h6 : (op - 1).toNat = op.toNat - 1 := by omega
   rw [h6]
   have h5 : signsR[op.toNat - 1]? = some (signsR[op.toNat - 1]'h4) := by simp [h4]
   clear h6
   generalize hx : op.toNat - 1 = n at *
   have h3' : 1 <= op := by omega
   clear hl
   generalize signsR = l at *
   (simp [*, F21]) <;> (repeat' ((first | refine sP _ ?_ ?_ | refine gP _ ?_ ?_ | refine sN _ ?_ ?_ | refine gN _ ?_ ?_ | refine sM _ ?_ ?_ | refine gM _ ?_ ?_ | refine sB _ ?_ ?_ | refine gB _ ?_ ?_) <;> intro hc <;> simp [*, F21]))
theorem rlevel_spec (op : Int) : zi E 104 [.int .i64 op] [] = some (.ret (.int .i64 (zge op)), []) := by
 refine zc rfl rfl rfl (by simp) ?_
 unfold zge
 (simp [*, F104]) <;> (repeat' ((first | refine sP _ ?_ ?_ | refine gP _ ?_ ?_ | refine sN _ ?_ ?_ | refine gN _ ?_ ?_ | refine sM _ ?_ ?_ | refine gM _ ?_ ?_ | refine sB _ ?_ ?_ | refine gB _ ?_ ?_) <;> intro hc <;> simp [*, F104]))
theorem roneR_spec (op : Int) : zi E 103 [.int .i64 op] [] = some (.ret (.bool (oneR op)), []) := by
 refine zc rfl rfl rfl (by simp) ?_
 unfold oneR
 (simp [*, F103]) <;> (repeat' ((first | refine sP _ ?_ ?_ | refine gP _ ?_ ?_ | refine sN _ ?_ ?_ | refine gN _ ?_ ?_ | refine sM _ ?_ ?_ | refine gM _ ?_ ?_ | refine sB _ ?_ ?_ | refine gB _ ?_ ?_) <;> intro hc <;> simp [*, F103]))
def opHere (T : List Tok) (L : Int) (p : PS) (i : Nat) : Bool := decide (zge (i + 1 : Nat) = L) && isF T (signR (i + 1 : Nat)) p
def opF (T : List Tok) (L : Int) (p : PS) : Int := match (List.range 19).find? (opHere T L p) with
 | some i => ((i + 1 : Nat) : Int)
 | none => 0
theorem op_spec {T : List Tok} {p : PS} (I : Inv1 T p) (L : Int) : zi E 149 [.ptr 0 0 0, .int .i64 L] (pob T p) = some (.ret (.int .i64 (opF T L p)), pob T p) := by
 refine zc rfl rfl rfl (by simp) ?_
 simp [F149]
 refine zG (List.range 19) K149_0 B149_0 (fun d => [(5, .int .i64 ((d.length + 1 : Nat) : Int))]) (fun _ => pob T p) (fun d => ∀ i ∈ d, opHere T L p i = false) (by simp) (by simp) ?_ ?_
 ·intros d x r s1 hl' hlt hget hget' hw hp h1 h2 h3 h4
  simp at h1 h3 hlt
  have hx : x = d.length := by rw [<- hget', List.getElem_range]
  subst hx
  have e1 := rlevel_spec ((d.length + 1 : Nat) : Int)
  have e2 := rsign_spec ((d.length + 1 : Nat) : Int)
  have e3 := is_spec I (signR ((d.length + 1 : Nat) : Int))
  have hle : (d.length : Int) + 1 <= 19 := by omega
  have hw2 : zB .i64 ((d.length : Int) + 1 + 1) = (d.length : Int) + 1 + 1 := zj (by omega) (by omega)
  have hf : opHere T L p d.length = true -> opF T L p = ((d.length + 1 : Nat) : Int) := by
   intro h
   unfold opF
   rw [hl'.eq, List.find?_append]
   have : d.find? (opHere T L p) = none := by rw [List.find?_eq_none]; intro y hy; simp [hp y hy]
   rw [this]
   simp [List.find?_cons, h]
  have ho : opHere T L p d.length = (decide (zge ((d.length + 1 : Nat) : Int) = L) && isF T (signR ((d.length + 1 : Nat) : Int)) p) := rfl
  have hn := fun (h : opHere T L p d.length = false) => (fun i (hi : i ∈ d ++ [d.length]) => by
   rcases List.mem_append.1 hi with h' | h'
   ·exact hp i h'
   ·rw [List.mem_singleton.1 h']; exact h : ∀ i ∈ d ++ [d.length], opHere T L p i = false)
  clear h2 hget hget' hl' hp
  simp at e1 e2 e3 ho hf
  by_cases hL : zge ((d.length : Int) + 1) = L
  ·have hL' : decide (zge ((d.length : Int) + 1) = L) = true := decide_eq_true hL
   rw [hL', Bool.true_and] at ho
   replace hL := eqp hL
   cases hi : isF T (signR ((d.length : Int) + 1)) p
   ·replace hn := hn (ho.trans hi)
    rw [hi] at ho e3
    clear hf ho
    simp [*]
    grind
   ·replace hf := hf (ho.trans hi)
    rw [hi] at ho e3
    clear hn ho
    simp [*]
  ·have hL' : decide (zge ((d.length : Int) + 1) = L) = false := decide_eq_false hL
   rw [hL', Bool.false_and] at ho
   replace hL := eqn hL
   replace hn := hn ho
   clear hf ho
   simp [*]
   grind
 ·intros s1 hp h1 h2 h3 h4
  simp at h1 h3
  have hf : opF T L p = 0 := by
   unfold opF
   have : (List.range 19).find? (opHere T L p) = none := by rw [List.find?_eq_none]; intro y hy; simp [hp y hy]
   rw [this]
  clear h2 hp
  simp [*]
def zQb (T : List Tok) (p : PS) (i : Nat) : Bool := isF T (signR ((i + 20 : Nat) : Int)) p
def deepF (d : Int) (p : PS) : PS := if 100 < d then if p.bad then p else { p with deep := true } else p
theorem Inv1.deepF {T : List Tok} {p : PS} (I : Inv1 T p) (d : Int) : Inv1 T (deepF d p) := by
 unfold PE.U.deepF
 split
 ·split
  ·exact I
  ·exact I.deep'
 ·exact I
def unF (T : List Tok) (p : PS) : Option Nat := (List.range 9).find? (zQb T p)
end PE.U

namespace PE.U
open Go PE
def signList : List (List UInt8) := [[], [43], [45], [42], [47], [37], [38], [124], [94], [60, 60], [62, 62], [62, 62, 62], [60], [60, 61], [62], [62, 61], [61, 61], [33, 61], [38, 38], [124, 124], [45], [126], [33], [105, 56], [105, 49, 54], [105, 51, 50], [117, 56], [117, 49, 54], [117, 51, 50]]
def zud : List Int := [0, 9, 9, 10, 10, 10, 5, 3, 4, 8, 8, 8, 7, 7, 7, 7, 6, 6, 2, 1, 0, 0, 0, 0, 0, 0, 0, 0, 0]
def sgn (op : Int) : List UInt8 := if op < 0 then [] else (signList[op.toNat]?).getD []
def lvl (op : Int) : Int := if op < 0 then 0 else (zud[op.toNat]?).getD 0
theorem rowCells : ∀ n : Nat, n < 29 -> List.take 2 (List.drop (n * 2) [.str [], .int .i64 0, .str [43], .int .i64 9, .str [45], .int .i64 9, .str [42], .int .i64 10, .str [47], .int .i64 10, .str [37], .int .i64 10, .str [38], .int .i64 5, .str [124], .int .i64 3, .str [94], .int .i64 4, .str [60, 60], .int .i64 8, .str [62, 62], .int .i64 8, .str [62, 62, 62], .int .i64 8, .str [60], .int .i64 7, .str [60, 61], .int .i64 7, .str [62], .int .i64 7, .str [62, 61], .int .i64 7, .str [61, 61], .int .i64 6, .str [33, 61], .int .i64 6, .str [38, 38], .int .i64 2, .str [124, 124], .int .i64 1, .str [45], .int .i64 0, .str [126], .int .i64 0, .str [33], .int .i64 0, .str [105, 56], .int .i64 0, .str [105, 49, 54], .int .i64 0, .str [105, 51, 50], .int .i64 0, .str [117, 56], .int .i64 0, .str [117, 49, 54], .int .i64 0, .str [117, 51, 50], .int .i64 0]) = [PV.str ((signList[n]?).getD []), PV.int .i64 ((zud[n]?).getD 0)]
 | 0, _ => rfl
 | 1, _ => rfl
 | 2, _ => rfl
 | 3, _ => rfl
 | 4, _ => rfl
 | 5, _ => rfl
 | 6, _ => rfl
 | 7, _ => rfl
 | 8, _ => rfl
 | 9, _ => rfl
 | 10, _ => rfl
 | 11, _ => rfl
 | 12, _ => rfl
 | 13, _ => rfl
 | 14, _ => rfl
 | 15, _ => rfl
 | 16, _ => rfl
 | 17, _ => rfl
 | 18, _ => rfl
 | 19, _ => rfl
 | 20, _ => rfl
 | 21, _ => rfl
 | 22, _ => rfl
 | 23, _ => rfl
 | 24, _ => rfl
 | 25, _ => rfl
 | 26, _ => rfl
 | 27, _ => rfl
 | 28, _ => rfl
 | n + 29, h => by omega
set_option maxHeartbeats 4000000 in
theorem rowOf_spec (op : Int) (σ : ze) : zi E 173 [.int .i64 op] σ = some (.ret (.agg [.str (sgn op), .int .i64 (lvl op)]), σ) := by
 refine zc rfl rfl rfl (by simp) ?_
 by_cases h0 : op < 0
 ·simp [F173, h0, sgn, lvl]
 by_cases h1 : 29 <= op
 ·have : 29 <= op.toNat := by omega
  simp [F173, h0, h1, sgn, lvl, signList, zud, List.getElem?_eq_none, this]
 have h2 : op.toNat < 29 := by omega
 have h3 : 0 <= op := by omega
 have h4 : op.toNat * 2 <= 56 := by omega
 have e1 : sgn op = ((signList[op.toNat]?).getD []) := by simp [sgn, h0]
 have e2 : lvl op = ((zud[op.toNat]?).getD 0) := by simp [lvl, h0]
 rw [e1, e2]
 have e3 := rowCells op.toNat h2
 generalize ((signList[op.toNat]?).getD []) = s at *
 generalize ((zud[op.toNat]?).getD 0) = l at *
 simp [F173, h0, h1, h2, h3, h4, e3]
theorem level_spec (op : Int) (σ : ze) : zi E 170 [.int .i64 op] σ = some (.ret (.int .i64 (lvl op)), σ) := by
 refine zc rfl rfl rfl (by simp) ?_
 (simp [*, F170, rowOf_spec]) <;> (repeat' ((first | refine sP _ ?_ ?_ | refine gP _ ?_ ?_ | refine sN _ ?_ ?_ | refine gN _ ?_ ?_ | refine sM _ ?_ ?_ | refine gM _ ?_ ?_ | refine sB _ ?_ ?_ | refine gB _ ?_ ?_) <;> intro hc <;> simp [*, F170, rowOf_spec]))
theorem lvl_eq (op : Int) : lvl op = zge op := by
 unfold lvl zge
 by_cases h0 : op < 0
 ·rw [if_pos h0]
  repeat (rw [if_neg (by omega)])
 ·rw [if_neg h0]
  by_cases h1 : 29 <= op
  ·have : 29 <= op.toNat := by omega
   rw [List.getElem?_eq_none (by simpa [zud] using this)]
   repeat (rw [if_neg (by omega)])
   rfl
  ·obtain ⟨n, rfl⟩ : ∃ n : Nat, op = n := ⟨op.toNat, by omega⟩
   have hn : n < 29 := by omega
   have key : ∀ n : Nat, n < 29 -> (zud[((n : Int)).toNat]?).getD 0 = zge (n : Int) := by decide
   have := key n hn
   unfold zge at this
   exact this
end PE.U

namespace PE.U
open Go PE
mutual
def zNc (T : List Tok) : Nat -> Int -> PS -> Option (Expr × PS)
 | 0, _, _ => none
 | n + 1, d, p =>
  if zQa p then some (⟨0, 0, 0, [], []⟩, p)
  else if isF T [40] p then
   match zwc T n 1 (d + 1) (adv p) with
   | none => none
   | some q => some (q.1, zxa T [41] q.2)
  else if isF T [116, 114, 117, 101] p then some (⟨2, 0, 1, [], []⟩, adv p)
  else if isF T [102, 97, 108, 115, 101] p then some (⟨2, 0, 0, [], []⟩, adv p)
  else if isF T [114, 101, 97, 100] p then some (⟨8, 0, 0, [], []⟩, zxa T [41] (zxa T [40] (adv p)))
  else if (tk T p.at').kind = 0 then some (⟨1, 0, valueM (tk T p.at').text, [], []⟩, adv p)
  else if isF T [40] (zfa T 1 p).2 then
   match argsF T n (d + 1) (adv (zfa T 1 p).2) with
   | none => none
   | some q => some (⟨7, 0, 0, (zfa T 1 p).1, q.1⟩, q.2)
  else if isF T [91] (zfa T 1 p).2 then
   match zwc T n 1 (d + 1) (adv (zfa T 1 p).2) with
   | none => none
   | some q => some (⟨6, 0, 0, (zfa T 1 p).1, [q.1]⟩, zxa T [93] q.2)
  else some (⟨3, 0, 0, (zfa T 1 p).1, []⟩, (zfa T 1 p).2)
def unaryF (T : List Tok) : Nat -> Int -> PS -> Option (Expr × PS)
 | 0, _, _ => none
 | n + 1, d, p =>
  match unF T (deepF d p) with
  | some i =>
   if 3 <= i then
    match zwc T n 1 (d + 1) (zxa T [40] (adv (deepF d p))) with
    | none => none
    | some q => some (⟨4, ((i + 20 : Nat) : Int), 0, [], [q.1]⟩, zxa T [41] q.2)
   else
    match unaryF T n (d + 1) (adv (deepF d p)) with
    | none => none
    | some q => some (⟨4, ((i + 20 : Nat) : Int), 0, [], [q.1]⟩, q.2)
  | none => zNc T n d (deepF d p)
def zwc (T : List Tok) : Nat -> Int -> Int -> PS -> Option (Expr × PS)
 | 0, _, _, _ => none
 | n + 1, L, d, p =>
  if 10 < L then unaryF T n d p
  else match zwc T n (L + 1) d p with
   | none => none
   | some q => zab T n L d q.1 q.2
def zab (T : List Tok) : Nat -> Int -> Int -> Expr -> PS -> Option (Expr × PS)
 | 0, _, _, _, _ => none
 | n + 1, L, d, a, p =>
  if opF T L p = 0 then some (a, p)
  else match zwc T n (L + 1) d (adv p) with
   | none => none
   | some q => zab T n L d ⟨5, opF T L p, 0, [], [a, q.1]⟩ q.2
def argsF (T : List Tok) : Nat -> Int -> PS -> Option (List Expr × PS)
 | 0, _, _ => none
 | n + 1, d, p =>
  if isF T [41] p then some ([], adv p)
  else match zqa T n d [] true p with
   | none => none
   | some q => some (q.1, zxa T [41] q.2)
def zqa (T : List Tok) : Nat -> Int -> List Expr -> Bool -> PS -> Option (List Expr × PS)
 | 0, _, _, _, _ => none
 | n + 1, d, l, first, p =>
  if first || isF T [44] p then
   if zQa (if first then p else adv p) then some (l, if first then p else adv p)
   else match zwc T n 1 d (if first then p else adv p) with
    | none => none
    | some q => zqa T n d (l ++ [q.1]) false q.2
  else some (l, p)
end
structure ESpec (T : List Tok) (n : Nat) : Prop where
 primary : ∀ d p v p', zNc T n d p = some (v, p') -> Inv1 T p -> 0 <= d -> d + n <= 1000000000 -> zi E 162 [.ptr 0 0 0, .int .i64 d] (pob T p) = some (.ret (zw v), pob T p') /\ Inv1 T p'
 unary : ∀ d p v p', unaryF T n d p = some (v, p') -> Inv1 T p -> 0 <= d -> d + n <= 1000000000 -> zi E 148 [.ptr 0 0 0, .int .i64 d] (pob T p) = some (.ret (zw v), pob T p') /\ Inv1 T p'
 expr : ∀ L d p v p', zwc T n L d p = some (v, p') -> Inv1 T p -> 1 <= L -> L <= 11 -> 0 <= d -> d + n <= 1000000000 -> zi E 128 [.ptr 0 0 0, .int .i64 L, .int .i64 d] (pob T p) = some (.ret (zw v), pob T p') /\ Inv1 T p'
 args : ∀ d p v p', argsF T n d p = some (v, p') -> Inv1 T p -> 0 <= d -> d + n <= 1000000000 -> zi E 150 [.ptr 0 0 0, .int .i64 d] (pob T p) = some (.ret (zd v), pob T p') /\ Inv1 T p'
end PE.U

namespace PE.U
open Go PE
set_option maxHeartbeats 4000000 in
theorem primary_of {T : List Tok} {n : Nat} (S : ESpec T n) : ∀ d p v p', zNc T (n + 1) d p = some (v, p') -> Inv1 T p -> 0 <= d -> d + (n + 1 : Nat) <= 1000000000 -> zi E 162 [.ptr 0 0 0, .int .i64 d] (pob T p) = some (.ret (zw v), pob T p') /\ Inv1 T p' := by
 intro d p v p' h I hd hn
 have hw : zB .i64 (d + 1) = d + 1 := zj (by omega) (by omega)
 simp only [zNc] at h
 have ho := zsc I
 cases o : zQa p
 case true =>
  rw [if_pos o] at h
  cases h
  refine ⟨?_, I⟩
  refine zc rfl rfl rfl (by simp) ?_
  rw [o] at ho
  simp [pob, toks] at ho
  simp [*, F162, zw, encEs, pob, toks]
 rw [if_neg (by rw [o]; decide)] at h
 rw [o] at ho
 have t1 := zz I [40]
 rw [zO] at t1
 cases c1 : isF T [40] p
 case true =>
  rw [if_pos c1] at h
  rw [c1] at t1
  split at h
  ·cases h
  ·rename_i q hq
   obtain ⟨e, p2⟩ := q
   cases h
   have IA := I.adv _ c1
   obtain ⟨x1, I3⟩ := S.expr 1 (d + 1) _ e p2 hq IA (by omega) (by omega) (by omega) (by omega)
   have m2 := zx I3 [41]
   refine ⟨?_, I3.must _⟩
   refine zc rfl rfl rfl (by simp) ?_
   clear hq o c1
   rw [za] at x1 ⊢
   simp [pob, toks, adv, zd] at ho t1 x1 m2
   simp [*, F162, zd, pob, toks]
 rw [if_neg (by rw [c1]; decide)] at h
 rw [c1] at t1
 have t2 := zz I [116, 114, 117, 101]
 rw [zO] at t2
 cases c2 : isF T [116, 114, 117, 101] p
 case true =>
  rw [if_pos c2] at h
  rw [c2] at t2
  cases h
  refine ⟨?_, I.adv _ c2⟩
  refine zc rfl rfl rfl (by simp) ?_
  clear o c1 c2
  simp [pob, toks, adv] at ho t1 t2
  simp [*, F162, zw, encEs, pob, toks, adv]
 rw [if_neg (by rw [c2]; decide)] at h
 rw [c2] at t2
 have t3 := zz I [102, 97, 108, 115, 101]
 rw [zO] at t3
 cases c3 : isF T [102, 97, 108, 115, 101] p
 case true =>
  rw [if_pos c3] at h
  rw [c3] at t3
  cases h
  refine ⟨?_, I.adv _ c3⟩
  refine zc rfl rfl rfl (by simp) ?_
  clear o c1 c2 c3
  simp [pob, toks, adv] at ho t1 t2 t3
  simp [*, F162, zw, encEs, pob, toks, adv]
 rw [if_neg (by rw [c3]; decide)] at h
 rw [c3] at t3
 have t4 := zz I [114, 101, 97, 100]
 rw [zO] at t4
 cases c4 : isF T [114, 101, 97, 100] p
 case true =>
  rw [if_pos c4] at h
  rw [c4] at t4
  cases h
  have IA := I.adv _ c4
  have m1 := zx IA [40]
  have m2 := zx (IA.must [40]) [41]
  refine ⟨?_, (IA.must _).must _⟩
  refine zc rfl rfl rfl (by simp) ?_
  clear o c1 c2 c3 c4
  simp [pob, toks, adv] at ho t1 t2 t3 t4 m1 m2
  simp [*, F162, zw, encEs, pob, toks, adv]
 rw [if_neg (by rw [c4]; decide)] at h
 rw [c4] at t4
 have hlt := I.lt
 have hg := tk_get hlt
 have hg' := tk_get' hlt
 by_cases c5 : (tk T p.at').kind = 0
 ·rw [if_pos c5] at h
  have tx := zOc I 0
  have hnum := I.num (tk T p.at') (by rw [<- hg']; exact List.getElem_mem hlt) c5
  have vv := value_spec' (tk T p.at').text [] hnum.1 (by omega)
  have htx : zfa T 0 p = ((tk T p.at').text, adv p) := by unfold zfa; rw [if_neg (by rw [o]; decide), if_pos c5]; rfl
  have IA : Inv1 T (adv p) := I.next (by rw [c5]; decide) _ _
  rw [htx] at tx
  cases h
  refine ⟨?_, IA⟩
  refine zc rfl rfl rfl (by simp) ?_
  clear o c1 c2 c3 c4 htx
  replace c5 := eqp c5
  simp [pob, toks, adv] at ho t1 t2 t3 t4 tx
  simp [*, F162, zw, encEs, pob, toks, adv, zq]
 rw [if_neg c5] at h
 replace c5 := eqn c5
 have tx := zOc I 1
 have I1 := I.text 1 (by decide)
 have t6 := zz I1 [40]
 rw [zO] at t6
 generalize htt : zfa T 1 p = tt at *
 obtain ⟨s, p1⟩ := tt
 simp only at h tx I1 t6
 clear htt
 cases c6 : isF T [40] p1
 case true =>
  rw [if_pos c6] at h
  rw [c6] at t6
  split at h
  ·cases h
  ·rename_i q hq
   obtain ⟨l, p2⟩ := q
   cases h
   have IA := I1.adv _ c6
   obtain ⟨x1, I3⟩ := S.args (d + 1) _ l p2 hq IA (by omega) (by omega)
   refine ⟨?_, I3⟩
   refine zc rfl rfl rfl (by simp) ?_
   clear hq o c1 c2 c3 c4 c6
   rw [za]
   simp [pob, toks, adv, zd] at ho t1 t2 t3 t4 tx t6 x1
   simp [*, F162, zd, pob, toks, zq]
 rw [if_neg (by rw [c6]; decide)] at h
 rw [c6] at t6
 have t7 := zz I1 [91]
 rw [zO] at t7
 cases c7 : isF T [91] p1
 case true =>
  rw [if_pos c7] at h
  rw [c7] at t7
  split at h
  ·cases h
  ·rename_i q hq
   obtain ⟨e, p2⟩ := q
   cases h
   have IA := I1.adv _ c7
   obtain ⟨x1, I3⟩ := S.expr 1 (d + 1) _ e p2 hq IA (by omega) (by omega) (by omega) (by omega)
   have m2 := zx I3 [93]
   refine ⟨?_, I3.must _⟩
   refine zc rfl rfl rfl (by simp) ?_
   clear hq o c1 c2 c3 c4 c6 c7
   rw [za] at x1
   rw [za]
   simp [pob, toks, adv, zd] at ho t1 t2 t3 t4 tx t6 t7 x1 m2
   simp [*, F162, zd, pob, toks, zq, za]
 rw [if_neg (by rw [c7]; decide)] at h
 rw [c7] at t7
 cases h
 refine ⟨?_, I1⟩
 refine zc rfl rfl rfl (by simp) ?_
 clear o c1 c2 c3 c4 c6 c7
 simp [pob, toks, adv] at ho t1 t2 t3 t4 tx t6 t7
 simp [*, F162, zw, encEs, pob, toks, zq]
end PE.U

namespace PE.U
open Go PE
structure LS where
 m : Nat
 a : Expr
 p : PS
theorem opF_pos {T : List Tok} {L : Int} {p : PS} (h : ¬ opF T L p = 0) : ∃ s, isF T s p = true := by
 unfold opF at h
 cases hf : (List.range 19).find? (opHere T L p) with
 | none => rw [hf] at h; exact absurd rfl h
 | some i =>
  have := List.find?_some hf
  simp only [opHere, Bool.and_eq_true] at this
  exact ⟨_, this.2⟩
set_option maxHeartbeats 2000000 in
theorem expr_of {T : List Tok} {n : Nat} (S : ∀ k, k <= n -> ESpec T k) : ∀ L d p v p', zwc T (n + 1) L d p = some (v, p') -> Inv1 T p -> 1 <= L -> L <= 11 -> 0 <= d -> d + (n + 1 : Nat) <= 1000000000 -> zi E 128 [.ptr 0 0 0, .int .i64 L, .int .i64 d] (pob T p) = some (.ret (zw v), pob T p') /\ Inv1 T p' := by
 intro L d p v p' h I h1 h11 hd hn
 have hw : zB .i64 (L + 1) = L + 1 := zj (by omega) (by omega)
 simp only [zwc] at h
 by_cases hL : 10 < L
 ·rw [if_pos hL] at h
  obtain ⟨e, I'⟩ := (S n (by omega)).unary d p v p' h I hd (by omega)
  refine ⟨?_, I'⟩
  refine zc rfl rfl rfl (by simp) ?_
  rw [za] at e ⊢
  (simp [*, F128]) <;> (repeat' (first | ((first | refine sP _ ?_ ?_ | refine gP _ ?_ ?_ | refine sN _ ?_ ?_ | refine gN _ ?_ ?_) <;> intro hc <;> (first | replace hc := eqn hc | replace hc := eqp hc) <;> simp [*, F128]) | ((first | refine sM _ ?_ ?_ | refine gM _ ?_ ?_ | refine sB _ ?_ ?_ | refine gB _ ?_ ?_) <;> intro hc <;> simp [*, F128])))
 rw [if_neg hL] at h
 cases hx : zwc T n (L + 1) d p with
 | none => rw [hx] at h; cases h
 | some q =>
  obtain ⟨a, p1⟩ := q
  rw [hx] at h
  simp only at h
  obtain ⟨e1, I1⟩ := (S n (by omega)).expr (L + 1) d p a p1 hx I (by omega) (by omega) hd (by omega)
  have hI : ∀ m a p v p', m <= n -> zab T m L d a p = some (v, p') -> Inv1 T p -> Inv1 T p' := by
   intro m
   induction m with
   | zero => intro a p v p' _ h; simp [zab] at h
   | succ m ih =>
    intro a p v p' hm h I
    simp only [zab] at h
    split at h
    ·cases h; exact I
    ·rename_i hne
     obtain ⟨s, hs⟩ := opF_pos hne
     split at h
     ·cases h
     ·rename_i q hq
      exact ih _ _ _ _ (by omega) h ((S m (by omega)).expr _ _ _ _ _ hq (I.adv s hs) (by omega) (by omega) hd (by omega)).2
  have I' := hI n a p1 v p' (by omega) h I1
  refine ⟨?_, I'⟩
  refine zc rfl rfl rfl (by simp) ?_
  rw [za] at e1 ⊢
  simp [F128, hL, hw, e1, zd]
  refine zvb K128_0 B128_0 (fun c : LS => c.m) (fun c => []) (fun c => [(6, .cells [.int .i64 0, .int .i64 0, .int .i64 0, .str [], .slice .fit 5 []]), (7, .cells [.int .i64 c.a.kind, .int .i64 c.a.op, .int .i64 c.a.n, .str c.a.name, zd c.a.args])]) (fun c => pob T c.p) (fun c => c.m <= n /\ zab T c.m L d c.a c.p = some (v, p') /\ Inv1 T c.p) ⟨n, a, p1⟩ ⟨by simp, by simp [zd], by simp, Nat.le_refl _, h, I1⟩ ?_
  rintro ⟨m, a, p⟩ s1 ⟨hm, hr, I⟩ g1 g2 g3 g4 g5
  simp at g1 g4 g5 hm hr I
  clear g2 g3 e1 hx h I1 I' hI
  cases m with
  | zero => simp [zab] at hr
  | succ m =>
   simp only [zab] at hr
   have ho := op_spec I L
   by_cases hne : opF T L p = 0
   ·rw [if_pos hne] at hr
    cases hr
    replace hne := eqp hne
    simp [pob, toks, zd] at ho g4 g5 ⊢
    (simp [*]) <;> (repeat' (first | ((first | refine sP _ ?_ ?_ | refine gP _ ?_ ?_ | refine sN _ ?_ ?_ | refine gN _ ?_ ?_) <;> intro hc <;> (first | replace hc := eqn hc | replace hc := eqp hc) <;> simp [*]) | ((first | refine sM _ ?_ ?_ | refine gM _ ?_ ?_ | refine sB _ ?_ ?_ | refine gB _ ?_ ?_) <;> intro hc <;> simp [*])))
   ·rw [if_neg hne] at hr
    obtain ⟨s, hs⟩ := opF_pos hne
    split at hr
    ·cases hr
    ·rename_i q hq
     obtain ⟨b, p2⟩ := q
     simp only at hr
     obtain ⟨e2, I2⟩ := (S m (by omega)).expr (L + 1) d _ b p2 hq (I.adv s hs) (by omega) (by omega) hd (by omega)
     have hwa : zB .i64 ((p.at' : Int) + 1) = (p.at' : Int) + 1 := zj (by omega) (by have := I.lt; have := I.sm; omega)
     replace hne := eqn hne
     rw [za] at e2
     simp [pob, toks, zd, adv] at ho g4 g5 e2 ⊢
     clear hq hs
     (simp [*]) <;> (repeat' (first | ((first | refine sP _ ?_ ?_ | refine gP _ ?_ ?_ | refine sN _ ?_ ?_ | refine gN _ ?_ ?_) <;> intro hc <;> (first | replace hc := eqn hc | replace hc := eqp hc) <;> simp [*]) | ((first | refine sM _ ?_ ?_ | refine gM _ ?_ ?_ | refine sB _ ?_ ?_ | refine gB _ ?_ ?_) <;> intro hc <;> simp [*])))
     refine ⟨⟨m, ⟨5, opF T L p, 0, [], [a, b]⟩, p2⟩, Nat.lt_succ_self m, ⟨rfl, rfl, rfl, rfl, ?_⟩, ⟨rfl, rfl, rfl⟩, by simp only; omega, hr, I2⟩
     simp [za, zd]
end PE.U

namespace PE.U
open Go PE
theorem unF_get {T : List Tok} {p : PS} {i : Nat} (h : unF T p = some i) : i < 9 /\ zQb T p i = true /\ ∀ j, j < i -> zQb T p j = false := by
 unfold unF at h
 refine ⟨List.mem_range.1 (List.mem_of_find?_eq_some h), List.find?_some h, ?_⟩
 intro j hj
 rw [List.find?_eq_some_iff_getElem] at h
 obtain ⟨_, k, hk, h1, h2⟩ := h
 simp at h1
 have := h2 j (by omega)
 simpa using this
set_option maxHeartbeats 2000000 in
theorem unary_of {T : List Tok} {n : Nat} (S : ESpec T n) : ∀ d p v p', unaryF T (n + 1) d p = some (v, p') -> Inv1 T p -> 0 <= d -> d + (n + 1 : Nat) <= 1000000000 -> zi E 148 [.ptr 0 0 0, .int .i64 d] (pob T p) = some (.ret (zw v), pob T p') /\ Inv1 T p' := by
 intro d p v p' h I hd hn
 have hw : zB .i64 (d + 1) = d + 1 := zj (by omega) (by omega)
 simp only [unaryF] at h
 -- what comes of it
 have key : ∀ q, Inv1 T q -> q = deepF d p -> ∃ Q : Prop, True := fun _ _ _ => ⟨True, trivial⟩
 clear key
 have I2 : Inv1 T (deepF d p) := I.deepF d
 have hI : Inv1 T p' := by
  cases hu : unF T (deepF d p) with
  | none => rw [hu] at h; exact (S.primary _ _ _ _ h I2 hd (by omega)).2
  | some i =>
   rw [hu] at h
   simp only at h
   have hi := (unF_get hu).2.1
   split at h
   ·split at h
    ·cases h
    ·rename_i q hq
     cases h
     exact (S.expr _ _ _ _ _ hq ((I2.adv _ hi).must _) (by omega) (by omega) (by omega) (by omega)).2.must _
   ·split at h
    ·cases h
    ·rename_i q hq
     cases h
     exact (S.unary _ _ _ _ hq (I2.adv _ hi) (by omega) (by omega)).2
 refine ⟨?_, hI⟩
 refine zc rfl rfl rfl (by simp) ?_
 rw [za]
 have hdp : deepF d p = if 100 < d then if p.bad then p else { p with deep := true } else p := rfl
 obtain ⟨pa, pb, pd⟩ := p
 by_cases h100 : 100 < d
 ·cases pb
  ·simp [h100] at hdp
   rw [hdp] at h I2
   clear hdp I
   replace h100 := eqp h100
   simp [F148, h100, hw, pob, toks]
   refine zbd (List.range 9) K148_0 B148_0 (fun c => [(5, .int .i64 ((c.length + 20 : Nat) : Int))]) (fun _ => [(4, .cells [.int .i64 0, .int .i64 0, .int .i64 0, .str [], .slice .fit 5 []])]) (fun _ => pob T ⟨pa, false, true⟩) (fun c => ∀ i ∈ c, zQb T ⟨pa, false, true⟩ i = false) (by simp) (by simp [pob, toks]) ?_ ?_
   ·intros c x r s1 hl' hlt hget hget' hw1 hp g1 g2 g3 g3' g4
    simp at g1 g3 g3' hlt
    have hx : x = c.length := by rw [<- hget', List.getElem_range]
    subst hx
    have e2 := rsign_spec ((c.length + 20 : Nat) : Int)
    have e3 := zz I2 (signR ((c.length + 20 : Nat) : Int))
    rw [zO] at e3
    have hle : (c.length : Int) + 20 <= 28 := by omega
    have hw2 : zB .i64 ((c.length : Int) + 20 + 1) = (c.length : Int) + 1 + 20 := by rw [zj (by omega) (by omega)]; omega
    have hf : zQb T ⟨pa, false, true⟩ c.length = true -> unF T ⟨pa, false, true⟩ = some c.length := by
     intro h
     unfold unF
     rw [hl'.eq, List.find?_append]
     have : c.find? (zQb T ⟨pa, false, true⟩) = none := by rw [List.find?_eq_none]; intro y hy; simp [hp y hy]
     rw [this]
     simp [List.find?_cons, h]
    have hu : zQb T ⟨pa, false, true⟩ c.length = isF T (signR ((c.length + 20 : Nat) : Int)) ⟨pa, false, true⟩ := rfl
    have hnx := fun (h : zQb T ⟨pa, false, true⟩ c.length = false) => (fun i (hi : i ∈ c ++ [c.length]) => by
     rcases List.mem_append.1 hi with h' | h'
     ·exact hp i h'
     ·rw [List.mem_singleton.1 h']; exact h : ∀ i ∈ c ++ [c.length], zQb T ⟨pa, false, true⟩ i = false)
    clear g2 hget hget' hl' hp
    cases hi : isF T (signR ((c.length + 20 : Nat) : Int)) ⟨pa, false, true⟩
    ·replace hnx := hnx (hu.trans hi)
     rw [hi] at e3
     clear hf hu h
     simp [pob, toks] at e2 e3 g4
     simp [*]
     exact ⟨rfl, fun i hi => hnx i (by simpa using hi)⟩
    ·replace hf := hf (hu.trans hi)
     have IA := I2.adv _ hi
     rw [hi] at e3
     rw [hf] at h
     simp only at h
     clear hnx hu hf
     by_cases h3 : 3 <= c.length
     ·rw [if_pos h3] at h
      have h23 : (23 : Int) <= (c.length : Int) + 20 := by omega
      have m1 := zx IA [40]
      split at h
      ·cases h
      ·rename_i x hq
       obtain ⟨e, p2⟩ := x
       cases h
       obtain ⟨x1, I3⟩ := S.expr 1 (d + 1) _ e p2 hq (IA.must _) (by omega) (by omega) (by omega) (by omega)
       have m2 := zx I3 [41]
       clear hi
       rw [za] at x1
       simp [pob, toks, zd, adv] at e2 e3 g4 m1 m2 x1
       clear hq
       simp [*, zd, pob, toks, za]
     ·rw [if_neg h3] at h
      have h23 : ¬ (23 : Int) <= (c.length : Int) + 20 := by omega
      split at h
      ·cases h
      ·rename_i x hq
       obtain ⟨e, p2⟩ := x
       cases h
       obtain ⟨x1, I3⟩ := S.unary (d + 1) _ e p2 hq IA (by omega) (by omega)
       clear hi
       rw [za] at x1
       simp [pob, toks, zd, adv] at e2 e3 g4 x1
       clear hq
       simp [*, zd, pob, toks, za]
   ·intros s1 hp g1 g2 g3 g3' g4
    simp at g1 g3 g3'
    have hf : unF T ⟨pa, false, true⟩ = none := by
     unfold unF
     rw [List.find?_eq_none]; intro y hy; simp [hp y hy]
    rw [hf] at h
    simp only at h
    obtain ⟨x1, I3⟩ := S.primary _ _ _ _ h I2 hd (by omega)
    rw [za] at x1
    clear g2 hp hf h
    simp [pob, toks, zd] at x1 g4
    simp [*, zd]
  ·simp [h100] at hdp
   rw [hdp] at h I2
   clear hdp I
   replace h100 := eqp h100
   simp [F148, h100, hw, pob, toks]
   refine zbd (List.range 9) K148_0 B148_0 (fun c => [(5, .int .i64 ((c.length + 20 : Nat) : Int))]) (fun _ => [(4, .cells [.int .i64 0, .int .i64 0, .int .i64 0, .str [], .slice .fit 5 []])]) (fun _ => pob T ⟨pa, true, pd⟩) (fun c => ∀ i ∈ c, zQb T ⟨pa, true, pd⟩ i = false) (by simp) (by simp [pob, toks]) ?_ ?_
   ·intros c x r s1 hl' hlt hget hget' hw1 hp g1 g2 g3 g3' g4
    simp at g1 g3 g3' hlt
    have hx : x = c.length := by rw [<- hget', List.getElem_range]
    subst hx
    have e2 := rsign_spec ((c.length + 20 : Nat) : Int)
    have e3 := zz I2 (signR ((c.length + 20 : Nat) : Int))
    rw [zO] at e3
    have hle : (c.length : Int) + 20 <= 28 := by omega
    have hw2 : zB .i64 ((c.length : Int) + 20 + 1) = (c.length : Int) + 1 + 20 := by rw [zj (by omega) (by omega)]; omega
    have hf : zQb T ⟨pa, true, pd⟩ c.length = true -> unF T ⟨pa, true, pd⟩ = some c.length := by
     intro h
     unfold unF
     rw [hl'.eq, List.find?_append]
     have : c.find? (zQb T ⟨pa, true, pd⟩) = none := by rw [List.find?_eq_none]; intro y hy; simp [hp y hy]
     rw [this]
     simp [List.find?_cons, h]
    have hu : zQb T ⟨pa, true, pd⟩ c.length = isF T (signR ((c.length + 20 : Nat) : Int)) ⟨pa, true, pd⟩ := rfl
    have hnx := fun (h : zQb T ⟨pa, true, pd⟩ c.length = false) => (fun i (hi : i ∈ c ++ [c.length]) => by
     rcases List.mem_append.1 hi with h' | h'
     ·exact hp i h'
     ·rw [List.mem_singleton.1 h']; exact h : ∀ i ∈ c ++ [c.length], zQb T ⟨pa, true, pd⟩ i = false)
    clear g2 hget hget' hl' hp
    cases hi : isF T (signR ((c.length + 20 : Nat) : Int)) ⟨pa, true, pd⟩
    ·replace hnx := hnx (hu.trans hi)
     rw [hi] at e3
     clear hf hu h
     simp [pob, toks] at e2 e3 g4
     simp [*]
     exact ⟨rfl, fun i hi => hnx i (by simpa using hi)⟩
    ·replace hf := hf (hu.trans hi)
     have IA := I2.adv _ hi
     rw [hi] at e3
     rw [hf] at h
     simp only at h
     clear hnx hu hf
     by_cases h3 : 3 <= c.length
     ·rw [if_pos h3] at h
      have h23 : (23 : Int) <= (c.length : Int) + 20 := by omega
      have m1 := zx IA [40]
      split at h
      ·cases h
      ·rename_i x hq
       obtain ⟨e, p2⟩ := x
       cases h
       obtain ⟨x1, I3⟩ := S.expr 1 (d + 1) _ e p2 hq (IA.must _) (by omega) (by omega) (by omega) (by omega)
       have m2 := zx I3 [41]
       clear hi
       rw [za] at x1
       simp [pob, toks, zd, adv] at e2 e3 g4 m1 m2 x1
       clear hq
       simp [*, zd, pob, toks, za]
     ·rw [if_neg h3] at h
      have h23 : ¬ (23 : Int) <= (c.length : Int) + 20 := by omega
      split at h
      ·cases h
      ·rename_i x hq
       obtain ⟨e, p2⟩ := x
       cases h
       obtain ⟨x1, I3⟩ := S.unary (d + 1) _ e p2 hq IA (by omega) (by omega)
       clear hi
       rw [za] at x1
       simp [pob, toks, zd, adv] at e2 e3 g4 x1
       clear hq
       simp [*, zd, pob, toks, za]
   ·intros s1 hp g1 g2 g3 g3' g4
    simp at g1 g3 g3'
    have hf : unF T ⟨pa, true, pd⟩ = none := by
     unfold unF
     rw [List.find?_eq_none]; intro y hy; simp [hp y hy]
    rw [hf] at h
    simp only at h
    obtain ⟨x1, I3⟩ := S.primary _ _ _ _ h I2 hd (by omega)
    rw [za] at x1
    clear g2 hp hf h
    simp [pob, toks, zd] at x1 g4
    simp [*, zd]
 ·simp [h100] at hdp
  rw [hdp] at h I2
  clear hdp I
  replace h100 := eqn h100
  simp [F148, h100, hw, pob, toks]
  refine zbd (List.range 9) K148_0 B148_0 (fun c => [(5, .int .i64 ((c.length + 20 : Nat) : Int))]) (fun _ => [(4, .cells [.int .i64 0, .int .i64 0, .int .i64 0, .str [], .slice .fit 5 []])]) (fun _ => pob T ⟨pa, pb, pd⟩) (fun c => ∀ i ∈ c, zQb T ⟨pa, pb, pd⟩ i = false) (by simp) (by simp [pob, toks]) ?_ ?_
  ·intros c x r s1 hl' hlt hget hget' hw1 hp g1 g2 g3 g3' g4
   simp at g1 g3 g3' hlt
   have hx : x = c.length := by rw [<- hget', List.getElem_range]
   subst hx
   have e2 := rsign_spec ((c.length + 20 : Nat) : Int)
   have e3 := zz I2 (signR ((c.length + 20 : Nat) : Int))
   rw [zO] at e3
   have hle : (c.length : Int) + 20 <= 28 := by omega
   have hw2 : zB .i64 ((c.length : Int) + 20 + 1) = (c.length : Int) + 1 + 20 := by rw [zj (by omega) (by omega)]; omega
   have hf : zQb T ⟨pa, pb, pd⟩ c.length = true -> unF T ⟨pa, pb, pd⟩ = some c.length := by
    intro h
    unfold unF
    rw [hl'.eq, List.find?_append]
    have : c.find? (zQb T ⟨pa, pb, pd⟩) = none := by rw [List.find?_eq_none]; intro y hy; simp [hp y hy]
    rw [this]
    simp [List.find?_cons, h]
   have hu : zQb T ⟨pa, pb, pd⟩ c.length = isF T (signR ((c.length + 20 : Nat) : Int)) ⟨pa, pb, pd⟩ := rfl
   have hnx := fun (h : zQb T ⟨pa, pb, pd⟩ c.length = false) => (fun i (hi : i ∈ c ++ [c.length]) => by
    rcases List.mem_append.1 hi with h' | h'
    ·exact hp i h'
    ·rw [List.mem_singleton.1 h']; exact h : ∀ i ∈ c ++ [c.length], zQb T ⟨pa, pb, pd⟩ i = false)
   clear g2 hget hget' hl' hp
   cases hi : isF T (signR ((c.length + 20 : Nat) : Int)) ⟨pa, pb, pd⟩
   ·replace hnx := hnx (hu.trans hi)
    rw [hi] at e3
    clear hf hu h
    simp [pob, toks] at e2 e3 g4
    simp [*]
    exact ⟨rfl, fun i hi => hnx i (by simpa using hi)⟩
   ·replace hf := hf (hu.trans hi)
    have IA := I2.adv _ hi
    rw [hi] at e3
    rw [hf] at h
    simp only at h
    clear hnx hu hf
    by_cases h3 : 3 <= c.length
    ·rw [if_pos h3] at h
     have h23 : (23 : Int) <= (c.length : Int) + 20 := by omega
     have m1 := zx IA [40]
     split at h
     ·cases h
     ·rename_i x hq
      obtain ⟨e, p2⟩ := x
      cases h
      obtain ⟨x1, I3⟩ := S.expr 1 (d + 1) _ e p2 hq (IA.must _) (by omega) (by omega) (by omega) (by omega)
      have m2 := zx I3 [41]
      clear hi
      rw [za] at x1
      simp [pob, toks, zd, adv] at e2 e3 g4 m1 m2 x1
      clear hq
      simp [*, zd, pob, toks, za]
    ·rw [if_neg h3] at h
     have h23 : ¬ (23 : Int) <= (c.length : Int) + 20 := by omega
     split at h
     ·cases h
     ·rename_i x hq
      obtain ⟨e, p2⟩ := x
      cases h
      obtain ⟨x1, I3⟩ := S.unary (d + 1) _ e p2 hq IA (by omega) (by omega)
      clear hi
      rw [za] at x1
      simp [pob, toks, zd, adv] at e2 e3 g4 x1
      clear hq
      simp [*, zd, pob, toks, za]
  ·intros s1 hp g1 g2 g3 g3' g4
   simp at g1 g3 g3'
   have hf : unF T ⟨pa, pb, pd⟩ = none := by
    unfold unF
    rw [List.find?_eq_none]; intro y hy; simp [hp y hy]
   rw [hf] at h
   simp only at h
   obtain ⟨x1, I3⟩ := S.primary _ _ _ _ h I2 hd (by omega)
   rw [za] at x1
   clear g2 hp hf h
   simp [pob, toks, zd] at x1 g4
   simp [*, zd]
end PE.U

namespace PE.U
open Go PE
structure AS where
 m : Nat
 l : List Expr
 f : Bool
 p : PS
set_option maxHeartbeats 2000000 in
theorem args_of {T : List Tok} {n : Nat} (S : ∀ k, k <= n -> ESpec T k) : ∀ d p v p', argsF T (n + 1) d p = some (v, p') -> Inv1 T p -> 0 <= d -> d + (n + 1 : Nat) <= 1000000000 -> zi E 150 [.ptr 0 0 0, .int .i64 d] (pob T p) = some (.ret (zd v), pob T p') /\ Inv1 T p' := by
 intro d p v p' h I hd hn
 simp only [argsF] at h
 have t1 := zz I [41]
 rw [zO] at t1
 cases c1 : isF T [41] p
 case true =>
  rw [if_pos c1] at h
  rw [c1] at t1
  cases h
  refine ⟨?_, I.adv _ c1⟩
  refine zc rfl rfl rfl (by simp) ?_
  clear c1
  simp [*, F150, zd]
 rw [if_neg (by rw [c1]; decide)] at h
 rw [c1] at t1
 split at h
 ·cases h
 rename_i q hq
 obtain ⟨l', p1⟩ := q
 cases h
 have hI : ∀ m l f p v p', m <= n -> zqa T m d l f p = some (v, p') -> Inv1 T p -> Inv1 T p' := by
  intro m
  induction m with
  | zero => intro l f p v p' _ h; simp [zqa] at h
  | succ m ih =>
   intro l f p v p' hm h I
   simp only [zqa] at h
   have fin : ∀ q : PS, Inv1 T q -> (if zQa q then some (l, q) else match zwc T m 1 d q with | none => none | some x => zqa T m d (l ++ [x.1]) false x.2) = some (v, p') -> Inv1 T p' := by
    intro q Iq h
    cases ho : zQa q
    ·rw [if_neg (by rw [ho]; decide)] at h
     split at h
     ·cases h
     ·rename_i x hx
      exact ih _ _ _ _ _ (by omega) h ((S m (by omega)).expr _ _ _ _ _ hx Iq (by omega) (by omega) hd (by omega)).2
    ·rw [if_pos ho] at h
     cases h
     exact Iq
   cases f
   ·cases c2 : isF T [44] p
    ·rw [c2] at h
     simp at h
     exact h.2 ▸ I
    ·rw [c2] at h
     simp at h
     exact fin _ (I.adv _ c2) h
   ·simp at h
    exact fin _ I h
 have I' := hI n _ _ _ _ _ (Nat.le_refl _) hq I
 refine ⟨?_, I'.must _⟩
 refine zc rfl rfl rfl (by simp) ?_
 have m1 := zx I' [41]
 simp [*, F150, zd]
 refine zvb K150_0 B150_0 (fun c : AS => c.m) (fun c => [(5, acc 5 (c.l.map zw)), (6, .bool c.f)]) (fun c => []) (fun c => pob T c.p) (fun c => c.m <= n /\ c.l.length + c.m <= n /\ zqa T c.m d c.l c.f c.p = some (l', p1) /\ Inv1 T c.p) ⟨n, [], true, p⟩ ⟨by simp, by simp, by simp, Nat.le_refl _, by simp, hq, I⟩ ?_
 rintro ⟨m, l, f, p⟩ s1 ⟨hm, hlm, hr, I⟩ g1 g2 g3 g4 g5
 simp at g1 g3 g5 hm hlm hr I
 clear g2 g4 t1 hq I' hI
 cases m with
 | zero => simp [zqa] at hr
 | succ m =>
  simp only [zqa] at hr
  have hroom : (l.length + 1) * 64 <= zu := by simp only [zu]; omega
  have t2 := zz I [44]
  rw [zO] at t2
  have key : ∀ q : PS, Inv1 T q -> (if zQa q then some (l, q) else match zwc T m 1 d q with | none => none | some x => zqa T m d (l ++ [x.1]) false x.2) = some (l', p1) →
    (zQa q = true /\ l = l' /\ q = p1) \/ (zQa q = false /\ ∃ e p2, zi E 128 [.ptr 0 0 0, .int .i64 1, .int .i64 d] (pob T q) = some (.ret (zw e), pob T p2) /\ Inv1 T p2 /\ zqa T m d (l ++ [e]) false p2 = some (l', p1)) := by
   intro q Iq h
   cases ho : zQa q
   ·right
    rw [if_neg (by rw [ho]; decide)] at h
    split at h
    ·cases h
    ·rename_i x hx
     obtain ⟨e, p2⟩ := x
     obtain ⟨x1, I3⟩ := (S m (by omega)).expr 1 d _ e p2 hx Iq (by omega) (by omega) hd (by omega)
     exact ⟨rfl, e, p2, x1, I3, h⟩
   ·left
    rw [if_pos ho] at h
    cases h
    exact ⟨rfl, rfl, rfl⟩
  cases f
  ·cases c2 : isF T [44] p
   ·rw [c2] at hr t2
    simp at hr
    obtain ⟨rfl, rfl⟩ := hr
    clear key c2
    simp [*]
   ·have IA := I.adv _ c2
    rw [c2] at hr t2
    simp at hr
    have ho := zsc IA
    rcases key _ IA hr with ⟨k1, rfl, rfl⟩ | ⟨k1, e, p2, x1, I3, hr2⟩
    ·rw [k1] at ho
     clear key c2 hr
     simp [*]
    ·rw [k1] at ho
     rw [za] at x1
     clear key c2 hr k1
     simp [*]
     exact ⟨⟨m, l ++ [e], false, p2⟩, Nat.lt_succ_self m, ⟨by simp [za], rfl⟩, rfl, by simp only; omega, by simp only [List.length_append, List.length_cons, List.length_nil]; omega, hr2, I3⟩
  ·simp at hr
   have ho := zsc I
   rcases key _ I hr with ⟨k1, rfl, rfl⟩ | ⟨k1, e, p2, x1, I3, hr2⟩
   ·rw [k1] at ho
    clear key hr t2
    simp [*]
   ·rw [k1] at ho
    rw [za] at x1
    clear key hr k1 t2
    simp [*]
    exact ⟨⟨m, l ++ [e], false, p2⟩, Nat.lt_succ_self m, ⟨by simp [za], rfl⟩, rfl, by simp only; omega, by simp only [List.length_append, List.length_cons, List.length_nil]; omega, hr2, I3⟩
end PE.U

namespace PE.U
open Go PE
theorem espec_all (T : List Tok) : ∀ n k, k <= n -> ESpec T k
 | 0, k, h => by
  have : k = 0 := by omega
  subst this
  exact ⟨fun _ _ _ _ h => by simp [zNc] at h, fun _ _ _ _ h => by simp [unaryF] at h, fun _ _ _ _ _ h => by simp [zwc] at h, fun _ _ _ _ h => by simp [argsF] at h⟩
 | n + 1, k, h => by
  have ih := espec_all T n
  rcases Nat.lt_or_ge k (n + 1) with h1 | h1
  ·exact ih k (by omega)
  ·have : k = n + 1 := by omega
   subst this
   exact ⟨primary_of (ih n (Nat.le_refl n)), unary_of (ih n (Nat.le_refl n)), expr_of ih, args_of ih⟩
theorem espec (T : List Tok) (n : Nat) : ESpec T n := espec_all T n n (Nat.le_refl n)
theorem zfc {T : List Tok} {n : Nat} {p p' : PS} {v : Expr} (h : zwc T n 1 1 p = some (v, p')) (I : Inv1 T p) (hn : n <= 999999990) : zi E 128 [.ptr 0 0 0, .int .i64 1, .int .i64 1] (pob T p) = some (.ret (zw v), pob T p') /\ Inv1 T p' :=
 (espec T n).expr 1 1 p v p' h I (by omega) (by omega) (by omega) (by omega)
def zAe (T : List Tok) (n : Nat) (p : PS) : Option (Expr × PS) :=
 match zwc T n 1 1 (zxa T [40] p) with
 | none => none
 | some q => some (q.1, zxa T [41] q.2)
theorem zFc {T : List Tok} {n : Nat} {p p' : PS} {v : Expr} (h : zAe T n p = some (v, p')) (I : Inv1 T p) (hn : n <= 999999990) : zi E 129 [.ptr 0 0 0] (pob T p) = some (.ret (zd [v]), pob T p') /\ Inv1 T p' := by
 unfold zAe at h
 split at h
 ·cases h
 ·rename_i q hq
  obtain ⟨e, p1⟩ := q
  cases h
  have m1 := zx I [40]
  obtain ⟨x1, I1⟩ := zfc hq (I.must _) hn
  have m2 := zx I1 [41]
  refine ⟨?_, I1.must _⟩
  refine zc rfl rfl rfl (by simp) ?_
  clear hq
  rw [za] at x1
  simp [*, F129, zd, za]
def namedF (T : List Tok) (n : Nat) (p : PS) : Option (Stmt × PS) :=
 if isF T [40] (zfa T 1 p).2 then
  match argsF T n 2 (adv (zfa T 1 p).2) with
  | none => none
  | some q => some (⟨10, 0, [], [⟨7, 0, 0, (zfa T 1 p).1, q.1⟩], [], []⟩, q.2)
 else if isF T [91] (zfa T 1 p).2 then
  match zwc T n 1 1 (adv (zfa T 1 p).2) with
  | none => none
  | some q => match zwc T n 1 1 (zxa T [61] (zxa T [93] q.2)) with
   | none => none
   | some r => some (⟨3, 0, (zfa T 1 p).1, [q.1, r.1], [], []⟩, r.2)
 else match zwc T n 1 1 (zxa T [61] (zfa T 1 p).2) with
  | none => none
  | some q => some (⟨2, 0, (zfa T 1 p).1, [q.1], [], []⟩, q.2)
theorem named_spec {T : List Tok} {n : Nat} {p p' : PS} {v : Stmt} (h : namedF T n p = some (v, p')) (I : Inv1 T p) (hn : n <= 999999990) : zi E 130 [.ptr 0 0 0] (pob T p) = some (.ret (zda v), pob T p') /\ Inv1 T p' := by
 unfold namedF at h
 have tx := zOc I 1
 have I1 := I.text 1 (by decide)
 have t6 := zz I1 [40]
 rw [zO] at t6
 generalize htt : zfa T 1 p = tt at *
 obtain ⟨s, p1⟩ := tt
 simp only at h tx I1 t6
 clear htt
 cases c6 : isF T [40] p1
 case true =>
  rw [if_pos c6] at h
  rw [c6] at t6
  split at h
  ·cases h
  ·rename_i q hq
   obtain ⟨l, p2⟩ := q
   cases h
   have IA := I1.adv _ c6
   obtain ⟨x1, I3⟩ := (espec T n).args 2 _ l p2 hq IA (by omega) (by omega)
   refine ⟨?_, I3⟩
   refine zc rfl rfl rfl (by simp) ?_
   clear hq c6
   rw [zb]
   simp [zd] at x1
   simp [*, F130, zd, zh, za]
 rw [if_neg (by rw [c6]; decide)] at h
 rw [c6] at t6
 have t7 := zz I1 [91]
 rw [zO] at t7
 cases c7 : isF T [91] p1
 case true =>
  rw [if_pos c7] at h
  rw [c7] at t7
  split at h
  ·cases h
  ·rename_i q hq
   obtain ⟨e, p2⟩ := q
   simp only at h
   have IA := I1.adv _ c7
   obtain ⟨x1, I3⟩ := zfc hq IA hn
   have m2 := zx I3 [93]
   have I4 := I3.must [93]
   have m3 := zx I4 [61]
   have I5 := I4.must [61]
   split at h
   ·cases h
   ·rename_i r hr
    obtain ⟨e2, p3⟩ := r
    cases h
    obtain ⟨x2, I6⟩ := zfc hr I5 hn
    refine ⟨?_, I6⟩
    refine zc rfl rfl rfl (by simp) ?_
    clear hq hr c6 c7
    rw [za] at x1 x2
    rw [zb]
    simp [*, F130, zd, zh, za]
 rw [if_neg (by rw [c7]; decide)] at h
 rw [c7] at t7
 split at h
 ·cases h
 ·rename_i q hq
  obtain ⟨e, p2⟩ := q
  cases h
  have m1 := zx I1 [61]
  obtain ⟨x1, I3⟩ := zfc hq (I1.must _) hn
  refine ⟨?_, I3⟩
  refine zc rfl rfl rfl (by simp) ?_
  clear hq c6 c7
  rw [za] at x1
  rw [zb]
  simp [*, F130, zd, zh, za]
end PE.U

namespace PE.U
open Go PE
def deepS (d : Int) (p : PS) : PS := if 100 < d then { p with deep := true } else p
theorem Inv1.deepS {T : List Tok} {p : PS} (I : Inv1 T p) (d : Int) : Inv1 T (deepS d p) := by
 unfold PE.U.deepS
 split
 ·exact I.deep'
 ·exact I
mutual
def stmtF (T : List Tok) : Nat -> Int -> PS -> Option (Stmt × PS)
 | 0, _, _ => none
 | n + 1, d, p =>
  if isF T [105, 110, 116] (deepS d p) || isF T [98, 111, 111, 108] (deepS d p) then
   match zwc T n 1 1 (zxa T [61] (zfa T 1 (zha T (deepS d p)).2).2) with
   | none => none
   | some q => some (⟨1, (zha T (deepS d p)).1, (zfa T 1 (zha T (deepS d p)).2).1, [q.1], [], []⟩, zxa T [59] q.2)
  else if isF T [105, 102] (deepS d p) then
   match zAe T n (adv (deepS d p)) with
   | none => none
   | some q => match zNb T n (d + 1) [] (zxa T [123] q.2) with
    | none => none
    | some r =>
     if isF T [101, 108, 115, 101] r.2 then
      match zNb T n (d + 1) [] (zxa T [123] (adv r.2)) with
      | none => none
      | some t => some (⟨4, 0, [], [q.1], r.1, t.1⟩, t.2)
     else some (⟨4, 0, [], [q.1], r.1, []⟩, r.2)
  else if isF T [119, 104, 105, 108, 101] (deepS d p) then
   match zAe T n (adv (deepS d p)) with
   | none => none
   | some q => match zNb T n (d + 1) [] (zxa T [123] q.2) with
    | none => none
    | some r => some (⟨5, 0, [], [q.1], r.1, []⟩, r.2)
  else if isF T [98, 114, 101, 97, 107] (deepS d p) then some (⟨6, 0, [], [], [], []⟩, zxa T [59] (adv (deepS d p)))
  else if isF T [99, 111, 110, 116, 105, 110, 117, 101] (deepS d p) then some (⟨7, 0, [], [], [], []⟩, zxa T [59] (adv (deepS d p)))
  else if isF T [114, 101, 116, 117, 114, 110] (deepS d p) then
   match zwc T n 1 1 (adv (deepS d p)) with
   | none => none
   | some q => some (⟨8, 0, [], [q.1], [], []⟩, zxa T [59] q.2)
  else if isF T [112, 114, 105, 110, 116] (deepS d p) then
   match zAe T n (adv (deepS d p)) with
   | none => none
   | some q => some (⟨9, 0, [], [q.1], [], []⟩, zxa T [59] q.2)
  else match namedF T n (deepS d p) with
   | none => none
   | some q => some (q.1, zxa T [59] q.2)
/-- Behind the brace. -/
def zNb (T : List Tok) : Nat -> Int -> List Stmt -> PS -> Option (List Stmt × PS)
 | 0, _, _, _ => none
 | n + 1, d, l, p =>
  if zQa p then some (l, p)
  else if isF T [125] p then some (l, adv p)
  else match stmtF T n d p with
   | none => none
   | some q => zNb T n d (l ++ [q.1]) q.2
end
structure SSpec (T : List Tok) (n : Nat) : Prop where
 stmt : ∀ d p v p', stmtF T n d p = some (v, p') -> Inv1 T p -> 0 <= d -> d + n <= 999999990 -> zi E 102 [.ptr 0 0 0, .int .i64 d] (pob T p) = some (.ret (zda v), pob T p') /\ Inv1 T p'
 block : ∀ d p v p', zNb T n d [] (zxa T [123] p) = some (v, p') -> Inv1 T p -> 0 <= d -> d + n <= 999999990 -> zi E 81 [.ptr 0 0 0, .int .i64 d] (pob T p) = some (.ret (zh v), pob T p') /\ Inv1 T p'
structure BS where
 m : Nat
 l : List Stmt
 p : PS
set_option maxHeartbeats 2000000 in
theorem block_of {T : List Tok} {n : Nat} (S : ∀ k, k < n -> SSpec T k) : ∀ d p v p', zNb T n d [] (zxa T [123] p) = some (v, p') -> Inv1 T p -> 0 <= d -> d + n <= 999999990 -> zi E 81 [.ptr 0 0 0, .int .i64 d] (pob T p) = some (.ret (zh v), pob T p') /\ Inv1 T p' := by
 intro d p v p' h I hd hn
 have hI : ∀ m l p v p', m <= n -> zNb T m d l p = some (v, p') -> Inv1 T p -> Inv1 T p' := by
  intro m
  induction m with
  | zero => intro l p v p' _ h; simp [zNb] at h
  | succ m ih =>
   intro l p v p' hm h I
   simp only [zNb] at h
   split at h
   ·cases h; exact I
   ·split at h
    ·rename_i hc
     cases h; exact I.adv _ hc
    ·split at h
     ·cases h
     ·rename_i x hx
      exact ih _ _ _ _ (by omega) h ((S m (by omega)).stmt _ _ _ _ hx I hd (by omega)).2
 have m1 := zx I [123]
 have I1 := I.must [123]
 have I' := hI n _ _ _ _ (Nat.le_refl _) h I1
 refine ⟨?_, I'⟩
 refine zc rfl rfl rfl (by simp) ?_
 simp [*, F81, zh]
 refine zvb K81_0 B81_0 (fun c : BS => c.m) (fun c => [(5, acc 6 (c.l.map zda))]) (fun c => []) (fun c => pob T c.p) (fun c => c.m <= n /\ c.l.length + c.m <= n /\ zNb T c.m d c.l c.p = some (v, p') /\ Inv1 T c.p) ⟨n, [], zxa T [123] p⟩ ⟨by simp, by simp, by simp, Nat.le_refl _, by simp, h, I1⟩ ?_
 rintro ⟨m, l, p⟩ s1 ⟨hm, hlm, hr, I⟩ g1 g2 g3 g4 g5
 simp at g1 g3 g5 hm hlm hr I
 clear g2 g4 m1 h I' hI I1
 cases m with
 | zero => simp [zNb] at hr
 | succ m =>
  simp only [zNb] at hr
  have hroom : (l.length + 1) * 104 <= zu := by simp only [zu]; omega
  have ho := zsc I
  have t2 := zz I [125]
  rw [zO] at t2
  cases o : zQa p
  ·rw [if_neg (by rw [o]; decide)] at hr
   rw [o] at ho
   cases c2 : isF T [125] p
   ·rw [if_neg (by rw [c2]; decide)] at hr
    rw [c2] at t2
    split at hr
    ·cases hr
    ·rename_i x hx
     obtain ⟨e, p2⟩ := x
     simp only at hr
     obtain ⟨x1, I3⟩ := (S m (by omega)).stmt _ _ _ _ hx I hd (by omega)
     rw [zb] at x1
     clear hx o c2
     simp [*]
     exact ⟨⟨m, l ++ [e], p2⟩, Nat.lt_succ_self m, by simp [zb], rfl, by simp only; omega, by simp only [List.length_append, List.length_cons, List.length_nil]; omega, hr, I3⟩
   ·rw [if_pos c2] at hr
    rw [c2] at t2
    cases hr
    clear o c2
    simp [*]
  ·rw [if_pos o] at hr
   rw [o] at ho
   cases hr
   clear o t2
   simp [*]
end PE.U

namespace PE.U
open Go PE
set_option maxHeartbeats 8000000 in
theorem stmt_of {T : List Tok} {n : Nat} (S : SSpec T n) : ∀ d p v p', stmtF T (n + 1) d p = some (v, p') -> Inv1 T p -> 0 <= d -> d + (n + 1 : Nat) <= 999999990 -> zi E 102 [.ptr 0 0 0, .int .i64 d] (pob T p) = some (.ret (zda v), pob T p') /\ Inv1 T p' := by
 intro d p v p' h I0 hd hn
 have hw : zB .i64 (d + 1) = d + 1 := zj (by omega) (by omega)
 simp only [stmtF] at h
 have I := I0.deepS d
 have hn' : n <= 999999990 := by omega
 obtain ⟨pa, pb, pd⟩ := p
 by_cases h100 : 100 < d
 ·have hdp : deepS d ⟨pa, pb, pd⟩ = ⟨pa, pb, true⟩ := by unfold deepS; rw [if_pos h100]
  rw [hdp] at h I
  clear hdp I0
  replace h100 := eqp h100
  have i1 := is_spec I [105, 110, 116]
  have i2 := is_spec I [98, 111, 111, 108]
  cases c0 : (isF T [105, 110, 116] ⟨pa, pb, true⟩ || isF T [98, 111, 111, 108] ⟨pa, pb, true⟩)
  case true =>
   rw [if_pos c0] at h
   have ty := typed_spec I
   have I1 := I.typed
   generalize hty : zha T ⟨pa, pb, true⟩ = tt at *
   obtain ⟨t, p1⟩ := tt
   simp only at h ty I1
   have tx := zOc I1 1
   have I2 := I1.text 1 (by decide)
   generalize htx : zfa T 1 p1 = tt at *
   obtain ⟨s, p2⟩ := tt
   simp only at h tx I2
   have m1 := zx I2 [61]
   split at h
   ·cases h
   rename_i x hq
   obtain ⟨e, p3⟩ := x
   cases h
   obtain ⟨x1, I3⟩ := zfc hq (I2.must _) hn'
   have m2 := zx I3 [59]
   refine ⟨?_, I3.must _⟩
   clear htx hty hq
   rw [za] at x1
   simp [pob, toks, adv, zd] at i1 i2 ty tx m1 m2 x1
   refine zc rfl rfl rfl (by simp) ?_
   rw [zb]
   cases c1 : isF T [105, 110, 116] ⟨pa, pb, true⟩
   ·rw [c1] at c0 i1
    have c0 : isF T [98, 111, 111, 108] ⟨pa, pb, true⟩ = true := c0
    rw [c0] at i2
    clear c0 c1
    simp [*, F102, zd, zh, pob, toks, zb, za]
   ·rw [c1] at i1
    clear c0 c1
    simp [*, F102, zd, zh, pob, toks, zb, za]
  rw [if_neg (by rw [c0]; decide)] at h
  simp only [Bool.or_eq_false_iff] at c0
  rw [c0.1] at i1
  rw [c0.2] at i2
  clear c0
  have t1 := zz I [105, 102]
  rw [zO] at t1
  cases c_t1 : isF T [105, 102] ⟨pa, pb, true⟩
  case true =>
   rw [if_pos c_t1] at h
   rw [c_t1] at t1
   have IA := I.adv _ c_t1
   clear c_t1
   split at h
   ·cases h
   rename_i x hq
   obtain ⟨e, p1⟩ := x
   simp only at h
   obtain ⟨x1, I1⟩ := zFc hq IA hn'
   split at h
   ·cases h
   rename_i x hr
   obtain ⟨l1, p2⟩ := x
   simp only at h
   obtain ⟨x2, I2⟩ := S.block (d + 1) _ l1 p2 hr I1 (by omega) (by omega)
   have te := zz I2 [101, 108, 115, 101]
   rw [zO] at te
   cases ce : isF T [101, 108, 115, 101] p2
   case true =>
    rw [if_pos ce] at h
    rw [ce] at te
    split at h
    ·cases h
    rename_i x hs
    obtain ⟨l2, p3⟩ := x
    cases h
    obtain ⟨x3, I3⟩ := S.block (d + 1) _ l2 p3 hs (I2.adv _ ce) (by omega) (by omega)
    refine ⟨?_, I3⟩
    clear hq hr hs ce
    simp [pob, toks, adv, zd, zh] at i1 i2 t1 x1 x2 x3 te
    refine zc rfl rfl rfl (by simp) ?_
    rw [zb]
    simp [*, F102, zd, zh, pob, toks, zb, za]
   rw [if_neg (by rw [ce]; decide)] at h
   rw [ce] at te
   cases h
   refine ⟨?_, I2⟩
   clear hq hr ce
   simp [pob, toks, adv, zd, zh] at i1 i2 t1 x1 x2 te
   refine zc rfl rfl rfl (by simp) ?_
   rw [zb]
   simp [*, F102, zd, zh, pob, toks, zb, za]
  rw [if_neg (by rw [c_t1]; decide)] at h
  rw [c_t1] at t1
  clear c_t1
  have t2 := zz I [119, 104, 105, 108, 101]
  rw [zO] at t2
  cases c_t2 : isF T [119, 104, 105, 108, 101] ⟨pa, pb, true⟩
  case true =>
   rw [if_pos c_t2] at h
   rw [c_t2] at t2
   have IA := I.adv _ c_t2
   clear c_t2
   split at h
   ·cases h
   rename_i x hq
   obtain ⟨e, p1⟩ := x
   simp only at h
   obtain ⟨x1, I1⟩ := zFc hq IA hn'
   split at h
   ·cases h
   rename_i x hr
   obtain ⟨l1, p2⟩ := x
   cases h
   obtain ⟨x2, I2⟩ := S.block (d + 1) _ l1 p2 hr I1 (by omega) (by omega)
   refine ⟨?_, I2⟩
   clear hq hr
   simp [pob, toks, adv, zd, zh] at i1 i2 t1 t2 x1 x2
   refine zc rfl rfl rfl (by simp) ?_
   rw [zb]
   simp [*, F102, zd, zh, pob, toks, zb, za]
  rw [if_neg (by rw [c_t2]; decide)] at h
  rw [c_t2] at t2
  clear c_t2
  have t3 := zz I [98, 114, 101, 97, 107]
  rw [zO] at t3
  cases c_t3 : isF T [98, 114, 101, 97, 107] ⟨pa, pb, true⟩
  case true =>
   rw [if_pos c_t3] at h
   rw [c_t3] at t3
   have IA := I.adv _ c_t3
   clear c_t3
   cases h
   have m1 := zx IA [59]
   refine ⟨?_, IA.must _⟩
   simp [pob, toks, adv, zd, zh] at i1 i2 t1 t2 t3 m1
   refine zc rfl rfl rfl (by simp) ?_
   rw [zb]
   simp [*, F102, zd, zh, pob, toks, zb, za]
   exact ⟨rfl, rfl, rfl⟩
  rw [if_neg (by rw [c_t3]; decide)] at h
  rw [c_t3] at t3
  clear c_t3
  have t4 := zz I [99, 111, 110, 116, 105, 110, 117, 101]
  rw [zO] at t4
  cases c_t4 : isF T [99, 111, 110, 116, 105, 110, 117, 101] ⟨pa, pb, true⟩
  case true =>
   rw [if_pos c_t4] at h
   rw [c_t4] at t4
   have IA := I.adv _ c_t4
   clear c_t4
   cases h
   have m1 := zx IA [59]
   refine ⟨?_, IA.must _⟩
   simp [pob, toks, adv, zd, zh] at i1 i2 t1 t2 t3 t4 m1
   refine zc rfl rfl rfl (by simp) ?_
   rw [zb]
   simp [*, F102, zd, zh, pob, toks, zb, za]
   exact ⟨rfl, rfl, rfl⟩
  rw [if_neg (by rw [c_t4]; decide)] at h
  rw [c_t4] at t4
  clear c_t4
  have t5 := zz I [114, 101, 116, 117, 114, 110]
  rw [zO] at t5
  cases c_t5 : isF T [114, 101, 116, 117, 114, 110] ⟨pa, pb, true⟩
  case true =>
   rw [if_pos c_t5] at h
   rw [c_t5] at t5
   have IA := I.adv _ c_t5
   clear c_t5
   split at h
   ·cases h
   rename_i x hq
   obtain ⟨e, p1⟩ := x
   cases h
   obtain ⟨x1, I1⟩ := zfc hq IA hn'
   have m1 := zx I1 [59]
   refine ⟨?_, I1.must _⟩
   clear hq
   rw [za] at x1
   simp [pob, toks, adv, zd, zh] at i1 i2 t1 t2 t3 t4 t5 x1 m1
   refine zc rfl rfl rfl (by simp) ?_
   rw [zb]
   simp [*, F102, zd, zh, pob, toks, zb, za]
  rw [if_neg (by rw [c_t5]; decide)] at h
  rw [c_t5] at t5
  clear c_t5
  have t6 := zz I [112, 114, 105, 110, 116]
  rw [zO] at t6
  cases c_t6 : isF T [112, 114, 105, 110, 116] ⟨pa, pb, true⟩
  case true =>
   rw [if_pos c_t6] at h
   rw [c_t6] at t6
   have IA := I.adv _ c_t6
   clear c_t6
   split at h
   ·cases h
   rename_i x hq
   obtain ⟨e, p1⟩ := x
   cases h
   obtain ⟨x1, I1⟩ := zFc hq IA hn'
   have m1 := zx I1 [59]
   refine ⟨?_, I1.must _⟩
   clear hq
   simp [pob, toks, adv, zd, zh] at i1 i2 t1 t2 t3 t4 t5 t6 x1 m1
   refine zc rfl rfl rfl (by simp) ?_
   rw [zb]
   simp [*, F102, zd, zh, pob, toks, zb, za]
  rw [if_neg (by rw [c_t6]; decide)] at h
  rw [c_t6] at t6
  clear c_t6
  split at h
  ·cases h
  rename_i x hq
  obtain ⟨w, p1⟩ := x
  cases h
  obtain ⟨x1, I1⟩ := named_spec hq I hn'
  have m1 := zx I1 [59]
  refine ⟨?_, I1.must _⟩
  clear hq
  rw [zb] at x1
  simp [pob, toks, adv, zd, zh] at i1 i2 t1 t2 t3 t4 t5 t6 x1 m1
  refine zc rfl rfl rfl (by simp) ?_
  rw [zb]
  simp [*, F102, zd, zh, pob, toks, zb, za]
 ·have hdp : deepS d ⟨pa, pb, pd⟩ = ⟨pa, pb, pd⟩ := by unfold deepS; rw [if_neg h100]
  rw [hdp] at h I
  clear hdp I0
  replace h100 := eqn h100
  have i1 := is_spec I [105, 110, 116]
  have i2 := is_spec I [98, 111, 111, 108]
  cases c0 : (isF T [105, 110, 116] ⟨pa, pb, pd⟩ || isF T [98, 111, 111, 108] ⟨pa, pb, pd⟩)
  case true =>
   rw [if_pos c0] at h
   have ty := typed_spec I
   have I1 := I.typed
   generalize hty : zha T ⟨pa, pb, pd⟩ = tt at *
   obtain ⟨t, p1⟩ := tt
   simp only at h ty I1
   have tx := zOc I1 1
   have I2 := I1.text 1 (by decide)
   generalize htx : zfa T 1 p1 = tt at *
   obtain ⟨s, p2⟩ := tt
   simp only at h tx I2
   have m1 := zx I2 [61]
   split at h
   ·cases h
   rename_i x hq
   obtain ⟨e, p3⟩ := x
   cases h
   obtain ⟨x1, I3⟩ := zfc hq (I2.must _) hn'
   have m2 := zx I3 [59]
   refine ⟨?_, I3.must _⟩
   clear htx hty hq
   rw [za] at x1
   simp [pob, toks, adv, zd] at i1 i2 ty tx m1 m2 x1
   refine zc rfl rfl rfl (by simp) ?_
   rw [zb]
   cases c1 : isF T [105, 110, 116] ⟨pa, pb, pd⟩
   ·rw [c1] at c0 i1
    have c0 : isF T [98, 111, 111, 108] ⟨pa, pb, pd⟩ = true := c0
    rw [c0] at i2
    clear c0 c1
    simp [*, F102, zd, zh, pob, toks, zb, za]
   ·rw [c1] at i1
    clear c0 c1
    simp [*, F102, zd, zh, pob, toks, zb, za]
  rw [if_neg (by rw [c0]; decide)] at h
  simp only [Bool.or_eq_false_iff] at c0
  rw [c0.1] at i1
  rw [c0.2] at i2
  clear c0
  have t1 := zz I [105, 102]
  rw [zO] at t1
  cases c_t1 : isF T [105, 102] ⟨pa, pb, pd⟩
  case true =>
   rw [if_pos c_t1] at h
   rw [c_t1] at t1
   have IA := I.adv _ c_t1
   clear c_t1
   split at h
   ·cases h
   rename_i x hq
   obtain ⟨e, p1⟩ := x
   simp only at h
   obtain ⟨x1, I1⟩ := zFc hq IA hn'
   split at h
   ·cases h
   rename_i x hr
   obtain ⟨l1, p2⟩ := x
   simp only at h
   obtain ⟨x2, I2⟩ := S.block (d + 1) _ l1 p2 hr I1 (by omega) (by omega)
   have te := zz I2 [101, 108, 115, 101]
   rw [zO] at te
   cases ce : isF T [101, 108, 115, 101] p2
   case true =>
    rw [if_pos ce] at h
    rw [ce] at te
    split at h
    ·cases h
    rename_i x hs
    obtain ⟨l2, p3⟩ := x
    cases h
    obtain ⟨x3, I3⟩ := S.block (d + 1) _ l2 p3 hs (I2.adv _ ce) (by omega) (by omega)
    refine ⟨?_, I3⟩
    clear hq hr hs ce
    simp [pob, toks, adv, zd, zh] at i1 i2 t1 x1 x2 x3 te
    refine zc rfl rfl rfl (by simp) ?_
    rw [zb]
    simp [*, F102, zd, zh, pob, toks, zb, za]
   rw [if_neg (by rw [ce]; decide)] at h
   rw [ce] at te
   cases h
   refine ⟨?_, I2⟩
   clear hq hr ce
   simp [pob, toks, adv, zd, zh] at i1 i2 t1 x1 x2 te
   refine zc rfl rfl rfl (by simp) ?_
   rw [zb]
   simp [*, F102, zd, zh, pob, toks, zb, za]
  rw [if_neg (by rw [c_t1]; decide)] at h
  rw [c_t1] at t1
  clear c_t1
  have t2 := zz I [119, 104, 105, 108, 101]
  rw [zO] at t2
  cases c_t2 : isF T [119, 104, 105, 108, 101] ⟨pa, pb, pd⟩
  case true =>
   rw [if_pos c_t2] at h
   rw [c_t2] at t2
   have IA := I.adv _ c_t2
   clear c_t2
   split at h
   ·cases h
   rename_i x hq
   obtain ⟨e, p1⟩ := x
   simp only at h
   obtain ⟨x1, I1⟩ := zFc hq IA hn'
   split at h
   ·cases h
   rename_i x hr
   obtain ⟨l1, p2⟩ := x
   cases h
   obtain ⟨x2, I2⟩ := S.block (d + 1) _ l1 p2 hr I1 (by omega) (by omega)
   refine ⟨?_, I2⟩
   clear hq hr
   simp [pob, toks, adv, zd, zh] at i1 i2 t1 t2 x1 x2
   refine zc rfl rfl rfl (by simp) ?_
   rw [zb]
   simp [*, F102, zd, zh, pob, toks, zb, za]
  rw [if_neg (by rw [c_t2]; decide)] at h
  rw [c_t2] at t2
  clear c_t2
  have t3 := zz I [98, 114, 101, 97, 107]
  rw [zO] at t3
  cases c_t3 : isF T [98, 114, 101, 97, 107] ⟨pa, pb, pd⟩
  case true =>
   rw [if_pos c_t3] at h
   rw [c_t3] at t3
   have IA := I.adv _ c_t3
   clear c_t3
   cases h
   have m1 := zx IA [59]
   refine ⟨?_, IA.must _⟩
   simp [pob, toks, adv, zd, zh] at i1 i2 t1 t2 t3 m1
   refine zc rfl rfl rfl (by simp) ?_
   rw [zb]
   simp [*, F102, zd, zh, pob, toks, zb, za]
   exact ⟨rfl, rfl, rfl⟩
  rw [if_neg (by rw [c_t3]; decide)] at h
  rw [c_t3] at t3
  clear c_t3
  have t4 := zz I [99, 111, 110, 116, 105, 110, 117, 101]
  rw [zO] at t4
  cases c_t4 : isF T [99, 111, 110, 116, 105, 110, 117, 101] ⟨pa, pb, pd⟩
  case true =>
   rw [if_pos c_t4] at h
   rw [c_t4] at t4
   have IA := I.adv _ c_t4
   clear c_t4
   cases h
   have m1 := zx IA [59]
   refine ⟨?_, IA.must _⟩
   simp [pob, toks, adv, zd, zh] at i1 i2 t1 t2 t3 t4 m1
   refine zc rfl rfl rfl (by simp) ?_
   rw [zb]
   simp [*, F102, zd, zh, pob, toks, zb, za]
   exact ⟨rfl, rfl, rfl⟩
  rw [if_neg (by rw [c_t4]; decide)] at h
  rw [c_t4] at t4
  clear c_t4
  have t5 := zz I [114, 101, 116, 117, 114, 110]
  rw [zO] at t5
  cases c_t5 : isF T [114, 101, 116, 117, 114, 110] ⟨pa, pb, pd⟩
  case true =>
   rw [if_pos c_t5] at h
   rw [c_t5] at t5
   have IA := I.adv _ c_t5
   clear c_t5
   split at h
   ·cases h
   rename_i x hq
   obtain ⟨e, p1⟩ := x
   cases h
   obtain ⟨x1, I1⟩ := zfc hq IA hn'
   have m1 := zx I1 [59]
   refine ⟨?_, I1.must _⟩
   clear hq
   rw [za] at x1
   simp [pob, toks, adv, zd, zh] at i1 i2 t1 t2 t3 t4 t5 x1 m1
   refine zc rfl rfl rfl (by simp) ?_
   rw [zb]
   simp [*, F102, zd, zh, pob, toks, zb, za]
  rw [if_neg (by rw [c_t5]; decide)] at h
  rw [c_t5] at t5
  clear c_t5
  have t6 := zz I [112, 114, 105, 110, 116]
  rw [zO] at t6
  cases c_t6 : isF T [112, 114, 105, 110, 116] ⟨pa, pb, pd⟩
  case true =>
   rw [if_pos c_t6] at h
   rw [c_t6] at t6
   have IA := I.adv _ c_t6
   clear c_t6
   split at h
   ·cases h
   rename_i x hq
   obtain ⟨e, p1⟩ := x
   cases h
   obtain ⟨x1, I1⟩ := zFc hq IA hn'
   have m1 := zx I1 [59]
   refine ⟨?_, I1.must _⟩
   clear hq
   simp [pob, toks, adv, zd, zh] at i1 i2 t1 t2 t3 t4 t5 t6 x1 m1
   refine zc rfl rfl rfl (by simp) ?_
   rw [zb]
   simp [*, F102, zd, zh, pob, toks, zb, za]
  rw [if_neg (by rw [c_t6]; decide)] at h
  rw [c_t6] at t6
  clear c_t6
  split at h
  ·cases h
  rename_i x hq
  obtain ⟨w, p1⟩ := x
  cases h
  obtain ⟨x1, I1⟩ := named_spec hq I hn'
  have m1 := zx I1 [59]
  refine ⟨?_, I1.must _⟩
  clear hq
  rw [zb] at x1
  simp [pob, toks, adv, zd, zh] at i1 i2 t1 t2 t3 t4 t5 t6 x1 m1
  refine zc rfl rfl rfl (by simp) ?_
  rw [zb]
  simp [*, F102, zd, zh, pob, toks, zb, za]
theorem sspec_all (T : List Tok) : ∀ n k, k <= n -> SSpec T k
 | 0, k, h => by
  have : k = 0 := by omega
  subst this
  exact ⟨fun _ _ _ _ h => by simp [stmtF] at h, block_of (fun k hk => absurd hk (by omega))⟩
 | n + 1, k, h => by
  have ih := sspec_all T n
  rcases Nat.lt_or_ge k (n + 1) with h1 | h1
  ·exact ih k (by omega)
  ·have : k = n + 1 := by omega
   subst this
   exact ⟨stmt_of (ih n (Nat.le_refl n)), block_of (fun k hk => ih k (by omega))⟩
theorem sspec (T : List Tok) (n : Nat) : SSpec T n := sspec_all T n n (Nat.le_refl n)
end PE.U

namespace PE.U
open Go PE
theorem acc_snoc (sz : Nat) (l : List PV) (x : PV) : acc sz (l ++ [x]) = .slice .own sz (l ++ [x]) := acc_ne (by simp)
@[simp] theorem isOwn_acc_snoc (sz : Nat) (l : List PV) (x : PV) : isOwn (acc sz (l ++ [x])) = some (sz, l ++ [x]) := by rw [acc_snoc]; rfl
def zhb (T : List Tok) : Nat -> List Par -> Bool -> PS -> Option (List Par × PS)
 | 0, _, _, _ => none
 | n + 1, l, first, p =>
  if first || isF T [44] p then
   if zQa (if first then p else adv p) then some (l, if first then p else adv p)
   else zhb T n (l ++ [⟨(zfa T 1 (zha T (if first then p else adv p)).2).1, (zha T (if first then p else adv p)).1⟩]) false (zfa T 1 (zha T (if first then p else adv p)).2).2
  else some (l, p)
def zvd (T : List Tok) (n : Nat) (t : Int) (s : List UInt8) (p : PS) : Option (Func × PS) :=
 if isF T [41] (zxa T [40] p) then
  match zNb T n 1 [] (zxa T [123] (adv (zxa T [40] p))) with
  | none => none
  | some q => some (⟨s, t, [], q.1⟩, q.2)
 else match zhb T n [] true (zxa T [40] p) with
  | none => none
  | some r => match zNb T n 1 [] (zxa T [123] (zxa T [41] r.2)) with
   | none => none
   | some q => some (⟨s, t, r.1, q.1⟩, q.2)
structure FS where
 m : Nat
 l : List Par
 f : Bool
 p : PS
theorem paramsF_inv {T : List Tok} : ∀ m l f p v p', zhb T m l f p = some (v, p') -> Inv1 T p -> Inv1 T p' := by
 intro m
 induction m with
 | zero => intro l f p v p' h; simp [zhb] at h
 | succ m ih =>
  intro l f p v p' h I
  simp only [zhb] at h
  have fin : ∀ q : PS, Inv1 T q -> (if zQa q then some (l, q) else zhb T m (l ++ [⟨(zfa T 1 (zha T q).2).1, (zha T q).1⟩]) false (zfa T 1 (zha T q).2).2) = some (v, p') -> Inv1 T p' := by
   intro q Iq h
   split at h
   ·cases h; exact Iq
   ·exact ih _ _ _ _ _ h (Iq.typed.text 1 (by decide))
  cases f
  ·cases c2 : isF T [44] p
   ·rw [c2] at h
    simp at h
    exact h.2 ▸ I
   ·rw [c2] at h
    simp at h
    exact fin _ (I.adv _ c2) h
  ·simp at h
   exact fin _ I h
set_option maxHeartbeats 4000000 in
theorem zBe {T : List Tok} {n : Nat} {t : Int} {s : List UInt8} {p p' : PS} {v : Func} (h : zvd T n t s p = some (v, p')) (I : Inv1 T p) (hn : n <= 999999980) : zi E 58 [.ptr 0 0 0, .int .i64 t, .str s] (pob T p) = some (.ret (zm v), pob T p') /\ Inv1 T p' := by
 unfold zvd at h
 have m1 := zx I [40]
 have I1 := I.must [40]
 have t1 := zz I1 [41]
 rw [zO] at t1
 cases c1 : isF T [41] (zxa T [40] p)
 case true =>
  rw [if_pos c1] at h
  rw [c1] at t1
  split at h
  ·cases h
  rename_i q hq
  obtain ⟨l, p2⟩ := q
  cases h
  obtain ⟨x1, I3⟩ := (sspec T n).block 1 _ l p2 hq (I1.adv _ c1) (by omega) (by omega)
  refine ⟨?_, I3⟩
  refine zc rfl rfl rfl (by simp) ?_
  clear hq c1
  simp [zh] at x1
  simp [*, F58, zm, parsV, zh]
 rw [if_neg (by rw [c1]; decide)] at h
 rw [c1] at t1
 split at h
 ·cases h
 rename_i r hr
 obtain ⟨ps, p1⟩ := r
 simp only at h
 split at h
 ·cases h
 rename_i q hq
 obtain ⟨l, p2⟩ := q
 cases h
 have Ip := paramsF_inv _ _ _ _ _ _ hr I1
 have m2 := zx Ip [41]
 obtain ⟨x1, I3⟩ := (sspec T n).block 1 _ l p2 hq (Ip.must [41]) (by omega) (by omega)
 refine ⟨?_, I3⟩
 refine zc rfl rfl rfl (by simp) ?_
 clear hq c1
 simp [zh] at x1
 simp [*, F58, zm, parsV, zh]
 refine zvb K58_0 B58_0 (fun c : FS => c.m) (fun c => [(8, .bool c.f)]) (fun c => [(7, .cells [.str s, .int .i64 t, acc 2 (c.l.map encPar), .slice .fit 6 []])]) (fun c => pob T c.p) (fun c => c.m <= n /\ c.l.length + c.m <= n /\ zhb T c.m c.l c.f c.p = some (ps, p1) /\ Inv1 T c.p) ⟨n, [], true, zxa T [40] p⟩ ⟨by simp, by simp, by simp, Nat.le_refl _, by simp, hr, I1⟩ ?_
 rintro ⟨m, l2, f, p⟩ s1 ⟨hm, hlm, hr, I⟩ g1 g2 g3 g4 g5
 simp at g1 g2 g3 g4 g5 hm hlm hr I
 clear t1 I1 I3 Ip
 cases m with
 | zero => simp [zhb] at hr
 | succ m =>
  simp only [zhb] at hr
  have hroom : (l2.length + 1) * 24 <= zu := by simp only [zu]; omega
  have t2 := zz I [44]
  rw [zO] at t2
  have key : ∀ q : PS, Inv1 T q -> (if zQa q then some (l2, q) else zhb T m (l2 ++ [⟨(zfa T 1 (zha T q).2).1, (zha T q).1⟩]) false (zfa T 1 (zha T q).2).2) = some (ps, p1) →
    (zQa q = true /\ l2 = ps /\ q = p1) \/ (zQa q = false /\ ∃ ty pt tx p3, zi E 53 [.ptr 0 0 0] (pob T q) = some (.ret (.int .i64 ty), pob T pt) /\ zi E 54 [.ptr 0 0 0, .int .i64 1] (pob T pt) = some (.ret (.str tx), pob T p3) /\ Inv1 T p3 /\ zhb T m (l2 ++ [⟨tx, ty⟩]) false p3 = some (ps, p1)) := by
   intro q Iq h
   cases ho : zQa q
   ·right
    rw [if_neg (by rw [ho]; decide)] at h
    exact ⟨rfl, _, _, _, _, typed_spec Iq, zOc Iq.typed 1, Iq.typed.text 1 (by decide), h⟩
   ·left
    rw [if_pos ho] at h
    cases h
    exact ⟨rfl, rfl, rfl⟩
  cases f
  ·cases c2 : isF T [44] p
   ·rw [c2] at hr t2
    simp at hr
    obtain ⟨rfl, rfl⟩ := hr
    clear key c2
    simp [*]
   ·have IA := I.adv _ c2
    rw [c2] at hr t2
    simp at hr
    have ho := zsc IA
    rcases key _ IA hr with ⟨k1, rfl, rfl⟩ | ⟨k1, ty, pt, tx, p3, x2, x3, I3, hr2⟩
    ·rw [k1] at ho
     clear key c2 hr
     simp [*]
    ·rw [k1] at ho
     clear key c2 hr k1
     simp [*]
     exact ⟨⟨m, l2 ++ [⟨tx, ty⟩], false, p3⟩, Nat.lt_succ_self m, rfl, by simp [encPar, acc_snoc], rfl, by simp only; omega, by simp only [List.length_append, List.length_cons, List.length_nil]; omega, hr2, I3⟩
  ·simp at hr
   have ho := zsc I
   rcases key _ I hr with ⟨k1, rfl, rfl⟩ | ⟨k1, ty, pt, tx, p3, x2, x3, I3, hr2⟩
   ·rw [k1] at ho
    clear key hr t2
    simp [*]
   ·rw [k1] at ho
    clear key hr k1 t2
    simp [*]
    exact ⟨⟨m, l2 ++ [⟨tx, ty⟩], false, p3⟩, Nat.lt_succ_self m, rfl, by simp [encPar, acc_snoc], rfl, by simp only; omega, by simp only [List.length_append, List.length_cons, List.length_nil]; omega, hr2, I3⟩
end PE.U

namespace PE.U
open Go PE
def progF (T : List Tok) : Nat -> List PArr -> List Func -> PS -> Option (Prog × PS)
 | 0, _, _, _ => none
 | n + 1, ars, fs, p =>
  if zQa p then some (⟨ars, fs⟩, p)
  else if (tk T p.at').kind = 3 then some (⟨ars, fs⟩, p)
  else if (zha T p).1 = 1 /\ fs = [] /\ isF T [91] (zfa T 1 (zha T p).2).2 = true then
   progF T n (ars ++ [⟨(zfa T 1 (zha T p).2).1, valueM (zfa T 0 (adv (zfa T 1 (zha T p).2).2)).1⟩]) fs (zxa T [59] (zxa T [93] (zfa T 0 (adv (zfa T 1 (zha T p).2).2)).2))
  else match zvd T n (zha T p).1 (zfa T 1 (zha T p).2).1 (zfa T 1 (zha T p).2).2 with
   | none => none
   | some q => progF T n ars (fs ++ [q.1]) q.2
structure GS where
 m : Nat
 ars : List PArr
 fs : List Func
 p : PS
theorem text0_num {T : List Tok} {p : PS} (I : Inv1 T p) : digs (zfa T 0 p).1 = true /\ (zfa T 0 p).1.length < 1000000 := by
 unfold zfa
 split
 ·exact ⟨rfl, by simp⟩
 ·split
  ·rename_i h
   refine I.num _ ?_ h
   rw [<- tk_get' I.lt]; exact List.getElem_mem I.lt
  ·exact ⟨rfl, by simp⟩
theorem progF_inv {T : List Tok} : ∀ m ars fs p v p', m <= 999999980 -> progF T m ars fs p = some (v, p') -> Inv1 T p -> Inv1 T p' := by
 intro m
 induction m with
 | zero => intro ars fs p v p' _ h; simp [progF] at h
 | succ m ih =>
  intro ars fs p v p' hm h I
  simp only [progF] at h
  have I2 := I.typed.text 1 (by decide)
  split at h
  ·cases h; exact I
  ·split at h
   ·cases h; exact I
   ·split at h
    ·rename_i hc
     exact ih _ _ _ _ _ (by omega) h ((((I2.adv _ hc.2.2).text 0 (by decide)).must _).must _)
    ·split at h
     ·cases h
     ·rename_i q hq
      exact ih _ _ _ _ _ (by omega) h (zBe hq I2 (by omega)).2
set_option maxHeartbeats 4000000 in
theorem prog_spec {T : List Tok} {n : Nat} {p p' : PS} {v : Prog} (h : progF T n [] [] p = some (v, p')) (I : Inv1 T p) (hn : n <= 999999980) : zi E 27 [.ptr 0 0 0] (pob T p) = some (.ret (zf v), pob T p') /\ Inv1 T p' := by
 refine ⟨?_, progF_inv _ _ _ _ _ _ hn h I⟩
 refine zc rfl rfl rfl (by simp) ?_
 simp [F27, zf, zka, funcs]
 refine zvb K27_0 B27_0 (fun c : GS => c.m) (fun c => []) (fun c => [(3, .cells [acc 2 (c.ars.map zR), acc 4 (c.fs.map zm)])]) (fun c => pob T c.p) (fun c => c.m <= n /\ c.ars.length + c.m <= n /\ c.fs.length + c.m <= n /\ progF T c.m c.ars c.fs c.p = some (v, p') /\ Inv1 T c.p) ⟨n, [], [], p⟩ ⟨by simp, by simp, by simp, Nat.le_refl _, by simp, by simp, h, I⟩ ?_
 clear h I
 rintro ⟨m, ars, fs, p⟩ s1 ⟨hm, hla, hlf, hr, I⟩ g1 g2 g3 g4 g5
 simp at g1 g2 g4 g5 hm hla hlf hr I
 clear g3
 cases m with
 | zero => simp [progF] at hr
 | succ m =>
  simp only [progF] at hr
  have hrm1 : (ars.length + 1) * 24 <= zu := by simp only [zu]; omega
  have hrm2 : (fs.length + 1) * 72 <= zu := by simp only [zu]; omega
  have ho := zsc I
  have hlt := I.lt
  have hg := tk_get hlt
  have hg' := tk_get' hlt
  cases o : zQa p
  case true =>
   rw [if_pos o] at hr
   rw [o] at ho
   cases hr
   clear o
   simp [*]
  rw [if_neg (by rw [o]; decide)] at hr
  rw [o] at ho
  clear o
  by_cases hk : (tk T p.at').kind = 3
  ·rw [if_pos hk] at hr
   replace hk := eqp hk
   cases hr
   simp [pob, toks] at ho g5
   simp [*, pob, toks, zq]
  rw [if_neg hk] at hr
  replace hk := eqn hk
  have ty := typed_spec I
  have I1 := I.typed
  generalize zha T p = tt at *
  obtain ⟨t, p1⟩ := tt
  simp only at ty I1 hr
  have tx := zOc I1 1
  have I2 := I1.text 1 (by decide)
  generalize zfa T 1 p1 = tt at *
  obtain ⟨s, p2⟩ := tt
  simp only at tx I2 hr
  have t2 := zz I2 [91]
  rw [zO] at t2
  by_cases hc : t = 1 /\ fs = [] /\ isF T [91] p2 = true
  ·rw [if_pos hc] at hr
   obtain ⟨rfl, rfl, hc⟩ := hc
   have IA := I2.adv _ hc
   rw [hc] at t2
   have x1 := zOc IA 0
   obtain ⟨n1, n2⟩ := text0_num IA
   have I3 := IA.text 0 (by decide)
   generalize zfa T 0 (adv p2) = tt at *
   obtain ⟨x, p3⟩ := tt
   simp only at x1 I3 hr n1 n2
   have vv := value_spec' x [] n1 (by omega)
   have m1 := zx I3 [93]
   have m2 := zx (I3.must [93]) [59]
   have I4 := (I3.must [93]).must [59]
   clear hc
   simp [pob, toks] at ho g5 ty tx t2 x1 m1 m2
   simp [*, pob, toks, zq]
   exact ⟨⟨m, ars ++ [⟨s, valueM x⟩], [], _⟩, Nat.lt_succ_self m, by simp [zR, acc_snoc], ⟨rfl, rfl, rfl⟩, by simp only; omega, by simp only [List.length_append, List.length_cons, List.length_nil]; omega, by simp only [List.length_nil]; omega, hr, I4⟩
  ·rw [if_neg hc] at hr
   split at hr
   ·cases hr
   rename_i q hq
   obtain ⟨fn, p3⟩ := q
   simp only at hr
   obtain ⟨x1, I3⟩ := zBe hq I2 (by omega)
   clear hq
   have hs := is_spec I2 [91]
   simp [zm, parsV, zh] at x1
   simp [pob, toks] at ho g5 ty tx t2 x1
   by_cases h1 : t = 1
   ·by_cases h2 : fs = []
    ·have h3 : isF T [91] p2 = false := by
      cases h3 : isF T [91] p2
      ·rfl
      ·exact absurd ⟨h1, h2, h3⟩ hc
     rw [h3] at t2
     subst h1 h2
     clear hc h3 hs hrm2
     have hrm2 : 72 <= zu := by simp only [zu]; omega
     simp at g4 hr
     simp [*, pob, toks, zq]
     exact ⟨⟨m, ars, [fn], p3⟩, Nat.lt_succ_self m, ⟨rfl, by simp [zm, parsV, zh]⟩, ⟨rfl, rfl, rfl⟩, by simp only; omega, by simp only; omega, by simp only [List.length_cons, List.length_nil] at hlf ⊢; omega, hr, I3⟩
    ·have h2' : ¬ fs.length = 0 := by simpa using h2
     clear hc h2 t2 hs
     subst h1
     simp [*, pob, toks, zq]
     exact ⟨⟨m, ars, fs ++ [fn], p3⟩, Nat.lt_succ_self m, ⟨rfl, by simp [zm, parsV, zh, acc_snoc]⟩, ⟨rfl, rfl, rfl⟩, by simp only; omega, by simp only; omega, by simp only [List.length_append, List.length_cons, List.length_nil]; omega, hr, I3⟩
   ·clear hc t2 hs
    replace h1 := eqn h1
    simp [*, pob, toks, zq]
    exact ⟨⟨m, ars, fs ++ [fn], p3⟩, Nat.lt_succ_self m, ⟨rfl, by simp [zm, parsV, zh, acc_snoc]⟩, ⟨rfl, rfl, rfl⟩, by simp only; omega, by simp only; omega, by simp only [List.length_append, List.length_cons, List.length_nil]; omega, hr, I3⟩
end PE.U

namespace PE.U
open Go PE
def zCd (k o n : Int) (s : List UInt8) (a : Nat) : Bool :=
 if k = 1 then decide (o = 0) && (decide (0 <= n) && (decide (s = []) && decide (a = 0)))
 else if k = 2 then decide (o = 0) && ((decide (n = 0) || decide (n = 1)) && (decide (s = []) && decide (a = 0)))
 else if k = 3 then (decide (o = 0) && decide (n = 0)) && (znb s && decide (a = 0))
 else if k = 4 then oneR o && (decide (n = 0) && (decide (s = []) && decide (a = 1)))
 else if k = 5 then decide (0 < zge o) && (decide (n = 0) && (decide (s = []) && decide (a = 2)))
 else if k = 6 then (decide (o = 0) && decide (n = 0)) && (znb s && decide (a = 1))
 else if k = 7 then (decide (o = 0) && decide (n = 0)) && (znb s && decide (a <= 8))
 else if k = 8 then (decide (o = 0) && decide (n = 0)) && (decide (s = []) && decide (a = 0))
 else false
mutual
def zTa : Expr -> Int -> Bool
 | ⟨k, o, n, s, a⟩, m => zfb a m && zCd k o n s a.length
def zfb : List Expr -> Int -> Bool
 | [], _ => true
 | x :: r, m => (decide (2 <= m) && zTa x (m - 1)) && zfb r m
end
theorem exprR_eq (e : Expr) (m : Int) : zTa e m = (zfb e.args m && zCd e.kind e.op e.n e.name e.args.length) := by cases e; rw [zTa]
theorem zDe (a b : List Expr) (m : Int) : zfb (a ++ b) m = (zfb a m && zfb b m) := by
 induction a with
 | nil => simp [zfb]
 | cons x r ih => simp [zfb, ih, Bool.and_assoc]
set_option maxHeartbeats 4000000 in
theorem exprR_spec' : ∀ w (e : Expr) (m : Int), wtE e <= w -> w < 1099511000000 -> m <= 1000000 -> zi E 83 [zw e, .int .i64 m] [] = some (.ret (.bool (zTa e m)), [])
 | 0, e, m, h, _, _ => by rw [zEd] at h; omega
 | w + 1, e, m, h, hw, hm => by
  refine zc rfl rfl rfl (by simp [za]) ?_
  have hlen := zvc e.args
  rw [zEd] at h
  simp [F83, za, zd]
  refine zG e.args K83_0 B83_0 (fun d => [(5, .int .i64 d.length)]) (fun _ => []) (fun d => zfb d m = true) (by omega) (by simp [zfb]) ?_ ?_
  ·intros d x r s1 hl' hlt hget hget' hw1 hp h1 h2 h3 h4
   simp at h1 h2 h3
   have hwx := zAb hl'.mem
   have hf : zTa e m = false \/ (2 <= m /\ zTa x (m - 1) = true) := by
    by_cases h2m : 2 <= m
    ·cases hx : zTa x (m - 1)
     ·left
      rw [exprR_eq, hl'.eq, zDe]
      simp [zfb, hx]
     ·exact Or.inr ⟨h2m, rfl⟩
    ·left
     rw [exprR_eq, hl'.eq, zDe]
     simp [zfb, h2m]
   have hnx : 2 <= m -> zTa x (m - 1) = true -> zfb (d ++ [x]) m = true := by
    intro a b
    rw [zDe, hp]
    simp [zfb, a, b]
   by_cases h2m : m < 2
   ·rcases hf with hf | hf
    ·clear hnx hl' hp
     (simp [*]) <;> (repeat' (first | ((first | refine sP _ ?_ ?_ | refine gP _ ?_ ?_ | refine sN _ ?_ ?_ | refine gN _ ?_ ?_) <;> intro hc <;> (first | replace hc := eqn hc | replace hc := eqp hc) <;> simp [*]) | ((first | refine sM _ ?_ ?_ | refine gM _ ?_ ?_ | refine sB _ ?_ ?_ | refine gB _ ?_ ?_) <;> intro hc <;> simp [*])))
    ·omega
   ·have ih := exprR_spec' w x (m - 1) (by omega) (by omega) (by omega)
    have hwm : zB .i64 (m - 1) = m - 1 := zj (by omega) (by omega)
    rw [za] at ih
    cases hx : zTa x (m - 1)
    ·rcases hf with hf | hf
     ·rw [hx] at ih
      clear hnx hl' hp
      simp [zd] at ih
      (simp [*, za, zd]) <;> (repeat' (first | ((first | refine sP _ ?_ ?_ | refine gP _ ?_ ?_ | refine sN _ ?_ ?_ | refine gN _ ?_ ?_) <;> intro hc <;> (first | replace hc := eqn hc | replace hc := eqp hc) <;> simp [*, za, zd]) | ((first | refine sM _ ?_ ?_ | refine gM _ ?_ ?_ | refine sB _ ?_ ?_ | refine gB _ ?_ ?_) <;> intro hc <;> simp [*, za, zd])))
     ·rw [hx] at hf; exact absurd hf.2 (by decide)
    ·replace hnx := hnx (by omega) hx
     rw [hx] at ih
     clear hf hl' hp
     simp [zd] at ih
     (simp [*, za, zd]) <;> (repeat' (first | ((first | refine sP _ ?_ ?_ | refine gP _ ?_ ?_ | refine sN _ ?_ ?_ | refine gN _ ?_ ?_) <;> intro hc <;> (first | replace hc := eqn hc | replace hc := eqp hc) <;> simp [*, za, zd]) | ((first | refine sM _ ?_ ?_ | refine gM _ ?_ ?_ | refine sB _ ?_ ?_ | refine gB _ ?_ ?_) <;> intro hc <;> simp [*, za, zd])))
  ·intros s1 hp h1 h2 h3 h4
   simp at h1 h2 h3
   rw [exprR_eq, hp, Bool.true_and]
   have hn := zhd e.name []
   have h5 := rlevel_spec e.op
   have h6 := roneR_spec e.op
   clear h hlen hp
   generalize hal : e.args.length = al at *
   unfold zCd
   by_cases k1 : e.kind = 1
   ·replace k1 := eqp k1
    (simp [*]) <;> (repeat' (first | ((first | refine sP _ ?_ ?_ | refine gP _ ?_ ?_ | refine sN _ ?_ ?_ | refine gN _ ?_ ?_) <;> intro hc <;> (first | replace hc := eqn hc | replace hc := eqp hc) <;> simp [*]) | ((first | refine sM _ ?_ ?_ | refine gM _ ?_ ?_ | refine sB _ ?_ ?_ | refine gB _ ?_ ?_) <;> intro hc <;> simp [*])))
    all_goals (try omega)
   by_cases k2 : e.kind = 2
   ·replace k1 := eqn k1
    replace k2 := eqp k2
    (simp [*]) <;> (repeat' (first | ((first | refine sP _ ?_ ?_ | refine gP _ ?_ ?_ | refine sN _ ?_ ?_ | refine gN _ ?_ ?_) <;> intro hc <;> (first | replace hc := eqn hc | replace hc := eqp hc) <;> simp [*]) | ((first | refine sM _ ?_ ?_ | refine gM _ ?_ ?_ | refine sB _ ?_ ?_ | refine gB _ ?_ ?_) <;> intro hc <;> simp [*])))
    all_goals (try omega)
   by_cases k3 : e.kind = 3
   ·replace k1 := eqn k1
    replace k2 := eqn k2
    replace k3 := eqp k3
    (simp [*]) <;> (repeat' (first | ((first | refine sP _ ?_ ?_ | refine gP _ ?_ ?_ | refine sN _ ?_ ?_ | refine gN _ ?_ ?_) <;> intro hc <;> (first | replace hc := eqn hc | replace hc := eqp hc) <;> simp [*]) | ((first | refine sM _ ?_ ?_ | refine gM _ ?_ ?_ | refine sB _ ?_ ?_ | refine gB _ ?_ ?_) <;> intro hc <;> simp [*])))
    all_goals (try omega)
   by_cases k4 : e.kind = 4
   ·replace k1 := eqn k1
    replace k2 := eqn k2
    replace k3 := eqn k3
    replace k4 := eqp k4
    (simp [*]) <;> (repeat' (first | ((first | refine sP _ ?_ ?_ | refine gP _ ?_ ?_ | refine sN _ ?_ ?_ | refine gN _ ?_ ?_) <;> intro hc <;> (first | replace hc := eqn hc | replace hc := eqp hc) <;> simp [*]) | ((first | refine sM _ ?_ ?_ | refine gM _ ?_ ?_ | refine sB _ ?_ ?_ | refine gB _ ?_ ?_) <;> intro hc <;> simp [*])))
    all_goals (try omega)
   by_cases k5 : e.kind = 5
   ·replace k1 := eqn k1
    replace k2 := eqn k2
    replace k3 := eqn k3
    replace k4 := eqn k4
    replace k5 := eqp k5
    (simp [*]) <;> (repeat' (first | ((first | refine sP _ ?_ ?_ | refine gP _ ?_ ?_ | refine sN _ ?_ ?_ | refine gN _ ?_ ?_) <;> intro hc <;> (first | replace hc := eqn hc | replace hc := eqp hc) <;> simp [*]) | ((first | refine sM _ ?_ ?_ | refine gM _ ?_ ?_ | refine sB _ ?_ ?_ | refine gB _ ?_ ?_) <;> intro hc <;> simp [*])))
    all_goals (try omega)
   replace k1 := eqn k1
   replace k2 := eqn k2
   replace k3 := eqn k3
   replace k4 := eqn k4
   replace k5 := eqn k5
   by_cases k6 : e.kind = 6
   ·replace k6 := eqp k6
    (simp [*]) <;> (repeat' (first | ((first | refine sP _ ?_ ?_ | refine gP _ ?_ ?_ | refine sN _ ?_ ?_ | refine gN _ ?_ ?_) <;> intro hc <;> (first | replace hc := eqn hc | replace hc := eqp hc) <;> simp [*]) | ((first | refine sM _ ?_ ?_ | refine gM _ ?_ ?_ | refine sB _ ?_ ?_ | refine gB _ ?_ ?_) <;> intro hc <;> simp [*])))
    all_goals (try omega)
   replace k6 := eqn k6
   by_cases k7 : e.kind = 7
   ·replace k7 := eqp k7
    (simp [*]) <;> (repeat' (first | ((first | refine sP _ ?_ ?_ | refine gP _ ?_ ?_ | refine sN _ ?_ ?_ | refine gN _ ?_ ?_) <;> intro hc <;> (first | replace hc := eqn hc | replace hc := eqp hc) <;> simp [*]) | ((first | refine sM _ ?_ ?_ | refine gM _ ?_ ?_ | refine sB _ ?_ ?_ | refine gB _ ?_ ?_) <;> intro hc <;> simp [*])))
    all_goals (try omega)
   replace k7 := eqn k7
   by_cases k8 : e.kind = 8
   ·replace k8 := eqp k8
    (simp [*]) <;> (repeat' (first | ((first | refine sP _ ?_ ?_ | refine gP _ ?_ ?_ | refine sN _ ?_ ?_ | refine gN _ ?_ ?_) <;> intro hc <;> (first | replace hc := eqn hc | replace hc := eqp hc) <;> simp [*]) | ((first | refine sM _ ?_ ?_ | refine gM _ ?_ ?_ | refine sB _ ?_ ?_ | refine gB _ ?_ ?_) <;> intro hc <;> simp [*])))
    all_goals (try omega)
   replace k8 := eqn k8
   (simp [*]) <;> (repeat' (first | ((first | refine sP _ ?_ ?_ | refine gP _ ?_ ?_ | refine sN _ ?_ ?_ | refine gN _ ?_ ?_) <;> intro hc <;> (first | replace hc := eqn hc | replace hc := eqp hc) <;> simp [*]) | ((first | refine sM _ ?_ ?_ | refine gM _ ?_ ?_ | refine sB _ ?_ ?_ | refine gB _ ?_ ?_) <;> intro hc <;> simp [*])))
   all_goals (try omega)
theorem exprR_spec (e : Expr) (m : Int) (h : wtE e < 1099510000000) (hm : m <= 1000000) : zi E 83 [zw e, .int .i64 m] [] = some (.ret (.bool (zTa e m)), []) := exprR_spec' (wtE e) e m (Nat.le_refl _) (by omega) hm
end PE.U

namespace PE.U
open Go PE
def zQ (k : Int) : Bool × Bool × Int × Bool × Bool :=
 if k = 1 then (true, true, 1, false, false)
 else if k = 2 then (false, true, 1, false, false)
 else if k = 3 then (false, true, 2, false, false)
 else if k = 4 then (false, false, 1, true, true)
 else if k = 5 then (false, false, 1, true, false)
 else if k = 6 \/ k = 7 then (false, false, 0, false, false)
 else if k = 8 \/ k = 9 \/ k = 10 then (false, false, 1, false, false)
 else (false, false, -1, false, false)
theorem shape_spec (k : Int) : zi E 82 [.int .i64 k] [] = some (.ret (.tup [.bool (zQ k).1, .bool (zQ k).2.1, .int .i64 (zQ k).2.2.1, .bool (zQ k).2.2.2.1, .bool (zQ k).2.2.2.2]), []) := by
 refine zc rfl rfl rfl (by simp) ?_
 unfold zQ
 (simp [*, F82]) <;> (repeat' ((first | refine sP _ ?_ ?_ | refine gP _ ?_ ?_ | refine sN _ ?_ ?_ | refine gN _ ?_ ?_ | refine sM _ ?_ ?_ | refine gM _ ?_ ?_ | refine sB _ ?_ ?_ | refine gB _ ?_ ?_) <;> intro hc <;> simp [*, F82]))
def headR (s : Stmt) (m : Int) : Bool :=
 !(decide (m < 1) || (decide (¬ (s.args.length : Int) = (zQ s.kind).2.2.1) || ((zQ s.kind).1 != (decide (s.type = 1) || decide (s.type = 2)) || ((!(zQ s.kind).1 && decide (¬ s.type = 0)) || ((zQ s.kind).2.1 != znb s.name || (!(zQ s.kind).2.1 && decide (¬ s.name = [])))))))
def zZd (l : List Expr) : Bool := l.all fun e => zTa e 100
def doR (k : Int) (l : List Expr) : Bool := !(decide (k = 10) && (match l with | [] => false | e :: _ => decide (¬ e.kind = 7)))
mutual
def zBb : Stmt -> Int -> Bool
 | ⟨k, t, s, a, th, el⟩, m => headR ⟨k, t, s, a, th, el⟩ m && (zZd a && (doR k a && ((((zQ k).2.2.2.1 || th.isEmpty) && ((zQ k).2.2.2.2 || el.isEmpty)) && (zL th (m - 1) && zL el (m - 1)))))
def zL : List Stmt -> Int -> Bool
 | [], _ => true
 | x :: r, m => zBb x m && zL r m
end
theorem stmtR_eq (s : Stmt) (m : Int) : zBb s m = (headR s m && (zZd s.args && (doR s.kind s.args && ((((zQ s.kind).2.2.2.1 || s.thn.isEmpty) && ((zQ s.kind).2.2.2.2 || s.els.isEmpty)) && (zL s.thn (m - 1) && zL s.els (m - 1)))))) := by cases s; rw [zBb]
theorem stmtsR_append (a b : List Stmt) (m : Int) : zL (a ++ b) m = (zL a m && zL b m) := by
 induction a with
 | nil => simp [zL]
 | cons x r ih => simp [zL, ih, Bool.and_assoc]
theorem rtype_spec (t : Int) : zi E 59 [.int .i64 t] [] = some (.ret (.bool (decide (t = 1) || decide (t = 2))), []) := by
 refine zc rfl rfl rfl (by simp) ?_
 (simp [*, F59]) <;> (repeat' ((first | refine sP _ ?_ ?_ | refine gP _ ?_ ?_ | refine sN _ ?_ ?_ | refine gN _ ?_ ?_ | refine sM _ ?_ ?_ | refine gM _ ?_ ?_ | refine sB _ ?_ ?_ | refine gB _ ?_ ?_) <;> intro hc <;> simp [*, F59]))
end PE.U

namespace PE.U
open Go PE
set_option maxHeartbeats 8000000 in
theorem stmtsR_spec' : ∀ w (l : List Stmt) (m : Int), wtSs l <= w -> w < 1099509000000 -> m <= 1000000 -> zi E 60 [zh l, .int .i64 m] [] = some (.ret (.bool (zL l m)), []) := by
 intro w
 induction w with
 | zero =>
  intro l m h hw hm
  have : l = [] := by
   cases l with
   | nil => rfl
   | cons x r => simp [wtSs] at h
  subst this
  refine zc rfl rfl rfl (by simp) ?_
  simp [F60, zh, zL]
  refine zG ([] : List Stmt) K60_1 B60_1 (fun d => [(5, .int .i64 d.length)]) (fun _ => []) (fun _ => True) (by simp) (by simp) ?_ ?_
  ·intros d x r s1 hl' hlt; simp at hlt
  ·intros s1 hp h1 h2 h3 h4
   simp at h1 h3
   clear h2
   simp [*]
 | succ w ih =>
  intro l m h hw hm
  refine zc rfl rfl rfl (by simp) ?_
  have hlen := zva l
  simp [F60, zh]
  refine zG l K60_1 B60_1 (fun d => [(5, .int .i64 d.length)]) (fun _ => []) (fun d => zL d m = true) (by omega) (by simp [zL]) ?_ ?_
  ·intros d x r s1 hl' hlt hget hget' hw1 hp h1 h2 h3 h4
   simp at h1 h3
   clear h2
   have hwx := zSd hl'.mem
   have hwe := zJa x
   have hf : zBb x m = false -> zL l m = false := fun hx => by
    rw [hl'.eq, stmtsR_append]; simp [zL, hx]
   have hnx : zBb x m = true -> zL (d ++ [x]) m = true := fun hx => by
    rw [stmtsR_append, hp]; simp [zL, hx]
   clear hl' hp
   have e1 := shape_spec x.kind
   have e2 := zhd x.name []
   have hlw := zvc x.args
   cases hh : headR x m
   ·-- the head is wrong
    replace hf := hf (by rw [stmtR_eq, hh]; rfl)
    clear hnx
    simp only [headR, Bool.not_eq_false', Bool.or_eq_true, decide_eq_true_eq, Bool.and_eq_true, Bool.not_eq_true', bne_iff_ne] at hh
    generalize zQ x.kind = sh at *
    obtain ⟨t, nm, n, th, ot⟩ := sh
    simp only at hh e1
    have hh2 := hh
    clear hh
    cases hnn : znb x.name <;> rw [hnn] at e2 hh2 <;> cases t <;> cases nm <;>
    ·simp at e1 hh2
     (simp [*, zb, zd, zh]) <;> (repeat' (first | ((first | refine sP _ ?_ ?_ | refine gP _ ?_ ?_ | refine sN _ ?_ ?_ | refine gN _ ?_ ?_) <;> intro hc <;> (first | replace hc := eqn hc | replace hc := eqp hc) <;> simp [*, zb, zd, zh]) | ((first | refine sM _ ?_ ?_ | refine gM _ ?_ ?_ | refine sB _ ?_ ?_ | refine gB _ ?_ ?_) <;> intro hc <;> simp [*, zb, zd, zh])))
     all_goals (exfalso; grind)
   ·-- the head is right
    have hs := stmtR_eq x m
    rw [hh, Bool.true_and] at hs
    simp only [headR, Bool.not_eq_true', Bool.not_eq_false', Bool.or_eq_false_iff, decide_eq_false_iff_not, Bool.and_eq_false_iff, bne_eq_false_iff_eq, Decidable.not_not, Bool.not_eq_true] at hh
    generalize hsh : zQ x.kind = sh at *
    obtain ⟨t, nm, n, th, ot⟩ := sh
    simp only at hh hs e1
    obtain ⟨a1, a2, a3, a4, a5, a6⟩ := hh
    subst a2
    rw [<- a5] at e2
    have hm1 : zB .i64 (m - 1) = m - 1 := zj (by omega) (by omega)
    rcases (show (t = true /\ x.type = 1) \/ (t = true /\ x.type = 2) \/ (t = false /\ x.type = 0) by
     cases t
     ·right; right; exact ⟨rfl, by simpa using a4⟩
     ·have := a3.symm
      simp only [Bool.or_eq_true, decide_eq_true_eq] at this
      rcases this with h | h
      ·exact Or.inl ⟨rfl, h⟩
      ·exact Or.inr (Or.inl ⟨rfl, h⟩)) with ⟨rfl, ht⟩ | ⟨rfl, ht⟩ | ⟨rfl, ht⟩
    all_goals
     clear a3 a4 a5
     cases nm
     ·replace a6 : x.name = [] := by simpa using a6
      rw [a6] at e2
      simp [*, zb, zd, zh]
      have hlt0 : x.args.length < 2 ^ 62 := by omega
      refine zG x.args K60_0 B60_0 (fun d => [(12, .int .i64 d.length)]) (fun _ => []) (fun d => zZd d = true) hlt0 (by simp [zZd]) ?_ ?_
      ·intros d2 y r2 s2 hl2 hlt2 hget2 hget2' hw2 hp2 g1 g2 g3 g4
       simp at g1 g2 g3
       have hwy := zAb hl2.mem
       have ey := exprR_spec y 100 (by omega) (by omega)
       rw [za] at ey
       simp [zd] at ey
       have hlt2' : (d2.length : Int) < x.args.length := by omega
       cases hy : zTa y 100
       ·have ha : zZd x.args = false := by
         rw [hl2.eq]; simp [zZd, hy]
        replace hf := hf (by rw [hs, ha]; rfl)
        rw [hy] at ey
        clear hnx hs hp2 hl2 e1 e2 ht
        simp [*, za, zd]
       ·have ha : zZd (d2 ++ [y]) = true := by
         simp only [zZd] at hp2 ⊢
         rw [List.all_append, hp2]; simp [hy]
        rw [hy] at ey
        clear hnx hs hf hp2 hl2 e1 e2 ht
        simp [*, za, zd]
      ·intros s2 hp2 g1 g2 g3 g4
       simp at g1 g2 g3
       rw [hp2, Bool.true_and] at hs
       have i1 := ih x.thn (m - 1) (by omega) (by omega) (by omega)
       have i2 := ih x.els (m - 1) (by omega) (by omega) (by omega)
       simp [zh] at i1 i2
       have k1 : (x.kind = 10 /\ ∃ e, x.args = [e]) \/ ¬ x.kind = 10 := by
        by_cases hk : x.kind = 10
        ·refine Or.inl ⟨hk, ?_⟩
         have hn1 : (x.args.length : Int) = 1 := by
          have := congrArg (fun p => p.2.2.1) hsh
          rw [hk] at this
          exact this.symm
         have : x.args.length = 1 := by omega
         exact List.length_eq_one_iff.1 this
        ·exact Or.inr hk
       clear hp2 hsh
       clear e1 e2 a6
       rcases k1 with ⟨hk, e, hae⟩ | hk
       ·have hdo : doR x.kind x.args = decide (e.kind = 7) := by
         rw [hk, hae]; simp [doR]
        rw [hdo] at hs
        by_cases h7 : e.kind = 7
        ·have hd7 : decide (e.kind = 7) = true := decide_eq_true h7
         rw [hd7, Bool.true_and] at hs
         replace hk := eqp hk
         replace h7 := eqp h7
         clear hdo hd7 ht a1
         have e3 : (x.thn.isEmpty = true <-> x.thn.length = 0) := by cases x.thn <;> simp
         have e4 : (x.els.isEmpty = true <-> x.els.length = 0) := by cases x.els <;> simp
         have tree : zBb x m = true \/ zBb x m = false := by cases zBb x m <;> simp
         by_cases b1 : th = false /\ 0 < x.thn.length
         ·have hb : (th || x.thn.isEmpty) = false := by
           rw [b1.1, Bool.false_or]; cases hx : x.thn.isEmpty
           ·rfl
           ·have := e3.1 hx; omega
          rw [hb] at hs
          replace hf := hf (by rw [hs]; rfl)
          obtain ⟨rfl, b1⟩ := b1
          clear hs hnx tree e3 e4 i1 i2 hb
          simp [*, zh, za]
         by_cases b2 : ot = false /\ 0 < x.els.length
         ·have hb : (ot || x.els.isEmpty) = false := by
           rw [b2.1, Bool.false_or]; cases hx : x.els.isEmpty
           ·rfl
           ·have := e4.1 hx; omega
          rw [hb] at hs
          replace hf := hf (by rw [hs]; simp)
          obtain ⟨rfl, b2⟩ := b2
          clear hs hnx tree e3 e4 i1 i2 hb
          cases th
          ·have b1' : ¬ 0 < x.thn.length := fun h => b1 ⟨rfl, h⟩
           clear b1
           simp [*, zh, za]
          ·clear b1
           simp [*, zh, za]
         have hb1 : (th || x.thn.isEmpty) = true := by
          cases th
          ·rw [Bool.false_or]; exact e3.2 (by by_cases h : 0 < x.thn.length; exact absurd ⟨rfl, h⟩ b1; omega)
          ·rfl
         have hb2 : (ot || x.els.isEmpty) = true := by
          cases ot
          ·rw [Bool.false_or]; exact e4.2 (by by_cases h : 0 < x.els.length; exact absurd ⟨rfl, h⟩ b2; omega)
          ·rfl
         rw [hb1, hb2] at hs
         clear e3 e4 tree hb1 hb2
         have b1' : th = true \/ (th = false /\ ¬ 0 < x.thn.length) := by
          cases th
          ·exact Or.inr ⟨rfl, fun h => b1 ⟨rfl, h⟩⟩
          ·exact Or.inl rfl
         have b2' : ot = true \/ (ot = false /\ ¬ 0 < x.els.length) := by
          cases ot
          ·exact Or.inr ⟨rfl, fun h => b2 ⟨rfl, h⟩⟩
          ·exact Or.inl rfl
         clear b1 b2
         cases q1 : zL x.thn (m - 1)
         ·rw [q1] at i1 hs
          replace hf := hf (by rw [hs]; rfl)
          clear hs hnx i2 q1
          rcases b1' with rfl | ⟨rfl, b1⟩ <;> rcases b2' with rfl | ⟨rfl, b2⟩ <;> simp [*, zh, za]
         ·rw [q1] at i1 hs
          cases q2 : zL x.els (m - 1)
          ·rw [q2] at i2 hs
           replace hf := hf (by rw [hs]; rfl)
           clear hs hnx q1 q2
           rcases b1' with rfl | ⟨rfl, b1⟩ <;> rcases b2' with rfl | ⟨rfl, b2⟩ <;> simp [*, zh, za]
          ·rw [q2] at i2 hs
           replace hnx := hnx (by rw [hs]; rfl)
           clear hs hf q1 q2
           rcases b1' with rfl | ⟨rfl, b1⟩ <;> rcases b2' with rfl | ⟨rfl, b2⟩ <;> simp [*, zh, za]
        ·have hd7 : decide (e.kind = 7) = false := decide_eq_false h7
         rw [hd7, Bool.false_and] at hs
         replace hf := hf hs
         replace hk := eqp hk
         replace h7 := eqn h7
         clear hdo hd7 hs hnx ht a1
         simp [*, za]
       ·have hdo : doR x.kind x.args = true := by simp [doR, hk]
        rw [hdo, Bool.true_and] at hs
        replace hk := eqn hk
        clear hdo ht a1
        have e3 : (x.thn.isEmpty = true <-> x.thn.length = 0) := by cases x.thn <;> simp
        have e4 : (x.els.isEmpty = true <-> x.els.length = 0) := by cases x.els <;> simp
        have tree : zBb x m = true \/ zBb x m = false := by cases zBb x m <;> simp
        by_cases b1 : th = false /\ 0 < x.thn.length
        ·have hb : (th || x.thn.isEmpty) = false := by
          rw [b1.1, Bool.false_or]; cases hx : x.thn.isEmpty
          ·rfl
          ·have := e3.1 hx; omega
         rw [hb] at hs
         replace hf := hf (by rw [hs]; rfl)
         obtain ⟨rfl, b1⟩ := b1
         clear hs hnx tree e3 e4 i1 i2 hb
         simp [*, zh, za]
        by_cases b2 : ot = false /\ 0 < x.els.length
        ·have hb : (ot || x.els.isEmpty) = false := by
          rw [b2.1, Bool.false_or]; cases hx : x.els.isEmpty
          ·rfl
          ·have := e4.1 hx; omega
         rw [hb] at hs
         replace hf := hf (by rw [hs]; simp)
         obtain ⟨rfl, b2⟩ := b2
         clear hs hnx tree e3 e4 i1 i2 hb
         cases th
         ·have b1' : ¬ 0 < x.thn.length := fun h => b1 ⟨rfl, h⟩
          clear b1
          simp [*, zh, za]
         ·clear b1
          simp [*, zh, za]
        have hb1 : (th || x.thn.isEmpty) = true := by
         cases th
         ·rw [Bool.false_or]; exact e3.2 (by by_cases h : 0 < x.thn.length; exact absurd ⟨rfl, h⟩ b1; omega)
         ·rfl
        have hb2 : (ot || x.els.isEmpty) = true := by
         cases ot
         ·rw [Bool.false_or]; exact e4.2 (by by_cases h : 0 < x.els.length; exact absurd ⟨rfl, h⟩ b2; omega)
         ·rfl
        rw [hb1, hb2] at hs
        clear e3 e4 tree hb1 hb2
        have b1' : th = true \/ (th = false /\ ¬ 0 < x.thn.length) := by
         cases th
         ·exact Or.inr ⟨rfl, fun h => b1 ⟨rfl, h⟩⟩
         ·exact Or.inl rfl
        have b2' : ot = true \/ (ot = false /\ ¬ 0 < x.els.length) := by
         cases ot
         ·exact Or.inr ⟨rfl, fun h => b2 ⟨rfl, h⟩⟩
         ·exact Or.inl rfl
        clear b1 b2
        cases q1 : zL x.thn (m - 1)
        ·rw [q1] at i1 hs
         replace hf := hf (by rw [hs]; rfl)
         clear hs hnx i2 q1
         rcases b1' with rfl | ⟨rfl, b1⟩ <;> rcases b2' with rfl | ⟨rfl, b2⟩ <;> simp [*, zh, za]
        ·rw [q1] at i1 hs
         cases q2 : zL x.els (m - 1)
         ·rw [q2] at i2 hs
          replace hf := hf (by rw [hs]; rfl)
          clear hs hnx q1 q2
          rcases b1' with rfl | ⟨rfl, b1⟩ <;> rcases b2' with rfl | ⟨rfl, b2⟩ <;> simp [*, zh, za]
         ·rw [q2] at i2 hs
          replace hnx := hnx (by rw [hs]; rfl)
          clear hs hf q1 q2
          rcases b1' with rfl | ⟨rfl, b1⟩ <;> rcases b2' with rfl | ⟨rfl, b2⟩ <;> simp [*, zh, za]
     ·clear a6
      have a6 : True := trivial
      simp [*, zb, zd, zh]
      have hlt0 : x.args.length < 2 ^ 62 := by omega
      refine zG x.args K60_0 B60_0 (fun d => [(12, .int .i64 d.length)]) (fun _ => []) (fun d => zZd d = true) hlt0 (by simp [zZd]) ?_ ?_
      ·intros d2 y r2 s2 hl2 hlt2 hget2 hget2' hw2 hp2 g1 g2 g3 g4
       simp at g1 g2 g3
       have hwy := zAb hl2.mem
       have ey := exprR_spec y 100 (by omega) (by omega)
       rw [za] at ey
       simp [zd] at ey
       have hlt2' : (d2.length : Int) < x.args.length := by omega
       cases hy : zTa y 100
       ·have ha : zZd x.args = false := by
         rw [hl2.eq]; simp [zZd, hy]
        replace hf := hf (by rw [hs, ha]; rfl)
        rw [hy] at ey
        clear hnx hs hp2 hl2 e1 e2 ht
        simp [*, za, zd]
       ·have ha : zZd (d2 ++ [y]) = true := by
         simp only [zZd] at hp2 ⊢
         rw [List.all_append, hp2]; simp [hy]
        rw [hy] at ey
        clear hnx hs hf hp2 hl2 e1 e2 ht
        simp [*, za, zd]
      ·intros s2 hp2 g1 g2 g3 g4
       simp at g1 g2 g3
       rw [hp2, Bool.true_and] at hs
       have i1 := ih x.thn (m - 1) (by omega) (by omega) (by omega)
       have i2 := ih x.els (m - 1) (by omega) (by omega) (by omega)
       simp [zh] at i1 i2
       have k1 : (x.kind = 10 /\ ∃ e, x.args = [e]) \/ ¬ x.kind = 10 := by
        by_cases hk : x.kind = 10
        ·refine Or.inl ⟨hk, ?_⟩
         have hn1 : (x.args.length : Int) = 1 := by
          have := congrArg (fun p => p.2.2.1) hsh
          rw [hk] at this
          exact this.symm
         have : x.args.length = 1 := by omega
         exact List.length_eq_one_iff.1 this
        ·exact Or.inr hk
       clear hp2 hsh
       clear e1 e2 a6
       rcases k1 with ⟨hk, e, hae⟩ | hk
       ·have hdo : doR x.kind x.args = decide (e.kind = 7) := by
         rw [hk, hae]; simp [doR]
        rw [hdo] at hs
        by_cases h7 : e.kind = 7
        ·have hd7 : decide (e.kind = 7) = true := decide_eq_true h7
         rw [hd7, Bool.true_and] at hs
         replace hk := eqp hk
         replace h7 := eqp h7
         clear hdo hd7 ht a1
         have e3 : (x.thn.isEmpty = true <-> x.thn.length = 0) := by cases x.thn <;> simp
         have e4 : (x.els.isEmpty = true <-> x.els.length = 0) := by cases x.els <;> simp
         have tree : zBb x m = true \/ zBb x m = false := by cases zBb x m <;> simp
         by_cases b1 : th = false /\ 0 < x.thn.length
         ·have hb : (th || x.thn.isEmpty) = false := by
           rw [b1.1, Bool.false_or]; cases hx : x.thn.isEmpty
           ·rfl
           ·have := e3.1 hx; omega
          rw [hb] at hs
          replace hf := hf (by rw [hs]; rfl)
          obtain ⟨rfl, b1⟩ := b1
          clear hs hnx tree e3 e4 i1 i2 hb
          simp [*, zh, za]
         by_cases b2 : ot = false /\ 0 < x.els.length
         ·have hb : (ot || x.els.isEmpty) = false := by
           rw [b2.1, Bool.false_or]; cases hx : x.els.isEmpty
           ·rfl
           ·have := e4.1 hx; omega
          rw [hb] at hs
          replace hf := hf (by rw [hs]; simp)
          obtain ⟨rfl, b2⟩ := b2
          clear hs hnx tree e3 e4 i1 i2 hb
          cases th
          ·have b1' : ¬ 0 < x.thn.length := fun h => b1 ⟨rfl, h⟩
           clear b1
           simp [*, zh, za]
          ·clear b1
           simp [*, zh, za]
         have hb1 : (th || x.thn.isEmpty) = true := by
          cases th
          ·rw [Bool.false_or]; exact e3.2 (by by_cases h : 0 < x.thn.length; exact absurd ⟨rfl, h⟩ b1; omega)
          ·rfl
         have hb2 : (ot || x.els.isEmpty) = true := by
          cases ot
          ·rw [Bool.false_or]; exact e4.2 (by by_cases h : 0 < x.els.length; exact absurd ⟨rfl, h⟩ b2; omega)
          ·rfl
         rw [hb1, hb2] at hs
         clear e3 e4 tree hb1 hb2
         have b1' : th = true \/ (th = false /\ ¬ 0 < x.thn.length) := by
          cases th
          ·exact Or.inr ⟨rfl, fun h => b1 ⟨rfl, h⟩⟩
          ·exact Or.inl rfl
         have b2' : ot = true \/ (ot = false /\ ¬ 0 < x.els.length) := by
          cases ot
          ·exact Or.inr ⟨rfl, fun h => b2 ⟨rfl, h⟩⟩
          ·exact Or.inl rfl
         clear b1 b2
         cases q1 : zL x.thn (m - 1)
         ·rw [q1] at i1 hs
          replace hf := hf (by rw [hs]; rfl)
          clear hs hnx i2 q1
          rcases b1' with rfl | ⟨rfl, b1⟩ <;> rcases b2' with rfl | ⟨rfl, b2⟩ <;> simp [*, zh, za]
         ·rw [q1] at i1 hs
          cases q2 : zL x.els (m - 1)
          ·rw [q2] at i2 hs
           replace hf := hf (by rw [hs]; rfl)
           clear hs hnx q1 q2
           rcases b1' with rfl | ⟨rfl, b1⟩ <;> rcases b2' with rfl | ⟨rfl, b2⟩ <;> simp [*, zh, za]
          ·rw [q2] at i2 hs
           replace hnx := hnx (by rw [hs]; rfl)
           clear hs hf q1 q2
           rcases b1' with rfl | ⟨rfl, b1⟩ <;> rcases b2' with rfl | ⟨rfl, b2⟩ <;> simp [*, zh, za]
        ·have hd7 : decide (e.kind = 7) = false := decide_eq_false h7
         rw [hd7, Bool.false_and] at hs
         replace hf := hf hs
         replace hk := eqp hk
         replace h7 := eqn h7
         clear hdo hd7 hs hnx ht a1
         simp [*, za]
       ·have hdo : doR x.kind x.args = true := by simp [doR, hk]
        rw [hdo, Bool.true_and] at hs
        replace hk := eqn hk
        clear hdo ht a1
        have e3 : (x.thn.isEmpty = true <-> x.thn.length = 0) := by cases x.thn <;> simp
        have e4 : (x.els.isEmpty = true <-> x.els.length = 0) := by cases x.els <;> simp
        have tree : zBb x m = true \/ zBb x m = false := by cases zBb x m <;> simp
        by_cases b1 : th = false /\ 0 < x.thn.length
        ·have hb : (th || x.thn.isEmpty) = false := by
          rw [b1.1, Bool.false_or]; cases hx : x.thn.isEmpty
          ·rfl
          ·have := e3.1 hx; omega
         rw [hb] at hs
         replace hf := hf (by rw [hs]; rfl)
         obtain ⟨rfl, b1⟩ := b1
         clear hs hnx tree e3 e4 i1 i2 hb
         simp [*, zh, za]
        by_cases b2 : ot = false /\ 0 < x.els.length
        ·have hb : (ot || x.els.isEmpty) = false := by
          rw [b2.1, Bool.false_or]; cases hx : x.els.isEmpty
          ·rfl
          ·have := e4.1 hx; omega
         rw [hb] at hs
         replace hf := hf (by rw [hs]; simp)
         obtain ⟨rfl, b2⟩ := b2
         clear hs hnx tree e3 e4 i1 i2 hb
         cases th
         ·have b1' : ¬ 0 < x.thn.length := fun h => b1 ⟨rfl, h⟩
          clear b1
          simp [*, zh, za]
         ·clear b1
          simp [*, zh, za]
        have hb1 : (th || x.thn.isEmpty) = true := by
         cases th
         ·rw [Bool.false_or]; exact e3.2 (by by_cases h : 0 < x.thn.length; exact absurd ⟨rfl, h⟩ b1; omega)
         ·rfl
        have hb2 : (ot || x.els.isEmpty) = true := by
         cases ot
         ·rw [Bool.false_or]; exact e4.2 (by by_cases h : 0 < x.els.length; exact absurd ⟨rfl, h⟩ b2; omega)
         ·rfl
        rw [hb1, hb2] at hs
        clear e3 e4 tree hb1 hb2
        have b1' : th = true \/ (th = false /\ ¬ 0 < x.thn.length) := by
         cases th
         ·exact Or.inr ⟨rfl, fun h => b1 ⟨rfl, h⟩⟩
         ·exact Or.inl rfl
        have b2' : ot = true \/ (ot = false /\ ¬ 0 < x.els.length) := by
         cases ot
         ·exact Or.inr ⟨rfl, fun h => b2 ⟨rfl, h⟩⟩
         ·exact Or.inl rfl
        clear b1 b2
        cases q1 : zL x.thn (m - 1)
        ·rw [q1] at i1 hs
         replace hf := hf (by rw [hs]; rfl)
         clear hs hnx i2 q1
         rcases b1' with rfl | ⟨rfl, b1⟩ <;> rcases b2' with rfl | ⟨rfl, b2⟩ <;> simp [*, zh, za]
        ·rw [q1] at i1 hs
         cases q2 : zL x.els (m - 1)
         ·rw [q2] at i2 hs
          replace hf := hf (by rw [hs]; rfl)
          clear hs hnx q1 q2
          rcases b1' with rfl | ⟨rfl, b1⟩ <;> rcases b2' with rfl | ⟨rfl, b2⟩ <;> simp [*, zh, za]
         ·rw [q2] at i2 hs
          replace hnx := hnx (by rw [hs]; rfl)
          clear hs hf q1 q2
          rcases b1' with rfl | ⟨rfl, b1⟩ <;> rcases b2' with rfl | ⟨rfl, b2⟩ <;> simp [*, zh, za]
  ·intros s1 hp h1 h2 h3 h4
   simp at h1 h3
   clear h2
   simp [*]
end PE.U

namespace PE.U
open Go PE
def arrR (a : PArr) : Bool := znb a.name && (decide (1 <= a.size) && decide (a.size <= 1000))
def parR (p : Par) : Bool := znb p.name && (decide (p.type = 1) || decide (p.type = 2))
def zwd (f : Func) : Bool := znb f.name && ((decide (f.type = 1) || decide (f.type = 2)) && (decide (f.params.length <= 8) && (zL f.body 100 && f.params.all parR)))
def zKb (p : Prog) : Bool := p.arrays.all arrR && p.funcs.all zwd
theorem stmtsR_spec (l : List Stmt) (m : Int) (h : wtSs l < 1099508000000) (hm : m <= 1000000) : zi E 60 [zh l, .int .i64 m] [] = some (.ret (.bool (zL l m)), []) := stmtsR_spec' (wtSs l) l m (Nat.le_refl _) (by omega) hm
def PSz (p : Prog) : Prop := p.arrays.length < 1099509000000 /\ p.funcs.length < 1099509000000 /\ ∀ f ∈ p.funcs, wtSs f.body < 1099508000000 /\ f.params.length < 1099509000000
set_option maxHeartbeats 4000000 in
theorem right_spec (p : Prog) (hz : PSz p) : zi E 28 [zf p] [] = some (.ret (.bool (zKb p)), []) := by
 obtain ⟨z1, z2, z3⟩ := hz
 refine zc rfl rfl rfl (by simp [zf]) ?_
 simp [F28, zf, zka, funcs]
 refine zG p.arrays K28_0 B28_0 (fun d => [(3, .int .i64 d.length)]) (fun _ => []) (fun d => d.all arrR = true) (by omega) (by simp) ?_ ?_
 ·intros d x r s1 hl' hlt hget hget' hw hp h1 h2 h3 h4
  simp at h1 h2 h3
  have hf : arrR x = false -> zKb p = false := fun h => by
   unfold zKb; rw [hl'.eq]; simp [h]
  have hnx : arrR x = true -> (d ++ [x]).all arrR = true := fun h => by rw [List.all_append, hp]; simp [h]
  have e1 := zhd x.name []
  clear hl' hp
  cases c1 : znb x.name
  ·replace hf := hf (by unfold arrR; rw [c1]; rfl)
   rw [c1] at e1
   clear hnx
   simp [*, zR]
  ·rw [c1] at e1
   by_cases c2 : x.size < 1
   ·replace hf := hf (by unfold arrR; simp; omega)
    clear hnx
    simp [*, zR]
   ·by_cases c3 : 1000 < x.size
    ·replace hf := hf (by unfold arrR; simp; omega)
     clear hnx
     simp [*, zR]
    ·replace hnx := hnx (by unfold arrR; rw [c1]; simp; omega)
     clear hf
     simp [*, zR]
     all_goals (try grind)
 intros s1 hp h1 h2 h3 h4
 simp at h1 h2 h3
 have har : p.arrays.all arrR = true := hp
 clear hp
 simp [*]
 refine zG p.funcs K28_2 B28_2 (fun d => [(4, .int .i64 d.length)]) (fun _ => []) (fun d => d.all zwd = true) (by omega) (by simp) ?_ ?_
 ·intros d x r s2 hl' hlt hget hget' hw hp g1 g2 g3 g4
  simp at g1 g2 g3
  obtain ⟨y1, y2⟩ := z3 x hl'.mem
  have hf : zwd x = false -> zKb p = false := fun h => by
   unfold zKb; rw [har, hl'.eq]; simp [h]
  have hnx : zwd x = true -> (d ++ [x]).all zwd = true := fun h => by rw [List.all_append, hp]; simp [h]
  have e1 := zhd x.name []
  have e2 := rtype_spec x.type
  have e3 := stmtsR_spec x.body 100 y1 (by omega)
  have hp0 : True -> d.all zwd = true := fun _ => hp
  clear hl' hp har
  simp [zh] at e3
  generalize htt : (decide (x.type = 1) || decide (x.type = 2)) = tt at *
  have hq : zwd x = (znb x.name && (tt && (decide (x.params.length <= 8) && (zL x.body 100 && x.params.all parR)))) := by unfold zwd; rw [htt]
  clear htt
  cases c1 : znb x.name
  ·replace hf := hf (by rw [hq, c1]; rfl)
   rw [c1] at e1
   clear hnx hq
   simp [*, zm, parsV, zh]
  rw [c1] at e1
  cases tt
  ·replace hf := hf (by rw [hq]; simp)
   clear hnx hq
   simp [*, zm, parsV, zh]
  by_cases c2 : 8 < x.params.length
  ·replace hf := hf (by rw [hq]; simp; omega)
   have c2' : (8 : Int) < x.params.length := by omega
   clear hnx hq
   simp [*, zm, parsV, zh]
  have c2' : ¬ (8 : Int) < x.params.length := by omega
  cases c3 : zL x.body 100
  ·replace hf := hf (by rw [hq, c3]; simp)
   rw [c3] at e3
   clear hnx hq
   simp [*, zm, parsV, zh]
  rw [c3] at e3
  have hd8 : decide (x.params.length <= 8) = true := decide_eq_true (by omega)
  rw [c1, c3, hd8, Bool.true_and, Bool.true_and, Bool.true_and, Bool.true_and] at hq
  clear hd8
  simp [*, zm, parsV, zh]
  refine zG x.params K28_1 B28_1 (fun d => [(6, .int .i64 d.length)]) (fun _ => []) (fun d => d.all parR = true) (by omega) (by simp) ?_ ?_
  ·intros d2 y r2 s3 hl2 hlt2 hget2 hget2' hw2 hp2 k1 k2 k3 k4
   simp at k1 k2 k3
   have hfy : parR y = false -> zKb p = false := fun h => hf (by rw [hq, hl2.eq]; simp [h])
   have hny : parR y = true -> (d2 ++ [y]).all parR = true := fun h => by rw [List.all_append, hp2]; simp [h]
   have i1 := zhd y.name []
   have i2 := rtype_spec y.type
   generalize htt : (decide (y.type = 1) || decide (y.type = 2)) = tt at *
   have hqy : parR y = (znb y.name && tt) := by unfold parR; rw [htt]
   clear htt hl2 hp2 hq hf hnx e1 e2 e3
   cases c4 : znb y.name
   ·rw [c4] at i1
    replace hfy := hfy (by rw [hqy, c4]; rfl)
    clear hny hqy
    simp [*, encPar]
   ·rw [c4] at i1
    cases tt
    ·replace hfy := hfy (by rw [hqy]; simp)
     clear hny hqy
     simp [*, encPar]
    ·replace hny := hny (by rw [hqy, c4]; rfl)
     clear hfy hqy
     simp [*, encPar]
     all_goals (try grind)
  ·intros s3 hp2 k1 k2 k3 k4
   simp at k1 k2 k3
   replace hnx := hnx (by rw [hq]; exact hp2)
   replace hp0 := hp0 trivial
   clear hf hq e1 e2 e3
   simp only [List.all_eq_true] at hp0 hp2
   simp [*]
   first | exact hp2 | exact ⟨hp0, hp2⟩
 ·intros s2 hp g1 g2 g3 g4
  simp at g1 g2 g3
  have hr : zKb p = true := by unfold zKb; rw [har, hp]; rfl
  clear hp har
  simp [*]
end PE.U

namespace PE.U
open Go PE
theorem tblank_spec (k o n : Int) (s : List UInt8) (a : List Expr) : zi E 169 [.agg [.int .i64 k, .int .i64 o, .int .i64 n, .str s, zd a]] [] = some (.ret (.bool (decide (o = 0) && (decide (n = 0) && (decide (s = []) && decide (a = []))))), []) := by
 refine zc rfl rfl rfl (by simp) ?_
 have hl : ((a.length : Int) = 0) = (a = []) := by simp
 (simp [*, F169, zd]) <;> (repeat' ((first | refine sP _ ?_ ?_ | refine gP _ ?_ ?_ | refine sN _ ?_ ?_ | refine gN _ ?_ ?_ | refine sM _ ?_ ?_ | refine gM _ ?_ ?_ | refine sB _ ?_ ?_ | refine gB _ ?_ ?_) <;> intro hc <;> simp [*, F169, zd]))
def ownT (k o n : Int) (s : List UInt8) (a : Nat) : Int × Bool :=
 if k = 1 then (0, decide (0 <= n) && (decide (o = 0) && decide (s = [])))
 else if k = 2 then (0, (decide (n = 0) || decide (n = 1)) && (decide (o = 0) && decide (s = [])))
 else if k = 4 then (1, oneR o && (decide (n = 0) && decide (s = [])))
 else if k = 5 then (2, decide (0 < zge o) && (decide (n = 0) && decide (s = [])))
 else if k = 8 then (0, decide (o = 0) && (decide (n = 0) && decide (s = [])))
 else if k = 3 then (0, znb s && (decide (o = 0) && decide (n = 0)))
 else if k = 6 then (1, znb s && (decide (o = 0) && decide (n = 0)))
 else if k = 7 then (a, (znb s && (decide (o = 0) && decide (n = 0))) && decide (a <= 8))
 else (0, false)
set_option maxHeartbeats 4000000 in
theorem town_spec (e : Expr) : zi E 164 [zw e] [] = some (.ret (.tup [.int .i64 (ownT e.kind e.op e.n e.name e.args.length).1, .bool (ownT e.kind e.op e.n e.name e.args.length).2]), []) := by
 obtain ⟨k, o, n, s, a⟩ := e
 have hn := name_spec s []
 have hlv := level_spec o []
 rw [lvl_eq] at hlv
 have hb : ∀ k o n s, zi E 169 [.agg [.int .i64 k, .int .i64 o, .int .i64 n, .str s, .slice .plain 5 []]] [] = some (.ret (.bool (decide (o = 0) && (decide (n = 0) && decide (s = [])))), []) := by
  intro k o n s
  have := tblank_spec k o n s []
  simpa [zd] using this
 refine zc rfl rfl rfl (by simp [za]) ?_
 simp only
 unfold ownT
 by_cases k1 : k = 1
 ·replace k1 := eqp k1
  (simp [*, F164, za, zd]) <;> (repeat' (first | ((first | refine sP _ ?_ ?_ | refine gP _ ?_ ?_ | refine sN _ ?_ ?_ | refine gN _ ?_ ?_) <;> intro hc <;> (first | replace hc := eqn hc | replace hc := eqp hc) <;> simp [*, F164, za, zd]) | ((first | refine sM _ ?_ ?_ | refine gM _ ?_ ?_ | refine sB _ ?_ ?_ | refine gB _ ?_ ?_) <;> intro hc <;> simp [*, F164, za, zd])))
 replace k1 := eqn k1
 by_cases k2 : k = 2
 ·replace k2 := eqp k2
  (simp [*, F164, za, zd]) <;> (repeat' (first | ((first | refine sP _ ?_ ?_ | refine gP _ ?_ ?_ | refine sN _ ?_ ?_ | refine gN _ ?_ ?_) <;> intro hc <;> (first | replace hc := eqn hc | replace hc := eqp hc) <;> simp [*, F164, za, zd]) | ((first | refine sM _ ?_ ?_ | refine gM _ ?_ ?_ | refine sB _ ?_ ?_ | refine gB _ ?_ ?_) <;> intro hc <;> simp [*, F164, za, zd])))
 replace k2 := eqn k2
 by_cases k4 : k = 4
 ·replace k4 := eqp k4
  (simp [*, F164, za, zd, oneR]) <;> (repeat' (first | ((first | refine sP _ ?_ ?_ | refine gP _ ?_ ?_ | refine sN _ ?_ ?_ | refine gN _ ?_ ?_) <;> intro hc <;> (first | replace hc := eqn hc | replace hc := eqp hc) <;> simp [*, F164, za, zd, oneR]) | ((first | refine sM _ ?_ ?_ | refine gM _ ?_ ?_ | refine sB _ ?_ ?_ | refine gB _ ?_ ?_) <;> intro hc <;> simp [*, F164, za, zd, oneR])))
 replace k4 := eqn k4
 by_cases k5 : k = 5
 ·replace k5 := eqp k5
  (simp [*, F164, za, zd]) <;> (repeat' (first | ((first | refine sP _ ?_ ?_ | refine gP _ ?_ ?_ | refine sN _ ?_ ?_ | refine gN _ ?_ ?_) <;> intro hc <;> (first | replace hc := eqn hc | replace hc := eqp hc) <;> simp [*, F164, za, zd]) | ((first | refine sM _ ?_ ?_ | refine gM _ ?_ ?_ | refine sB _ ?_ ?_ | refine gB _ ?_ ?_) <;> intro hc <;> simp [*, F164, za, zd])))
 replace k5 := eqn k5
 by_cases k8 : k = 8
 ·replace k8 := eqp k8
  (simp [*, F164, za, zd]) <;> (repeat' (first | ((first | refine sP _ ?_ ?_ | refine gP _ ?_ ?_ | refine sN _ ?_ ?_ | refine gN _ ?_ ?_) <;> intro hc <;> (first | replace hc := eqn hc | replace hc := eqp hc) <;> simp [*, F164, za, zd]) | ((first | refine sM _ ?_ ?_ | refine gM _ ?_ ?_ | refine sB _ ?_ ?_ | refine gB _ ?_ ?_) <;> intro hc <;> simp [*, F164, za, zd])))
 replace k8 := eqn k8
 by_cases k3 : k = 3
 ·replace k3 := eqp k3
  (simp [*, F164, za, zd]) <;> (repeat' (first | ((first | refine sP _ ?_ ?_ | refine gP _ ?_ ?_ | refine sN _ ?_ ?_ | refine gN _ ?_ ?_) <;> intro hc <;> (first | replace hc := eqn hc | replace hc := eqp hc) <;> simp [*, F164, za, zd]) | ((first | refine sM _ ?_ ?_ | refine gM _ ?_ ?_ | refine sB _ ?_ ?_ | refine gB _ ?_ ?_) <;> intro hc <;> simp [*, F164, za, zd])))
 replace k3 := eqn k3
 by_cases k6 : k = 6
 ·replace k6 := eqp k6
  (simp [*, F164, za, zd]) <;> (repeat' (first | ((first | refine sP _ ?_ ?_ | refine gP _ ?_ ?_ | refine sN _ ?_ ?_ | refine gN _ ?_ ?_) <;> intro hc <;> (first | replace hc := eqn hc | replace hc := eqp hc) <;> simp [*, F164, za, zd]) | ((first | refine sM _ ?_ ?_ | refine gM _ ?_ ?_ | refine sB _ ?_ ?_ | refine gB _ ?_ ?_) <;> intro hc <;> simp [*, F164, za, zd])))
 replace k6 := eqn k6
 by_cases k7 : k = 7
 ·replace k7 := eqp k7
  (simp [*, F164, za, zd]) <;> (repeat' (first | ((first | refine sP _ ?_ ?_ | refine gP _ ?_ ?_ | refine sN _ ?_ ?_ | refine gN _ ?_ ?_) <;> intro hc <;> (first | replace hc := eqn hc | replace hc := eqp hc) <;> simp [*, F164, za, zd]) | ((first | refine sM _ ?_ ?_ | refine gM _ ?_ ?_ | refine sB _ ?_ ?_ | refine gB _ ?_ ?_) <;> intro hc <;> simp [*, F164, za, zd])))
  all_goals (try omega)
 replace k7 := eqn k7
 (simp [*, F164, za, zd]) <;> (repeat' (first | ((first | refine sP _ ?_ ?_ | refine gP _ ?_ ?_ | refine sN _ ?_ ?_ | refine gN _ ?_ ?_) <;> intro hc <;> (first | replace hc := eqn hc | replace hc := eqp hc) <;> simp [*, F164, za, zd]) | ((first | refine sM _ ?_ ?_ | refine gM _ ?_ ?_ | refine sB _ ?_ ?_ | refine gB _ ?_ ?_) <;> intro hc <;> simp [*, F164, za, zd])))
theorem own_kind (k o n : Int) (s : List UInt8) (a : Nat) : ((ownT k o n s a).2 && decide ((a : Int) = (ownT k o n s a).1)) = zCd k o n s a := by
 rw [Bool.eq_iff_iff]
 unfold ownT zCd
 by_cases k1 : k = 1
 ·subst k1; simp; grind
 by_cases k2 : k = 2
 ·subst k2; simp; grind
 by_cases k4 : k = 4
 ·subst k4; simp; grind
 by_cases k5 : k = 5
 ·subst k5; simp; grind
 by_cases k8 : k = 8
 ·subst k8; simp; grind
 by_cases k3 : k = 3
 ·subst k3; simp; grind
 by_cases k6 : k = 6
 ·subst k6; simp; grind
 by_cases k7 : k = 7
 ·subst k7; simp; grind
 simp [*]
theorem exprsR_all (l : List Expr) (m : Int) : zfb l m = l.all fun x => decide (2 <= m) && zTa x (m - 1) := by
 induction l with
 | nil => rfl
 | cons x r ih => simp [zfb, ih]
set_option maxHeartbeats 4000000 in
theorem texpr_spec' : ∀ w (e : Expr) (m : Int), wtE e <= w -> w < 1099511000000 -> m <= 1000000 -> zi E 154 [zw e, .int .i64 m] [] = some (.ret (.bool (decide (0 < m) && zTa e m)), [])
 | 0, e, m, h, _, _ => by rw [zEd] at h; omega
 | w + 1, e, m, h, hw, hm => by
  refine zc rfl rfl rfl (by simp [za]) ?_
  have hlen := zvc e.args
  rw [zEd] at h
  have ho := town_spec e
  have hk := own_kind e.kind e.op e.n e.name e.args.length
  have hR := exprR_eq e m
  rw [<- hk] at hR
  generalize ownT e.kind e.op e.n e.name e.args.length = q at *
  obtain ⟨n, ok⟩ := q
  simp only at ho hk hR
  clear hk
  by_cases h0 : 0 < m
  ·have hcl : ∀ x ∈ e.args, zi E 165 ([] ++ [zw x] ++ [.iptr [.int .i64 m] 0]) [] = some (.ret (.bool (!(decide (0 < m - 1) && zTa x (m - 1)))), []) := by
    intro x hx
    have hwx := zAb hx
    have ih := texpr_spec' w x (m - 1) (by omega) (by omega) (by omega)
    have hwm : zB .i64 (m - 1) = m - 1 := zj (by omega) (by omega)
    refine zc rfl rfl rfl (by simp [za]) ?_
    rw [za] at ih
    clear hR ho h hlen hwx hx
    simp [zd] at ih
    (simp [*, F165, za, zd]) <;> (repeat' ((first | refine sP _ ?_ ?_ | refine gP _ ?_ ?_ | refine sN _ ?_ ?_ | refine gN _ ?_ ?_ | refine sM _ ?_ ?_ | refine gM _ ?_ ?_ | refine sB _ ?_ ?_ | refine gB _ ?_ ?_) <;> intro hc <;> simp [*, F165, za, zd]))
   have hc := containsFuncExpr e.args (fun x => !(decide (0 < m - 1) && zTa x (m - 1))) 165 [] [.iptr [.int .i64 m] 0] [] (by omega) (by simp) hcl
   have hany : (!(e.args.any fun x => !(decide (0 < m - 1) && zTa x (m - 1)))) = zfb e.args m := by
    have h2 : decide (0 < m - 1) = decide (2 <= m) := by rw [decide_eq_decide]; omega
    rw [exprsR_all, List.not_any_eq_all_not, h2]
    simp
   generalize (e.args.any fun x => !(decide (0 < m - 1) && zTa x (m - 1))) = b at *
   rw [<- hany] at hR
   clear hcl h hlen hany
   rw [za] at ho
   simp [zd] at ho hc
   generalize hal : e.args.length = al at *
   (simp [*, F154, za, zd]) <;> (repeat' (first | ((first | refine sP _ ?_ ?_ | refine gP _ ?_ ?_ | refine sN _ ?_ ?_ | refine gN _ ?_ ?_) <;> intro hc <;> (first | replace hc := eqn hc | replace hc := eqp hc) <;> simp [*, F154, za, zd]) | ((first | refine sM _ ?_ ?_ | refine gM _ ?_ ?_ | refine sB _ ?_ ?_ | refine gB _ ?_ ?_) <;> intro hc <;> simp [*, F154, za, zd])))
  ·clear hlen h
   rw [za] at ho
   simp [zd] at ho
   (simp [*, F154, za, zd]) <;> (repeat' (first | ((first | refine sP _ ?_ ?_ | refine gP _ ?_ ?_ | refine sN _ ?_ ?_ | refine gN _ ?_ ?_) <;> intro hc <;> (first | replace hc := eqn hc | replace hc := eqp hc) <;> simp [*, F154, za, zd]) | ((first | refine sM _ ?_ ?_ | refine gM _ ?_ ?_ | refine sB _ ?_ ?_ | refine gB _ ?_ ?_) <;> intro hc <;> simp [*, F154, za, zd])))
theorem texpr_spec (e : Expr) (m : Int) (h : wtE e < 1099510000000) (hm : m <= 1000000) : zi E 154 [zw e, .int .i64 m] [] = some (.ret (.bool (decide (0 < m) && zTa e m)), []) := texpr_spec' (wtE e) e m (Nat.le_refl _) (by omega) hm
end PE.U

namespace PE.U
open Go PE
def zSb (t n : Bool) (a : Int) (th o : Bool) : PV := .agg [.bool t, .bool n, .int .i64 a, .bool th, .bool o]
def shapesL : List (PV × PV) := [(.int .i64 1, zSb true true 1 false false), (.int .i64 2, zSb false true 1 false false), (.int .i64 3, zSb false true 2 false false), (.int .i64 4, zSb false false 1 true true), (.int .i64 5, zSb false false 1 true false),
 (.int .i64 6, zSb false false 0 false false), (.int .i64 7, zSb false false 0 false false), (.int .i64 8, zSb false false 1 false false), (.int .i64 9, zSb false false 1 false false), (.int .i64 10, zSb false false 1 false false)]
set_option maxHeartbeats 1000000 in
theorem shapes_spec (σ : ze) : zi E 151 [] σ = some (.ret (.mp σ.length), σ ++ [.mp shapesL]) := by
 refine zc rfl rfl rfl (by simp) ?_
 simp [F151, shapesL, zSb]
theorem shapes_find (k : Int) : zV false (.int .i64 k) shapesL = some (if 1 <= k /\ k <= 10 then some (zSb (zQ k).1 (zQ k).2.1 (zQ k).2.2.1 (zQ k).2.2.2.1 (zQ k).2.2.2.2) else none) := by
 by_cases h : 1 <= k /\ k <= 10
 ·have : k = 1 \/ k = 2 \/ k = 3 \/ k = 4 \/ k = 5 \/ k = 6 \/ k = 7 \/ k = 8 \/ k = 9 \/ k = 10 := by omega
  rcases this with h | h | h | h | h | h | h | h | h | h <;> subst h <;> simp [shapesL, zQ, zSb]
 ·have h1 : ¬ k = 1 := by omega
  have h2 : ¬ k = 2 := by omega
  have h3 : ¬ k = 3 := by omega
  have h4 : ¬ k = 4 := by omega
  have h5 : ¬ k = 5 := by omega
  have h6 : ¬ k = 6 := by omega
  have h7 : ¬ k = 7 := by omega
  have h8 : ¬ k = 8 := by omega
  have h9 : ¬ k = 9 := by omega
  have h10 : ¬ k = 10 := by omega
  rw [if_neg h]
  simp [shapesL, *]
theorem tisType_spec (t : Int) (σ : ze) : zi E 110 [.int .i64 t] σ = some (.ret (.bool (decide (t = 1) || decide (t = 2))), σ) := by
 refine zc rfl rfl rfl (by simp) ?_
 (simp [*, F110]) <;> (repeat' ((first | refine sP _ ?_ ?_ | refine gP _ ?_ ?_ | refine sN _ ?_ ?_ | refine gN _ ?_ ?_ | refine sM _ ?_ ?_ | refine gM _ ?_ ?_ | refine sB _ ?_ ?_ | refine gB _ ?_ ?_) <;> intro hc <;> simp [*, F110]))
theorem argsR_all (l : List Expr) (st : ze) (h : wtEs l < 1099509000000) : zi E 152 [zd l, .fn 153 [] []] st = some (.ret (.bool (!zZd l)), st) := by
 have hlen := zvc l
 have hcl : ∀ x ∈ l, zi E 153 ([] ++ [zw x] ++ []) st = some (.ret (.bool (!zTa x 100)), st) := by
  intro x hx
  have hwx := zAb hx
  have ih := texpr_spec x 100 (by omega) (by omega)
  rw [za] at ih
  refine zc rfl rfl rfl (by simp [za]) ?_
  simp [zd] at ih
  (simp [*, F153, za, zd]) <;> (repeat' ((first | refine sP _ ?_ ?_ | refine gP _ ?_ ?_ | refine sN _ ?_ ?_ | refine gN _ ?_ ?_ | refine sM _ ?_ ?_ | refine gM _ ?_ ?_ | refine sB _ ?_ ?_ | refine gB _ ?_ ?_) <;> intro hc <;> simp [*, F153, za, zd]))
 have hc := containsFuncExpr l (fun x => !zTa x 100) 153 [] [] st (by omega) (by simp) hcl
 have : (l.any fun x => !zTa x 100) = !zZd l := by
  unfold zZd; rw [List.not_all_eq_any_not]
 rw [this] at hc
 exact hc
set_option maxHeartbeats 16000000 in
theorem tstmt_of (s : Stmt) (m : Int) (hm : m <= 1000000) (hw : wtS s < 1099509000000)
  (h1 : ∀ m', m' <= 1000000 -> zi E 112 [zh s.thn, .int .i64 m'] [] = some (.ret (.bool (zL s.thn m')), []))
  (h2 : ∀ m', m' <= 1000000 -> zi E 112 [zh s.els, .int .i64 m'] [] = some (.ret (.bool (zL s.els m')), [])) :
  zi E 134 [zda s, .int .i64 m] [] = some (.ret (.bool (zBb s m)), []) := by
 refine zc rfl rfl rfl (by simp [zb]) ?_
 have hs := shapes_spec []
 have hf := shapes_find s.kind
 have ht := tisType_spec s.type
 have hn := name_spec s.name
 have ha := argsR_all s.args [.mp shapesL] (by rw [zJa] at hw; omega)
 rw [zJa] at hw
 have hla := zvc s.args
 have hlt := zva s.thn
 have hle := zva s.els
 rw [stmtR_eq]
 unfold headR
 have hk : (1 <= s.kind /\ s.kind <= 10) \/ (zQ s.kind).2.2.1 = -1 := by
  by_cases h : 1 <= s.kind /\ s.kind <= 10
  ·exact Or.inl h
  ·right
   unfold zQ
   repeat' (first | rw [if_neg (by omega)] | rfl)
 by_cases hin : 1 <= s.kind /\ s.kind <= 10
 case neg =>
  rw [if_neg hin] at hf
  have hneg : (zQ s.kind).2.2.1 = -1 := by rcases hk with h | h; exact absurd h hin; exact h
  have hne : ¬ (s.args.length : Int) = -1 := by omega
  have hR : (decide (¬ (s.args.length : Int) = (zQ s.kind).2.2.1)) = true := by rw [hneg]; simp [hne]
  rw [hR]
  clear hk h1 h2 hR hneg hne hla hlt hle hw ht hn ha hin
  simp [*, F134, zb, zd, zh]
 rw [if_pos hin] at hf
 have hd : (s.kind = 10) -> ∃ e r, s.args = e :: r \/ ¬ (s.args.length : Int) = (zQ s.kind).2.2.1 := by
  intro hk
  rcases he : s.args with _ | ⟨e, r⟩
  ·refine ⟨⟨0, 0, 0, [], []⟩, [], Or.inr ?_⟩
   rw [hk]; simp [zQ]
  ·exact ⟨e, r, Or.inl rfl⟩
 clear hk hin
 generalize zQ s.kind = q at *
 obtain ⟨t, nm, n, th, ot⟩ := q
 simp only at hf ⊢
 have h1' := h1 (m - 1) (by omega)
 have h2' := h2 (m - 1) (by omega)
 clear h1 h2
 by_cases hm1 : m < 1
 ·replace hm1 := eqp hm1
  clear h1' h2' ht hn ha hd hla hlt hle hw
  simp [*, F134, zb, zd, zh, zSb]
 have hwm : zB .i64 (m - 1) = m - 1 := zj (by omega) (by omega)
 replace hm1 := eqn hm1
 by_cases hlen : (s.args.length : Int) = n
 case neg =>
  replace hlen := eqn hlen
  clear h1' h2' ht hn ha hd hla hlt hle hw
  simp [*, F134, zb, zd, zh, zSb]
 replace hd : (s.kind = 10) -> ∃ e r, s.args = e :: r := by
  intro hk
  obtain ⟨e, r, h | h⟩ := hd hk
  ·exact ⟨e, r, h⟩
  ·exact absurd hlen h
 replace hlen := eqp hlen
 have g1 : (0 < s.thn.length) = ¬ (s.thn = []) := by
  rcases s.thn with _ | ⟨x, r⟩ <;> simp
 have g2 : (0 < s.els.length) = ¬ (s.els = []) := by
  rcases s.els with _ | ⟨x, r⟩ <;> simp
 have i1 : s.thn.isEmpty = decide (s.thn = []) := by
  rcases s.thn with _ | ⟨x, r⟩ <;> rfl
 have i2 : s.els.isEmpty = decide (s.els = []) := by
  rcases s.els with _ | ⟨x, r⟩ <;> rfl
 clear hla hlt hle hw
 have ht0 : (s.type = 0) = True -> (decide (s.type = 1) || decide (s.type = 2)) = false := by intro h; rw [of_eq_true h]; decide
 generalize (decide (s.type = 1) || decide (s.type = 2)) = tt at *
 have hn0 : (s.name = []) = True -> znb s.name = false := by intro h; rw [of_eq_true h]; decide
 by_cases hk : s.kind = 10
 ·obtain ⟨e, r, hel⟩ := hd hk
  have hD : doR s.kind s.args = decide (e.kind = 7) := by rw [hel]; unfold doR; simp [hk]
  have hget : s.args[0]? = some e := by rw [hel]; rfl
  clear hd hel
  replace hk := eqp hk
  rw [hD]
  clear hD
  simp [zd, zh] at ha h1' h2'
  (simp [*, F134, zb, zd, zh, zSb, za]) <;> (repeat' (first | ((first | refine sP _ ?_ ?_ | refine gP _ ?_ ?_ | refine sN _ ?_ ?_ | refine gN _ ?_ ?_) <;> intro hc <;> (first | replace hc := eqn hc | replace hc := eqp hc) <;> simp [*, F134, zb, zd, zh, zSb, za]) | ((first | refine sM _ ?_ ?_ | refine gM _ ?_ ?_ | refine sB _ ?_ ?_ | refine gB _ ?_ ?_) <;> intro hc <;> simp [*, F134, zb, zd, zh, zSb, za])))
  all_goals (intros; first | exact hn0 (by assumption) | exact ht0 (by assumption) | exact ⟨ht0 (by assumption), hn0 (by assumption)⟩)
 ·clear hd
  replace hk := eqn hk
  have hD : doR s.kind s.args = true := by unfold doR; simp [hk]
  simp [zd, zh] at ha h1' h2'
  (simp [*, F134, zb, zd, zh, zSb]) <;> (repeat' (first | ((first | refine sP _ ?_ ?_ | refine gP _ ?_ ?_ | refine sN _ ?_ ?_ | refine gN _ ?_ ?_) <;> intro hc <;> (first | replace hc := eqn hc | replace hc := eqp hc) <;> simp [*, F134, zb, zd, zh, zSb]) | ((first | refine sM _ ?_ ?_ | refine gM _ ?_ ?_ | refine sB _ ?_ ?_ | refine gB _ ?_ ?_) <;> intro hc <;> simp [*, F134, zb, zd, zh, zSb])))
  all_goals (intros; first | exact hn0 (by assumption) | exact ht0 (by assumption) | exact ⟨ht0 (by assumption), hn0 (by assumption)⟩)
end PE.U

namespace PE.U
open Go PE
theorem tstmts_spec' : ∀ w (l : List Stmt) (m : Int), wtSs l <= w -> w < 1099508500000 -> m <= 1000000 -> zi E 112 [zh l, .int .i64 m] [] = some (.ret (.bool (zL l m)), [])
 | 0, l, m, h, hw, hm => by
  have hl : l = [] := by
   have := zva l
   exact List.eq_nil_of_length_eq_zero (by omega)
  subst hl
  refine zc rfl rfl rfl (by simp [zh]) ?_
  have hc := zIa [] (fun _ => true) 133 [] [.iptr [.int .i64 m] 0] [] (by simp) (by simp) (by simp)
  simp at hc
  simp [*, F112, zh, zL]
 | w + 1, l, m, h, hw, hm => by
  have hlen := zva l
  refine zc rfl rfl rfl (by simp [zh]) ?_
  have hcl : ∀ x ∈ l, zi E 133 ([] ++ [zda x] ++ [.iptr [.int .i64 m] 0]) [] = some (.ret (.bool (!zBb x m)), []) := by
   intro x hx
   have hwx := zSd hx
   have hwe := zJa x
   have ih := tstmt_of x m hm (by omega) (fun m' hm' => tstmts_spec' w x.thn m' (by omega) (by omega) hm') (fun m' hm' => tstmts_spec' w x.els m' (by omega) (by omega) hm')
   rw [zb] at ih
   clear hwe hwx hx h hlen
   refine zc rfl rfl rfl (by simp [zb]) ?_
   simp [zd, zh] at ih
   (simp [*, F133, zb, zd, zh]) <;> (repeat' ((first | refine sP _ ?_ ?_ | refine gP _ ?_ ?_ | refine sN _ ?_ ?_ | refine gN _ ?_ ?_ | refine sM _ ?_ ?_ | refine gM _ ?_ ?_ | refine sB _ ?_ ?_ | refine gB _ ?_ ?_) <;> intro hc <;> simp [*, F133, zb, zd, zh]))
  have hc := zIa l (fun x => !zBb x m) 133 [] [.iptr [.int .i64 m] 0] [] (by omega) (by simp) hcl
  have hR : (l.any fun x => !zBb x m) = !zL l m := by
   clear hcl hc h hlen
   induction l with
   | nil => rfl
   | cons x r ih => simp [zL, ih]
  rw [hR] at hc
  clear hcl hR
  simp [*, F112, zh]
theorem tstmts_spec (l : List Stmt) (m : Int) (h : wtSs l < 1099508000000) (hm : m <= 1000000) : zi E 112 [zh l, .int .i64 m] [] = some (.ret (.bool (zL l m)), []) := tstmts_spec' (wtSs l) l m (Nat.le_refl _) (by omega) hm
theorem tparam_spec (p : Par) (σ : ze) : zi E 109 [encPar p] σ = some (.ret (.bool (!parR p)), σ) := by
 refine zc rfl rfl rfl (by simp [encPar]) ?_
 have hn := name_spec p.name
 have ht := tisType_spec p.type
 unfold parR
 generalize (decide (p.type = 1) || decide (p.type = 2)) = tt at *
 (simp [*, F109, encPar]) <;> (repeat' ((first | refine sP _ ?_ ?_ | refine gP _ ?_ ?_ | refine sN _ ?_ ?_ | refine gN _ ?_ ?_ | refine sM _ ?_ ?_ | refine gM _ ?_ ?_ | refine sB _ ?_ ?_ | refine gB _ ?_ ?_) <;> intro hc <;> simp [*, F109, encPar]))
theorem tarr_spec (a : PArr) (σ : ze) : zi E 84 [zR a] σ = some (.ret (.bool (!arrR a)), σ) := by
 refine zc rfl rfl rfl (by simp [zR]) ?_
 have hn := name_spec a.name
 unfold arrR
 (simp [*, F84, zR]) <;> (repeat' ((first | refine sP _ ?_ ?_ | refine gP _ ?_ ?_ | refine sN _ ?_ ?_ | refine gN _ ?_ ?_ | refine sM _ ?_ ?_ | refine gM _ ?_ ?_ | refine sB _ ?_ ?_ | refine gB _ ?_ ?_) <;> intro hc <;> simp [*, F84, zR]))
 all_goals (try grind)
theorem tfunc_spec (f : Func) (h : wtSs f.body < 1099508000000 /\ f.params.length < 1099509000000) : zi E 89 [zm f] [] = some (.ret (.bool (zwd f)), []) := by
 refine zc rfl rfl rfl (by simp [zm]) ?_
 have hn := name_spec f.name
 have ht := tisType_spec f.type
 have hc := containsFuncPar f.params (fun p => !parR p) 109 [] [] [] (by omega) (by simp) (fun x _ => by simpa using tparam_spec x [])
 have hs := tstmts_spec f.body 100 h.1 (by omega)
 have hp : (f.params.any fun p => !parR p) = !f.params.all parR := by rw [List.not_all_eq_any_not]
 rw [hp] at hc
 unfold zwd
 have h8 : decide (f.params.length <= 8) = decide ((f.params.length : Int) <= 8) := by rw [decide_eq_decide]; omega
 rw [h8]
 generalize (decide (f.type = 1) || decide (f.type = 2)) = tt at *
 generalize f.params.all parR = pp at *
 clear h hp h8
 simp [zh] at hs hc
 (simp [*, F89, zm, parsV, zh]) <;> (repeat' (first | ((first | refine sP _ ?_ ?_ | refine gP _ ?_ ?_ | refine sN _ ?_ ?_ | refine gN _ ?_ ?_) <;> intro hc <;> (first | replace hc := eqn hc | replace hc := eqp hc) <;> simp [*, F89, zm, parsV, zh]) | ((first | refine sM _ ?_ ?_ | refine gM _ ?_ ?_ | refine sB _ ?_ ?_ | refine gB _ ?_ ?_) <;> intro hc <;> simp [*, F89, zm, parsV, zh])))
theorem tright_spec (p : Prog) (hz : PSz p) : zi E 61 [zf p] [] = some (.ret (.bool (zKb p)), []) := by
 obtain ⟨z1, z2, z3⟩ := hz
 refine zc rfl rfl rfl (by simp [zf]) ?_
 have ha := containsFuncPArr p.arrays (fun a => !arrR a) 84 [] [] [] (by omega) (by simp) (fun x _ => by simpa using tarr_spec x [])
 have hcl : ∀ x ∈ p.funcs, zi E 88 ([] ++ [zm x] ++ []) [] = some (.ret (.bool (!zwd x)), []) := by
  intro x hx
  have := tfunc_spec x (z3 x hx)
  refine zc rfl rfl rfl (by simp [zm]) ?_
  simp [zm, parsV, zh] at this
  clear ha
  (simp [*, F88, zm, parsV, zh]) <;> (repeat' ((first | refine sP _ ?_ ?_ | refine gP _ ?_ ?_ | refine sN _ ?_ ?_ | refine gN _ ?_ ?_ | refine sM _ ?_ ?_ | refine gM _ ?_ ?_ | refine sB _ ?_ ?_ | refine gB _ ?_ ?_) <;> intro hc <;> simp [*, F88, zm, parsV, zh]))
 have hf := containsFuncFunc p.funcs (fun x => !zwd x) 88 [] [] [] (by omega) (by simp) hcl
 have e1 : (p.arrays.any fun p => !arrR p) = !p.arrays.all arrR := by rw [List.not_all_eq_any_not]
 have e2 : (p.funcs.any fun p => !zwd p) = !p.funcs.all zwd := by rw [List.not_all_eq_any_not]
 rw [e1] at ha
 rw [e2] at hf
 unfold zKb
 generalize p.arrays.all arrR = x at *
 generalize p.funcs.all zwd = y at *
 clear e1 e2 hcl z1 z2 z3
 (simp [*, F61, zf, zka, funcs]) <;> (repeat' ((first | refine sP _ ?_ ?_ | refine gP _ ?_ ?_ | refine sN _ ?_ ?_ | refine gN _ ?_ ?_ | refine sM _ ?_ ?_ | refine gM _ ?_ ?_ | refine sB _ ?_ ?_ | refine gB _ ?_ ?_) <;> intro hc <;> simp [*, F61, zf, zka, funcs]))
end PE.U

namespace PE.U
open Go PE
structure Vr where
 name : List UInt8
 type : Int
 depth : Int
def zkb : List Vr -> PV
 | [] => .nilp
 | v :: r => .iptr [.str v.name, .int .i64 v.type, zkb r, .int .i64 v.depth] 0
@[simp] theorem encVs_nil : zkb [] = .nilp := Eq.trans rfl rfl
theorem zhc (v : Vr) (r : List Vr) : zkb (v :: r) = .iptr [.str v.name, .int .i64 v.type, zkb r, .int .i64 v.depth] 0 := Eq.trans rfl rfl
section
variable (l : List Vr)
@[simp high] theorem isVar_vs : zE (zkb l) = true := by cases l <;> rfl
@[simp high] theorem canon1_vs : canon1 (zkb l) = zkb l := by cases l <;> rfl
@[simp high] theorem strip_vs : strip (zkb l) = zkb l := by cases l <;> rfl
@[simp high] theorem stripA_vs : stripA (zkb l) = zkb l := by cases l <;> rfl
@[simp high] theorem cellsOf_vs : cellsOf (zkb l) = [zkb l] := by cases l <;> rfl
@[simp high] theorem avoids_vs (dead : List Nat) : zBd dead (zkb l) = true := by cases l <;> rfl
@[simp high] theorem below_vs (n : Nat) : zy n (zkb l) = true := by
 induction l with
 | nil => rfl
 | cons v r ih => rw [zhc]; simp [ih]
@[simp] theorem vs_ne_nil (ks : List Nat) : zca 3 ks .neq (zkb l) .nilp = some (.bool (!decide (l = []))) := by cases l <;> simp [zhc]
end
def zya (s : List Vr) (nm : List UInt8) : List Vr := s.dropWhile fun v => decide (¬ v.name = nm)
theorem zrb (v : Vr) (r : List Vr) (nm : List UInt8) : zya (v :: r) nm = if v.name = nm then v :: r else zya r nm := by
 unfold zya
 by_cases h : v.name = nm <;> simp [h]
theorem find_spec (s : List Vr) (nm : List UInt8) (σ : ze) : zi E 138 [zkb s, .str nm] σ = some (.ret (zkb (zya s nm)), σ) := by
 refine zc rfl rfl rfl (by simp) ?_
 simp [F138]
 refine zvb K138_0 B138_0 (fun c : List Vr => c.length) (fun c => [(0, zkb c)]) (fun c => []) (fun c => σ) (fun c => zya c nm = zya s nm) s (by simp) ?_
 rintro c s1 hc h1 h2 h3 h4 h5
 simp at h1 h3 h5
 clear h2 h4
 cases c with
 | nil =>
  rw [<- hc]
  simp at h3
  clear hc
  simp [*, zya]
 | cons v r =>
  rw [zhc] at h3
  rw [zrb] at hc
  by_cases hn : v.name = nm
  ·rw [if_pos hn] at hc
   rw [<- hc, zhc]
   replace hn := eqp hn
   clear hc
   (simp [*]) <;> (repeat' (first | ((first | refine sP _ ?_ ?_ | refine gP _ ?_ ?_ | refine sN _ ?_ ?_ | refine gN _ ?_ ?_) <;> intro hc <;> (first | replace hc := eqn hc | replace hc := eqp hc) <;> simp [*]) | ((first | refine sM _ ?_ ?_ | refine gM _ ?_ ?_ | refine sB _ ?_ ?_ | refine gB _ ?_ ?_) <;> intro hc <;> simp [*])))
  ·rw [if_neg hn] at hc
   replace hn := eqn hn
   simp [*]
   exact ⟨r, by simp, rfl, hc⟩
theorem with_spec (s : List Vr) (p : Par) (d : Int) (σ : ze) : zi E 91 [zkb s, encPar p, .int .i64 d] σ = some (.ret (zkb (⟨p.name, p.type, d⟩ :: s)), σ) := by
 refine zc rfl rfl rfl (by simp [encPar]) ?_
 simp [F91, encPar, zhc]
def zU (l : List Par) : List Vr := l.foldl (fun s p => ⟨p.name, p.type, 0⟩ :: s) []
theorem zId (l : List Par) (p : Par) : zU (l ++ [p]) = ⟨p.name, p.type, 0⟩ :: zU l := by simp [zU]
theorem scoped_spec (l : List Par) (σ : ze) (hl : l.length < 1099511627776) : zi E 65 [parsV l] σ = some (.ret (zkb (zU l)), σ) := by
 refine zc rfl rfl rfl (by simp [parsV]) ?_
 simp [F65, parsV]
 refine zG l K65_0 B65_0 (fun d => [(2, zkb (zU d)), (7, .int .i64 d.length)]) (fun _ => σ) (fun d => True) (by omega) (by simp [zU]) ?_ ?_
 ·intros d x r s1 hl' hlt hget hget' hw hp h1 h2 h3 h4
  simp at h1 h2 h3
  have hwi := with_spec (zU d) x 0 σ
  simp [encPar] at hwi
  simp [*, encPar, zId]
 ·intros s1 hp h1 h2 h3 h4
  simp at h1 h2 h3
  simp [*]
theorem zje (ok : Bool) (e : Int) (σ : ze) : zi E 115 [.bool ok, .int .i64 e] σ = some (.ret (.int .i64 (if ok then 0 else e)), σ) := by
 refine zc rfl rfl rfl (by simp) ?_
 (simp [*, F115]) <;> (repeat' ((first | refine sP _ ?_ ?_ | refine gP _ ?_ ?_ | refine sN _ ?_ ?_ | refine gN _ ?_ ?_ | refine sM _ ?_ ?_ | refine gM _ ?_ ?_ | refine sB _ ?_ ?_ | refine gB _ ?_ ?_) <;> intro hc <;> simp [*, F115]))
def takesT (op t : Int) : Int × Bool :=
 if op = 18 \/ op = 19 \/ op = 22 then (2, decide (t = 2))
 else if op = 16 \/ op = 17 then (2, true)
 else if op = 12 \/ op = 13 \/ op = 14 \/ op = 15 then (2, decide (t = 1))
 else (1, decide (t = 1))
set_option maxHeartbeats 1000000 in
theorem takes_spec (op t : Int) (σ : ze) : zi E 155 [.int .i64 op, .int .i64 t] σ = some (.ret (.tup [.int .i64 (takesT op t).1, .bool (takesT op t).2]), σ) := by
 refine zc rfl rfl rfl (by simp) ?_
 unfold takesT
 (simp [*, F155]) <;> (repeat' (first | ((first | refine sP _ ?_ ?_ | refine gP _ ?_ ?_ | refine sN _ ?_ ?_ | refine gN _ ?_ ?_) <;> intro hc <;> (first | replace hc := eqn hc | replace hc := eqp hc) <;> simp [*, F155]) | ((first | refine sM _ ?_ ?_ | refine gM _ ?_ ?_ | refine sB _ ?_ ?_ | refine gB _ ?_ ?_) <;> intro hc <;> simp [*, F155])))
theorem zTb {α : Type} (p : α -> Bool) (l : List α) : (idx p l = -1 /\ l.find? p = none) \/ ∃ (n : Nat) (f : α), idx p l = n /\ l[n]? = some f /\ l.find? p = some f /\ n < l.length /\ p f = true := by
 induction l with
 | nil => left; exact ⟨rfl, rfl⟩
 | cons x r ih =>
  cases hx : p x
  ·rcases ih with ⟨h1, h2⟩ | ⟨n, f, h1, h2, h3, h4, h5⟩
   ·left
    refine ⟨?_, by simp [hx, h2]⟩
    refine zNd fun y hy => ?_
    rcases List.mem_cons.1 hy with rfl | hy
    ·exact hx
    ·have := List.find?_eq_none.1 h2 y hy; simpa using this
   ·right
    refine ⟨n + 1, f, ?_, by simpa using h2, by simp [hx, h3], by simp; omega, h5⟩
    have : (x :: r).findIdx? p = (r.findIdx? p).map (· + 1) := by simp [List.findIdx?_cons, hx]
    unfold idx at h1 ⊢
    rw [this]
    cases h : r.findIdx? p with
    | none => rw [h] at h1; simp at h1 <;> omega
    | some i => rw [h] at h1; simp at h1 ⊢ <;> omega
  ·right
   refine ⟨0, x, ?_, rfl, by simp [hx], by simp, hx⟩
   unfold idx
   simp [List.findIdx?_cons, hx]
def zsa (p : Prog) (nm : List UInt8) : Int := idx (fun f : Func => decide (f.name = nm)) p.funcs
def zVa (p : Prog) (nm : List UInt8) : Int := idx (fun f : PArr => decide (f.name = nm)) p.arrays
theorem zde (p : Prog) (nm : List UInt8) (σ : ze) (hl : p.funcs.length < 1099511627776) : zi E 69 [zf p, .str nm] σ = some (.ret (.int .i64 (zsa p nm)), σ) := by
 refine zc rfl rfl rfl (by simp [zf]) ?_
 have hcl : ∀ x ∈ p.funcs, zi E 97 ([] ++ [zm x] ++ [.iptr [.str nm] 0]) σ = some (.ret (.bool (decide (x.name = nm))), σ) := by
  intro x hx
  refine zc rfl rfl rfl (by simp [zm]) ?_
  simp [F97, zm]
 have h := indexFuncFunc p.funcs _ 97 [] [.iptr [.str nm] 0] σ hl hcl
 clear hcl
 simp [*, F69, zf, zka, funcs, zsa]
theorem array_spec (p : Prog) (nm : List UInt8) (σ : ze) (hl : p.arrays.length < 1099511627776) : zi E 139 [zf p, .str nm] σ = some (.ret (.int .i64 (zVa p nm)), σ) := by
 refine zc rfl rfl rfl (by simp [zf]) ?_
 have hcl : ∀ x ∈ p.arrays, zi E 158 ([] ++ [zR x] ++ [.iptr [.str nm] 0]) σ = some (.ret (.bool (decide (x.name = nm))), σ) := by
  intro x hx
  refine zc rfl rfl rfl (by simp [zR]) ?_
  simp [F158, zR]
 have h := indexFuncPArr p.arrays _ 158 [] [.iptr [.str nm] 0] σ hl hcl
 clear hcl
 simp [*, F139, zf, zka, funcs, zVa]
end PE.U

namespace PE.U
open Go PE
def zAa (p : Prog) (nm : List UInt8) : Option Func := p.funcs.find? fun f : Func => decide (f.name = nm)
def zeb (p : Prog) (nm : List UInt8) : Bool := p.arrays.any fun a : PArr => decide (a.name = nm)
def zxb (p : Prog) (s : List Vr) (k : Int) (nm : List UInt8) (a : Nat) : Int :=
 if k = 3 then (if zya s nm = [] then 50 else 0)
 else if k = 6 then (if zeb p nm then 0 else 50)
 else if k = 7 then (match zAa p nm with
  | none => 50
  | some f => if f.params.length = a then 0 else 51)
 else 0
structure Fit (p : Prog) : Prop where
 a : p.arrays.length < 1099509000000
 f : p.funcs.length < 1099509000000
 p : ∀ f ∈ p.funcs, f.params.length < 1099509000000
theorem namedT_spec (p : Prog) (s : List Vr) (e : Expr) (σ : ze) (hz : Fit p) (hw : wtE e < 1099510000000) : zi E 135 [zf p, zkb s, zw e] σ = some (.ret (.int .i64 (zxb p s e.kind e.name e.args.length)), σ) := by
 have hla := zvc e.args
 rw [zEd] at hw
 refine zc rfl rfl rfl (by simp [zf, za]) ?_
 unfold zxb
 by_cases k3 : e.kind = 3
 ·replace k3 := eqp k3
  have h1 := find_spec s e.name σ
  have h2 := zje (!decide (zya s e.name = [])) 50 []
  by_cases hn : zya s e.name = []
  ·replace hn := eqp hn
   simp [hn] at h2
   (simp [*, F135, zf, za]) <;> (repeat' (first | ((first | refine sP _ ?_ ?_ | refine gP _ ?_ ?_ | refine sN _ ?_ ?_ | refine gN _ ?_ ?_) <;> intro hc <;> (first | replace hc := eqn hc | replace hc := eqp hc) <;> simp [*, F135, zf, za]) | ((first | refine sM _ ?_ ?_ | refine gM _ ?_ ?_ | refine sB _ ?_ ?_ | refine gB _ ?_ ?_) <;> intro hc <;> simp [*, F135, zf, za])))
  ·replace hn := eqn hn
   simp [hn] at h2
   (simp [*, F135, zf, za]) <;> (repeat' (first | ((first | refine sP _ ?_ ?_ | refine gP _ ?_ ?_ | refine sN _ ?_ ?_ | refine gN _ ?_ ?_) <;> intro hc <;> (first | replace hc := eqn hc | replace hc := eqp hc) <;> simp [*, F135, zf, za]) | ((first | refine sM _ ?_ ?_ | refine gM _ ?_ ?_ | refine sB _ ?_ ?_ | refine gB _ ?_ ?_) <;> intro hc <;> simp [*, F135, zf, za])))
 replace k3 := eqn k3
 by_cases k6 : e.kind = 6
 ·replace k6 := eqp k6
  have h1 := array_spec p e.name [] (by have := hz.a; omega)
  have h3 := idx_ge (fun f : PArr => decide (f.name = e.name)) p.arrays
  have h2 := zje (zeb p e.name) 50 []
  have h4 : decide (0 <= zVa p e.name) = zeb p e.name := h3
  simp [zf] at h1
  generalize zeb p e.name = b at *
  clear h3
  cases b
  ·simp at h2 h4
   replace h4 : (0 <= zVa p e.name) = False := by simpa using h4
   (simp [*, F135, zf, za]) <;> (repeat' (first | ((first | refine sP _ ?_ ?_ | refine gP _ ?_ ?_ | refine sN _ ?_ ?_ | refine gN _ ?_ ?_) <;> intro hc <;> (first | replace hc := eqn hc | replace hc := eqp hc) <;> simp [*, F135, zf, za]) | ((first | refine sM _ ?_ ?_ | refine gM _ ?_ ?_ | refine sB _ ?_ ?_ | refine gB _ ?_ ?_) <;> intro hc <;> simp [*, F135, zf, za])))
  ·simp at h2 h4
   replace h4 : (0 <= zVa p e.name) = True := by simpa using h4
   (simp [*, F135, zf, za]) <;> (repeat' (first | ((first | refine sP _ ?_ ?_ | refine gP _ ?_ ?_ | refine sN _ ?_ ?_ | refine gN _ ?_ ?_) <;> intro hc <;> (first | replace hc := eqn hc | replace hc := eqp hc) <;> simp [*, F135, zf, za]) | ((first | refine sM _ ?_ ?_ | refine gM _ ?_ ?_ | refine sB _ ?_ ?_ | refine gB _ ?_ ?_) <;> intro hc <;> simp [*, F135, zf, za])))
 replace k6 := eqn k6
 by_cases k7 : e.kind = 7
 ·replace k7 := eqp k7
  have h1 := zde p e.name [] (by have := hz.f; omega)
  simp [zf, funcs] at h1
  rcases zTb (fun f : Func => decide (f.name = e.name)) p.funcs with ⟨a1, a2⟩ | ⟨n, f, a1, a2, a3, a4, a5⟩
  ·have a1 : zsa p e.name = -1 := a1
   have a2 : zAa p e.name = none := a2
   rw [a1] at h1
   (simp [*, F135, zf, za, funcs]) <;> (repeat' (first | ((first | refine sP _ ?_ ?_ | refine gP _ ?_ ?_ | refine sN _ ?_ ?_ | refine gN _ ?_ ?_) <;> intro hc <;> (first | replace hc := eqn hc | replace hc := eqp hc) <;> simp [*, F135, zf, za, funcs]) | ((first | refine sM _ ?_ ?_ | refine gM _ ?_ ?_ | refine sB _ ?_ ?_ | refine gB _ ?_ ?_) <;> intro hc <;> simp [*, F135, zf, za, funcs])))
  ·have a1 : zsa p e.name = n := a1
   have a3 : zAa p e.name = some f := a3
   rw [a1] at h1
   have hp := hz.p f (List.mem_of_getElem? a2)
   have hf := hz.f
   have n0 : ¬ ((n : Int) < 0) := by omega
   have hlen : decide ((f.params.length : Int) = e.args.length) = decide (f.params.length = e.args.length) := by rw [decide_eq_decide]; omega
   have h2 := zje (decide (f.params.length = e.args.length)) 51 []
   by_cases hq : f.params.length = e.args.length
   ·replace hq := eqp hq
    simp [hq] at h2 hlen
    replace hlen := eqp hlen
    clear a5 a4 a1
    (simp [*, F135, zf, za, funcs, zd, zm, parsV]) <;> (repeat' (first | ((first | refine sP _ ?_ ?_ | refine gP _ ?_ ?_ | refine sN _ ?_ ?_ | refine gN _ ?_ ?_) <;> intro hc <;> (first | replace hc := eqn hc | replace hc := eqp hc) <;> simp [*, F135, zf, za, funcs, zd, zm, parsV]) | ((first | refine sM _ ?_ ?_ | refine gM _ ?_ ?_ | refine sB _ ?_ ?_ | refine gB _ ?_ ?_) <;> intro hc <;> simp [*, F135, zf, za, funcs, zd, zm, parsV])))
   ·replace hq := eqn hq
    simp [hq] at h2 hlen
    replace hlen : ((f.params.length : Int) = e.args.length) = False := by simpa using hlen
    clear a5 a4 a1
    (simp [*, F135, zf, za, funcs, zd, zm, parsV]) <;> (repeat' (first | ((first | refine sP _ ?_ ?_ | refine gP _ ?_ ?_ | refine sN _ ?_ ?_ | refine gN _ ?_ ?_) <;> intro hc <;> (first | replace hc := eqn hc | replace hc := eqp hc) <;> simp [*, F135, zf, za, funcs, zd, zm, parsV]) | ((first | refine sM _ ?_ ?_ | refine gM _ ?_ ?_ | refine sB _ ?_ ?_ | refine gB _ ?_ ?_) <;> intro hc <;> simp [*, F135, zf, za, funcs, zd, zm, parsV])))
 replace k7 := eqn k7
 (simp [*, F135, zf, za]) <;> (repeat' (first | ((first | refine sP _ ?_ ?_ | refine gP _ ?_ ?_ | refine sN _ ?_ ?_ | refine gN _ ?_ ?_) <;> intro hc <;> (first | replace hc := eqn hc | replace hc := eqp hc) <;> simp [*, F135, zf, za]) | ((first | refine sM _ ?_ ?_ | refine gM _ ?_ ?_ | refine sB _ ?_ ?_ | refine gB _ ?_ ?_) <;> intro hc <;> simp [*, F135, zf, za])))
theorem param_eq_spec (t : Int) (p : Par) (σ : ze) : zi E 157 [.int .i64 t, encPar p] σ = some (.ret (.bool (decide (t = p.type))), σ) := by
 refine zc rfl rfl rfl (by simp [encPar]) ?_
 simp [F157, encPar]
theorem types_eq {l : List Int} {ps : List Par} (h : l.length = ps.length) : decide (l = ps.map (·.type)) = (l.zip ps).all fun x => decide (x.1 = x.2.type) := by
 induction l generalizing ps with
 | nil => cases ps <;> simp at h ⊢
 | cons x r ih =>
  cases ps with
  | nil => simp at h
  | cons y q =>
   simp at h
   simp only [List.zip_cons_cons, List.all_cons, <- ih h, List.map_cons, List.cons.injEq, Bool.decide_and]
theorem equal_spec (l : List Int) (ps : List Par) (σ : ze) (hl : ps.length < 1099511000000) : zi E 156 [.slice .plain 1 (l.map (PV.int .i64)), parsV ps, .fn 157 [] []] σ = some (.ret (.bool (decide (l = ps.map (·.type)))), σ) := by
 refine zc rfl rfl rfl (by simp [parsV]) ?_
 by_cases hlen : l.length = ps.length
 ·have he := types_eq hlen
  rw [he]
  have hleni : ((l.length : Int) = ps.length) = True := eqp (by omega)
  simp [F156, parsV, hleni]
  clear he hleni
  refine zG (l.zip ps) K156_0 B156_0 (fun d => [(17, .int .i64 d.length)]) (fun _ => σ) (fun d => (d.all fun x => decide (x.1 = x.2.type)) = true) (by simp; omega) (by simp) ?_ ?_
  ·intros d x r s1 hl' hlt hget hget' hw hp h1 h2 h3 h4
   simp at h1 h2 h3
   have hz : (l.zip ps)[d.length]? = some x := hget
   rw [List.getElem?_zip_eq_some] at hz
   obtain ⟨z1, z2⟩ := hz
   obtain ⟨x1, x2⟩ := x
   simp only at z1 z2
   have hc := param_eq_spec x1 x2 σ
   simp [encPar] at hc
   have hz2 : (l.zip ps).length = l.length := by simp [hlen]
   have hlt' : (d.length : Int) < ps.length := by rw [hz2] at hlt; omega
   clear hget' hlt hz2
   by_cases hx : x1 = x2.type
   ·replace hp : ((d ++ [(x1, x2)]).all fun x => decide (x.1 = x.2.type)) = true := by rw [List.all_append, hp]; simp [hx]
    replace hx := eqp hx
    clear hl' hget
    simp [*, encPar]
    all_goals (try grind)
   ·have hf : ((l.zip ps).all fun x => decide (x.1 = x.2.type)) = false := by rw [hl'.eq]; simp [hx]
    replace hx := eqn hx
    clear hl' hget hp
    simp [*, encPar]
    all_goals (try grind)
  ·intros s1 hp h1 h2 h3 h4
   simp at h1 h2 h3
   have hz2 : (l.zip ps).length = l.length := by simp [hlen]
   simp [*]
   all_goals (try grind)
 ·have hq : ¬ (l = ps.map (·.type)) := by intro h; apply hlen; rw [h]; simp
  have hleni : ((l.length : Int) = ps.length) = False := eqn (by omega)
  replace hq := eqn hq
  simp [*, F156, parsV]
def at0 (l : List Int) : Int := l[0]?.getD 0
def at1 (l : List Int) : Int := l[1]?.getD 0
def ztd (p : Prog) (s : List Vr) (k o : Int) (nm : List UInt8) (l : List Int) : Int × Bool :=
 if k = 2 then (2, true)
 else if k = 3 then (((zya s nm).head?.map (·.type)).getD 0, true)
 else if k = 6 then (1, decide (at0 l = 1))
 else if k = 4 then takesT o (at0 l)
 else if k = 5 then ((takesT o (at0 l)).1, (takesT o (at0 l)).2 && decide (at0 l = at1 l))
 else if k = 7 then (match zAa p nm with
  | none => (0, false)
  | some f => (f.type, decide (l = f.params.map (·.type))))
 else (1, true)
set_option maxHeartbeats 4000000 in
theorem madeT_spec (p : Prog) (s : List Vr) (e : Expr) (l : List Int) (σ : ze) (hz : Fit p) (h0 : zxb p s e.kind e.name e.args.length = 0) (hk : zCd e.kind e.op e.n e.name l.length = true) : zi E 137 [zf p, zkb s, zw e, .slice .plain 1 (l.map (PV.int .i64))] σ = some (.ret (.tup [.int .i64 (ztd p s e.kind e.op e.name l).1, .bool (ztd p s e.kind e.op e.name l).2]), σ) := by
 refine zc rfl rfl rfl (by simp [zf, za]) ?_
 unfold ztd
 by_cases k2 : e.kind = 2
 ·replace k2 := eqp k2
  clear h0 hk
  (simp [*, F137, zf, za]) <;> (repeat' (first | ((first | refine sP _ ?_ ?_ | refine gP _ ?_ ?_ | refine sN _ ?_ ?_ | refine gN _ ?_ ?_) <;> intro hc <;> (first | replace hc := eqn hc | replace hc := eqp hc) <;> simp [*, F137, zf, za]) | ((first | refine sM _ ?_ ?_ | refine gM _ ?_ ?_ | refine sB _ ?_ ?_ | refine gB _ ?_ ?_) <;> intro hc <;> simp [*, F137, zf, za])))
 by_cases k3 : e.kind = 3
 ·have h1 := find_spec s e.name σ
  have hn : ¬ zya s e.name = [] := by
   intro h; unfold zxb at h0; rw [if_pos k3, if_pos h] at h0; exact absurd h0 (by decide)
  obtain ⟨v, r, hv⟩ := List.exists_cons_of_ne_nil hn
  rw [hv, zhc] at h1
  replace k2 := eqn k2
  replace k3 := eqp k3
  clear h0 hk hn
  (simp [*, F137, zf, za]) <;> (repeat' (first | ((first | refine sP _ ?_ ?_ | refine gP _ ?_ ?_ | refine sN _ ?_ ?_ | refine gN _ ?_ ?_) <;> intro hc <;> (first | replace hc := eqn hc | replace hc := eqp hc) <;> simp [*, F137, zf, za]) | ((first | refine sM _ ?_ ?_ | refine gM _ ?_ ?_ | refine sB _ ?_ ?_ | refine gB _ ?_ ?_) <;> intro hc <;> simp [*, F137, zf, za])))
 by_cases k6 : e.kind = 6
 ·have hl : l.length = 1 := by
   unfold zCd at hk; simp [k2, k3, k6] at hk; exact hk.2.2
  obtain ⟨x, rfl⟩ := List.length_eq_one_iff.1 hl
  replace k2 := eqn k2
  replace k3 := eqn k3
  replace k6 := eqp k6
  clear h0 hk hl
  (simp [*, F137, zf, za, at0]) <;> (repeat' (first | ((first | refine sP _ ?_ ?_ | refine gP _ ?_ ?_ | refine sN _ ?_ ?_ | refine gN _ ?_ ?_) <;> intro hc <;> (first | replace hc := eqn hc | replace hc := eqp hc) <;> simp [*, F137, zf, za, at0]) | ((first | refine sM _ ?_ ?_ | refine gM _ ?_ ?_ | refine sB _ ?_ ?_ | refine gB _ ?_ ?_) <;> intro hc <;> simp [*, F137, zf, za, at0])))
 by_cases k4 : e.kind = 4
 ·have hl : l.length = 1 := by
   unfold zCd at hk; simp [k2, k3, k6, k4] at hk; exact hk.2.2.2
  obtain ⟨x, rfl⟩ := List.length_eq_one_iff.1 hl
  have ht := takes_spec e.op x []
  replace k2 := eqn k2
  replace k3 := eqn k3
  replace k6 := eqn k6
  replace k4 := eqp k4
  clear h0 hk hl
  (simp [*, F137, zf, za, at0]) <;> (repeat' (first | ((first | refine sP _ ?_ ?_ | refine gP _ ?_ ?_ | refine sN _ ?_ ?_ | refine gN _ ?_ ?_) <;> intro hc <;> (first | replace hc := eqn hc | replace hc := eqp hc) <;> simp [*, F137, zf, za, at0]) | ((first | refine sM _ ?_ ?_ | refine gM _ ?_ ?_ | refine sB _ ?_ ?_ | refine gB _ ?_ ?_) <;> intro hc <;> simp [*, F137, zf, za, at0])))
 by_cases k5 : e.kind = 5
 ·have hl : l.length = 2 := by
   unfold zCd at hk; simp [k2, k3, k6, k4, k5] at hk; exact hk.2.2.2
  obtain ⟨x, y, rfl⟩ : ∃ x y, l = [x, y] := by
   match l, hl with
   | [x, y], _ => exact ⟨x, y, rfl⟩
  have ht := takes_spec e.op x []
  replace k2 := eqn k2
  replace k3 := eqn k3
  replace k6 := eqn k6
  replace k4 := eqn k4
  replace k5 := eqp k5
  clear h0 hk hl
  (simp [*, F137, zf, za, at0, at1]) <;> (repeat' (first | ((first | refine sP _ ?_ ?_ | refine gP _ ?_ ?_ | refine sN _ ?_ ?_ | refine gN _ ?_ ?_) <;> intro hc <;> (first | replace hc := eqn hc | replace hc := eqp hc) <;> simp [*, F137, zf, za, at0, at1]) | ((first | refine sM _ ?_ ?_ | refine gM _ ?_ ?_ | refine sB _ ?_ ?_ | refine gB _ ?_ ?_) <;> intro hc <;> simp [*, F137, zf, za, at0, at1])))
 by_cases k7 : e.kind = 7
 ·have h1 := zde p e.name [] (by have := hz.f; omega)
  simp [zf, funcs] at h1
  rcases zTb (fun f : Func => decide (f.name = e.name)) p.funcs with ⟨a1, a2⟩ | ⟨n, f, a1, a2, a3, a4, a5⟩
  ·have a2 : zAa p e.name = none := a2
   unfold zxb at h0
   rw [if_neg k3, if_neg k6, if_pos k7, a2] at h0
   exact absurd h0 (by simp)
  ·have a1 : zsa p e.name = n := a1
   have a3 : zAa p e.name = some f := a3
   rw [a1] at h1
   have hq := equal_spec l f.params σ (by have := hz.p f (List.mem_of_getElem? a2); omega)
   simp [parsV] at hq
   have n0 : ¬ ((n : Int) < 0) := by omega
   replace k2 := eqn k2
   replace k3 := eqn k3
   replace k6 := eqn k6
   replace k4 := eqn k4
   replace k5 := eqn k5
   replace k7 := eqp k7
   clear h0 hk a5 a4 a1
   (simp [*, F137, zf, za, funcs, zm, parsV, zh]) <;> (repeat' (first | ((first | refine sP _ ?_ ?_ | refine gP _ ?_ ?_ | refine sN _ ?_ ?_ | refine gN _ ?_ ?_) <;> intro hc <;> (first | replace hc := eqn hc | replace hc := eqp hc) <;> simp [*, F137, zf, za, funcs, zm, parsV, zh]) | ((first | refine sM _ ?_ ?_ | refine gM _ ?_ ?_ | refine sB _ ?_ ?_ | refine gB _ ?_ ?_) <;> intro hc <;> simp [*, F137, zf, za, funcs, zm, parsV, zh])))
 replace k2 := eqn k2
 replace k3 := eqn k3
 replace k6 := eqn k6
 replace k4 := eqn k4
 replace k5 := eqn k5
 replace k7 := eqn k7
 clear h0 hk
 (simp [*, F137, zf, za]) <;> (repeat' (first | ((first | refine sP _ ?_ ?_ | refine gP _ ?_ ?_ | refine sN _ ?_ ?_ | refine gN _ ?_ ?_) <;> intro hc <;> (first | replace hc := eqn hc | replace hc := eqp hc) <;> simp [*, F137, zf, za]) | ((first | refine sM _ ?_ ?_ | refine gM _ ?_ ?_ | refine sB _ ?_ ?_ | refine gB _ ?_ ?_) <;> intro hc <;> simp [*, F137, zf, za])))
mutual
def zDb (p : Prog) (s : List Vr) : Expr -> Int × Int
 | ⟨k, o, n, nm, a⟩ =>
  if zxb p s k nm a.length ≠ 0 then (0, zxb p s k nm a.length)
  else if (zGa p s a).2 ≠ 0 then (0, (zGa p s a).2)
  else if (ztd p s k o nm (zGa p s a).1).2 then ((ztd p s k o nm (zGa p s a).1).1, 0) else (0, 51)
def zGa (p : Prog) (s : List Vr) : List Expr -> List Int × Int
 | [] => ([], 0)
 | x :: r => if (zDb p s x).2 ≠ 0 then ([], (zDb p s x).2) else if (zGa p s r).2 ≠ 0 then ([], (zGa p s r).2) else ((zDb p s x).1 :: (zGa p s r).1, 0)
end
theorem exprT_eq (p : Prog) (s : List Vr) (e : Expr) : zDb p s e = if zxb p s e.kind e.name e.args.length ≠ 0 then (0, zxb p s e.kind e.name e.args.length)
  else if (zGa p s e.args).2 ≠ 0 then (0, (zGa p s e.args).2)
  else if (ztd p s e.kind e.op e.name (zGa p s e.args).1).2 then ((ztd p s e.kind e.op e.name (zGa p s e.args).1).1, 0) else (0, 51) := by
 cases e; rw [zDb]
theorem argsT_len (p : Prog) (s : List Vr) : ∀ l, (zGa p s l).2 = 0 -> (zGa p s l).1.length = l.length
 | [], _ => by simp [zGa]
 | x :: r, h => by
  simp only [zGa] at h ⊢
  split at h
  ·rename_i h1; exact absurd h h1
  rename_i h1
  rw [if_neg h1]
  split at h
  ·rename_i h2; exact absurd h h2
  rename_i h2
  rw [if_neg h2]
  simp only [List.length_cons]
  rw [argsT_len p s r (by simpa using h2)]
theorem argsT_pre (p : Prog) (s : List Vr) (x : Expr) (r : List Expr) : ∀ d, (zGa p s d).2 = 0 →
  ((zDb p s x).2 ≠ 0 -> zGa p s (d ++ x :: r) = ([], (zDb p s x).2)) /\ ((zDb p s x).2 = 0 -> zGa p s (d ++ [x]) = ((zGa p s d).1 ++ [(zDb p s x).1], 0))
 | [], h => by
  constructor
  ·intro hx; simp [zGa, hx]
  ·intro hx; simp [zGa, hx]
 | y :: d, h => by
  simp only [zGa] at h
  split at h
  ·rename_i h1; exact absurd h h1
  rename_i h1
  split at h
  ·rename_i h2; exact absurd h h2
  rename_i h2
  obtain ⟨i1, i2⟩ := argsT_pre p s x r d (by simpa using h2)
  constructor
  ·intro hx
   have := i1 hx
   simp only [List.cons_append, zGa]
   rw [if_neg h1, this]
   simp [hx]
  ·intro hx
   have := i2 hx
   simp only [List.cons_append, zGa]
   rw [if_neg h1, if_neg h2, this, if_neg h1]
   simp
def zbb (r : Int × Int) : PV := .tup [.int .i64 r.1, .int .i64 r.2]
set_option maxHeartbeats 4000000 in
theorem targs_of (p : Prog) (s : List Vr) (e : Expr) (m : Int) (σ : ze) (hz : Fit p) (hw : wtE e < 1099510000000) (hm : zfb e.args m = true)
  (IH : ∀ x ∈ e.args, ∀ m, zTa x m = true -> zi E 114 [zf p, zkb s, zw x] σ = some (.ret (zbb (zDb p s x)), σ)) :
  zi E 136 [zf p, zkb s, zw e] σ = some (.ret (.tup [.slice .plain 1 ((zGa p s e.args).1.map (PV.int .i64)), .int .i64 (zGa p s e.args).2]), σ) := by
 have hla := zvc e.args
 rw [zEd] at hw
 refine zc rfl rfl rfl (by simp [zf, za]) ?_
 simp [F136, zf, za, zd]
 refine zG e.args K136_0 B136_0 (fun d => [(6, acc 1 ((zGa p s d).1.map (PV.int .i64))), (15, .int .i64 d.length)]) (fun _ => σ) (fun d => (zGa p s d).2 = 0) (by omega) (by simp [zGa]) ?_ ?_
 ·intros d x r s1 hl' hlt hget hget' hw1 hp h1 h2 h3 h4
  have hx : zTa x (m - 1) = true := by
   rw [exprsR_all, List.all_eq_true] at hm
   have := hm x hl'.mem
   simp at this; exact this.2
  have ih := IH x hl'.mem _ hx
  have hlen := argsT_len p s d hp
  obtain ⟨f1, f2⟩ := argsT_pre p s x r d hp
  rw [<- hl'.eq] at f1
  clear IH hm hx hl'
  simp [zbb, zf] at ih
  rw [za] at ih
  simp [zd] at ih
  simp at h1 h2 h3
  have hroom : (d.length + 1) * 8 <= zu := by simp only [zu]; omega
  generalize zDb p s x = q at *
  obtain ⟨t, f⟩ := q
  simp only at ih f1 f2
  by_cases hf : f = 0
  ·subst hf
   have f2 := f2 rfl
   clear f1
   simp [*, za, zd]
   all_goals (try grind)
  ·have f1 := f1 hf
   clear f2
   replace hf := eqn hf
   simp [*, za, zd]
 ·intros s1 hp h1 h2 h3 h4
  simp at h1 h2 h3
  clear IH hm
  simp [*]
theorem type_spec' : ∀ w (p : Prog) (s : List Vr) (e : Expr) (m : Int) (σ : ze), Fit p -> wtE e <= w -> w < 1099510000000 -> zTa e m = true -> zi E 114 [zf p, zkb s, zw e] σ = some (.ret (zbb (zDb p s e)), σ)
 | 0, p, s, e, m, σ, _, h, _, _ => by rw [zEd] at h; omega
 | w + 1, p, s, e, m, σ, hz, h, hw, hR => by
  rw [exprR_eq, Bool.and_eq_true] at hR
  obtain ⟨hm, hk⟩ := hR
  have ha := targs_of p s e m σ hz (by omega) hm (fun x hx m' hm' => type_spec' w p s x m' σ hz (by have := zAb hx; rw [zEd] at h; omega) (by omega) hm')
  have hn := namedT_spec p s e σ hz (by omega)
  have hmd := madeT_spec p s e (zGa p s e.args).1 σ hz
  have hlen := argsT_len p s e.args
  refine zc rfl rfl rfl (by simp [zf, za]) ?_
  rw [exprT_eq]
  generalize zxb p s e.kind e.name e.args.length = f at *
  by_cases hf : f = 0
  ·replace hmd := hmd hf
   subst hf
   generalize zGa p s e.args = q at *
   obtain ⟨l, g⟩ := q
   simp only at ha hmd hlen ⊢
   by_cases hg : g = 0
   ·subst hg
    rw [<- hlen rfl] at hk
    replace hmd := hmd hk
    generalize ztd p s e.kind e.op e.name l = r at *
    obtain ⟨t, ok⟩ := r
    simp only at hmd ⊢
    clear hlen hk hm h
    rw [za] at ha hn hmd
    simp [zf, zd] at ha hn hmd
    cases ok <;> simp [*, F114, zf, za, zd, zbb]
   ·clear hmd hlen hk hm h
    replace hg := eqn hg
    rw [za] at ha hn
    simp [zf, zd] at ha hn
    simp [*, F114, zf, za, zd, zbb]
  ·clear hmd hlen hk hm h ha
   replace hf := eqn hf
   rw [za] at hn
   simp [zf, zd] at hn
   simp [*, F114, zf, za, zd, zbb]
theorem type_spec (p : Prog) (s : List Vr) (e : Expr) (m : Int) (σ : ze) (hz : Fit p) (hw : wtE e < 1099510000000) (hR : zTa e m = true) : zi E 114 [zf p, zkb s, zw e] σ = some (.ret (zbb (zDb p s e)), σ) :=
 type_spec' (wtE e) p s e m σ hz (Nat.le_refl _) hw hR
end PE.U

namespace PE.U
open Go PE
def e0 : Expr := ⟨0, 0, 0, [], []⟩
def arg0 (l : List Expr) : Expr := l[0]?.getD e0
def arg1 (l : List Expr) : Expr := l[1]?.getD e0
mutual
def zZc : Stmt -> Bool
 | ⟨k, _, _, _, th, el⟩ => decide (k = 6) || (decide (k = 4) && (zia th || zia el))
def zia : List Stmt -> Bool
 | [] => false
 | x :: r => zZc x || zia r
end
theorem leaves1_eq (s : Stmt) : zZc s = (decide (s.kind = 6) || (decide (s.kind = 4) && (zia s.thn || zia s.els))) := by cases s; rw [zZc]
theorem leavesT_any (l : List Stmt) : zia l = l.any zZc := by
 induction l with
 | nil => rfl
 | cons x r ih => rw [zia, ih]; rfl
mutual
def ends1 : Stmt -> Bool
 | ⟨k, _, _, a, th, el⟩ => if k = 8 then true else if k = 4 then ztb th && ztb el else if k = 5 then (decide ((arg0 a).kind = 2) && decide ((arg0 a).n = 1)) && !zia th else false
def ztb : List Stmt -> Bool
 | [] => false
 | x :: r => ends1 x || ztb r
end
theorem ends1_eq (s : Stmt) : ends1 s = if s.kind = 8 then true else if s.kind = 4 then ztb s.thn && ztb s.els else if s.kind = 5 then (decide ((arg0 s.args).kind = 2) && decide ((arg0 s.args).n = 1)) && !zia s.thn else false := by cases s; rw [ends1]
theorem endsT_any (l : List Stmt) : ztb l = l.any ends1 := by
 induction l with
 | nil => rfl
 | cons x r ih => rw [ztb, ih]; rfl
theorem stmtsR_all (l : List Stmt) (m : Int) : zL l m = l.all fun x => zBb x m := by
 induction l with
 | nil => rfl
 | cons x r ih => simp [zL, ih]
theorem zpc {s : Stmt} {m : Int} (h : zBb s m = true) : (s.args.length : Int) = (zQ s.kind).2.2.1 /\ (∀ x ∈ s.args, zTa x 100 = true) /\ zL s.thn (m - 1) = true /\ zL s.els (m - 1) = true := by
 rw [stmtR_eq] at h
 simp only [Bool.and_eq_true] at h
 obtain ⟨h1, h2, h3, h4, h5, h6⟩ := h
 refine ⟨?_, ?_, h5, h6⟩
 ·unfold headR at h1
  simp at h1
  exact h1.2.1
 ·unfold zZd at h2
  rw [List.all_eq_true] at h2
  exact h2
theorem leaves_spec' : ∀ w (l : List Stmt), wtSs l <= w -> w < 1099508500000 -> zi E 94 [zh l] [] = some (.ret (.bool (zia l)), [])
 | 0, l, h, hw => by
  have hl : l = [] := by
   have := zva l
   exact List.eq_nil_of_length_eq_zero (by omega)
  subst hl
  refine zc rfl rfl rfl (by simp [zh]) ?_
  have hc := zIa [] (fun _ => true) 118 [] [] [] (by simp) (by simp) (by simp)
  simp at hc
  simp [*, F94, zh, zia]
 | w + 1, l, h, hw => by
  have hlen := zva l
  refine zc rfl rfl rfl (by simp [zh]) ?_
  have hcl : ∀ x ∈ l, zi E 118 ([] ++ [zda x] ++ []) [] = some (.ret (.bool (zZc x)), []) := by
   intro x hx
   have hwx := zSd hx
   rw [zJa] at hwx
   have i1 := leaves_spec' w x.thn (by omega) (by omega)
   have i2 := leaves_spec' w x.els (by omega) (by omega)
   rw [leaves1_eq]
   clear hwx hx h hlen
   refine zc rfl rfl rfl (by simp [zb]) ?_
   simp [zh] at i1 i2
   generalize zia x.thn = b1 at *
   generalize zia x.els = b2 at *
   by_cases k6 : x.kind = 6
   ·replace k6 := eqp k6
    simp [*, F118, zb, zd, zh]
   ·replace k6 := eqn k6
    by_cases k4 : x.kind = 4
    ·replace k4 := eqp k4
     cases b1 <;> simp [*, F118, zb, zd, zh]
    ·replace k4 := eqn k4
     simp [*, F118, zb, zd, zh]
  have hc := zIa l zZc 118 [] [] [] (by omega) (by simp) hcl
  rw [<- leavesT_any] at hc
  clear hcl h hlen
  simp [*, F94, zh]
theorem leaves_spec (l : List Stmt) (h : wtSs l < 1099508000000) : zi E 94 [zh l] [] = some (.ret (.bool (zia l)), []) := leaves_spec' (wtSs l) l (Nat.le_refl _) (by omega)
set_option maxHeartbeats 1000000 in
theorem ends_spec' : ∀ w (l : List Stmt) (m : Int), wtSs l <= w -> w < 1099508000000 -> zL l m = true -> zi E 66 [zh l] [] = some (.ret (.bool (ztb l)), [])
 | 0, l, m, h, hw, _ => by
  have hl : l = [] := by
   have := zva l
   exact List.eq_nil_of_length_eq_zero (by omega)
  subst hl
  refine zc rfl rfl rfl (by simp [zh]) ?_
  have hc := zIa [] (fun _ => true) 93 [] [] [] (by simp) (by simp) (by simp)
  simp at hc
  simp [*, F66, zh, ztb]
 | w + 1, l, m, h, hw, hR => by
  have hlen := zva l
  refine zc rfl rfl rfl (by simp [zh]) ?_
  have hcl : ∀ x ∈ l, zi E 93 ([] ++ [zda x] ++ []) [] = some (.ret (.bool (ends1 x)), []) := by
   intro x hx
   have hwx := zSd hx
   rw [zJa] at hwx
   have hxR : zBb x m = true := by rw [stmtsR_all, List.all_eq_true] at hR; exact hR x hx
   obtain ⟨r1, r2, r3, r4⟩ := zpc hxR
   have i1 := ends_spec' w x.thn _ (by omega) (by omega) r3
   have i2 := ends_spec' w x.els _ (by omega) (by omega) r4
   have i3 := leaves_spec x.thn (by omega)
   rw [ends1_eq]
   clear hwx hx h hlen hxR hR r2 r3 r4
   refine zc rfl rfl rfl (by simp [zb]) ?_
   simp [zh] at i1 i2 i3
   generalize ztb x.thn = b1 at *
   generalize ztb x.els = b2 at *
   generalize zia x.thn = b3 at *
   by_cases k8 : x.kind = 8
   ·replace k8 := eqp k8
    simp [*, F93, zb, zd, zh]
   replace k8 := eqn k8
   by_cases k4 : x.kind = 4
   ·replace k4 := eqp k4
    cases b1 <;> simp [*, F93, zb, zd, zh]
   replace k4 := eqn k4
   by_cases k5 : x.kind = 5
   ·have hl1 : x.args.length = 1 := by rw [k5] at r1; simp [zQ] at r1; omega
    obtain ⟨y, hy⟩ := List.length_eq_one_iff.1 hl1
    have hget : x.args[0]? = some y := by rw [hy]; rfl
    have ha0 : arg0 x.args = y := by unfold arg0; rw [hget]; rfl
    rw [ha0]
    clear hy hl1 r1 ha0
    replace k5 := eqp k5
    by_cases y2 : y.kind = 2
    ·replace y2 := eqp y2
     by_cases y1 : y.n = 1
     ·replace y1 := eqp y1
      simp [*, F93, zb, zd, zh, za]
     ·replace y1 := eqn y1
      simp [*, F93, zb, zd, zh, za]
    ·replace y2 := eqn y2
     simp [*, F93, zb, zd, zh, za]
   ·replace k5 := eqn k5
    clear r1
    simp [*, F93, zb, zd, zh]
  have hc := zIa l ends1 93 [] [] [] (by omega) (by simp) hcl
  rw [<- endsT_any] at hc
  clear hcl h hlen hR
  simp [*, F66, zh]
theorem ends_spec (l : List Stmt) (m : Int) (h : wtSs l < 1099508000000) (hR : zL l m = true) : zi E 66 [zh l] [] = some (.ret (.bool (ztb l)), []) := ends_spec' (wtSs l) l m (Nat.le_refl _) h hR
end PE.U

namespace PE.U
open Go PE
def fob (p : Prog) (res n : Int) : Obj := .arr 4 [.agg [zka p.arrays, funcs p.funcs, .int .i64 res, .int .i64 n]]
def znc (p : Prog) (s : List Vr) (e : Expr) (t : Int) : Int := if (zDb p s e).2 ≠ 0 then (zDb p s e).2 else if (zDb p s e).1 = t then 0 else 51
theorem want_spec {p : Prog} {s : List Vr} {e : Expr} {t m : Int} {σ : ze} {k : Nat} {res n : Int} (hk : σ[k]? = some (fob p res n)) (hz : Fit p) (hw : wtE e < 1099510000000) (hR : zTa e m = true) :
  zi E 113 [.ptr k 0 0, zkb s, zw e, .int .i64 t] σ = some (.ret (.int .i64 (znc p s e t)), σ) := by
 refine zc rfl rfl rfl (by simp [za]) ?_
 have h1 := type_spec p s e m σ hz hw hR
 unfold znc
 generalize zDb p s e = q at *
 obtain ⟨ty, f⟩ := q
 simp only
 clear hR hw hz
 rw [za] at h1
 simp [zf, zd, zbb] at h1
 unfold fob at hk
 by_cases hf : f = 0
 ·subst hf
  have h2 := zje (decide (ty = t)) 51 []
  by_cases ht : ty = t
  ·replace ht := eqp ht
   simp [ht] at h2
   simp [*, F113, za, zd]
  ·replace ht := eqn ht
   simp [ht] at h2
   simp [*, F113, za, zd]
 ·replace hf := eqn hf
  simp [*, F113, za, zd]
def boundT (p : Prog) (s : List Vr) (k t : Int) (nm : List UInt8) (a : List Expr) (d : Int) : Int :=
 if k = 1 then
  if znc p s (arg0 a) t ≠ 0 then znc p s (arg0 a) t
  else match zya s nm with
   | [] => 0
   | v :: _ => if v.depth < d then 0 else 50
 else if k = 2 then match zya s nm with
  | [] => 50
  | v :: _ => znc p s (arg0 a) v.type
 else if k = 3 /\ zeb p nm = false then 50
 else if znc p s (arg0 a) 1 ≠ 0 then znc p s (arg0 a) 1 else znc p s (arg1 a) 1
set_option maxHeartbeats 4000000 in
theorem bound_spec {p : Prog} {s : List Vr} {x : Stmt} {d m : Int} {σ : ze} {k : Nat} {res n : Int} (hk : σ[k]? = some (fob p res n)) (hz : Fit p) (hw : wtS x < 1099509000000) (hR : zBb x m = true) (hb : 1 <= x.kind /\ x.kind <= 3) :
  zi E 116 [.ptr k 0 0, zda x, zkb s, .int .i64 d] σ = some (.ret (.int .i64 (boundT p s x.kind x.type x.name x.args d)), σ) := by
 refine zc rfl rfl rfl (by simp [zb]) ?_
 obtain ⟨r1, r2, _, _⟩ := zpc hR
 rw [zJa] at hw
 have hwant : ∀ y ∈ x.args, ∀ t, zi E 113 [.ptr k 0 0, zkb s, zw y, .int .i64 t] σ = some (.ret (.int .i64 (znc p s y t)), σ) := by
  intro y hy t
  have := zAb hy
  exact want_spec hk hz (by omega) (r2 y hy)
 have hf := find_spec s x.name σ
 have hfi := fun b => zje b 50 []
 have hh := array_spec p x.name [] (by have := hz.a; omega)
 have h3 : decide (0 <= zVa p x.name) = zeb p x.name := idx_ge (fun f : PArr => decide (f.name = x.name)) p.arrays
 have h3' : (zVa p x.name < 0) = (zeb p x.name = false) := by
  rw [<- h3, decide_eq_false_iff_not]; apply propext; omega
 clear r2 hR hw hz h3
 unfold boundT
 unfold fob at hk
 simp [zf] at hh
 by_cases k1 : x.kind = 1
 ·have hl1 : x.args.length = 1 := by rw [k1] at r1; simp [zQ] at r1; omega
  obtain ⟨y, hy⟩ := List.length_eq_one_iff.1 hl1
  have hget : x.args[0]? = some y := by rw [hy]; rfl
  have ha0 : arg0 x.args = y := by unfold arg0; rw [hget]; rfl
  rw [ha0]
  have hw1 := hwant y (by rw [hy]; simp) x.type
  clear hy hl1 r1 ha0 hwant hb h3' hh
  replace k1 := eqp k1
  rw [za] at hw1
  simp [zd] at hw1
  generalize znc p s y x.type = f at *
  by_cases hff : f = 0
  ·subst hff
   generalize zya s x.name = vs at *
   cases vs with
   | nil =>
    have hfi := hfi true
    simp at hfi hf
    simp [*, F116, zb, zd, za]
   | cons v r =>
    rw [zhc] at hf
    by_cases hd : v.depth < d
    ·have hfi := hfi true
     replace hd := eqp hd
     simp at hfi
     simp [*, F116, zb, zd, za]
    ·have hfi := hfi false
     replace hd := eqn hd
     simp at hfi
     simp [*, F116, zb, zd, za]
  ·replace hff := eqn hff
   clear hfi
   simp [*, F116, zb, zd, za]
 by_cases k2 : x.kind = 2
 ·have hl1 : x.args.length = 1 := by rw [k2] at r1; simp [zQ] at r1; omega
  obtain ⟨y, hy⟩ := List.length_eq_one_iff.1 hl1
  have hget : x.args[0]? = some y := by rw [hy]; rfl
  have ha0 : arg0 x.args = y := by unfold arg0; rw [hget]; rfl
  rw [ha0]
  have hw1 := hwant y (by rw [hy]; simp)
  have k3 : (x.kind = 3) = False := eqn (by omega)
  clear hy hl1 r1 ha0 hwant hb h3' hh hfi
  replace k1 := eqn k1
  replace k2 := eqp k2
  generalize zya s x.name = vs at *
  cases vs with
  | nil =>
   clear hw1
   simp at hf
   simp [*, F116, zb, zd, za]
  | cons v r =>
   have hw1 := hw1 v.type
   rw [za] at hw1
   simp [zd] at hw1
   rw [zhc] at hf
   simp [*, F116, zb, zd, za]
 ·have k3 : x.kind = 3 := by omega
  have hl2 : x.args.length = 2 := by rw [k3] at r1; simp [zQ] at r1; omega
  obtain ⟨y, z, hy⟩ : ∃ y z, x.args = [y, z] := by
   match h : x.args, hl2 with
   | [y, z], _ => exact ⟨y, z, rfl⟩
  have hget : x.args[0]? = some y := by rw [hy]; rfl
  have hget1 : x.args[1]? = some z := by rw [hy]; rfl
  have ha0 : arg0 x.args = y := by unfold arg0; rw [hget]; rfl
  have ha1 : arg1 x.args = z := by unfold arg1; rw [hget1]; rfl
  rw [ha0, ha1]
  have hw1 := hwant y (by rw [hy]; simp) 1
  have hw2 := hwant z (by rw [hy]; simp) 1
  clear hy hl2 r1 ha0 ha1 hwant hb hfi
  replace k1 := eqn k1
  replace k2 := eqn k2
  replace k3 := eqp k3
  rw [za] at hw1 hw2
  simp [zd] at hw1 hw2
  generalize zeb p x.name = b at *
  cases b
  ·clear hw1 hw2
   simp at h3'
   replace h3' := eqp h3'
   simp [*, F116, zb, zd, za]
  ·simp at h3'
   replace h3' : (zVa p x.name < 0) = False := eqn (by omega)
   generalize znc p s y 1 = f at *
   by_cases hff : f = 0
   ·subst hff
    simp [*, F116, zb, zd, za]
   ·replace hff := eqn hff
    simp [*, F116, zb, zd, za]
def stmtT (p : Prog) (res : Int) (s : List Vr) (k t : Int) (nm : List UInt8) (a : List Expr) (d : Int) (loop : Bool) : Int :=
 if k = 4 \/ k = 5 then znc p s (arg0 a) 2
 else if k = 8 then znc p s (arg0 a) res
 else if k = 9 then znc p s (arg0 a) 1
 else if k = 10 then (zDb p s (arg0 a)).2
 else if k = 6 \/ k = 7 then (if loop then 0 else 53)
 else boundT p s k t nm a d
set_option maxHeartbeats 4000000 in
theorem stmtT_spec {p : Prog} {s : List Vr} {x : Stmt} {d m : Int} {loop : Bool} {σ : ze} {k : Nat} {res n : Int} (hk : σ[k]? = some (fob p res n)) (hz : Fit p) (hw : wtS x < 1099509000000) (hR : zBb x m = true) :
  zi E 90 [.ptr k 0 0, zda x, zkb s, .int .i64 d, .bool loop] σ = some (.ret (.int .i64 (stmtT p res s x.kind x.type x.name x.args d loop)), σ) := by
 refine zc rfl rfl rfl (by simp [zb]) ?_
 obtain ⟨r1, r2, _, _⟩ := zpc hR
 have hbound : 1 <= x.kind /\ x.kind <= 3 -> zi E 116 [.ptr k 0 0, zda x, zkb s, .int .i64 d] σ = some (.ret (.int .i64 (boundT p s x.kind x.type x.name x.args d)), σ) := fun h => bound_spec hk hz hw hR h
 rw [zJa] at hw
 have hwant : ∀ y ∈ x.args, ∀ t, zi E 113 [.ptr k 0 0, zkb s, zw y, .int .i64 t] σ = some (.ret (.int .i64 (znc p s y t)), σ) := by
  intro y hy t
  have := zAb hy
  exact want_spec hk hz (by omega) (r2 y hy)
 have hexp : ∀ y ∈ x.args, zi E 114 [zf p, zkb s, zw y] σ = some (.ret (zbb (zDb p s y)), σ) := by
  intro y hy
  have := zAb hy
  exact type_spec p s y 100 σ hz (by omega) (r2 y hy)
 have hone : (x.kind = 4 \/ x.kind = 5 \/ x.kind = 8 \/ x.kind = 9 \/ x.kind = 10) -> ∃ y, x.args = [y] := by
  intro h
  have : x.args.length = 1 := by rcases h with h | h | h | h | h <;> (rw [h] at r1; simp [zQ] at r1; omega)
  exact List.length_eq_one_iff.1 this
 have hkind : 1 <= x.kind /\ x.kind <= 10 := by
  by_cases h : 1 <= x.kind /\ x.kind <= 10
  ·exact h
  ·exfalso
   have : (zQ x.kind).2.2.1 = -1 := by
    unfold zQ
    repeat' (first | rw [if_neg (by omega)] | rfl)
   omega
 clear r2 hR hw hz
 unfold stmtT
 unfold fob at hk
 by_cases k4 : x.kind = 4 \/ x.kind = 5
 ·obtain ⟨y, hy⟩ := hone (by rcases k4 with h | h <;> simp [h])
  have hget : x.args[0]? = some y := by rw [hy]; rfl
  have ha0 : arg0 x.args = y := by unfold arg0; rw [hget]; rfl
  rw [ha0]
  have hw1 := hwant y (by rw [hy]; simp) 2
  rw [za] at hw1
  simp [zd] at hw1
  rw [if_pos k4]
  clear hy r1 ha0 hwant hexp hone hbound hkind
  rcases k4 with k4 | k4
  ·replace k4 := eqp k4
   simp [*, F90, zb, zd, za]
  ·by_cases k4' : x.kind = 4
   ·omega
   ·replace k4 := eqp k4
    replace k4' := eqn k4'
    simp [*, F90, zb, zd, za]
 have k5 : ¬ x.kind = 5 := fun h => k4 (Or.inr h)
 have k4' : ¬ x.kind = 4 := fun h => k4 (Or.inl h)
 rw [if_neg k4]
 clear k4
 by_cases k8 : x.kind = 8
 ·obtain ⟨y, hy⟩ := hone (by simp [k8])
  have hget : x.args[0]? = some y := by rw [hy]; rfl
  have ha0 : arg0 x.args = y := by unfold arg0; rw [hget]; rfl
  rw [ha0]
  have hw1 := hwant y (by rw [hy]; simp) res
  rw [za] at hw1
  simp [zd] at hw1
  clear hy r1 ha0 hwant hexp hone hbound hkind
  replace k4' := eqn k4'
  replace k5 := eqn k5
  replace k8 := eqp k8
  simp [*, F90, zb, zd, za]
 by_cases k9 : x.kind = 9
 ·obtain ⟨y, hy⟩ := hone (by simp [k9])
  have hget : x.args[0]? = some y := by rw [hy]; rfl
  have ha0 : arg0 x.args = y := by unfold arg0; rw [hget]; rfl
  rw [ha0]
  have hw1 := hwant y (by rw [hy]; simp) 1
  rw [za] at hw1
  simp [zd] at hw1
  clear hy r1 ha0 hwant hexp hone hbound hkind
  replace k4' := eqn k4'
  replace k5 := eqn k5
  replace k8 := eqn k8
  replace k9 := eqp k9
  simp [*, F90, zb, zd, za]
 by_cases k10 : x.kind = 10
 ·obtain ⟨y, hy⟩ := hone (by simp [k10])
  have hget : x.args[0]? = some y := by rw [hy]; rfl
  have ha0 : arg0 x.args = y := by unfold arg0; rw [hget]; rfl
  rw [ha0]
  have hw1 := hexp y (by rw [hy]; simp)
  rw [za] at hw1
  simp [zd, zf, zbb] at hw1
  clear hy r1 ha0 hwant hexp hone hbound hkind
  replace k4' := eqn k4'
  replace k5 := eqn k5
  replace k8 := eqn k8
  replace k9 := eqn k9
  replace k10 := eqp k10
  simp [*, F90, zb, zd, za]
 by_cases k6 : x.kind = 6 \/ x.kind = 7
 ·rw [if_neg k8, if_neg k9, if_neg k10, if_pos k6]
  have hfi := zje loop 53 []
  clear r1 hwant hexp hone hbound hkind
  replace k4' := eqn k4'
  replace k5 := eqn k5
  replace k8 := eqn k8
  replace k9 := eqn k9
  replace k10 := eqn k10
  rcases k6 with k6 | k6
  ·replace k6 := eqp k6
   simp [*, F90, zb, zd, za]
  ·by_cases k6' : x.kind = 6
   ·omega
   ·replace k6 := eqp k6
    replace k6' := eqn k6'
    simp [*, F90, zb, zd, za]
 ·rw [if_neg k8, if_neg k9, if_neg k10, if_neg k6]
  have k7 : ¬ x.kind = 7 := fun h => k6 (Or.inr h)
  have k6' : ¬ x.kind = 6 := fun h => k6 (Or.inl h)
  have hb := hbound (by omega)
  clear r1 hwant hexp hone hbound hkind k6
  replace k4' := eqn k4'
  replace k5 := eqn k5
  replace k8 := eqn k8
  replace k9 := eqn k9
  replace k10 := eqn k10
  replace k7 := eqn k7
  replace k6' := eqn k6'
  rw [zb] at hb
  simp [zd, zh] at hb
  simp [*, F90, zb, zd, za, zh]
end PE.U

namespace PE.U
open Go PE
mutual
def zWb (p : Prog) (res : Int) : Stmt -> List Vr -> Int -> Bool -> Int -> Int × Int
 | ⟨k, t, nm, a, th, el⟩, vs, d, loop, n =>
  if stmtT p res vs k t nm a d loop ≠ 0 then (stmtT p res vs k t nm a d loop, n)
  else
   let q := zba p res th (if k = 1 then ⟨nm, t, d⟩ :: vs else vs) (d + 1) (loop || decide (k = 5)) (n + 1)
   if q.1 ≠ 0 then q else zba p res el (if k = 1 then ⟨nm, t, d⟩ :: vs else vs) (d + 1) loop q.2
def zba (p : Prog) (res : Int) : List Stmt -> List Vr -> Int -> Bool -> Int -> Int × Int
 | [], _, _, _, n => (0, n)
 | x :: r, vs, d, loop, n =>
  let q := zWb p res x vs d loop n
  if q.1 ≠ 0 then q else zba p res r (if x.kind = 1 then ⟨x.name, x.type, d⟩ :: vs else vs) d loop q.2
end
def zla (d : Int) (x : Stmt) (vs : List Vr) : List Vr := if x.kind = 1 then ⟨x.name, x.type, d⟩ :: vs else vs
theorem zoe (p : Prog) (res : Int) (x : Stmt) (vs : List Vr) (d : Int) (loop : Bool) (n : Int) : zWb p res x vs d loop n =
  if stmtT p res vs x.kind x.type x.name x.args d loop ≠ 0 then (stmtT p res vs x.kind x.type x.name x.args d loop, n)
  else if (zba p res x.thn (zla d x vs) (d + 1) (loop || decide (x.kind = 5)) (n + 1)).1 ≠ 0 then zba p res x.thn (zla d x vs) (d + 1) (loop || decide (x.kind = 5)) (n + 1)
  else zba p res x.els (zla d x vs) (d + 1) loop (zba p res x.thn (zla d x vs) (d + 1) (loop || decide (x.kind = 5)) (n + 1)).2 := by
 cases x; rw [zWb]; rfl
theorem zbc (p : Prog) (res : Int) (x : Stmt) (r : List Stmt) (vs : List Vr) (d : Int) (loop : Bool) (n : Int) : zba p res (x :: r) vs d loop n =
  if (zWb p res x vs d loop n).1 ≠ 0 then zWb p res x vs d loop n else zba p res r (zla d x vs) d loop (zWb p res x vs d loop n).2 := by
 rw [zba]; rfl
def zua (p : Prog) (res d : Int) (loop : Bool) (l : List Stmt) (vs : List Vr) (n : Int) : List Vr × Int := match l with
 | [] => (vs, n)
 | x :: r => zua p res d loop r (zla d x vs) (zWb p res x vs d loop n).2
def zVb (p : Prog) (res d : Int) (loop : Bool) (l : List Stmt) (vs : List Vr) (n : Int) : Prop := match l with
 | [] => True
 | x :: r => (zWb p res x vs d loop n).1 = 0 /\ zVb p res d loop r (zla d x vs) (zWb p res x vs d loop n).2
theorem blockT_go (p : Prog) (res d : Int) (loop : Bool) (r : List Stmt) : ∀ (l : List Stmt) (vs : List Vr) (n : Int), zVb p res d loop l vs n →
  zba p res (l ++ r) vs d loop n = zba p res r (zua p res d loop l vs n).1 d loop (zua p res d loop l vs n).2
 | [], _, _, _ => rfl
 | x :: l, vs, n, h => by
  simp only [zVb] at h
  rw [List.cons_append, zbc, if_neg (by rw [h.1]; simp)]
  exact blockT_go p res d loop r l _ _ h.2
theorem blockGo_snoc (p : Prog) (res d : Int) (loop : Bool) (x : Stmt) : ∀ (l : List Stmt) (vs : List Vr) (n : Int),
  zua p res d loop (l ++ [x]) vs n = (zla d x (zua p res d loop l vs n).1, (zWb p res x (zua p res d loop l vs n).1 d loop (zua p res d loop l vs n).2).2)
 | [], _, _ => rfl
 | y :: l, vs, n => by
  rw [List.cons_append, zua, blockGo_snoc p res d loop x l]; rfl
theorem zYd (p : Prog) (res d : Int) (loop : Bool) (x : Stmt) : ∀ (l : List Stmt) (vs : List Vr) (n : Int), zVb p res d loop l vs n -> (zWb p res x (zua p res d loop l vs n).1 d loop (zua p res d loop l vs n).2).1 = 0 -> zVb p res d loop (l ++ [x]) vs n
 | [], _, _, _, h => ⟨h, trivial⟩
 | y :: l, vs, n, hf, h => by
  simp only [zVb] at hf
  exact ⟨hf.1, zYd p res d loop x l _ _ hf.2 h⟩
mutual
theorem block1_count (p : Prog) (res : Int) : ∀ (x : Stmt) (vs : List Vr) (d : Int) (loop : Bool) (n : Int), n <= (zWb p res x vs d loop n).2 /\ (zWb p res x vs d loop n).2 <= n + wtS x
 | ⟨k, t, nm, a, th, el⟩, vs, d, loop, n => by
  rw [zoe]
  have h1 := zVc p res th (zla d ⟨k, t, nm, a, th, el⟩ vs) (d + 1) (loop || decide (k = 5)) (n + 1)
  have h2 := zVc p res el (zla d ⟨k, t, nm, a, th, el⟩ vs) (d + 1) loop (zba p res th (zla d ⟨k, t, nm, a, th, el⟩ vs) (d + 1) (loop || decide (k = 5)) (n + 1)).2
  rw [zJa]
  simp only
  split
  ·simp only; omega
  ·split
   ·omega
   ·omega
theorem zVc (p : Prog) (res : Int) : ∀ (l : List Stmt) (vs : List Vr) (d : Int) (loop : Bool) (n : Int), n <= (zba p res l vs d loop n).2 /\ (zba p res l vs d loop n).2 <= n + wtSs l
 | [], vs, d, loop, n => by simp [zba, wtSs]
 | x :: r, vs, d, loop, n => by
  rw [zbc]
  have h1 := block1_count p res x vs d loop n
  have h2 := zVc p res r (zla d x vs) d loop (zWb p res x vs d loop n).2
  simp only [wtSs]
  split
  ·omega
  ·omega
end
theorem zIe (p : Prog) (res d : Int) (loop : Bool) : ∀ (l : List Stmt) (vs : List Vr) (n : Int), n <= (zua p res d loop l vs n).2 /\ (zua p res d loop l vs n).2 <= n + wtSs l
 | [], vs, n => by simp [zua, wtSs]
 | x :: r, vs, n => by
  have h1 := block1_count p res x vs d loop n
  have h2 := zIe p res d loop r (zla d x vs) (zWb p res x vs d loop n).2
  simp only [wtSs, zua]
  omega
set_option maxRecDepth 20000 in
set_option maxHeartbeats 8000000 in
theorem block_spec' : ∀ w (p : Prog) (res : Int) (l : List Stmt) (vs : List Vr) (d m n : Int) (loop : Bool) (σ : ze) (k : Nat), wtSs l <= w -> w < 1099508000000 -> Fit p -> zL l m = true -> 0 <= d -> d + m <= 1000000 -> 0 <= m -> 0 <= n -> n + wtSs l < 4000000000000 -> σ[k]? = some (fob p res n) →
  zi E 64 [.ptr k 0 0, zh l, zkb vs, .int .i64 d, .bool loop] σ = some (.ret (.int .i64 (zba p res l vs d loop n).1), σ.set k (fob p res (zba p res l vs d loop n).2))
 := by
 intro w
 induction w with
 | zero =>
  intro p res l vs d m n loop σ k h hw hz hR hd hdm hm hn0 hnw hk
  have hl : l = [] := by
   have := zva l
   exact List.eq_nil_of_length_eq_zero (by omega)
  subst hl
  have hset : σ.set k (fob p res n) = σ := by
   have hlt := (List.getElem?_eq_some_iff.1 hk)
   obtain ⟨h1, h2⟩ := hlt
   rw [<- h2, List.set_getElem_self]
  refine zc rfl rfl rfl (by simp [zh]) ?_
  simp only [zba, hset]
  simp [F64, zh]
  refine zG ([] : List Stmt) K64_0 B64_0 (fun d' => [(2, zkb vs), (18, .int .i64 d'.length)]) (fun _ => σ) (fun _ => True) (by simp) (by simp) ?_ ?_
  ·intros d' x r s1 hl' hlt
   simp at hlt
  ·intros s1 hp h1 h2 h3 h4
   simp at h1 h2 h3
   simp [*]
 | succ w ih =>
  intro p res l vs d m n loop σ k h hw hz hR hd hdm hm hn0 hnw hk
  have hlen := zva l
  have hset : σ.set k (fob p res n) = σ := by
   have hlt := (List.getElem?_eq_some_iff.1 hk)
   obtain ⟨h1, h2⟩ := hlt
   rw [<- h2, List.set_getElem_self]
  have hklt : k < σ.length := (List.getElem?_eq_some_iff.1 hk).1
  have hwd : zB .i64 (d + 1) = d + 1 := zj (by omega) (by omega)
  refine zc rfl rfl rfl (by simp [zh]) ?_
  simp [F64, zh]
  refine zG l K64_0 B64_0 (fun q => [(2, zkb (zua p res d loop q vs n).1), (18, .int .i64 q.length)]) (fun q => σ.set k (fob p res (zua p res d loop q vs n).2)) (fun q => zVb p res d loop q vs n) (by omega) (by simp [zua, zVb, hset]) ?_ ?_
  ·intros q x r s1 hl' hlt hget hget' hw1 hp h1 h2 h3 h4
   have hT := blockT_go p res d loop (x :: r) q vs n hp
   rw [<- hl'.eq, zbc, zoe] at hT
   have hG := blockGo_snoc p res d loop x q vs n
   have hF := zYd p res d loop x q vs n hp
   rw [zoe] at hG hF
   have hxR : zBb x m = true := by rw [stmtsR_all, List.all_eq_true] at hR; exact hR x hl'.mem
   have hm1 : 1 <= m := by
    by_cases h1 : 1 <= m
    ·exact h1
    ·rw [stmtR_eq] at hxR; unfold headR at hxR; simp at hxR; omega
   have hwx := zSd hl'.mem
   rw [zJa] at hwx
   obtain ⟨r1, r2, r3, r4⟩ := zpc hxR
   have hgc := zIe p res d loop q vs n
   have hws : wtSs l = wtSs q + (1 + wtS x + wtSs r) := by rw [hl'.eq, zpe]; rfl
   rw [zJa] at hws
   generalize zua p res d loop q vs n = g at *
   obtain ⟨v1, n1⟩ := g
   simp only at hT hG hF h3 h4 hgc
   have hwn : zB .i64 (n1 + 1) = n1 + 1 := zj (by omega) (by omega)
   have hk1 : (σ.set k (fob p res n1))[k]? = some (fob p res n1) := by rw [List.getElem?_set_self hklt]
   have hst := stmtT_spec (d := d) (s := v1) (x := x) (loop := loop) hk1 hz (by rw [zJa]; omega) hxR
   have hi1 := ih p res x.thn (zla d x v1) (d + 1) (m - 1) (n1 + 1) (loop || decide (x.kind = 5)) (σ.set k (fob p res (n1 + 1))) k (by omega) (by omega) hz r3 (by omega) (by omega) (by omega) (by omega) (by omega) (by rw [List.getElem?_set_self hklt])
   rw [List.set_set] at hi1
   have hc1 := zVc p res x.thn (zla d x v1) (d + 1) (loop || decide (x.kind = 5)) (n1 + 1)
   generalize hT1 : zba p res x.thn (zla d x v1) (d + 1) (loop || decide (x.kind = 5)) (n1 + 1) = t1 at *
   obtain ⟨f1, n2⟩ := t1
   simp only at hc1
   have hi2 := ih p res x.els (zla d x v1) (d + 1) (m - 1) n2 loop (σ.set k (fob p res n2)) k (by omega) (by omega) hz r4 (by omega) (by omega) (by omega) (by omega) (by omega) (by rw [List.getElem?_set_self hklt])
   rw [List.set_set] at hi2
   simp only at hT hG hF hi1
   generalize hT2 : zba p res x.els (zla d x v1) (d + 1) loop n2 = t2 at *
   obtain ⟨f2, n3⟩ := t2
   simp only at hT hG hF hi2
   generalize stmtT p res v1 x.kind x.type x.name x.args d loop = f0 at *
   have hwi := with_spec v1 ⟨x.name, x.type⟩ d (σ.set k (fob p res (n1 + 1)))
   have hb : zla d x v1 = if x.kind = 1 then ⟨x.name, x.type, d⟩ :: v1 else v1 := rfl
   clear ih hT1 hT2 r1 r2 r3 r4 hws hgc hc1 hnw hn0 hwx hxR hl' hR h hlen hset
   rw [zb] at hst
   simp [zd, zh, encPar] at hst hi1 hi2 hwi
   simp [zd, zh] at h1 h2 h3 h4
   unfold fob at *
   by_cases hf0 : f0 = 0
   case neg =>
    simp [hf0] at hT
    rw [hT]
    clear hT hG hF hi1 hi2 hwi hb hp
    replace hf0 := eqn hf0
    simp [*, zb, zd, zh]
   subst hf0
   by_cases hk1 : x.kind = 1
   ·have hk5 : ¬ x.kind = 5 := by omega
    rw [if_pos hk1] at hb
    replace hk1 := eqp hk1
    replace hk5 := eqn hk5
    rw [hb] at hi1 hi2 hG
    clear hb
    simp only [hk5, decide_false, Bool.or_false] at hi1
    by_cases hf1 : f1 = 0
    case neg =>
     simp [hf1] at hT
     rw [hT]
     clear hT hG hF hi2 hp
     replace hf1 := eqn hf1
     cases loop <;> simp [*, zb, zd, zh]
    subst hf1
    by_cases hf2 : f2 = 0
    case neg =>
     simp [hf2] at hT
     rw [hT]
     clear hT hG hF hp
     replace hf2 := eqn hf2
     cases loop <;> simp [*, zb, zd, zh]
    subst hf2
    simp at hG hF
    clear hT hp
    cases loop <;> simp [*, zb, zd, zh]
   ·rw [if_neg hk1] at hb
    replace hk1 := eqn hk1
    rw [hb] at hi1 hi2 hG
    clear hb hwi
    by_cases hf1 : f1 = 0
    case neg =>
     simp [hf1] at hT
     rw [hT]
     clear hT hG hF hi2 hp
     replace hf1 := eqn hf1
     cases loop <;> simp at hi1 <;> simp [*, zb, zd, zh]
    subst hf1
    by_cases hf2 : f2 = 0
    case neg =>
     simp [hf2] at hT
     rw [hT]
     clear hT hG hF hp
     replace hf2 := eqn hf2
     cases loop <;> simp at hi1 <;> simp [*, zb, zd, zh]
    subst hf2
    simp at hG hF
    clear hT hp
    cases loop <;> simp at hi1 <;> simp [*, zb, zd, zh]
  ·intros s1 hp h1 h2 h3 h4
   clear ih
   have hT := blockT_go p res d loop [] l vs n hp
   rw [List.append_nil, zba] at hT
   rw [hT]
   simp at h1 h2 h3 h4
   clear hT hp hR
   simp [*]
end PE.U

namespace PE.U
open Go PE
def skOf : List PV -> SK
 | [] => .fit
 | _ => .plain
theorem zRb (sz : Nat) (l : List PV) : strip (acc sz l) = .slice (skOf l) sz l := by cases l <;> rfl
def sq1 : ICode -> ICode
 | .seq a _ => a
 | c => c
def sq2 : ICode -> ICode
 | .seq _ b => b
 | c => c
theorem zve (p : Prog) (nm : List UInt8) (hl : p.funcs.length < 1099511627776) : zi E 35 [zf p, .str nm] [] = some (.ret (.int .i64 (zsa p nm)), []) := by
 refine zc rfl rfl rfl (by simp [zf]) ?_
 simp [F35, zf, funcs]
 refine zG p.funcs K35_0 B35_0 (fun d => [(5, .int .i64 d.length)]) (fun _ => []) (fun d => ∀ y ∈ d, decide (y.name = nm) = false) (by omega) (by simp) ?_ ?_
 ·intros d x r s1 hl' hlt hget hget' hw hp h1 h2 h3 h4
  simp at h1 h2 h3
  by_cases hx : x.name = nm
  ·have hh : zsa p nm = d.length := idx_hit hl' hp (decide_eq_true hx)
   rw [hh]
   replace hx := eqp hx
   clear hp hh hl'
   simp [*, zm]
  ·have hnx : ∀ y ∈ d ++ [x], ¬ y.name = nm := by
    intro y hy
    rcases List.mem_append.1 hy with h | h
    ·exact of_decide_eq_false (hp y h)
    ·rw [List.mem_singleton.1 h]; exact hx
   replace hx := eqn hx
   clear hp hl'
   simp [*, zm]
   all_goals (try grind)
 ·intros s1 hp h1 h2 h3 h4
  have hh : zsa p nm = -1 := zNd hp
  rw [hh]
  simp at h1 h2 h3
  clear hp hh
  simp [*]
theorem rarray_spec (p : Prog) (nm : List UInt8) (hl : p.arrays.length < 1099511627776) : zi E 98 [zf p, .str nm] [] = some (.ret (.int .i64 (zVa p nm)), []) := by
 refine zc rfl rfl rfl (by simp [zf]) ?_
 simp [F98, zf, zka]
 refine zG p.arrays K98_0 B98_0 (fun d => [(5, .int .i64 d.length)]) (fun _ => []) (fun d => ∀ y ∈ d, decide (y.name = nm) = false) (by omega) (by simp) ?_ ?_
 ·intros d x r s1 hl' hlt hget hget' hw hp h1 h2 h3 h4
  simp at h1 h2 h3
  by_cases hx : x.name = nm
  ·have hh : zVa p nm = d.length := idx_hit hl' hp (decide_eq_true hx)
   rw [hh]
   replace hx := eqp hx
   clear hp hh hl'
   simp [*, zR]
  ·have hnx : ∀ y ∈ d ++ [x], ¬ y.name = nm := by
    intro y hy
    rcases List.mem_append.1 hy with h | h
    ·exact of_decide_eq_false (hp y h)
    ·rw [List.mem_singleton.1 h]; exact hx
   replace hx := eqn hx
   clear hp hl'
   simp [*, zR]
   all_goals (try grind)
 ·intros s1 hp h1 h2 h3 h4
  have hh : zVa p nm = -1 := zNd hp
  rw [hh]
  simp at h1 h2 h3
  clear hp hh
  simp [*]
def operR (op : Int) : Int × Int :=
 if op = 18 \/ op = 19 \/ op = 22 then (2, 2)
 else if op = 16 \/ op = 17 then (0, 2)
 else if 12 <= op /\ op <= 15 then (1, 2)
 else (1, 1)
theorem oper_spec (op : Int) : zi E 145 [.int .i64 op] [] = some (.ret (.tup [.int .i64 (operR op).1, .int .i64 (operR op).2]), []) := by
 refine zc rfl rfl rfl (by simp) ?_
 unfold operR
 (simp [*, F145]) <;> (repeat' (first | ((first | refine sP _ ?_ ?_ | refine gP _ ?_ ?_ | refine sN _ ?_ ?_ | refine gN _ ?_ ?_) <;> intro hc <;> (first | replace hc := eqn hc | replace hc := eqp hc) <;> simp [*, F145]) | ((first | refine sM _ ?_ ?_ | refine gM _ ?_ ?_ | refine sB _ ?_ ?_ | refine gB _ ?_ ?_) <;> intro hc <;> simp [*, F145])))
 all_goals (try grind)
def parOf (v : Vr) : Par := ⟨v.name, v.type⟩
def zoa (s : List Vr) : List Par := (s.map parOf).reverse
theorem zqb (s : List Vr) : (zoa s).length = s.length := by simp [zoa]
theorem zld (v : Vr) (s : List Vr) : zoa (v :: s) = zoa s ++ [parOf v] := by simp [zoa]
theorem varsOf_append (a b : List Vr) : zoa (a ++ b) = zoa b ++ zoa a := by simp [zoa]
theorem varsOf_get (d : List Vr) (v : Vr) (r : List Vr) : (zoa (d ++ v :: r))[r.length]? = some (parOf v) := by
 rw [varsOf_append, zld, List.append_assoc, List.getElem?_append_right (by rw [zqb]; omega), zqb]
 simp
def typeV (s : List Vr) (nm : List UInt8) : Int := ((zya s nm).head?.map (·.type)).getD 0
structure FV where
 d : List Vr
 c : List Vr
theorem rfind_spec (s : List Vr) (nm : List UInt8) (hl : s.length < 1099511627776) : zi E 71 [parsV (zoa s), .str nm] [] = some (.ret (.tup [.int .i64 (typeV s nm), .bool (!decide (zya s nm = []))]), []) := by
 refine zc rfl rfl rfl (by simp [parsV]) ?_
 have hvl := zqb s
 have hw0 : zB .i64 ((s.length : Int) - 1) = (s.length : Int) - 1 := zj (by omega) (by omega)
 simp [F71, parsV, hvl, hw0]
 refine zvb K71_0 B71_0 (fun c : FV => c.c.length) (fun c => [(6, .int .i64 ((c.c.length : Int) - 1))]) (fun c => []) (fun c => []) (fun c => zya c.c nm = zya s nm /\ s = c.d ++ c.c) ⟨[], s⟩ (by simp) ?_
 rintro ⟨d, c⟩ s1 ⟨hc, hs⟩ h1 h2 h3 h4 h5
 simp at h1 h3 h5 hc hs
 clear h2 h4
 unfold typeV
 rw [<- hc]
 cases c with
 | nil =>
  simp at h3
  clear hc hs
  simp [*, zya]
 | cons v r =>
  have hg := varsOf_get d v r
  rw [<- hs] at hg
  have hlen : r.length + d.length < 1099511627776 := by
   have := congrArg List.length hs
   simp at this; omega
  have e1 : (((v :: r).length : Int) - 1) = r.length := by simp
  rw [e1] at h3
  have hw : zB .i64 ((r.length : Int) - 1) = (r.length : Int) - 1 := zj (by omega) (by omega)
  rw [zrb] at hc ⊢
  by_cases hn : v.name = nm
  ·rw [if_pos hn]
   replace hn := eqp hn
   clear hc hs hvl hlen e1
   simp [*, encPar, parOf]
  ·rw [if_neg hn] at hc ⊢
   replace hn := eqn hn
   have hk : ∃ d', s = d' ++ r := ⟨d ++ [v], by rw [hs]; simp⟩
   obtain ⟨d', hd'⟩ := hk
   clear hs hvl hlen e1
   simp [*, encPar, parOf, -hd']
   exact ⟨⟨d', r⟩, by simp, rfl, hc, hd'⟩
end PE.U
