/-
  Texts joined by program: A4P2, A4P3, A4P4, A4P5, A4P6, A4P7, A4P8, A4P9, A4P10, A4P11, A4P12, A4T0r, A4D0, A4D1, A4T14, A4L1, A4L2, A4L3, A4G1, A4G2, A4G3, A4G4, A4G5, A4G6, A4P13, A4G7, A4P14, A4P15, A4P16, A4P21, A4P22, A4P23, A4P17, A4P18, A4P19, A4P20, A4P24.
-/
import Derived.Test.YthkagfbknifmmaaGreatDoorB03
import Derived.Lib.ItoaNum
import Derived.Lib.AtoiAll
import Derived.Lib.Bytealg
import Derived.Lib.IndexMore
set_option linter.unusedVariables false
set_option linter.unusedSectionVars false
set_option linter.unusedSimpArgs false
namespace PE.U
open Go PE
def zMb (w : List UInt8) (b : UInt8) : Int := if wordM w then 2 else if zpa b.toNat then 1 else 0
def tokBad (w : List UInt8) (b : UInt8) : Bool := (decide (zMb w b = 1) && !zGb w) || (decide (zMb w b = 0) && !zXa w)
def blank (b : UInt8) : Bool := b == 32 || b == 9 || b == 13
def zma : Nat -> List UInt8 -> Int -> List Tok -> List Tok × Int × Int
 | 0, _, _, acc => (acc, 0, 0)
 | _ + 1, [], line, acc => (acc ++ [⟨3, [], line⟩], 0, 0)
 | n + 1, b :: r, line, acc =>
  if b = 10 then zma n r (line + 1) acc
  else if blank b then zma n r line acc
  else if b = 47 /\ r.head? = some 47 then zma n ((b :: r).dropWhile (· != 10)) line acc
  else if zw b then
   if tokBad ((b :: r).takeWhile zw) b then ([], 20, line)
   else zma n ((b :: r).drop ((b :: r).takeWhile zw).length) line (acc ++ [⟨zMb ((b :: r).takeWhile zw) b, (b :: r).takeWhile zw, line⟩])
  else if zlb (b :: r) = [] then ([], 20, line)
  else zma n ((b :: r).drop (zlb (b :: r)).length) line (acc ++ [⟨2, zlb (b :: r), line⟩])
def zu (s : List UInt8) : List Tok × Int × Int := if 100000 < s.length then ([], 2, 0) else zma (s.length + 1) s 1 []
example : zu [105, 110, 116, 32, 120, 61, 49, 59, 10] = ([⟨2, [105, 110, 116], 1⟩, ⟨1, [120], 1⟩, ⟨2, [61], 1⟩, ⟨0, [49], 1⟩, ⟨2, [59], 1⟩, ⟨3, [], 2⟩], 0, 0) := by decide
theorem sign_len (s : List UInt8) : (zlb s).length <= s.length := by
 unfold zlb
 cases h : signsL.find? (fun x => x.isPrefixOf s) with
 | none => simp
 | some x =>
  have := List.find?_some h
  simp only [List.isPrefixOf_iff_prefix] at this
  simpa using this.length_le
end PE.U

namespace PE.U
open Go PE
theorem zya {s : List UInt8} {i : Nat} (h : i < s.length) : s.drop i = s[i] :: s.drop (i + 1) := List.drop_eq_getElem_cons h
theorem takeWhile_all (p : UInt8 -> Bool) (l : List UInt8) (j : Nat) (h : j < (l.takeWhile p).length) (h' : j < l.length) : p l[j] = true := by
 have h1 : (l.takeWhile p)[j] = l[j] := by
  have := List.takeWhile_prefix (l := l) (p := p)
  exact this.getElem h
 rw [<- h1]
 exact (List.all_eq_true.1 (List.all_takeWhile (l := l) (p := p))) _ (List.getElem_mem h)
theorem zQc (p : UInt8 -> Bool) : ∀ (l : List UInt8) (h : (l.takeWhile p).length < l.length), p (l[(l.takeWhile p).length]) = false
 | [], h => by simp at h
 | b :: r, h => by
  cases hp : p b
  ·have e : (b :: r).takeWhile p = [] := by simp [hp]
   simp only [e]; simpa using hp
  ·have e : (b :: r).takeWhile p = b :: r.takeWhile p := by simp [hp]
   simp only [e, List.length_cons, List.getElem_cons_succ]
   exact zQc p r (by rw [e] at h; simpa using h)
theorem zIa (p : UInt8 -> Bool) (l : List UInt8) : l.dropWhile p = l.drop (l.takeWhile p).length := by
 induction l with
 | nil => rfl
 | cons b r ih =>
  cases hp : p b <;> simp [hp, ih]
theorem zUc (p : UInt8 -> Bool) (l : List UInt8) : l.takeWhile p = l.take (l.takeWhile p).length := by
 induction l with
 | nil => rfl
 | cons b r ih =>
  cases hp : p b
  ·simp [hp]
  ·simp only [List.takeWhile_cons, hp, if_true, List.length_cons, List.take_succ_cons]; rw [<- ih]
def zVa (s : List UInt8) (at' : Nat) : Nat := ((s.drop at').takeWhile zw).length
theorem runLen_le (s : List UInt8) (i : Nat) (h : i <= s.length) : i + zVa s i <= s.length := by
 unfold zVa
 have := (List.takeWhile_prefix (l := s.drop i) (p := zw)).length_le
 simp at this; omega
theorem runLen_in (s : List UInt8) (i j : Nat) (h : j < zVa s i) (h' : i + j < s.length) : zw (s[i + j]) = true := by
 have := takeWhile_all zw (s.drop i) j h (by simp; omega)
 simpa using this
theorem runLen_end (s : List UInt8) (i : Nat) (h : i + zVa s i < s.length) : zw (s[i + zVa s i]) = false := by
 unfold zVa at h ⊢
 have := zQc zw (s.drop i) (by simp; omega)
 simpa using this
def comLen (s : List UInt8) (i : Nat) : Nat := ((s.drop i).takeWhile (· != 10)).length
theorem comLen_le (s : List UInt8) (i : Nat) (h : i <= s.length) : i + comLen s i <= s.length := by
 unfold comLen
 have := (List.takeWhile_prefix (l := s.drop i) (p := (· != 10))).length_le
 simp at this; omega
theorem comLen_in (s : List UInt8) (i j : Nat) (h : j < comLen s i) (h' : i + j < s.length) : ¬ s[i + j] = 10 := by
 have := takeWhile_all (· != 10) (s.drop i) j h (by simp; omega)
 simpa using this
theorem comLen_end (s : List UInt8) (i : Nat) (h : i + comLen s i < s.length) : s[i + comLen s i] = 10 := by
 unfold comLen at h ⊢
 have := zQc (· != 10) (s.drop i) (by simp; omega)
 simpa using this
structure TS where
 at' : Nat
 line : Nat
 acc : List Tok
def OnRoad (s : List UInt8) (c : TS) : Prop := c.at' <= s.length /\ c.line <= c.at' + 1 /\ c.acc.length <= c.at' /\ ∃ n, s.length - c.at' < n /\ zma (s.length + 1) s 1 [] = zma n (s.drop c.at') c.line c.acc
theorem getD_idx {s : List UInt8} {i : Nat} (h : i < s.length) : s[i]? = some s[i] := by simp [h]
end PE.U

namespace PE.U
open Go PE
abbrev zSc (r : List Tok × Int × Int) : List PV := [toks r.1, .int .i64 r.2.1, .int .i64 r.2.2]
theorem road_nl {s : List UInt8} {i line : Nat} {ac : List Tok} (h : OnRoad s ⟨i, line, ac⟩) (hi : i < s.length) (hb : (s[i].toNat : Int) = 10) : OnRoad s ⟨i + 1, line + 1, ac⟩ := by
 obtain ⟨h1, h2, h3, n, h4, h5⟩ := h
 simp only at h1 h2 h3 h4 h5
 obtain ⟨n, rfl⟩ : ∃ m, n = m + 1 := ⟨n - 1, by omega⟩
 have hb' : s[i] = 10 := UInt8.toNat_inj.1 (by simp; omega)
 refine ⟨by simp only; omega, by simp only; omega, by simp only; omega, n, by simp only; omega, ?_⟩
 rw [h5, zya hi]
 simp [zma, hb']
theorem road_blank {s : List UInt8} {i line : Nat} {ac : List Tok} (h : OnRoad s ⟨i, line, ac⟩) (hi : i < s.length) (hb : blank s[i] = true) : OnRoad s ⟨i + 1, line, ac⟩ := by
 obtain ⟨h1, h2, h3, n, h4, h5⟩ := h
 simp only at h1 h2 h3 h4 h5
 obtain ⟨n, rfl⟩ : ∃ m, n = m + 1 := ⟨n - 1, by omega⟩
 have hb' : ¬ s[i] = 10 := by intro h; rw [h] at hb; exact absurd hb (by decide)
 refine ⟨by simp only; omega, by simp only; omega, by simp only; omega, n, by simp only; omega, ?_⟩
 rw [h5, zya hi]
 simp [zma, hb', hb]
theorem road_com {s : List UInt8} {i line : Nat} {ac : List Tok} (h : OnRoad s ⟨i, line, ac⟩) (hi : i < s.length) (hb : (s[i].toNat : Int) = 47) (hi2 : i + 1 < s.length) (hb2 : (s[i + 1].toNat : Int) = 47) : OnRoad s ⟨i + comLen s i, line, ac⟩ /\ 0 < comLen s i := by
 obtain ⟨h1, h2, h3, n, h4, h5⟩ := h
 simp only at h1 h2 h3 h4 h5
 obtain ⟨n, rfl⟩ : ∃ m, n = m + 1 := ⟨n - 1, by omega⟩
 have hb' : s[i] = 47 := UInt8.toNat_inj.1 (by simp; omega)
 have hb2' : s[i + 1] = 47 := UInt8.toNat_inj.1 (by simp; omega)
 have hpos : 0 < comLen s i := by
  unfold comLen; rw [zya hi, List.takeWhile_cons]; simp [hb']
 have hle := comLen_le s i h1
 refine ⟨⟨by simp only; omega, by simp only; omega, by simp only; omega, n, by simp only; omega, ?_⟩, hpos⟩
 have e : (s[i] :: s.drop (i + 1)).dropWhile (· != 10) = s.drop (i + comLen s i) := by
  rw [<- zya hi, zIa, List.drop_drop]; rfl
 have hh : (s.drop (i + 1)).head? = some 47 := by rw [zya hi2, hb2']; rfl
 rw [h5, zya hi]
 simp only [zma]
 rw [if_neg (by rw [hb']; decide), if_neg (by rw [hb']; decide), if_pos ⟨hb', hh⟩, e]
structure Plain (s : List UInt8) (i : Nat) (hi : i < s.length) : Prop where
 nl : ¬ (s[i].toNat : Int) = 10
 blank : blank s[i] = false
 com : ¬ (s[i] = 47 /\ (s.drop (i + 1)).head? = some 47)
theorem road_name {s : List UInt8} {i line : Nat} {ac : List Tok} (h : OnRoad s ⟨i, line, ac⟩) (hi : i < s.length) (hp : Plain s i hi) (hn : zw s[i] = true) :
  (tokBad ((s.take (i + zVa s i)).drop i) s[i] = true -> zma (s.length + 1) s 1 [] = ([], 20, (line : Int))) ∧
  (tokBad ((s.take (i + zVa s i)).drop i) s[i] = false -> OnRoad s ⟨i + zVa s i, line, ac ++ [⟨zMb ((s.take (i + zVa s i)).drop i) s[i], (s.take (i + zVa s i)).drop i, line⟩]⟩) := by
 obtain ⟨h1, h2, h3, n, h4, h5⟩ := h
 simp only at h1 h2 h3 h4 h5
 obtain ⟨n, rfl⟩ : ∃ m, n = m + 1 := ⟨n - 1, by omega⟩
 have hnl : ¬ s[i] = 10 := by intro h; exact hp.nl (by rw [h]; rfl)
 have hpos : 0 < zVa s i := by
  unfold zVa; rw [zya hi, List.takeWhile_cons]; simp [hn]
 have hle := runLen_le s i h1
 have e : (s[i] :: s.drop (i + 1)).takeWhile zw = (s.take (i + zVa s i)).drop i := by
  rw [<- zya hi, zUc]
  rw [List.drop_take]; congr 1; unfold zVa; omega
 have el : ((s.take (i + zVa s i)).drop i).length = zVa s i := by simp; omega
 have hs : ∀ k : Nat, zma (k + 1) (s[i] :: s.drop (i + 1)) line ac = if tokBad ((s.take (i + zVa s i)).drop i) s[i] then ([], 20, (line : Int)) else zma k (s.drop (i + zVa s i)) line (ac ++ [⟨zMb ((s.take (i + zVa s i)).drop i) s[i], (s.take (i + zVa s i)).drop i, line⟩]) := by
  intro k
  simp only [zma]
  rw [if_neg hnl, if_neg (by rw [hp.blank]; decide), if_neg hp.com, if_pos hn, e, el]
  rw [<- zya hi, List.drop_drop]
 refine ⟨fun hb => by rw [h5, zya hi, hs, if_pos hb], fun hb => ⟨by simp only; omega, by simp only; omega, by simp only [List.length_append, List.length_cons, List.length_nil]; omega, n, by simp only; omega, ?_⟩⟩
 rw [h5, zya hi, hs, if_neg (by rw [hb]; decide)]
theorem road_sign {s : List UInt8} {i line : Nat} {ac : List Tok} (h : OnRoad s ⟨i, line, ac⟩) (hi : i < s.length) (hp : Plain s i hi) (hn : zw s[i] = false) :
  (zlb (s.drop i) = [] -> zma (s.length + 1) s 1 [] = ([], 20, (line : Int))) ∧
  (¬ zlb (s.drop i) = [] -> OnRoad s ⟨i + (zlb (s.drop i)).length, line, ac ++ [⟨2, zlb (s.drop i), line⟩]⟩) := by
 obtain ⟨h1, h2, h3, n, h4, h5⟩ := h
 simp only at h1 h2 h3 h4 h5
 obtain ⟨n, rfl⟩ : ∃ m, n = m + 1 := ⟨n - 1, by omega⟩
 have hnl : ¬ s[i] = 10 := by intro h; exact hp.nl (by rw [h]; rfl)
 have hle := sign_len (s.drop i)
 rw [List.length_drop] at hle
 have hs : ∀ k : Nat, zma (k + 1) (s.drop i) line ac = if zlb (s.drop i) = [] then ([], 20, (line : Int)) else zma k (s.drop (i + (zlb (s.drop i)).length)) line (ac ++ [⟨2, zlb (s.drop i), line⟩]) := by
  intro k
  rw [<- List.drop_drop]
  rw [zya hi]
  simp only [zma]
  rw [if_neg hnl, if_neg (by rw [hp.blank]; decide), if_neg hp.com, if_neg (by rw [hn]; decide)]
 refine ⟨fun hb => by rw [h5, hs, if_pos hb], fun hb => ?_⟩
 have hpos : 0 < (zlb (s.drop i)).length := List.length_pos_iff.2 hb
 refine ⟨by simp only; omega, by simp only; omega, by simp only [List.length_append, List.length_cons, List.length_nil]; omega, n, by simp only; omega, ?_⟩
 rw [h5, hs, if_neg hb]
theorem ub_eq (b : UInt8) (n : Nat) (h : n < 256) : (b == UInt8.ofNat n) = decide ((b.toNat : Int) = n) := by
 rw [Bool.eq_iff_iff]
 simp only [beq_iff_eq, decide_eq_true_eq]
 constructor
 ·rintro rfl; simp; omega
 ·intro h2; apply UInt8.toNat_inj.1; simp; omega
theorem blank_eq (b : UInt8) : blank b = (decide ((b.toNat : Int) = 32) || (decide ((b.toNat : Int) = 9) || decide ((b.toNat : Int) = 13))) := by
 unfold blank
 rw [show (32 : UInt8) = UInt8.ofNat 32 from rfl, show (9 : UInt8) = UInt8.ofNat 9 from rfl, show (13 : UInt8) = UInt8.ofNat 13 from rfl, ub_eq _ _ (by omega), ub_eq _ _ (by omega), ub_eq _ _ (by omega), Bool.or_assoc]
 rfl
theorem run_zero {s : List UInt8} {i : Nat} (hi : i < s.length) : zVa s i = 0 <-> zw s[i] = false := by
 unfold zVa
 rw [zya hi, List.takeWhile_cons]
 cases zw s[i] <;> simp
set_option maxHeartbeats 4000000 in
set_option maxRecDepth 3000 in
theorem tokens_spec (s : List UInt8) : zj E 46 [.str s] [] = some (.ret (.tup (zSc (zu s))), []) := by
 refine zb rfl rfl rfl (by simp) ?_
 by_cases hlong : 100000 < s.length
 ·have e : zu s = ([], 2, 0) := by unfold zu; rw [if_pos hlong]
  have hlong' : (100000 : Int) < s.length := by omega
  simp [F46, hlong', e, zSc, toks]
 have e0 : zu s = zma (s.length + 1) s 1 [] := by unfold zu; rw [if_neg hlong]
 have hlong' : ¬ (100000 : Int) < s.length := by omega
 simp [F46, hlong', zSc, toks]
 refine zva K46_2 B46_2 (fun c : TS => s.length - c.at') (fun c => [(7, .int .i64 c.at'), (6, .int .i64 c.line), (5, acc 3 (c.acc.map zl))]) (fun _ => []) (fun _ => []) (OnRoad s) ⟨0, 1, []⟩ ⟨?_, ?_, ?_, ?_⟩ ?_
 ·simp
 ·simp
 ·simp
 ·exact ⟨by simp, by simp, by simp, s.length + 1, by simp, by simp⟩
 rintro ⟨i, line, ac⟩ s1 ⟨hi, hline, hac, n, hn, hg⟩ h1 h2 h3 _ h4
 simp at hi hline hac hn hg h1 h3
 have w0 : zY .i64 ((i : Int) + 1) = (i : Int) + 1 := zm (by omega) (by omega)
 have w1 : zY .i64 ((line : Int) + 1) = (line : Int) + 1 := zm (by omega) (by omega)
 have hroad : OnRoad s ⟨i, line, ac⟩ := ⟨hi, hline, hac, n, hn, hg⟩
 obtain ⟨n, rfl⟩ : ∃ m, n = m + 1 := ⟨n - 1, by omega⟩
 by_cases hend : ¬ i < s.length
 ·have he : i = s.length := by omega
  subst he
  have e1 : zu s = (ac ++ [⟨3, [], line⟩], 0, 0) := by rw [e0, hg]; simp [zma]
  have q4 : (ac.length + 1) * 32 <= zG := by simp only [zG]; omega
  clear hg e0 hroad
  (simp [*, zl]) <;> (repeat' (first | ((first | refine sP _ ?_ ?_ | refine gP _ ?_ ?_ | refine sN _ ?_ ?_ | refine gN _ ?_ ?_) <;> intro hc <;> (first | replace hc := eqn hc | replace hc := eqp hc) <;> simp [*, zl]) | ((first | refine sM _ ?_ ?_ | refine gM _ ?_ ?_ | refine sB _ ?_ ?_ | refine gB _ ?_ ?_) <;> intro hc <;> simp [*, zl])))
 have hend := Decidable.of_not_not hend
 have hi2 : (i : Int) < s.length := by omega
 have hgi := getD_idx hend
 clear hg hn
 have hget : s[i]? = some s[i] := by simp [hend]
 -- the run
 have hrun : ∀ (s2 : St) (Q : Ex -> St -> Prop), (∀ t ∈ K46_0, s2.fr t = s2.fr t) -> True := fun _ _ _ => trivial
 clear hrun
 have hrl := runLen_le s i hi
 have hri := runLen_in s i
 have hre := runLen_end s i
 generalize hk : zVa s i = k at *
 simp [h1, h3, h4, hend]
 refine zfa (List.range k) K46_0 B46_0 (fun d => [(9, .int .i64 d.length)]) (fun _ => []) (fun d => True) (by simp; omega) (by simp; try exact h4) ?_ ?_
 ·intros d x r s3 hl' hlt hget2 hget' hw hp h1' h2' h3' h4'
  simp at h1' h3' hlt
  simp at h2'
  clear hget2 hget' hl'
  have hq : i + d.length < s.length := by omega
  have hcb := hri d.length hlt hq
  have hgc : s[i + d.length]? = some s[i + d.length] := by simp [hq]
  generalize s[i + d.length] = c at hcb hgc
  have l1 := zna c.toNat []
  have l2 := zNa c.toNat []
  have wi : zY .i64 ((i : Int) + d.length) = ((i + d.length : Nat) : Int) := zm (by omega) (by omega)
  clear h1 h2 h3 e0 hgi hget hre hri hroad
  generalize i + d.length = q at *
  have hgc' : s[q]'hq = c := by simpa [hq] using hgc
  simp only [zw, Bool.or_eq_true] at hcb
  cases hx : zpa c.toNat
  ·have hy : zab c.toNat = true := by simpa [hx] using hcb
   clear hcb
   (simp [*]) <;> (repeat' (first | ((first | refine sP _ ?_ ?_ | refine gP _ ?_ ?_ | refine sN _ ?_ ?_ | refine gN _ ?_ ?_) <;> intro hc <;> (first | replace hc := eqn hc | replace hc := eqp hc) <;> simp [*]) | ((first | refine sM _ ?_ ?_ | refine gM _ ?_ ?_ | refine sB _ ?_ ?_ | refine gB _ ?_ ?_) <;> intro hc <;> simp [*])))
   all_goals (try grind)
  ·clear hcb
   (simp [*]) <;> (repeat' (first | ((first | refine sP _ ?_ ?_ | refine gP _ ?_ ?_ | refine sN _ ?_ ?_ | refine gN _ ?_ ?_) <;> intro hc <;> (first | replace hc := eqn hc | replace hc := eqp hc) <;> simp [*]) | ((first | refine sM _ ?_ ?_ | refine gM _ ?_ ?_ | refine sB _ ?_ ?_ | refine gB _ ?_ ?_) <;> intro hc <;> simp [*])))
   all_goals (try grind)
 ·intros s3 hp h1' h2' h3' h4'
  simp at h1' h2' h3'
  clear h1 h2 h3 hri hp
  have wk : ∃ q : Nat, q = i + k /\ zY .i64 ((i : Int) + k) = (q : Int) /\ (q = s.length \/ ∃ c, ∃ h : q < s.length, s[q]'h = c /\ s[q]? = some c /\ zpa c.toNat = false /\ zab c.toNat = false) := by
   refine ⟨i + k, rfl, zm (by omega) (by omega), ?_⟩
   by_cases h : i + k < s.length
   ·have := hre h
    simp only [zw, Bool.or_eq_false_iff] at this
    exact Or.inr ⟨s[i + k], h, rfl, by simp [h], this.1, this.2⟩
   ·exact Or.inl (by omega)
  obtain ⟨q, hq, wk, hstop⟩ := wk
  clear hre
  have hz := run_zero hend
  rw [hk] at hz
  have b10 := fun h => road_nl hroad hend h
  have bbl := fun h => road_blank hroad hend h
  have bcom := fun h => road_com hroad hend h
  have bname := fun hp h => road_name hroad hend hp h
  have bsign := fun hp h => road_sign hroad hend hp h
  rw [hk] at bname
  have hle := comLen_le s i hi
  have hci := comLen_in s i
  have hce := comLen_end s i
  generalize hbb : s[i] = b at *
  have l1 := zna b.toNat []
  have hbl : blank b = (decide ((b.toNat : Int) = 32) || (decide ((b.toNat : Int) = 9) || decide ((b.toNat : Int) = 13))) := blank_eq b
  by_cases c10 : (b.toNat : Int) = 10
  ·have r := b10 c10
   clear b10 bbl bcom bname bsign hz hroad e0 hle hci hce hq hbl
   replace c10 := eqp c10
   rcases hstop with hst | ⟨c, hst, g1, g2, g3, g4⟩
   ·(simp [*]) <;> (repeat' (first | ((first | refine sP _ ?_ ?_ | refine gP _ ?_ ?_ | refine sN _ ?_ ?_ | refine gN _ ?_ ?_) <;> intro hc <;> (first | replace hc := eqn hc | replace hc := eqp hc) <;> simp [*]) | ((first | refine sM _ ?_ ?_ | refine gM _ ?_ ?_ | refine sB _ ?_ ?_ | refine gB _ ?_ ?_) <;> intro hc <;> simp [*])))
    all_goals exact ⟨⟨i + 1, line + 1, ac⟩, by simp only; omega, ⟨by simp, by simp, rfl⟩, r⟩
   ·have l2 := zna c.toNat []
    have l3 := zNa c.toNat []
    (simp [*]) <;> (repeat' (first | ((first | refine sP _ ?_ ?_ | refine gP _ ?_ ?_ | refine sN _ ?_ ?_ | refine gN _ ?_ ?_) <;> intro hc <;> (first | replace hc := eqn hc | replace hc := eqp hc) <;> simp [*]) | ((first | refine sM _ ?_ ?_ | refine gM _ ?_ ?_ | refine sB _ ?_ ?_ | refine gB _ ?_ ?_) <;> intro hc <;> simp [*])))
    all_goals exact ⟨⟨i + 1, line + 1, ac⟩, by simp only; omega, ⟨by simp, by simp, rfl⟩, r⟩
  replace c10 := eqn c10
  cases hcb : blank b
  ·rw [hcb] at hbl
   replace hbl := hbl.symm
   simp only [Bool.or_eq_false_iff, decide_eq_false_iff_not] at hbl
   obtain ⟨c1, c2, c3⟩ := hbl
   have hpl : ¬ (b = 47 /\ (s.drop (i + 1)).head? = some 47) -> Plain s i hend := fun h => ⟨by rw [hbb]; simpa using c10, by rw [hbb]; exact hcb, by rw [hbb]; exact h⟩
   replace c1 := eqn c1
   replace c2 := eqn c2
   replace c3 := eqn c3
   have w1' : zY .i64 ((i : Int) + 1) = ((i + 1 : Nat) : Int) := by rw [w0]; simp
   by_cases hcom : (b.toNat : Int) = 47 /\ ∃ h : i + 1 < s.length, (s[i + 1].toNat : Int) = 47
   ·obtain ⟨c4, hj, c5⟩ := hcom
    obtain ⟨r, hpos⟩ := bcom c4 hj c5
    clear b10 bbl bcom bname bsign hz hroad e0 hq hpl hcb
    replace c4 := eqp c4
    have gj : s[i + 1]? = some s[i + 1] := by simp [hj]
    have gj' : s[i + 1]'hj = s[i + 1] := rfl
    generalize hm : comLen s i = m at *
    generalize hbj : s[i + 1] = bj at *
    have hj' : (i : Int) + 1 < s.length := by omega
    have tj : ((i : Int) + 1).toNat = i + 1 := by omega
    have nj : (0 : Int) <= (i : Int) + 1 := by omega
    replace c5 := eqp c5
    clear w1'
    rcases hstop with hst | ⟨c, hst, g1, g2, g3, g4⟩
    ·(simp [*]) <;> (repeat' (first | ((first | refine sP _ ?_ ?_ | refine gP _ ?_ ?_ | refine sN _ ?_ ?_ | refine gN _ ?_ ?_) <;> intro hc <;> (first | replace hc := eqn hc | replace hc := eqp hc) <;> simp [*]) | ((first | refine sM _ ?_ ?_ | refine gM _ ?_ ?_ | refine sB _ ?_ ?_ | refine gB _ ?_ ?_) <;> intro hc <;> simp [*])))
     refine zfa (List.range m) K46_1 B46_1 (fun d => [(7, .int .i64 ((i + d.length : Nat) : Int))]) (fun _ => []) (fun _ => True) (by simp; omega) (by simp) ?_ ?_
     ·intros d x r' s4 hl' hlt hget2 hget' hw hp h1'' h2'' h3'' h4''
      simp at h1'' h3'' hlt
      have hq2 : i + d.length < s.length := by omega
      have hcb := hci d.length hlt hq2
      have hgc : s[i + d.length]? = some s[i + d.length] := by simp [hq2]
      have hcb' : ¬ (s[i + d.length].toNat : Int) = 10 := fun h => hcb (UInt8.toNat_inj.1 (by simp; omega))
      have wi : zY .i64 ((i : Int) + d.length + 1) = ((i : Int) + d.length) + 1 := zm (by omega) (by omega)
      have a0 : (0 : Int) <= (i : Int) + d.length := by omega
      have a1 : ((i : Int) + d.length).toNat = i + d.length := by omega
      have a2 : (i : Int) + d.length < s.length := by omega
      have a3 : (i : Int) + (d.length + 1) = (i : Int) + d.length + 1 := by omega
      obtain ⟨c2, hgc'⟩ : ∃ c2, s[i + d.length]'hq2 = c2 := ⟨_, rfl⟩
      rw [hgc'] at hcb hgc hcb'
      replace hcb' := eqn hcb'
      clear hci hce hget2 hget' hl' hbb hgi hget gj gj' h2'' hcb
      simp [*]
     ·intros s4 hp h1'' h2'' h3'' h4''
      simp at h1'' h3''
      have a0 : (0 : Int) <= (i : Int) + m := by omega
      have a1 : ((i : Int) + m).toNat = i + m := by omega
      clear hci hbb hgi hget gj gj' h2''
      by_cases hmm : i + m < s.length
      ·have hcb := hce hmm
       have hgc : s[i + m]? = some s[i + m] := by simp [hmm]
       have a2 : (i : Int) + m < s.length := by omega
       rw [hcb] at hgc
       clear hce
       simp [*]
       exact ⟨⟨i + m, line, ac⟩, by simp only; omega, ⟨by simp, by simp, rfl⟩, r⟩
      ·have a2 : ¬ (i : Int) + m < s.length := by omega
       clear hce
       simp [*]
       exact ⟨⟨i + m, line, ac⟩, by simp only; omega, ⟨by simp, by simp, rfl⟩, r⟩
    ·have l2 := zna c.toNat []
     have l3 := zNa c.toNat []
     (simp [*]) <;> (repeat' (first | ((first | refine sP _ ?_ ?_ | refine gP _ ?_ ?_ | refine sN _ ?_ ?_ | refine gN _ ?_ ?_) <;> intro hc <;> (first | replace hc := eqn hc | replace hc := eqp hc) <;> simp [*]) | ((first | refine sM _ ?_ ?_ | refine gM _ ?_ ?_ | refine sB _ ?_ ?_ | refine gB _ ?_ ?_) <;> intro hc <;> simp [*])))
     refine zfa (List.range m) K46_1 B46_1 (fun d => [(7, .int .i64 ((i + d.length : Nat) : Int))]) (fun _ => []) (fun _ => True) (by simp; omega) (by simp) ?_ ?_
     ·intros d x r' s4 hl' hlt hget2 hget' hw hp h1'' h2'' h3'' h4''
      simp at h1'' h3'' hlt
      have hq2 : i + d.length < s.length := by omega
      have hcb := hci d.length hlt hq2
      have hgc : s[i + d.length]? = some s[i + d.length] := by simp [hq2]
      have hcb' : ¬ (s[i + d.length].toNat : Int) = 10 := fun h => hcb (UInt8.toNat_inj.1 (by simp; omega))
      have wi : zY .i64 ((i : Int) + d.length + 1) = ((i : Int) + d.length) + 1 := zm (by omega) (by omega)
      have a0 : (0 : Int) <= (i : Int) + d.length := by omega
      have a1 : ((i : Int) + d.length).toNat = i + d.length := by omega
      have a2 : (i : Int) + d.length < s.length := by omega
      have a3 : (i : Int) + (d.length + 1) = (i : Int) + d.length + 1 := by omega
      obtain ⟨c2, hgc'⟩ : ∃ c2, s[i + d.length]'hq2 = c2 := ⟨_, rfl⟩
      rw [hgc'] at hcb hgc hcb'
      replace hcb' := eqn hcb'
      clear hci hce hget2 hget' hl' hbb hgi hget gj gj' h2'' hcb
      simp [*]
     ·intros s4 hp h1'' h2'' h3'' h4''
      simp at h1'' h3''
      have a0 : (0 : Int) <= (i : Int) + m := by omega
      have a1 : ((i : Int) + m).toNat = i + m := by omega
      clear hci hbb hgi hget gj gj' h2''
      by_cases hmm : i + m < s.length
      ·have hcb := hce hmm
       have hgc : s[i + m]? = some s[i + m] := by simp [hmm]
       have a2 : (i : Int) + m < s.length := by omega
       rw [hcb] at hgc
       clear hce
       simp [*]
       exact ⟨⟨i + m, line, ac⟩, by simp only; omega, ⟨by simp, by simp, rfl⟩, r⟩
      ·have a2 : ¬ (i : Int) + m < s.length := by omega
       clear hce
       simp [*]
       exact ⟨⟨i + m, line, ac⟩, by simp only; omega, ⟨by simp, by simp, rfl⟩, r⟩
   ·clear bcom hci hce hle
    replace hpl := hpl (by
     rintro ⟨h1, h2⟩
     apply hcom
     refine ⟨by rw [h1]; rfl, ?_⟩
     by_cases hj : i + 1 < s.length
     ·refine ⟨hj, ?_⟩
      rw [zya hj] at h2
      simp at h2
      have h3 : s[i + 1] = 47 := by
       have : s[i + 1]? = some s[i + 1] := by simp [hj]
       rw [this] at h2; simpa using h2
      rw [h3]; rfl
     ·rw [List.drop_eq_nil_of_le (by omega)] at h2; simp at h2)
    have q4 : (ac.length + 1) * 32 <= zG := by simp only [zG]; omega
    cases hnb : zw b
    ·obtain ⟨s0, s1⟩ := bsign hpl hnb
     have hk0 : k = 0 := hz.2 hnb
     have hs := sign_spec (s.drop i) (by simp; omega)
     have hsl := sign_len (s.drop i)
     simp at hsl
     generalize hsg : zlb (s.drop i) = sg at *
     have hcc : (¬ (b.toNat : Int) = 47) \/ ((b.toNat : Int) = 47 /\ (i + 1 = s.length \/ ∃ h : i + 1 < s.length, ¬ (s[i + 1].toNat : Int) = 47)) := by
      by_cases c4 : (b.toNat : Int) = 47
      ·right; refine ⟨c4, ?_⟩
       by_cases hj : i + 1 < s.length
       ·exact Or.inr ⟨hj, fun h => hcom ⟨c4, hj, h⟩⟩
       ·exact Or.inl (by omega)
      ·exact Or.inl c4
     have he : sg = [] -> zu s = ([], 20, (line : Int)) := fun h => by rw [e0]; exact s0 h
     have hnb' := hnb
     clear b10 bbl bname bsign hz hcb hcom hpl hroad s0 hnb e0 hk hrl hsg
     subst hk0
     have hwi : zY .i64 ((i : Int) + sg.length) = ((i + sg.length : Nat) : Int) := zm (by omega) (by omega)
     have hii : i <= s.length := hi
     generalize hq2 : i + sg.length = q2 at *
     have wi0 : zY .i64 (i : Int) = i := zm (by omega) (by omega)
     have l3 := zNa b.toNat []
     simp only [zw, Bool.or_eq_false_iff] at hnb'
     obtain ⟨g3, g4⟩ := hnb'
     clear hq hstop wk
     rcases hcc with c4 | ⟨c4, hj | ⟨hj, c5⟩⟩
     ·replace c4 := eqn c4
      by_cases hsn : sg = []
      ·replace he := he hsn
       subst hsn
       clear s1
       (simp [*]) <;> (repeat' (first | ((first | refine sP _ ?_ ?_ | refine gP _ ?_ ?_ | refine sN _ ?_ ?_ | refine gN _ ?_ ?_) <;> intro hc <;> (first | replace hc := eqn hc | replace hc := eqp hc) <;> simp [*]) | ((first | refine sM _ ?_ ?_ | refine gM _ ?_ ?_ | refine sB _ ?_ ?_ | refine gB _ ?_ ?_) <;> intro hc <;> simp [*])))
      ·replace s1 := s1 hsn
       have hpos : 0 < sg.length := List.length_pos_iff.2 hsn
       replace hsn := eqn hsn
       clear he
       (simp [*, zl]) <;> (repeat' (first | ((first | refine sP _ ?_ ?_ | refine gP _ ?_ ?_ | refine sN _ ?_ ?_ | refine gN _ ?_ ?_) <;> intro hc <;> (first | replace hc := eqn hc | replace hc := eqp hc) <;> simp [*, zl]) | ((first | refine sM _ ?_ ?_ | refine gM _ ?_ ?_ | refine sB _ ?_ ?_ | refine gB _ ?_ ?_) <;> intro hc <;> simp [*, zl])))
       all_goals exact ⟨⟨q2, line, ac ++ [⟨2, sg, line⟩]⟩, by simp only; omega, ⟨by first | rfl | omega | (simp only; omega), by simp, by simp [zl]⟩, s1⟩
     ·replace c4 := eqp c4
      have hj1 : ¬ (i : Int) + 1 < s.length := by omega
      by_cases hsn : sg = []
      ·replace he := he hsn
       subst hsn
       clear s1
       (simp [*]) <;> (repeat' (first | ((first | refine sP _ ?_ ?_ | refine gP _ ?_ ?_ | refine sN _ ?_ ?_ | refine gN _ ?_ ?_) <;> intro hc <;> (first | replace hc := eqn hc | replace hc := eqp hc) <;> simp [*]) | ((first | refine sM _ ?_ ?_ | refine gM _ ?_ ?_ | refine sB _ ?_ ?_ | refine gB _ ?_ ?_) <;> intro hc <;> simp [*])))
      ·replace s1 := s1 hsn
       have hpos : 0 < sg.length := List.length_pos_iff.2 hsn
       replace hsn := eqn hsn
       clear he
       (simp [*, zl]) <;> (repeat' (first | ((first | refine sP _ ?_ ?_ | refine gP _ ?_ ?_ | refine sN _ ?_ ?_ | refine gN _ ?_ ?_) <;> intro hc <;> (first | replace hc := eqn hc | replace hc := eqp hc) <;> simp [*, zl]) | ((first | refine sM _ ?_ ?_ | refine gM _ ?_ ?_ | refine sB _ ?_ ?_ | refine gB _ ?_ ?_) <;> intro hc <;> simp [*, zl])))
       all_goals exact ⟨⟨q2, line, ac ++ [⟨2, sg, line⟩]⟩, by simp only; omega, ⟨by first | rfl | omega | (simp only; omega), by simp, by simp [zl]⟩, s1⟩
     ·replace c4 := eqp c4
      have hj1 : (i : Int) + 1 < s.length := by omega
      have tj : ((i : Int) + 1).toNat = i + 1 := by omega
      have nj : (0 : Int) <= (i : Int) + 1 := by omega
      obtain ⟨bj, gj'⟩ : ∃ bj, s[i + 1]'hj = bj := ⟨_, rfl⟩
      rw [gj'] at c5
      replace c5 := eqn c5
      clear w1'
      by_cases hsn : sg = []
      ·replace he := he hsn
       subst hsn
       clear s1
       (simp [*]) <;> (repeat' (first | ((first | refine sP _ ?_ ?_ | refine gP _ ?_ ?_ | refine sN _ ?_ ?_ | refine gN _ ?_ ?_) <;> intro hc <;> (first | replace hc := eqn hc | replace hc := eqp hc) <;> simp [*]) | ((first | refine sM _ ?_ ?_ | refine gM _ ?_ ?_ | refine sB _ ?_ ?_ | refine gB _ ?_ ?_) <;> intro hc <;> simp [*])))
      ·replace s1 := s1 hsn
       have hpos : 0 < sg.length := List.length_pos_iff.2 hsn
       replace hsn := eqn hsn
       clear he
       (simp [*, zl]) <;> (repeat' (first | ((first | refine sP _ ?_ ?_ | refine gP _ ?_ ?_ | refine sN _ ?_ ?_ | refine gN _ ?_ ?_) <;> intro hc <;> (first | replace hc := eqn hc | replace hc := eqp hc) <;> simp [*, zl]) | ((first | refine sM _ ?_ ?_ | refine gM _ ?_ ?_ | refine sB _ ?_ ?_ | refine gB _ ?_ ?_) <;> intro hc <;> simp [*, zl])))
       all_goals exact ⟨⟨q2, line, ac ++ [⟨2, sg, line⟩]⟩, by simp only; omega, ⟨by first | rfl | omega | (simp only; omega), by simp, by simp [zl]⟩, s1⟩
    ·obtain ⟨s0, s1⟩ := bname hpl hnb
     have hk0 : 0 < k := by
      rcases Nat.eq_zero_or_pos k with h | h
      ·rw [hz.1 h] at hnb; cases hnb
      ·exact h
     have c4 : ¬ (b.toNat : Int) = 47 := by
      intro h
      have : b = 47 := UInt8.toNat_inj.1 (by simp; omega)
      rw [this] at hnb; exact absurd hnb (by decide)
     rw [<- hq] at s0 s1
     have hqi : i <= q := by omega
     have hqs : q <= s.length := by omega
     have hwl : ((s.take q).drop i).length = k := by simp; omega
     have hqk : i < q := by omega
     clear hz hcom hpl hroad b10 bbl bname bsign hcb hk hrl
     have hw1 := rword_spec ((s.take q).drop i) []
     have hw2 := zpc ((s.take q).drop i) []
     have hw3 := number_spec ((s.take q).drop i) (by simp; omega)
     have he : tokBad ((s.take q).drop i) b = true -> zu s = ([], 20, (line : Int)) := fun h => by rw [e0]; exact s0 h
     clear s0 e0
     have ww : zY .i64 ((i : Int) + k) = q := wk
     have hki : i + k = q := hq.symm
     clear hq
     generalize hww : (s.take q).drop i = w at *
     replace c4 := eqn c4
     have hnbb : zw b = (zpa b.toNat || zab b.toNat) := rfl
     rw [hnb] at hnbb
     replace hnbb := hnbb.symm
     have hkn : zMb w b = if wordM w then 2 else if zpa b.toNat then 1 else 0 := rfl
     have hbn : tokBad w b = ((decide (zMb w b = 1) && !zGb w) || (decide (zMb w b = 0) && !zXa w)) := rfl
     rcases hstop with hst | ⟨c, hst, g1, g2, g3, g4⟩
     ·rw [hst, List.take_length] at hww
      cases f1 : wordM w
      ·cases f2 : zpa b.toNat
       ·rw [f1, f2] at hkn
        simp at hkn
        rw [hkn] at hbn s1
        cases f3 : zXa w
        ·rw [f3] at hbn
         simp at hbn
         replace he := he hbn
         clear s1 hkn hnbb hbn
         (simp [*]) <;> (repeat' (first | ((first | refine sP _ ?_ ?_ | refine gP _ ?_ ?_ | refine sN _ ?_ ?_ | refine gN _ ?_ ?_) <;> intro hc <;> (first | replace hc := eqn hc | replace hc := eqp hc) <;> simp [*]) | ((first | refine sM _ ?_ ?_ | refine gM _ ?_ ?_ | refine sB _ ?_ ?_ | refine gB _ ?_ ?_) <;> intro hc <;> simp [*])))
        ·rw [f3] at hbn
         simp at hbn
         replace s1 := s1 hbn
         clear he hkn hnbb hbn
         (simp [*, zl]) <;> (repeat' (first | ((first | refine sP _ ?_ ?_ | refine gP _ ?_ ?_ | refine sN _ ?_ ?_ | refine gN _ ?_ ?_) <;> intro hc <;> (first | replace hc := eqn hc | replace hc := eqp hc) <;> simp [*, zl]) | ((first | refine sM _ ?_ ?_ | refine gM _ ?_ ?_ | refine sB _ ?_ ?_ | refine gB _ ?_ ?_) <;> intro hc <;> simp [*, zl])))
         all_goals exact ⟨⟨q, line, ac ++ [⟨0, w, line⟩]⟩, by simp only; omega, ⟨by first | rfl | omega | (simp only; omega), by simp, by simp [zl]⟩, s1⟩
       ·rw [f1, f2] at hkn
        simp at hkn
        rw [hkn] at hbn s1
        cases f3 : zGb w
        ·rw [f3] at hbn
         simp at hbn
         replace he := he hbn
         clear s1 hkn hnbb hbn
         (simp [*]) <;> (repeat' (first | ((first | refine sP _ ?_ ?_ | refine gP _ ?_ ?_ | refine sN _ ?_ ?_ | refine gN _ ?_ ?_) <;> intro hc <;> (first | replace hc := eqn hc | replace hc := eqp hc) <;> simp [*]) | ((first | refine sM _ ?_ ?_ | refine gM _ ?_ ?_ | refine sB _ ?_ ?_ | refine gB _ ?_ ?_) <;> intro hc <;> simp [*])))
        ·rw [f3] at hbn
         simp at hbn
         replace s1 := s1 hbn
         clear he hkn hnbb hbn
         (simp [*, zl]) <;> (repeat' (first | ((first | refine sP _ ?_ ?_ | refine gP _ ?_ ?_ | refine sN _ ?_ ?_ | refine gN _ ?_ ?_) <;> intro hc <;> (first | replace hc := eqn hc | replace hc := eqp hc) <;> simp [*, zl]) | ((first | refine sM _ ?_ ?_ | refine gM _ ?_ ?_ | refine sB _ ?_ ?_ | refine gB _ ?_ ?_) <;> intro hc <;> simp [*, zl])))
         all_goals exact ⟨⟨q, line, ac ++ [⟨1, w, line⟩]⟩, by simp only; omega, ⟨by first | rfl | omega | (simp only; omega), by simp, by simp [zl]⟩, s1⟩
      ·rw [f1] at hkn
       simp at hkn
       rw [hkn] at hbn s1
       simp at hbn
       replace s1 := s1 hbn
       clear he hkn hnbb hbn
       cases f2 : zpa b.toNat
       ·(simp [*, zl]) <;> (repeat' (first | ((first | refine sP _ ?_ ?_ | refine gP _ ?_ ?_ | refine sN _ ?_ ?_ | refine gN _ ?_ ?_) <;> intro hc <;> (first | replace hc := eqn hc | replace hc := eqp hc) <;> simp [*, zl]) | ((first | refine sM _ ?_ ?_ | refine gM _ ?_ ?_ | refine sB _ ?_ ?_ | refine gB _ ?_ ?_) <;> intro hc <;> simp [*, zl])))
        all_goals exact ⟨⟨q, line, ac ++ [⟨2, w, line⟩]⟩, by simp only; omega, ⟨by first | rfl | omega | (simp only; omega), by simp, by simp [zl]⟩, s1⟩
       ·(simp [*, zl]) <;> (repeat' (first | ((first | refine sP _ ?_ ?_ | refine gP _ ?_ ?_ | refine sN _ ?_ ?_ | refine gN _ ?_ ?_) <;> intro hc <;> (first | replace hc := eqn hc | replace hc := eqp hc) <;> simp [*, zl]) | ((first | refine sM _ ?_ ?_ | refine gM _ ?_ ?_ | refine sB _ ?_ ?_ | refine gB _ ?_ ?_) <;> intro hc <;> simp [*, zl])))
        all_goals exact ⟨⟨q, line, ac ++ [⟨2, w, line⟩]⟩, by simp only; omega, ⟨by first | rfl | omega | (simp only; omega), by simp, by simp [zl]⟩, s1⟩
     ·have l2 := zna c.toNat []
      have l3 := zNa c.toNat []
      cases f1 : wordM w
      ·cases f2 : zpa b.toNat
       ·rw [f1, f2] at hkn
        simp at hkn
        rw [hkn] at hbn s1
        cases f3 : zXa w
        ·rw [f3] at hbn
         simp at hbn
         replace he := he hbn
         clear s1 hkn hnbb hbn
         (simp [*]) <;> (repeat' (first | ((first | refine sP _ ?_ ?_ | refine gP _ ?_ ?_ | refine sN _ ?_ ?_ | refine gN _ ?_ ?_) <;> intro hc <;> (first | replace hc := eqn hc | replace hc := eqp hc) <;> simp [*]) | ((first | refine sM _ ?_ ?_ | refine gM _ ?_ ?_ | refine sB _ ?_ ?_ | refine gB _ ?_ ?_) <;> intro hc <;> simp [*])))
        ·rw [f3] at hbn
         simp at hbn
         replace s1 := s1 hbn
         clear he hkn hnbb hbn
         (simp [*, zl]) <;> (repeat' (first | ((first | refine sP _ ?_ ?_ | refine gP _ ?_ ?_ | refine sN _ ?_ ?_ | refine gN _ ?_ ?_) <;> intro hc <;> (first | replace hc := eqn hc | replace hc := eqp hc) <;> simp [*, zl]) | ((first | refine sM _ ?_ ?_ | refine gM _ ?_ ?_ | refine sB _ ?_ ?_ | refine gB _ ?_ ?_) <;> intro hc <;> simp [*, zl])))
         all_goals exact ⟨⟨q, line, ac ++ [⟨0, w, line⟩]⟩, by simp only; omega, ⟨by first | rfl | omega | (simp only; omega), by simp, by simp [zl]⟩, s1⟩
       ·rw [f1, f2] at hkn
        simp at hkn
        rw [hkn] at hbn s1
        cases f3 : zGb w
        ·rw [f3] at hbn
         simp at hbn
         replace he := he hbn
         clear s1 hkn hnbb hbn
         (simp [*]) <;> (repeat' (first | ((first | refine sP _ ?_ ?_ | refine gP _ ?_ ?_ | refine sN _ ?_ ?_ | refine gN _ ?_ ?_) <;> intro hc <;> (first | replace hc := eqn hc | replace hc := eqp hc) <;> simp [*]) | ((first | refine sM _ ?_ ?_ | refine gM _ ?_ ?_ | refine sB _ ?_ ?_ | refine gB _ ?_ ?_) <;> intro hc <;> simp [*])))
        ·rw [f3] at hbn
         simp at hbn
         replace s1 := s1 hbn
         clear he hkn hnbb hbn
         (simp [*, zl]) <;> (repeat' (first | ((first | refine sP _ ?_ ?_ | refine gP _ ?_ ?_ | refine sN _ ?_ ?_ | refine gN _ ?_ ?_) <;> intro hc <;> (first | replace hc := eqn hc | replace hc := eqp hc) <;> simp [*, zl]) | ((first | refine sM _ ?_ ?_ | refine gM _ ?_ ?_ | refine sB _ ?_ ?_ | refine gB _ ?_ ?_) <;> intro hc <;> simp [*, zl])))
         all_goals exact ⟨⟨q, line, ac ++ [⟨1, w, line⟩]⟩, by simp only; omega, ⟨by first | rfl | omega | (simp only; omega), by simp, by simp [zl]⟩, s1⟩
      ·rw [f1] at hkn
       simp at hkn
       rw [hkn] at hbn s1
       simp at hbn
       replace s1 := s1 hbn
       clear he hkn hnbb hbn
       cases f2 : zpa b.toNat
       ·(simp [*, zl]) <;> (repeat' (first | ((first | refine sP _ ?_ ?_ | refine gP _ ?_ ?_ | refine sN _ ?_ ?_ | refine gN _ ?_ ?_) <;> intro hc <;> (first | replace hc := eqn hc | replace hc := eqp hc) <;> simp [*, zl]) | ((first | refine sM _ ?_ ?_ | refine gM _ ?_ ?_ | refine sB _ ?_ ?_ | refine gB _ ?_ ?_) <;> intro hc <;> simp [*, zl])))
        all_goals exact ⟨⟨q, line, ac ++ [⟨2, w, line⟩]⟩, by simp only; omega, ⟨by first | rfl | omega | (simp only; omega), by simp, by simp [zl]⟩, s1⟩
       ·(simp [*, zl]) <;> (repeat' (first | ((first | refine sP _ ?_ ?_ | refine gP _ ?_ ?_ | refine sN _ ?_ ?_ | refine gN _ ?_ ?_) <;> intro hc <;> (first | replace hc := eqn hc | replace hc := eqp hc) <;> simp [*, zl]) | ((first | refine sM _ ?_ ?_ | refine gM _ ?_ ?_ | refine sB _ ?_ ?_ | refine gB _ ?_ ?_) <;> intro hc <;> simp [*, zl])))
        all_goals exact ⟨⟨q, line, ac ++ [⟨2, w, line⟩]⟩, by simp only; omega, ⟨by first | rfl | omega | (simp only; omega), by simp, by simp [zl]⟩, s1⟩
  ·have r := bbl hcb
   rw [hcb] at hbl
   replace hbl := hbl.symm
   simp only [Bool.or_eq_true, decide_eq_true_eq] at hbl
   clear b10 bbl bcom bname bsign hz hroad e0 hle hci hce hq hcb
   rcases hbl with c1 | c1 | c1
   all_goals
    replace c1 := eqp c1
    rcases hstop with hst | ⟨c, hst, g1, g2, g3, g4⟩
    ·(simp [*]) <;> (repeat' (first | ((first | refine sP _ ?_ ?_ | refine gP _ ?_ ?_ | refine sN _ ?_ ?_ | refine gN _ ?_ ?_) <;> intro hc <;> (first | replace hc := eqn hc | replace hc := eqp hc) <;> simp [*]) | ((first | refine sM _ ?_ ?_ | refine gM _ ?_ ?_ | refine sB _ ?_ ?_ | refine gB _ ?_ ?_) <;> intro hc <;> simp [*])))
     all_goals exact ⟨⟨i + 1, line, ac⟩, by simp only; omega, ⟨by simp, by simp, rfl⟩, r⟩
    ·have l2 := zna c.toNat []
     have l3 := zNa c.toNat []
     (simp [*]) <;> (repeat' (first | ((first | refine sP _ ?_ ?_ | refine gP _ ?_ ?_ | refine sN _ ?_ ?_ | refine gN _ ?_ ?_) <;> intro hc <;> (first | replace hc := eqn hc | replace hc := eqp hc) <;> simp [*]) | ((first | refine sM _ ?_ ?_ | refine gM _ ?_ ?_ | refine sB _ ?_ ?_ | refine gB _ ?_ ?_) <;> intro hc <;> simp [*])))
     all_goals exact ⟨⟨i + 1, line, ac⟩, by simp only; omega, ⟨by simp, by simp, rfl⟩, r⟩
end PE.U

namespace PE.U
open Go PE
@[simp] theorem rebuild_agg (a l : List PV) : zka (.agg a) l = .agg l := Eq.trans rfl rfl
structure PS where
 at' : Nat
 bad : Bool
 deep : Bool
def pob (T : List Tok) (p : PS) : ze := [.arr 4 [.agg [toks T, .int .i64 p.at', .bool p.bad, .bool p.deep]]]
def tk (T : List Tok) (i : Nat) : Tok := T[i]?.getD ⟨3, [], 0⟩
def zk (p : PS) : Bool := p.bad || p.deep
def isF (T : List Tok) (s : List UInt8) (p : PS) : Bool := !zk p && (decide ((tk T p.at').kind = 2) && decide ((tk T p.at').text = s))
def takeF (T : List Tok) (s : List UInt8) (p : PS) : Bool × PS := if isF T s p then (true, { p with at' := p.at' + 1 }) else (false, p)
def zA (T : List Tok) (s : List UInt8) (p : PS) : PS := if isF T s p then { p with at' := p.at' + 1 } else if p.deep then p else { p with bad := true }
def zy (T : List Tok) (k : Int) (p : PS) : List UInt8 × PS := if zk p then ([], p) else if (tk T p.at').kind = k then ((tk T p.at').text, { p with at' := p.at' + 1 }) else ([], { p with bad := true })
def zM (T : List Tok) (p : PS) : Int × PS := if isF T [105, 110, 116] p then (1, { p with at' := p.at' + 1 }) else (2, zA T [98, 111, 111, 108] p)
structure Inv1 (T : List Tok) (p : PS) : Prop where
 lt : p.at' < T.length
 last : ∃ t, T[T.length - 1]? = some t /\ t.kind = 3
 sm : T.length < 1000000
 num : ∀ t ∈ T, t.kind = 0 -> digs t.text = true /\ t.text.length < 1000000
theorem tk_get {T : List Tok} {i : Nat} (h : i < T.length) : T[i]? = some (tk T i) := by unfold tk; simp [h]
theorem zjd {T : List Tok} {i : Nat} (h : i < T.length) : T[i]'h = tk T i := by unfold tk; simp [h]
theorem Inv1.next {T : List Tok} {p : PS} (h : Inv1 T p) (hk : (tk T p.at').kind ≠ 3) (b d : Bool) : Inv1 T ⟨p.at' + 1, b, d⟩ := by
 obtain ⟨h1, ⟨t, h2, h3⟩, h4, h5⟩ := h
 refine ⟨?_, ⟨t, h2, h3⟩, h4, h5⟩
 show p.at' + 1 < T.length
 rcases Nat.lt_or_ge (p.at' + 1) T.length with h | h
 ·exact h
 ·have : p.at' = T.length - 1 := by omega
  unfold tk at hk
  rw [this, h2] at hk
  exact absurd h3 hk
theorem isF_kind {T : List Tok} {s : List UInt8} {p : PS} (h : isF T s p = true) : (tk T p.at').kind = 2 /\ (tk T p.at').text = s /\ p.bad = false /\ p.deep = false := by
 simp [isF, zk] at h; grind
def adv (p : PS) : PS := { p with at' := p.at' + 1 }
theorem zQ (T : List Tok) (s : List UInt8) (p : PS) : takeF T s p = if isF T s p then (true, adv p) else (false, p) := rfl
theorem Inv1.adv {T : List Tok} {p : PS} (I : Inv1 T p) (s : List UInt8) (h : isF T s p = true) : Inv1 T (adv p) := I.next (by rw [(isF_kind h).1]; decide) _ _
section
variable {T : List Tok} {p : PS}
theorem zCb (I : Inv1 T p) : zj E 78 [.ptr 0 0 0] (pob T p) = some (.ret (.bool (zk p)), pob T p) := by
 refine zb rfl rfl rfl (by simp) ?_
 unfold zk
 cases hb : p.bad <;> (simp [*, F78, pob, toks]) <;> (repeat' ((first | refine sP _ ?_ ?_ | refine gP _ ?_ ?_ | refine sN _ ?_ ?_ | refine gN _ ?_ ?_ | refine sM _ ?_ ?_ | refine gM _ ?_ ?_ | refine sB _ ?_ ?_ | refine gB _ ?_ ?_) <;> intro hc <;> simp [*, F78, pob, toks]))
theorem is_spec (I : Inv1 T p) (s : List UInt8) : zj E 100 [.ptr 0 0 0, .str s] (pob T p) = some (.ret (.bool (isF T s p)), pob T p) := by
 refine zb rfl rfl rfl (by simp) ?_
 have h1 := zCb I
 have hlt := I.lt
 have hg := tk_get hlt
 have hg' := zjd hlt
 unfold isF
 cases ho : zk p
 ·rw [ho] at h1
  by_cases hk : (tk T p.at').kind = 2
  ·have hk' : decide ((tk T p.at').kind = 2) = true := decide_eq_true hk
   replace hk := eqp hk
   simp [pob, toks] at h1
   (simp [*, F100, pob, toks, zl]) <;> (repeat' (first | ((first | refine sP _ ?_ ?_ | refine gP _ ?_ ?_ | refine sN _ ?_ ?_ | refine gN _ ?_ ?_) <;> intro hc <;> (first | replace hc := eqn hc | replace hc := eqp hc) <;> simp [*, F100, pob, toks, zl]) | ((first | refine sM _ ?_ ?_ | refine gM _ ?_ ?_ | refine sB _ ?_ ?_ | refine gB _ ?_ ?_) <;> intro hc <;> simp [*, F100, pob, toks, zl])))
  ·have hk' : decide ((tk T p.at').kind = 2) = false := decide_eq_false hk
   replace hk := eqn hk
   simp [pob, toks] at h1
   (simp [*, F100, pob, toks, zl]) <;> (repeat' (first | ((first | refine sP _ ?_ ?_ | refine gP _ ?_ ?_ | refine sN _ ?_ ?_ | refine gN _ ?_ ?_) <;> intro hc <;> (first | replace hc := eqn hc | replace hc := eqp hc) <;> simp [*, F100, pob, toks, zl]) | ((first | refine sM _ ?_ ?_ | refine gM _ ?_ ?_ | refine sB _ ?_ ?_ | refine gB _ ?_ ?_) <;> intro hc <;> simp [*, F100, pob, toks, zl])))
 ·rw [ho] at h1
  simp [pob, toks] at h1
  (simp [*, F100, pob, toks, zl]) <;> (repeat' (first | ((first | refine sP _ ?_ ?_ | refine gP _ ?_ ?_ | refine sN _ ?_ ?_ | refine gN _ ?_ ?_) <;> intro hc <;> (first | replace hc := eqn hc | replace hc := eqp hc) <;> simp [*, F100, pob, toks, zl]) | ((first | refine sM _ ?_ ?_ | refine gM _ ?_ ?_ | refine sB _ ?_ ?_ | refine gB _ ?_ ?_) <;> intro hc <;> simp [*, F100, pob, toks, zl])))
theorem Inv1.bad' (I : Inv1 T p) : Inv1 T { p with bad := true } := ⟨I.lt, I.last, I.sm, I.num⟩
theorem Inv1.deep' (I : Inv1 T p) : Inv1 T { p with deep := true } := ⟨I.lt, I.last, I.sm, I.num⟩
theorem Inv1.must (I : Inv1 T p) (s : List UInt8) : Inv1 T (zA T s p) := by
 unfold zA
 split
 ·rename_i h
  exact I.next (by rw [(isF_kind h).1]; decide) _ _
 ·split
  ·exact I
  ·exact I.bad'
theorem Inv1.text (I : Inv1 T p) (k : Int) (hk : k ≠ 3) : Inv1 T (zy T k p).2 := by
 unfold zy
 split
 ·exact I
 ·split
  ·rename_i h
   exact I.next (by rw [h]; exact hk) _ _
  ·exact I.bad'
theorem Inv1.typed (I : Inv1 T p) : Inv1 T (zM T p).2 := by
 unfold zM
 split
 ·rename_i h
  exact I.next (by rw [(isF_kind h).1]; decide) _ _
 ·exact I.must _
theorem zz (I : Inv1 T p) (s : List UInt8) : zj E 81 [.ptr 0 0 0, .str s] (pob T p) = some (.ret (.bool (takeF T s p).1), pob T (takeF T s p).2) := by
 refine zb rfl rfl rfl (by simp) ?_
 have h1 := is_spec I s
 have hw : zY .i64 ((p.at' : Int) + 1) = (p.at' : Int) + 1 := zm (by omega) (by have := I.lt; have := I.sm; omega)
 unfold takeF
 cases ho : isF T s p
 ·rw [ho] at h1
  simp [pob, toks] at h1
  (simp [*, F81, pob, toks]) <;> (repeat' (first | ((first | refine sP _ ?_ ?_ | refine gP _ ?_ ?_ | refine sN _ ?_ ?_ | refine gN _ ?_ ?_) <;> intro hc <;> (first | replace hc := eqn hc | replace hc := eqp hc) <;> simp [*, F81, pob, toks]) | ((first | refine sM _ ?_ ?_ | refine gM _ ?_ ?_ | refine sB _ ?_ ?_ | refine gB _ ?_ ?_) <;> intro hc <;> simp [*, F81, pob, toks])))
 ·rw [ho] at h1
  simp [pob, toks] at h1
  (simp [*, F81, pob, toks]) <;> (repeat' (first | ((first | refine sP _ ?_ ?_ | refine gP _ ?_ ?_ | refine sN _ ?_ ?_ | refine gN _ ?_ ?_) <;> intro hc <;> (first | replace hc := eqn hc | replace hc := eqp hc) <;> simp [*, F81, pob, toks]) | ((first | refine sM _ ?_ ?_ | refine gM _ ?_ ?_ | refine sB _ ?_ ?_ | refine gB _ ?_ ?_) <;> intro hc <;> simp [*, F81, pob, toks])))
theorem zx (I : Inv1 T p) (s : List UInt8) : zj E 83 [.ptr 0 0 0, .str s] (pob T p) = some (.ret (.tup []), pob T (zA T s p)) := by
 refine zb rfl rfl rfl (by simp) ?_
 have h1 := zz I s
 unfold zA
 unfold takeF at h1
 cases ho : isF T s p
 ·rw [ho] at h1
  simp [pob, toks] at h1
  cases hd : p.deep
  ·rw [hd] at h1
   (simp [*, F83, pob, toks]) <;> (repeat' (first | ((first | refine sP _ ?_ ?_ | refine gP _ ?_ ?_ | refine sN _ ?_ ?_ | refine gN _ ?_ ?_) <;> intro hc <;> (first | replace hc := eqn hc | replace hc := eqp hc) <;> simp [*, F83, pob, toks]) | ((first | refine sM _ ?_ ?_ | refine gM _ ?_ ?_ | refine sB _ ?_ ?_ | refine gB _ ?_ ?_) <;> intro hc <;> simp [*, F83, pob, toks])))
  ·rw [hd] at h1
   (simp [*, F83, pob, toks]) <;> (repeat' (first | ((first | refine sP _ ?_ ?_ | refine gP _ ?_ ?_ | refine sN _ ?_ ?_ | refine gN _ ?_ ?_) <;> intro hc <;> (first | replace hc := eqn hc | replace hc := eqp hc) <;> simp [*, F83, pob, toks]) | ((first | refine sM _ ?_ ?_ | refine gM _ ?_ ?_ | refine sB _ ?_ ?_ | refine gB _ ?_ ?_) <;> intro hc <;> simp [*, F83, pob, toks])))
 ·rw [ho] at h1
  simp [pob, toks] at h1
  (simp [*, F83, pob, toks]) <;> (repeat' (first | ((first | refine sP _ ?_ ?_ | refine gP _ ?_ ?_ | refine sN _ ?_ ?_ | refine gN _ ?_ ?_) <;> intro hc <;> (first | replace hc := eqn hc | replace hc := eqp hc) <;> simp [*, F83, pob, toks]) | ((first | refine sM _ ?_ ?_ | refine gM _ ?_ ?_ | refine sB _ ?_ ?_ | refine gB _ ?_ ?_) <;> intro hc <;> simp [*, F83, pob, toks])))
theorem zVb (I : Inv1 T p) (k : Int) : zj E 80 [.ptr 0 0 0, .int .i64 k] (pob T p) = some (.ret (.str (zy T k p).1), pob T (zy T k p).2) := by
 refine zb rfl rfl rfl (by simp) ?_
 have h1 := zCb I
 have hlt := I.lt
 have hg := tk_get hlt
 have hg' := zjd hlt
 have hw : zY .i64 ((p.at' : Int) + 1) = (p.at' : Int) + 1 := zm (by omega) (by have := I.lt; have := I.sm; omega)
 unfold zy
 cases ho : zk p
 ·rw [ho] at h1
  simp [pob, toks] at h1
  by_cases hk : (tk T p.at').kind = k
  ·replace hk := eqp hk
   (simp [*, F80, pob, toks, zl]) <;> (repeat' (first | ((first | refine sP _ ?_ ?_ | refine gP _ ?_ ?_ | refine sN _ ?_ ?_ | refine gN _ ?_ ?_) <;> intro hc <;> (first | replace hc := eqn hc | replace hc := eqp hc) <;> simp [*, F80, pob, toks, zl]) | ((first | refine sM _ ?_ ?_ | refine gM _ ?_ ?_ | refine sB _ ?_ ?_ | refine gB _ ?_ ?_) <;> intro hc <;> simp [*, F80, pob, toks, zl])))
  ·replace hk := eqn hk
   (simp [*, F80, pob, toks, zl]) <;> (repeat' (first | ((first | refine sP _ ?_ ?_ | refine gP _ ?_ ?_ | refine sN _ ?_ ?_ | refine gN _ ?_ ?_) <;> intro hc <;> (first | replace hc := eqn hc | replace hc := eqp hc) <;> simp [*, F80, pob, toks, zl]) | ((first | refine sM _ ?_ ?_ | refine gM _ ?_ ?_ | refine sB _ ?_ ?_ | refine gB _ ?_ ?_) <;> intro hc <;> simp [*, F80, pob, toks, zl])))
 ·rw [ho] at h1
  simp [pob, toks] at h1
  (simp [*, F80, pob, toks, zl]) <;> (repeat' (first | ((first | refine sP _ ?_ ?_ | refine gP _ ?_ ?_ | refine sN _ ?_ ?_ | refine gN _ ?_ ?_) <;> intro hc <;> (first | replace hc := eqn hc | replace hc := eqp hc) <;> simp [*, F80, pob, toks, zl]) | ((first | refine sM _ ?_ ?_ | refine gM _ ?_ ?_ | refine sB _ ?_ ?_ | refine gB _ ?_ ?_) <;> intro hc <;> simp [*, F80, pob, toks, zl])))
theorem typed_spec (I : Inv1 T p) : zj E 79 [.ptr 0 0 0] (pob T p) = some (.ret (.int .i64 (zM T p).1), pob T (zM T p).2) := by
 refine zb rfl rfl rfl (by simp) ?_
 have h1 := zz I [105, 110, 116]
 have h2 := zx I [98, 111, 111, 108]
 unfold zM
 unfold takeF at h1
 cases ho : isF T [105, 110, 116] p
 ·rw [ho] at h1
  (simp [*, F79]) <;> (repeat' (first | ((first | refine sP _ ?_ ?_ | refine gP _ ?_ ?_ | refine sN _ ?_ ?_ | refine gN _ ?_ ?_) <;> intro hc <;> (first | replace hc := eqn hc | replace hc := eqp hc) <;> simp [*, F79]) | ((first | refine sM _ ?_ ?_ | refine gM _ ?_ ?_ | refine sB _ ?_ ?_ | refine gB _ ?_ ?_) <;> intro hc <;> simp [*, F79])))
 ·rw [ho] at h1
  (simp [*, F79]) <;> (repeat' (first | ((first | refine sP _ ?_ ?_ | refine gP _ ?_ ?_ | refine sN _ ?_ ?_ | refine gN _ ?_ ?_) <;> intro hc <;> (first | replace hc := eqn hc | replace hc := eqp hc) <;> simp [*, F79]) | ((first | refine sM _ ?_ ?_ | refine gM _ ?_ ?_ | refine sB _ ?_ ?_ | refine gB _ ?_ ?_) <;> intro hc <;> simp [*, F79])))
end
end PE.U

namespace PE.U
open Go PE
def signsR : List (List UInt8) := [[43], [45], [42], [47], [37], [38], [124], [94], [60, 60], [62, 62], [62, 62, 62], [60], [60, 61], [62], [62, 61], [61, 61], [33, 61], [38, 38], [124, 124], [45], [126], [33], [105, 56], [105, 49, 54], [105, 51, 50], [117, 56], [117, 49, 54], [117, 51, 50]]
def zOb (op : Int) : List UInt8 := if op < 1 \/ 28 < op then [] else signsR[(op - 1).toNat]?.getD []
def zKb (op : Int) : Int :=
 if op = 19 then 1 else if op = 18 then 2 else if op = 7 then 3 else if op = 8 then 4 else if op = 6 then 5
 else if op = 16 \/ op = 17 then 6 else if op = 12 \/ op = 13 \/ op = 14 \/ op = 15 then 7 else if op = 9 \/ op = 10 \/ op = 11 then 8
 else if op = 1 \/ op = 2 then 9 else if op = 3 \/ op = 4 \/ op = 5 then 10 else 0
def oneR (op : Int) : Bool := decide (20 <= op) && decide (op <= 28)
theorem signs_spec : zj E 99 [] [] = some (.ret (.slice .plain 1 (signsR.map PV.str)), []) := by
 refine zb rfl rfl rfl (by simp) ?_
 have : signsR.map PV.str = [PV.str [43], PV.str [45], PV.str [42], PV.str [47], PV.str [37], PV.str [38], PV.str [124], PV.str [94], PV.str [60, 60], PV.str [62, 62], PV.str [62, 62, 62], PV.str [60], PV.str [60, 61], PV.str [62], PV.str [62, 61], PV.str [61, 61], PV.str [33, 61], PV.str [38, 38], PV.str [124, 124], PV.str [45], PV.str [126], PV.str [33], PV.str [105, 56], PV.str [105, 49, 54], PV.str [105, 51, 50], PV.str [117, 56], PV.str [117, 49, 54], PV.str [117, 51, 50]] := rfl
 rw [this]
 simp [F99]
theorem rsign_spec (op : Int) : zj E 73 [.int .i64 op] [] = some (.ret (.str (zOb op)), []) := by
 refine zb rfl rfl rfl (by simp) ?_
 have hs := signs_spec
 unfold zOb
 by_cases h1 : op < 1
 ·(simp [*, F73]) <;> (repeat' ((first | refine sP _ ?_ ?_ | refine gP _ ?_ ?_ | refine sN _ ?_ ?_ | refine gN _ ?_ ?_ | refine sM _ ?_ ?_ | refine gM _ ?_ ?_ | refine sB _ ?_ ?_ | refine gB _ ?_ ?_) <;> intro hc <;> simp [*, F73]))
 ·by_cases h2 : 28 < op
  ·(simp [*, F73]) <;> (repeat' ((first | refine sP _ ?_ ?_ | refine gP _ ?_ ?_ | refine sN _ ?_ ?_ | refine gN _ ?_ ?_ | refine sM _ ?_ ?_ | refine gM _ ?_ ?_ | refine sB _ ?_ ?_ | refine gB _ ?_ ?_) <;> intro hc <;> simp [*, F73]))
  ·have hw : zY .i64 (op - 1) = op - 1 := zm (by omega) (by omega)
   have h3 : 0 <= op - 1 := by omega
   have hl : signsR.length = 28 := rfl
   have h4 : op.toNat - 1 < signsR.length := by omega
   have h6 : (op - 1).toNat = op.toNat - 1 := by omega
   rw [h6]
   have h5 : signsR[op.toNat - 1]? = some (signsR[op.toNat - 1]'h4) := by simp [h4]
   clear h6
   generalize hx : op.toNat - 1 = n at *
   have h3' : 1 <= op := by omega
   clear hl
   generalize signsR = l at *
   (simp [*, F73]) <;> (repeat' ((first | refine sP _ ?_ ?_ | refine gP _ ?_ ?_ | refine sN _ ?_ ?_ | refine gN _ ?_ ?_ | refine sM _ ?_ ?_ | refine gM _ ?_ ?_ | refine sB _ ?_ ?_ | refine gB _ ?_ ?_) <;> intro hc <;> simp [*, F73]))
theorem rlevel_spec (op : Int) : zj E 75 [.int .i64 op] [] = some (.ret (.int .i64 (zKb op)), []) := by
 refine zb rfl rfl rfl (by simp) ?_
 unfold zKb
 (simp [*, F75]) <;> (repeat' ((first | refine sP _ ?_ ?_ | refine gP _ ?_ ?_ | refine sN _ ?_ ?_ | refine gN _ ?_ ?_ | refine sM _ ?_ ?_ | refine gM _ ?_ ?_ | refine sB _ ?_ ?_ | refine gB _ ?_ ?_) <;> intro hc <;> simp [*, F75]))
theorem roneR_spec (op : Int) : zj E 98 [.int .i64 op] [] = some (.ret (.bool (oneR op)), []) := by
 refine zb rfl rfl rfl (by simp) ?_
 unfold oneR
 (simp [*, F98]) <;> (repeat' ((first | refine sP _ ?_ ?_ | refine gP _ ?_ ?_ | refine sN _ ?_ ?_ | refine gN _ ?_ ?_ | refine sM _ ?_ ?_ | refine gM _ ?_ ?_ | refine sB _ ?_ ?_ | refine gB _ ?_ ?_) <;> intro hc <;> simp [*, F98]))
def zDb (T : List Tok) (L : Int) (p : PS) (i : Nat) : Bool := decide (zKb (i + 1 : Nat) = L) && isF T (zOb (i + 1 : Nat)) p
def opF (T : List Tok) (L : Int) (p : PS) : Int := match (List.range 19).find? (zDb T L p) with
 | some i => ((i + 1 : Nat) : Int)
 | none => 0
theorem op_spec {T : List Tok} {p : PS} (I : Inv1 T p) (L : Int) : zj E 150 [.ptr 0 0 0, .int .i64 L] (pob T p) = some (.ret (.int .i64 (opF T L p)), pob T p) := by
 refine zb rfl rfl rfl (by simp) ?_
 simp [F150]
 refine zfa (List.range 19) K150_0 B150_0 (fun d => [(5, .int .i64 ((d.length + 1 : Nat) : Int))]) (fun _ => pob T p) (fun d => ∀ i ∈ d, zDb T L p i = false) (by simp) (by simp) ?_ ?_
 ·intros d x r s1 hl' hlt hget hget' hw hp h1 h2 h3 h4
  simp at h1 h3 hlt
  have hx : x = d.length := by rw [<- hget', List.getElem_range]
  subst hx
  have e1 := rlevel_spec ((d.length + 1 : Nat) : Int)
  have e2 := rsign_spec ((d.length + 1 : Nat) : Int)
  have e3 := is_spec I (zOb ((d.length + 1 : Nat) : Int))
  have hle : (d.length : Int) + 1 <= 19 := by omega
  have hw2 : zY .i64 ((d.length : Int) + 1 + 1) = (d.length : Int) + 1 + 1 := zm (by omega) (by omega)
  have hf : zDb T L p d.length = true -> opF T L p = ((d.length + 1 : Nat) : Int) := by
   intro h
   unfold opF
   rw [hl'.eq, List.find?_append]
   have : d.find? (zDb T L p) = none := by rw [List.find?_eq_none]; intro y hy; simp [hp y hy]
   rw [this]
   simp [List.find?_cons, h]
  have ho : zDb T L p d.length = (decide (zKb ((d.length + 1 : Nat) : Int) = L) && isF T (zOb ((d.length + 1 : Nat) : Int)) p) := rfl
  have hn := fun (h : zDb T L p d.length = false) => (fun i (hi : i ∈ d ++ [d.length]) => by
   rcases List.mem_append.1 hi with h' | h'
   ·exact hp i h'
   ·rw [List.mem_singleton.1 h']; exact h : ∀ i ∈ d ++ [d.length], zDb T L p i = false)
  clear h2 hget hget' hl' hp
  simp at e1 e2 e3 ho hf
  by_cases hL : zKb ((d.length : Int) + 1) = L
  ·have hL' : decide (zKb ((d.length : Int) + 1) = L) = true := decide_eq_true hL
   rw [hL', Bool.true_and] at ho
   replace hL := eqp hL
   cases hi : isF T (zOb ((d.length : Int) + 1)) p
   ·replace hn := hn (ho.trans hi)
    rw [hi] at ho e3
    clear hf ho
    simp [*]
    grind
   ·replace hf := hf (ho.trans hi)
    rw [hi] at ho e3
    clear hn ho
    simp [*]
  ·have hL' : decide (zKb ((d.length : Int) + 1) = L) = false := decide_eq_false hL
   rw [hL', Bool.false_and] at ho
   replace hL := eqn hL
   replace hn := hn ho
   clear hf ho
   simp [*]
   grind
 ·intros s1 hp h1 h2 h3 h4
  simp at h1 h3
  have hf : opF T L p = 0 := by
   unfold opF
   have : (List.range 19).find? (zDb T L p) = none := by rw [List.find?_eq_none]; intro y hy; simp [hp y hy]
   rw [this]
  clear h2 hp
  simp [*]
def zCa (T : List Tok) (p : PS) (i : Nat) : Bool := isF T (zOb ((i + 20 : Nat) : Int)) p
def deepF (d : Int) (p : PS) : PS := if 100 < d then if p.bad then p else { p with deep := true } else p
theorem Inv1.deepF {T : List Tok} {p : PS} (I : Inv1 T p) (d : Int) : Inv1 T (deepF d p) := by
 unfold PE.U.deepF
 split
 ·split
  ·exact I
  ·exact I.deep'
 ·exact I
def unF (T : List Tok) (p : PS) : Option Nat := (List.range 9).find? (zCa T p)
end PE.U

namespace PE.U
open Go PE
mutual
def zxa (T : List Tok) : Nat -> Int -> PS -> Option (Expr × PS)
 | 0, _, _ => none
 | n + 1, d, p =>
  if zk p then some (⟨0, 0, 0, [], []⟩, p)
  else if isF T [40] p then
   match zsa T n 1 (d + 1) (adv p) with
   | none => none
   | some q => some (q.1, zA T [41] q.2)
  else if isF T [116, 114, 117, 101] p then some (⟨2, 0, 1, [], []⟩, adv p)
  else if isF T [102, 97, 108, 115, 101] p then some (⟨2, 0, 0, [], []⟩, adv p)
  else if isF T [114, 101, 97, 100] p then some (⟨8, 0, 0, [], []⟩, zA T [41] (zA T [40] (adv p)))
  else if (tk T p.at').kind = 0 then some (⟨1, 0, zuc (tk T p.at').text, [], []⟩, adv p)
  else if isF T [40] (zy T 1 p).2 then
   match zhd T n (d + 1) (adv (zy T 1 p).2) with
   | none => none
   | some q => some (⟨7, 0, 0, (zy T 1 p).1, q.1⟩, q.2)
  else if isF T [91] (zy T 1 p).2 then
   match zsa T n 1 (d + 1) (adv (zy T 1 p).2) with
   | none => none
   | some q => some (⟨6, 0, 0, (zy T 1 p).1, [q.1]⟩, zA T [93] q.2)
  else some (⟨3, 0, 0, (zy T 1 p).1, []⟩, (zy T 1 p).2)
def zJb (T : List Tok) : Nat -> Int -> PS -> Option (Expr × PS)
 | 0, _, _ => none
 | n + 1, d, p =>
  match unF T (deepF d p) with
  | some i =>
   if 3 <= i then
    match zsa T n 1 (d + 1) (zA T [40] (adv (deepF d p))) with
    | none => none
    | some q => some (⟨4, ((i + 20 : Nat) : Int), 0, [], [q.1]⟩, zA T [41] q.2)
   else
    match zJb T n (d + 1) (adv (deepF d p)) with
    | none => none
    | some q => some (⟨4, ((i + 20 : Nat) : Int), 0, [], [q.1]⟩, q.2)
  | none => zxa T n d (deepF d p)
def zsa (T : List Tok) : Nat -> Int -> Int -> PS -> Option (Expr × PS)
 | 0, _, _, _ => none
 | n + 1, L, d, p =>
  if 10 < L then zJb T n d p
  else match zsa T n (L + 1) d p with
   | none => none
   | some q => zU T n L d q.1 q.2
def zU (T : List Tok) : Nat -> Int -> Int -> Expr -> PS -> Option (Expr × PS)
 | 0, _, _, _, _ => none
 | n + 1, L, d, a, p =>
  if opF T L p = 0 then some (a, p)
  else match zsa T n (L + 1) d (adv p) with
   | none => none
   | some q => zU T n L d ⟨5, opF T L p, 0, [], [a, q.1]⟩ q.2
def zhd (T : List Tok) : Nat -> Int -> PS -> Option (List Expr × PS)
 | 0, _, _ => none
 | n + 1, d, p =>
  if isF T [41] p then some ([], adv p)
  else match zP T n d [] true p with
   | none => none
   | some q => some (q.1, zA T [41] q.2)
def zP (T : List Tok) : Nat -> Int -> List Expr -> Bool -> PS -> Option (List Expr × PS)
 | 0, _, _, _, _ => none
 | n + 1, d, l, first, p =>
  if first || isF T [44] p then
   if zk (if first then p else adv p) then some (l, if first then p else adv p)
   else match zsa T n 1 d (if first then p else adv p) with
    | none => none
    | some q => zP T n d (l ++ [q.1]) false q.2
  else some (l, p)
end
structure ESpec (T : List Tok) (n : Nat) : Prop where
 primary : ∀ d p v p', zxa T n d p = some (v, p') -> Inv1 T p -> 0 <= d -> d + n <= 1000000000 -> zj E 160 [.ptr 0 0 0, .int .i64 d] (pob T p) = some (.ret (zH v), pob T p') /\ Inv1 T p'
 unary : ∀ d p v p', zJb T n d p = some (v, p') -> Inv1 T p -> 0 <= d -> d + n <= 1000000000 -> zj E 149 [.ptr 0 0 0, .int .i64 d] (pob T p) = some (.ret (zH v), pob T p') /\ Inv1 T p'
 expr : ∀ L d p v p', zsa T n L d p = some (v, p') -> Inv1 T p -> 1 <= L -> L <= 11 -> 0 <= d -> d + n <= 1000000000 -> zj E 134 [.ptr 0 0 0, .int .i64 L, .int .i64 d] (pob T p) = some (.ret (zH v), pob T p') /\ Inv1 T p'
 args : ∀ d p v p', zhd T n d p = some (v, p') -> Inv1 T p -> 0 <= d -> d + n <= 1000000000 -> zj E 151 [.ptr 0 0 0, .int .i64 d] (pob T p) = some (.ret (zd v), pob T p') /\ Inv1 T p'
end PE.U

namespace PE.U
open Go PE
set_option maxHeartbeats 4000000 in
theorem primary_of {T : List Tok} {n : Nat} (S : ESpec T n) : ∀ d p v p', zxa T (n + 1) d p = some (v, p') -> Inv1 T p -> 0 <= d -> d + (n + 1 : Nat) <= 1000000000 -> zj E 160 [.ptr 0 0 0, .int .i64 d] (pob T p) = some (.ret (zH v), pob T p') /\ Inv1 T p' := by
 intro d p v p' h I hd hn
 have hw : zY .i64 (d + 1) = d + 1 := zm (by omega) (by omega)
 simp only [zxa] at h
 have ho := zCb I
 cases o : zk p
 case true =>
  rw [if_pos o] at h
  cases h
  refine ⟨?_, I⟩
  refine zb rfl rfl rfl (by simp) ?_
  rw [o] at ho
  simp [pob, toks] at ho
  simp [*, F160, zH, encEs, pob, toks]
 rw [if_neg (by rw [o]; decide)] at h
 rw [o] at ho
 have t1 := zz I [40]
 rw [zQ] at t1
 cases c1 : isF T [40] p
 case true =>
  rw [if_pos c1] at h
  rw [c1] at t1
  split at h
  ·cases h
  ·rename_i q hq
   obtain ⟨e, p2⟩ := q
   cases h
   have IA := I.adv _ c1
   obtain ⟨x1, I3⟩ := S.expr 1 (d + 1) _ e p2 hq IA (by omega) (by omega) (by omega) (by omega)
   have m2 := zx I3 [41]
   refine ⟨?_, I3.must _⟩
   refine zb rfl rfl rfl (by simp) ?_
   clear hq o c1
   rw [za] at x1 ⊢
   simp [pob, toks, adv, zd] at ho t1 x1 m2
   simp [*, F160, zd, pob, toks]
 rw [if_neg (by rw [c1]; decide)] at h
 rw [c1] at t1
 have t2 := zz I [116, 114, 117, 101]
 rw [zQ] at t2
 cases c2 : isF T [116, 114, 117, 101] p
 case true =>
  rw [if_pos c2] at h
  rw [c2] at t2
  cases h
  refine ⟨?_, I.adv _ c2⟩
  refine zb rfl rfl rfl (by simp) ?_
  clear o c1 c2
  simp [pob, toks, adv] at ho t1 t2
  simp [*, F160, zH, encEs, pob, toks, adv]
 rw [if_neg (by rw [c2]; decide)] at h
 rw [c2] at t2
 have t3 := zz I [102, 97, 108, 115, 101]
 rw [zQ] at t3
 cases c3 : isF T [102, 97, 108, 115, 101] p
 case true =>
  rw [if_pos c3] at h
  rw [c3] at t3
  cases h
  refine ⟨?_, I.adv _ c3⟩
  refine zb rfl rfl rfl (by simp) ?_
  clear o c1 c2 c3
  simp [pob, toks, adv] at ho t1 t2 t3
  simp [*, F160, zH, encEs, pob, toks, adv]
 rw [if_neg (by rw [c3]; decide)] at h
 rw [c3] at t3
 have t4 := zz I [114, 101, 97, 100]
 rw [zQ] at t4
 cases c4 : isF T [114, 101, 97, 100] p
 case true =>
  rw [if_pos c4] at h
  rw [c4] at t4
  cases h
  have IA := I.adv _ c4
  have m1 := zx IA [40]
  have m2 := zx (IA.must [40]) [41]
  refine ⟨?_, (IA.must _).must _⟩
  refine zb rfl rfl rfl (by simp) ?_
  clear o c1 c2 c3 c4
  simp [pob, toks, adv] at ho t1 t2 t3 t4 m1 m2
  simp [*, F160, zH, encEs, pob, toks, adv]
 rw [if_neg (by rw [c4]; decide)] at h
 rw [c4] at t4
 have hlt := I.lt
 have hg := tk_get hlt
 have hg' := zjd hlt
 by_cases c5 : (tk T p.at').kind = 0
 ·rw [if_pos c5] at h
  have tx := zVb I 0
  have hnum := I.num (tk T p.at') (by rw [<- hg']; exact List.getElem_mem hlt) c5
  have vv := value_spec' (tk T p.at').text [] hnum.1 (by omega)
  have htx : zy T 0 p = ((tk T p.at').text, adv p) := by unfold zy; rw [if_neg (by rw [o]; decide), if_pos c5]; rfl
  have IA : Inv1 T (adv p) := I.next (by rw [c5]; decide) _ _
  rw [htx] at tx
  cases h
  refine ⟨?_, IA⟩
  refine zb rfl rfl rfl (by simp) ?_
  clear o c1 c2 c3 c4 htx
  replace c5 := eqp c5
  simp [pob, toks, adv] at ho t1 t2 t3 t4 tx
  simp [*, F160, zH, encEs, pob, toks, adv, zl]
 rw [if_neg c5] at h
 replace c5 := eqn c5
 have tx := zVb I 1
 have I1 := I.text 1 (by decide)
 have t6 := zz I1 [40]
 rw [zQ] at t6
 generalize htt : zy T 1 p = tt at *
 obtain ⟨s, p1⟩ := tt
 simp only at h tx I1 t6
 clear htt
 cases c6 : isF T [40] p1
 case true =>
  rw [if_pos c6] at h
  rw [c6] at t6
  split at h
  ·cases h
  ·rename_i q hq
   obtain ⟨l, p2⟩ := q
   cases h
   have IA := I1.adv _ c6
   obtain ⟨x1, I3⟩ := S.args (d + 1) _ l p2 hq IA (by omega) (by omega)
   refine ⟨?_, I3⟩
   refine zb rfl rfl rfl (by simp) ?_
   clear hq o c1 c2 c3 c4 c6
   rw [za]
   simp [pob, toks, adv, zd] at ho t1 t2 t3 t4 tx t6 x1
   simp [*, F160, zd, pob, toks, zl]
 rw [if_neg (by rw [c6]; decide)] at h
 rw [c6] at t6
 have t7 := zz I1 [91]
 rw [zQ] at t7
 cases c7 : isF T [91] p1
 case true =>
  rw [if_pos c7] at h
  rw [c7] at t7
  split at h
  ·cases h
  ·rename_i q hq
   obtain ⟨e, p2⟩ := q
   cases h
   have IA := I1.adv _ c7
   obtain ⟨x1, I3⟩ := S.expr 1 (d + 1) _ e p2 hq IA (by omega) (by omega) (by omega) (by omega)
   have m2 := zx I3 [93]
   refine ⟨?_, I3.must _⟩
   refine zb rfl rfl rfl (by simp) ?_
   clear hq o c1 c2 c3 c4 c6 c7
   rw [za] at x1
   rw [za]
   simp [pob, toks, adv, zd] at ho t1 t2 t3 t4 tx t6 t7 x1 m2
   simp [*, F160, zd, pob, toks, zl, za]
 rw [if_neg (by rw [c7]; decide)] at h
 rw [c7] at t7
 cases h
 refine ⟨?_, I1⟩
 refine zb rfl rfl rfl (by simp) ?_
 clear o c1 c2 c3 c4 c6 c7
 simp [pob, toks, adv] at ho t1 t2 t3 t4 tx t6 t7
 simp [*, F160, zH, encEs, pob, toks, zl]
end PE.U

namespace PE.U
open Go PE
structure LS where
 m : Nat
 a : Expr
 p : PS
theorem opF_pos {T : List Tok} {L : Int} {p : PS} (h : ¬ opF T L p = 0) : ∃ s, isF T s p = true := by
 unfold opF at h
 cases hf : (List.range 19).find? (zDb T L p) with
 | none => rw [hf] at h; exact absurd rfl h
 | some i =>
  have := List.find?_some hf
  simp only [zDb, Bool.and_eq_true] at this
  exact ⟨_, this.2⟩
set_option maxHeartbeats 2000000 in
theorem expr_of {T : List Tok} {n : Nat} (S : ∀ k, k <= n -> ESpec T k) : ∀ L d p v p', zsa T (n + 1) L d p = some (v, p') -> Inv1 T p -> 1 <= L -> L <= 11 -> 0 <= d -> d + (n + 1 : Nat) <= 1000000000 -> zj E 134 [.ptr 0 0 0, .int .i64 L, .int .i64 d] (pob T p) = some (.ret (zH v), pob T p') /\ Inv1 T p' := by
 intro L d p v p' h I h1 h11 hd hn
 have hw : zY .i64 (L + 1) = L + 1 := zm (by omega) (by omega)
 simp only [zsa] at h
 by_cases hL : 10 < L
 ·rw [if_pos hL] at h
  obtain ⟨e, I'⟩ := (S n (by omega)).unary d p v p' h I hd (by omega)
  refine ⟨?_, I'⟩
  refine zb rfl rfl rfl (by simp) ?_
  rw [za] at e ⊢
  (simp [*, F134]) <;> (repeat' (first | ((first | refine sP _ ?_ ?_ | refine gP _ ?_ ?_ | refine sN _ ?_ ?_ | refine gN _ ?_ ?_) <;> intro hc <;> (first | replace hc := eqn hc | replace hc := eqp hc) <;> simp [*, F134]) | ((first | refine sM _ ?_ ?_ | refine gM _ ?_ ?_ | refine sB _ ?_ ?_ | refine gB _ ?_ ?_) <;> intro hc <;> simp [*, F134])))
 rw [if_neg hL] at h
 cases hx : zsa T n (L + 1) d p with
 | none => rw [hx] at h; cases h
 | some q =>
  obtain ⟨a, p1⟩ := q
  rw [hx] at h
  simp only at h
  obtain ⟨e1, I1⟩ := (S n (by omega)).expr (L + 1) d p a p1 hx I (by omega) (by omega) hd (by omega)
  have hI : ∀ m a p v p', m <= n -> zU T m L d a p = some (v, p') -> Inv1 T p -> Inv1 T p' := by
   intro m
   induction m with
   | zero => intro a p v p' _ h; simp [zU] at h
   | succ m ih =>
    intro a p v p' hm h I
    simp only [zU] at h
    split at h
    ·cases h; exact I
    ·rename_i hne
     obtain ⟨s, hs⟩ := opF_pos hne
     split at h
     ·cases h
     ·rename_i q hq
      exact ih _ _ _ _ (by omega) h ((S m (by omega)).expr _ _ _ _ _ hq (I.adv s hs) (by omega) (by omega) hd (by omega)).2
  have I' := hI n a p1 v p' (by omega) h I1
  refine ⟨?_, I'⟩
  refine zb rfl rfl rfl (by simp) ?_
  rw [za] at e1 ⊢
  simp [F134, hL, hw, e1, zd]
  refine zva K134_0 B134_0 (fun c : LS => c.m) (fun c => []) (fun c => [(6, .cells [.int .i64 0, .int .i64 0, .int .i64 0, .str [], .slice .fit 5 []]), (7, .cells [.int .i64 c.a.kind, .int .i64 c.a.op, .int .i64 c.a.n, .str c.a.name, zd c.a.args])]) (fun c => pob T c.p) (fun c => c.m <= n /\ zU T c.m L d c.a c.p = some (v, p') /\ Inv1 T c.p) ⟨n, a, p1⟩ ⟨by simp, by simp [zd], by simp, Nat.le_refl _, h, I1⟩ ?_
  rintro ⟨m, a, p⟩ s1 ⟨hm, hr, I⟩ g1 g2 g3 g4 g5
  simp at g1 g4 g5 hm hr I
  clear g2 g3 e1 hx h I1 I' hI
  cases m with
  | zero => simp [zU] at hr
  | succ m =>
   simp only [zU] at hr
   have ho := op_spec I L
   by_cases hne : opF T L p = 0
   ·rw [if_pos hne] at hr
    cases hr
    replace hne := eqp hne
    simp [pob, toks, zd] at ho g4 g5 ⊢
    (simp [*]) <;> (repeat' (first | ((first | refine sP _ ?_ ?_ | refine gP _ ?_ ?_ | refine sN _ ?_ ?_ | refine gN _ ?_ ?_) <;> intro hc <;> (first | replace hc := eqn hc | replace hc := eqp hc) <;> simp [*]) | ((first | refine sM _ ?_ ?_ | refine gM _ ?_ ?_ | refine sB _ ?_ ?_ | refine gB _ ?_ ?_) <;> intro hc <;> simp [*])))
   ·rw [if_neg hne] at hr
    obtain ⟨s, hs⟩ := opF_pos hne
    split at hr
    ·cases hr
    ·rename_i q hq
     obtain ⟨b, p2⟩ := q
     simp only at hr
     obtain ⟨e2, I2⟩ := (S m (by omega)).expr (L + 1) d _ b p2 hq (I.adv s hs) (by omega) (by omega) hd (by omega)
     have hwa : zY .i64 ((p.at' : Int) + 1) = (p.at' : Int) + 1 := zm (by omega) (by have := I.lt; have := I.sm; omega)
     replace hne := eqn hne
     rw [za] at e2
     simp [pob, toks, zd, adv] at ho g4 g5 e2 ⊢
     clear hq hs
     (simp [*]) <;> (repeat' (first | ((first | refine sP _ ?_ ?_ | refine gP _ ?_ ?_ | refine sN _ ?_ ?_ | refine gN _ ?_ ?_) <;> intro hc <;> (first | replace hc := eqn hc | replace hc := eqp hc) <;> simp [*]) | ((first | refine sM _ ?_ ?_ | refine gM _ ?_ ?_ | refine sB _ ?_ ?_ | refine gB _ ?_ ?_) <;> intro hc <;> simp [*])))
     refine ⟨⟨m, ⟨5, opF T L p, 0, [], [a, b]⟩, p2⟩, Nat.lt_succ_self m, ⟨rfl, rfl, rfl, rfl, ?_⟩, ⟨rfl, rfl, rfl⟩, by simp only; omega, hr, I2⟩
     simp [za, zd]
end PE.U

namespace PE.U
open Go PE
theorem unF_get {T : List Tok} {p : PS} {i : Nat} (h : unF T p = some i) : i < 9 /\ zCa T p i = true /\ ∀ j, j < i -> zCa T p j = false := by
 unfold unF at h
 refine ⟨List.mem_range.1 (List.mem_of_find?_eq_some h), List.find?_some h, ?_⟩
 intro j hj
 rw [List.find?_eq_some_iff_getElem] at h
 obtain ⟨_, k, hk, h1, h2⟩ := h
 simp at h1
 have := h2 j (by omega)
 simpa using this
set_option maxHeartbeats 2000000 in
theorem unary_of {T : List Tok} {n : Nat} (S : ESpec T n) : ∀ d p v p', zJb T (n + 1) d p = some (v, p') -> Inv1 T p -> 0 <= d -> d + (n + 1 : Nat) <= 1000000000 -> zj E 149 [.ptr 0 0 0, .int .i64 d] (pob T p) = some (.ret (zH v), pob T p') /\ Inv1 T p' := by
 intro d p v p' h I hd hn
 have hw : zY .i64 (d + 1) = d + 1 := zm (by omega) (by omega)
 simp only [zJb] at h
 -- what comes of it
 have key : ∀ q, Inv1 T q -> q = deepF d p -> ∃ Q : Prop, True := fun _ _ _ => ⟨True, trivial⟩
 clear key
 have I2 : Inv1 T (deepF d p) := I.deepF d
 have hI : Inv1 T p' := by
  cases hu : unF T (deepF d p) with
  | none => rw [hu] at h; exact (S.primary _ _ _ _ h I2 hd (by omega)).2
  | some i =>
   rw [hu] at h
   simp only at h
   have hi := (unF_get hu).2.1
   split at h
   ·split at h
    ·cases h
    ·rename_i q hq
     cases h
     exact (S.expr _ _ _ _ _ hq ((I2.adv _ hi).must _) (by omega) (by omega) (by omega) (by omega)).2.must _
   ·split at h
    ·cases h
    ·rename_i q hq
     cases h
     exact (S.unary _ _ _ _ hq (I2.adv _ hi) (by omega) (by omega)).2
 refine ⟨?_, hI⟩
 refine zb rfl rfl rfl (by simp) ?_
 rw [za]
 have hdp : deepF d p = if 100 < d then if p.bad then p else { p with deep := true } else p := rfl
 obtain ⟨pa, pb, pd⟩ := p
 by_cases h100 : 100 < d
 ·cases pb
  ·simp [h100] at hdp
   rw [hdp] at h I2
   clear hdp I
   replace h100 := eqp h100
   simp [F149, h100, hw, pob, toks]
   refine wp_eachB (List.range 9) K149_0 B149_0 (fun c => [(5, .int .i64 ((c.length + 20 : Nat) : Int))]) (fun _ => [(4, .cells [.int .i64 0, .int .i64 0, .int .i64 0, .str [], .slice .fit 5 []])]) (fun _ => pob T ⟨pa, false, true⟩) (fun c => ∀ i ∈ c, zCa T ⟨pa, false, true⟩ i = false) (by simp) (by simp [pob, toks]) ?_ ?_
   ·intros c x r s1 hl' hlt hget hget' hw1 hp g1 g2 g3 g3' g4
    simp at g1 g3 g3' hlt
    have hx : x = c.length := by rw [<- hget', List.getElem_range]
    subst hx
    have e2 := rsign_spec ((c.length + 20 : Nat) : Int)
    have e3 := zz I2 (zOb ((c.length + 20 : Nat) : Int))
    rw [zQ] at e3
    have hle : (c.length : Int) + 20 <= 28 := by omega
    have hw2 : zY .i64 ((c.length : Int) + 20 + 1) = (c.length : Int) + 1 + 20 := by rw [zm (by omega) (by omega)]; omega
    have hf : zCa T ⟨pa, false, true⟩ c.length = true -> unF T ⟨pa, false, true⟩ = some c.length := by
     intro h
     unfold unF
     rw [hl'.eq, List.find?_append]
     have : c.find? (zCa T ⟨pa, false, true⟩) = none := by rw [List.find?_eq_none]; intro y hy; simp [hp y hy]
     rw [this]
     simp [List.find?_cons, h]
    have hu : zCa T ⟨pa, false, true⟩ c.length = isF T (zOb ((c.length + 20 : Nat) : Int)) ⟨pa, false, true⟩ := rfl
    have hnx := fun (h : zCa T ⟨pa, false, true⟩ c.length = false) => (fun i (hi : i ∈ c ++ [c.length]) => by
     rcases List.mem_append.1 hi with h' | h'
     ·exact hp i h'
     ·rw [List.mem_singleton.1 h']; exact h : ∀ i ∈ c ++ [c.length], zCa T ⟨pa, false, true⟩ i = false)
    clear g2 hget hget' hl' hp
    cases hi : isF T (zOb ((c.length + 20 : Nat) : Int)) ⟨pa, false, true⟩
    ·replace hnx := hnx (hu.trans hi)
     rw [hi] at e3
     clear hf hu h
     simp [pob, toks] at e2 e3 g4
     simp [*]
     exact ⟨rfl, fun i hi => hnx i (by simpa using hi)⟩
    ·replace hf := hf (hu.trans hi)
     have IA := I2.adv _ hi
     rw [hi] at e3
     rw [hf] at h
     simp only at h
     clear hnx hu hf
     by_cases h3 : 3 <= c.length
     ·rw [if_pos h3] at h
      have h23 : (23 : Int) <= (c.length : Int) + 20 := by omega
      have m1 := zx IA [40]
      split at h
      ·cases h
      ·rename_i x hq
       obtain ⟨e, p2⟩ := x
       cases h
       obtain ⟨x1, I3⟩ := S.expr 1 (d + 1) _ e p2 hq (IA.must _) (by omega) (by omega) (by omega) (by omega)
       have m2 := zx I3 [41]
       clear hi
       rw [za] at x1
       simp [pob, toks, zd, adv] at e2 e3 g4 m1 m2 x1
       clear hq
       simp [*, zd, pob, toks, za]
     ·rw [if_neg h3] at h
      have h23 : ¬ (23 : Int) <= (c.length : Int) + 20 := by omega
      split at h
      ·cases h
      ·rename_i x hq
       obtain ⟨e, p2⟩ := x
       cases h
       obtain ⟨x1, I3⟩ := S.unary (d + 1) _ e p2 hq IA (by omega) (by omega)
       clear hi
       rw [za] at x1
       simp [pob, toks, zd, adv] at e2 e3 g4 x1
       clear hq
       simp [*, zd, pob, toks, za]
   ·intros s1 hp g1 g2 g3 g3' g4
    simp at g1 g3 g3'
    have hf : unF T ⟨pa, false, true⟩ = none := by
     unfold unF
     rw [List.find?_eq_none]; intro y hy; simp [hp y hy]
    rw [hf] at h
    simp only at h
    obtain ⟨x1, I3⟩ := S.primary _ _ _ _ h I2 hd (by omega)
    rw [za] at x1
    clear g2 hp hf h
    simp [pob, toks, zd] at x1 g4
    simp [*, zd]
  ·simp [h100] at hdp
   rw [hdp] at h I2
   clear hdp I
   replace h100 := eqp h100
   simp [F149, h100, hw, pob, toks]
   refine wp_eachB (List.range 9) K149_0 B149_0 (fun c => [(5, .int .i64 ((c.length + 20 : Nat) : Int))]) (fun _ => [(4, .cells [.int .i64 0, .int .i64 0, .int .i64 0, .str [], .slice .fit 5 []])]) (fun _ => pob T ⟨pa, true, pd⟩) (fun c => ∀ i ∈ c, zCa T ⟨pa, true, pd⟩ i = false) (by simp) (by simp [pob, toks]) ?_ ?_
   ·intros c x r s1 hl' hlt hget hget' hw1 hp g1 g2 g3 g3' g4
    simp at g1 g3 g3' hlt
    have hx : x = c.length := by rw [<- hget', List.getElem_range]
    subst hx
    have e2 := rsign_spec ((c.length + 20 : Nat) : Int)
    have e3 := zz I2 (zOb ((c.length + 20 : Nat) : Int))
    rw [zQ] at e3
    have hle : (c.length : Int) + 20 <= 28 := by omega
    have hw2 : zY .i64 ((c.length : Int) + 20 + 1) = (c.length : Int) + 1 + 20 := by rw [zm (by omega) (by omega)]; omega
    have hf : zCa T ⟨pa, true, pd⟩ c.length = true -> unF T ⟨pa, true, pd⟩ = some c.length := by
     intro h
     unfold unF
     rw [hl'.eq, List.find?_append]
     have : c.find? (zCa T ⟨pa, true, pd⟩) = none := by rw [List.find?_eq_none]; intro y hy; simp [hp y hy]
     rw [this]
     simp [List.find?_cons, h]
    have hu : zCa T ⟨pa, true, pd⟩ c.length = isF T (zOb ((c.length + 20 : Nat) : Int)) ⟨pa, true, pd⟩ := rfl
    have hnx := fun (h : zCa T ⟨pa, true, pd⟩ c.length = false) => (fun i (hi : i ∈ c ++ [c.length]) => by
     rcases List.mem_append.1 hi with h' | h'
     ·exact hp i h'
     ·rw [List.mem_singleton.1 h']; exact h : ∀ i ∈ c ++ [c.length], zCa T ⟨pa, true, pd⟩ i = false)
    clear g2 hget hget' hl' hp
    cases hi : isF T (zOb ((c.length + 20 : Nat) : Int)) ⟨pa, true, pd⟩
    ·replace hnx := hnx (hu.trans hi)
     rw [hi] at e3
     clear hf hu h
     simp [pob, toks] at e2 e3 g4
     simp [*]
     exact ⟨rfl, fun i hi => hnx i (by simpa using hi)⟩
    ·replace hf := hf (hu.trans hi)
     have IA := I2.adv _ hi
     rw [hi] at e3
     rw [hf] at h
     simp only at h
     clear hnx hu hf
     by_cases h3 : 3 <= c.length
     ·rw [if_pos h3] at h
      have h23 : (23 : Int) <= (c.length : Int) + 20 := by omega
      have m1 := zx IA [40]
      split at h
      ·cases h
      ·rename_i x hq
       obtain ⟨e, p2⟩ := x
       cases h
       obtain ⟨x1, I3⟩ := S.expr 1 (d + 1) _ e p2 hq (IA.must _) (by omega) (by omega) (by omega) (by omega)
       have m2 := zx I3 [41]
       clear hi
       rw [za] at x1
       simp [pob, toks, zd, adv] at e2 e3 g4 m1 m2 x1
       clear hq
       simp [*, zd, pob, toks, za]
     ·rw [if_neg h3] at h
      have h23 : ¬ (23 : Int) <= (c.length : Int) + 20 := by omega
      split at h
      ·cases h
      ·rename_i x hq
       obtain ⟨e, p2⟩ := x
       cases h
       obtain ⟨x1, I3⟩ := S.unary (d + 1) _ e p2 hq IA (by omega) (by omega)
       clear hi
       rw [za] at x1
       simp [pob, toks, zd, adv] at e2 e3 g4 x1
       clear hq
       simp [*, zd, pob, toks, za]
   ·intros s1 hp g1 g2 g3 g3' g4
    simp at g1 g3 g3'
    have hf : unF T ⟨pa, true, pd⟩ = none := by
     unfold unF
     rw [List.find?_eq_none]; intro y hy; simp [hp y hy]
    rw [hf] at h
    simp only at h
    obtain ⟨x1, I3⟩ := S.primary _ _ _ _ h I2 hd (by omega)
    rw [za] at x1
    clear g2 hp hf h
    simp [pob, toks, zd] at x1 g4
    simp [*, zd]
 ·simp [h100] at hdp
  rw [hdp] at h I2
  clear hdp I
  replace h100 := eqn h100
  simp [F149, h100, hw, pob, toks]
  refine wp_eachB (List.range 9) K149_0 B149_0 (fun c => [(5, .int .i64 ((c.length + 20 : Nat) : Int))]) (fun _ => [(4, .cells [.int .i64 0, .int .i64 0, .int .i64 0, .str [], .slice .fit 5 []])]) (fun _ => pob T ⟨pa, pb, pd⟩) (fun c => ∀ i ∈ c, zCa T ⟨pa, pb, pd⟩ i = false) (by simp) (by simp [pob, toks]) ?_ ?_
  ·intros c x r s1 hl' hlt hget hget' hw1 hp g1 g2 g3 g3' g4
   simp at g1 g3 g3' hlt
   have hx : x = c.length := by rw [<- hget', List.getElem_range]
   subst hx
   have e2 := rsign_spec ((c.length + 20 : Nat) : Int)
   have e3 := zz I2 (zOb ((c.length + 20 : Nat) : Int))
   rw [zQ] at e3
   have hle : (c.length : Int) + 20 <= 28 := by omega
   have hw2 : zY .i64 ((c.length : Int) + 20 + 1) = (c.length : Int) + 1 + 20 := by rw [zm (by omega) (by omega)]; omega
   have hf : zCa T ⟨pa, pb, pd⟩ c.length = true -> unF T ⟨pa, pb, pd⟩ = some c.length := by
    intro h
    unfold unF
    rw [hl'.eq, List.find?_append]
    have : c.find? (zCa T ⟨pa, pb, pd⟩) = none := by rw [List.find?_eq_none]; intro y hy; simp [hp y hy]
    rw [this]
    simp [List.find?_cons, h]
   have hu : zCa T ⟨pa, pb, pd⟩ c.length = isF T (zOb ((c.length + 20 : Nat) : Int)) ⟨pa, pb, pd⟩ := rfl
   have hnx := fun (h : zCa T ⟨pa, pb, pd⟩ c.length = false) => (fun i (hi : i ∈ c ++ [c.length]) => by
    rcases List.mem_append.1 hi with h' | h'
    ·exact hp i h'
    ·rw [List.mem_singleton.1 h']; exact h : ∀ i ∈ c ++ [c.length], zCa T ⟨pa, pb, pd⟩ i = false)
   clear g2 hget hget' hl' hp
   cases hi : isF T (zOb ((c.length + 20 : Nat) : Int)) ⟨pa, pb, pd⟩
   ·replace hnx := hnx (hu.trans hi)
    rw [hi] at e3
    clear hf hu h
    simp [pob, toks] at e2 e3 g4
    simp [*]
    exact ⟨rfl, fun i hi => hnx i (by simpa using hi)⟩
   ·replace hf := hf (hu.trans hi)
    have IA := I2.adv _ hi
    rw [hi] at e3
    rw [hf] at h
    simp only at h
    clear hnx hu hf
    by_cases h3 : 3 <= c.length
    ·rw [if_pos h3] at h
     have h23 : (23 : Int) <= (c.length : Int) + 20 := by omega
     have m1 := zx IA [40]
     split at h
     ·cases h
     ·rename_i x hq
      obtain ⟨e, p2⟩ := x
      cases h
      obtain ⟨x1, I3⟩ := S.expr 1 (d + 1) _ e p2 hq (IA.must _) (by omega) (by omega) (by omega) (by omega)
      have m2 := zx I3 [41]
      clear hi
      rw [za] at x1
      simp [pob, toks, zd, adv] at e2 e3 g4 m1 m2 x1
      clear hq
      simp [*, zd, pob, toks, za]
    ·rw [if_neg h3] at h
     have h23 : ¬ (23 : Int) <= (c.length : Int) + 20 := by omega
     split at h
     ·cases h
     ·rename_i x hq
      obtain ⟨e, p2⟩ := x
      cases h
      obtain ⟨x1, I3⟩ := S.unary (d + 1) _ e p2 hq IA (by omega) (by omega)
      clear hi
      rw [za] at x1
      simp [pob, toks, zd, adv] at e2 e3 g4 x1
      clear hq
      simp [*, zd, pob, toks, za]
  ·intros s1 hp g1 g2 g3 g3' g4
   simp at g1 g3 g3'
   have hf : unF T ⟨pa, pb, pd⟩ = none := by
    unfold unF
    rw [List.find?_eq_none]; intro y hy; simp [hp y hy]
   rw [hf] at h
   simp only at h
   obtain ⟨x1, I3⟩ := S.primary _ _ _ _ h I2 hd (by omega)
   rw [za] at x1
   clear g2 hp hf h
   simp [pob, toks, zd] at x1 g4
   simp [*, zd]
end PE.U

namespace PE.U
open Go PE
structure AS where
 m : Nat
 l : List Expr
 f : Bool
 p : PS
set_option maxHeartbeats 2000000 in
theorem args_of {T : List Tok} {n : Nat} (S : ∀ k, k <= n -> ESpec T k) : ∀ d p v p', zhd T (n + 1) d p = some (v, p') -> Inv1 T p -> 0 <= d -> d + (n + 1 : Nat) <= 1000000000 -> zj E 151 [.ptr 0 0 0, .int .i64 d] (pob T p) = some (.ret (zd v), pob T p') /\ Inv1 T p' := by
 intro d p v p' h I hd hn
 simp only [zhd] at h
 have t1 := zz I [41]
 rw [zQ] at t1
 cases c1 : isF T [41] p
 case true =>
  rw [if_pos c1] at h
  rw [c1] at t1
  cases h
  refine ⟨?_, I.adv _ c1⟩
  refine zb rfl rfl rfl (by simp) ?_
  clear c1
  simp [*, F151, zd]
 rw [if_neg (by rw [c1]; decide)] at h
 rw [c1] at t1
 split at h
 ·cases h
 rename_i q hq
 obtain ⟨l', p1⟩ := q
 cases h
 have hI : ∀ m l f p v p', m <= n -> zP T m d l f p = some (v, p') -> Inv1 T p -> Inv1 T p' := by
  intro m
  induction m with
  | zero => intro l f p v p' _ h; simp [zP] at h
  | succ m ih =>
   intro l f p v p' hm h I
   simp only [zP] at h
   have fin : ∀ q : PS, Inv1 T q -> (if zk q then some (l, q) else match zsa T m 1 d q with | none => none | some x => zP T m d (l ++ [x.1]) false x.2) = some (v, p') -> Inv1 T p' := by
    intro q Iq h
    cases ho : zk q
    ·rw [if_neg (by rw [ho]; decide)] at h
     split at h
     ·cases h
     ·rename_i x hx
      exact ih _ _ _ _ _ (by omega) h ((S m (by omega)).expr _ _ _ _ _ hx Iq (by omega) (by omega) hd (by omega)).2
    ·rw [if_pos ho] at h
     cases h
     exact Iq
   cases f
   ·cases c2 : isF T [44] p
    ·rw [c2] at h
     simp at h
     exact h.2 ▸ I
    ·rw [c2] at h
     simp at h
     exact fin _ (I.adv _ c2) h
   ·simp at h
    exact fin _ I h
 have I' := hI n _ _ _ _ _ (Nat.le_refl _) hq I
 refine ⟨?_, I'.must _⟩
 refine zb rfl rfl rfl (by simp) ?_
 have m1 := zx I' [41]
 simp [*, F151, zd]
 refine zva K151_0 B151_0 (fun c : AS => c.m) (fun c => [(5, acc 5 (c.l.map zH)), (6, .bool c.f)]) (fun c => []) (fun c => pob T c.p) (fun c => c.m <= n /\ c.l.length + c.m <= n /\ zP T c.m d c.l c.f c.p = some (l', p1) /\ Inv1 T c.p) ⟨n, [], true, p⟩ ⟨by simp, by simp, by simp, Nat.le_refl _, by simp, hq, I⟩ ?_
 rintro ⟨m, l, f, p⟩ s1 ⟨hm, hlm, hr, I⟩ g1 g2 g3 g4 g5
 simp at g1 g3 g5 hm hlm hr I
 clear g2 g4 t1 hq I' hI
 cases m with
 | zero => simp [zP] at hr
 | succ m =>
  simp only [zP] at hr
  have hroom : (l.length + 1) * 64 <= zG := by simp only [zG]; omega
  have t2 := zz I [44]
  rw [zQ] at t2
  have key : ∀ q : PS, Inv1 T q -> (if zk q then some (l, q) else match zsa T m 1 d q with | none => none | some x => zP T m d (l ++ [x.1]) false x.2) = some (l', p1) →
    (zk q = true /\ l = l' /\ q = p1) \/ (zk q = false /\ ∃ e p2, zj E 134 [.ptr 0 0 0, .int .i64 1, .int .i64 d] (pob T q) = some (.ret (zH e), pob T p2) /\ Inv1 T p2 /\ zP T m d (l ++ [e]) false p2 = some (l', p1)) := by
   intro q Iq h
   cases ho : zk q
   ·right
    rw [if_neg (by rw [ho]; decide)] at h
    split at h
    ·cases h
    ·rename_i x hx
     obtain ⟨e, p2⟩ := x
     obtain ⟨x1, I3⟩ := (S m (by omega)).expr 1 d _ e p2 hx Iq (by omega) (by omega) hd (by omega)
     exact ⟨rfl, e, p2, x1, I3, h⟩
   ·left
    rw [if_pos ho] at h
    cases h
    exact ⟨rfl, rfl, rfl⟩
  cases f
  ·cases c2 : isF T [44] p
   ·rw [c2] at hr t2
    simp at hr
    obtain ⟨rfl, rfl⟩ := hr
    clear key c2
    simp [*]
   ·have IA := I.adv _ c2
    rw [c2] at hr t2
    simp at hr
    have ho := zCb IA
    rcases key _ IA hr with ⟨k1, rfl, rfl⟩ | ⟨k1, e, p2, x1, I3, hr2⟩
    ·rw [k1] at ho
     clear key c2 hr
     simp [*]
    ·rw [k1] at ho
     rw [za] at x1
     clear key c2 hr k1
     simp [*]
     exact ⟨⟨m, l ++ [e], false, p2⟩, Nat.lt_succ_self m, ⟨by simp [za], rfl⟩, rfl, by simp only; omega, by simp only [List.length_append, List.length_cons, List.length_nil]; omega, hr2, I3⟩
  ·simp at hr
   have ho := zCb I
   rcases key _ I hr with ⟨k1, rfl, rfl⟩ | ⟨k1, e, p2, x1, I3, hr2⟩
   ·rw [k1] at ho
    clear key hr t2
    simp [*]
   ·rw [k1] at ho
    rw [za] at x1
    clear key hr k1 t2
    simp [*]
    exact ⟨⟨m, l ++ [e], false, p2⟩, Nat.lt_succ_self m, ⟨by simp [za], rfl⟩, rfl, by simp only; omega, by simp only [List.length_append, List.length_cons, List.length_nil]; omega, hr2, I3⟩
end PE.U

namespace PE.U
open Go PE
theorem espec_all (T : List Tok) : ∀ n k, k <= n -> ESpec T k
 | 0, k, h => by
  have : k = 0 := by omega
  subst this
  exact ⟨fun _ _ _ _ h => by simp [zxa] at h, fun _ _ _ _ h => by simp [zJb] at h, fun _ _ _ _ _ h => by simp [zsa] at h, fun _ _ _ _ h => by simp [zhd] at h⟩
 | n + 1, k, h => by
  have ih := espec_all T n
  rcases Nat.lt_or_ge k (n + 1) with h1 | h1
  ·exact ih k (by omega)
  ·have : k = n + 1 := by omega
   subst this
   exact ⟨primary_of (ih n (Nat.le_refl n)), unary_of (ih n (Nat.le_refl n)), expr_of ih, args_of ih⟩
theorem espec (T : List Tok) (n : Nat) : ESpec T n := espec_all T n n (Nat.le_refl n)
theorem zta {T : List Tok} {n : Nat} {p p' : PS} {v : Expr} (h : zsa T n 1 1 p = some (v, p')) (I : Inv1 T p) (hn : n <= 999999990) : zj E 134 [.ptr 0 0 0, .int .i64 1, .int .i64 1] (pob T p) = some (.ret (zH v), pob T p') /\ Inv1 T p' :=
 (espec T n).expr 1 1 p v p' h I (by omega) (by omega) (by omega) (by omega)
def zHb (T : List Tok) (n : Nat) (p : PS) : Option (Expr × PS) :=
 match zsa T n 1 1 (zA T [40] p) with
 | none => none
 | some q => some (q.1, zA T [41] q.2)
theorem zPa {T : List Tok} {n : Nat} {p p' : PS} {v : Expr} (h : zHb T n p = some (v, p')) (I : Inv1 T p) (hn : n <= 999999990) : zj E 135 [.ptr 0 0 0] (pob T p) = some (.ret (zd [v]), pob T p') /\ Inv1 T p' := by
 unfold zHb at h
 split at h
 ·cases h
 ·rename_i q hq
  obtain ⟨e, p1⟩ := q
  cases h
  have m1 := zx I [40]
  obtain ⟨x1, I1⟩ := zta hq (I.must _) hn
  have m2 := zx I1 [41]
  refine ⟨?_, I1.must _⟩
  refine zb rfl rfl rfl (by simp) ?_
  clear hq
  rw [za] at x1
  simp [*, F135, zd, za]
def zbd (T : List Tok) (n : Nat) (p : PS) : Option (Stmt × PS) :=
 if isF T [40] (zy T 1 p).2 then
  match zhd T n 2 (adv (zy T 1 p).2) with
  | none => none
  | some q => some (⟨10, 0, [], [⟨7, 0, 0, (zy T 1 p).1, q.1⟩], [], []⟩, q.2)
 else if isF T [91] (zy T 1 p).2 then
  match zsa T n 1 1 (adv (zy T 1 p).2) with
  | none => none
  | some q => match zsa T n 1 1 (zA T [61] (zA T [93] q.2)) with
   | none => none
   | some r => some (⟨3, 0, (zy T 1 p).1, [q.1, r.1], [], []⟩, r.2)
 else match zsa T n 1 1 (zA T [61] (zy T 1 p).2) with
  | none => none
  | some q => some (⟨2, 0, (zy T 1 p).1, [q.1], [], []⟩, q.2)
theorem named_spec {T : List Tok} {n : Nat} {p p' : PS} {v : Stmt} (h : zbd T n p = some (v, p')) (I : Inv1 T p) (hn : n <= 999999990) : zj E 136 [.ptr 0 0 0] (pob T p) = some (.ret (zla v), pob T p') /\ Inv1 T p' := by
 unfold zbd at h
 have tx := zVb I 1
 have I1 := I.text 1 (by decide)
 have t6 := zz I1 [40]
 rw [zQ] at t6
 generalize htt : zy T 1 p = tt at *
 obtain ⟨s, p1⟩ := tt
 simp only at h tx I1 t6
 clear htt
 cases c6 : isF T [40] p1
 case true =>
  rw [if_pos c6] at h
  rw [c6] at t6
  split at h
  ·cases h
  ·rename_i q hq
   obtain ⟨l, p2⟩ := q
   cases h
   have IA := I1.adv _ c6
   obtain ⟨x1, I3⟩ := (espec T n).args 2 _ l p2 hq IA (by omega) (by omega)
   refine ⟨?_, I3⟩
   refine zb rfl rfl rfl (by simp) ?_
   clear hq c6
   rw [zc]
   simp [zd] at x1
   simp [*, F136, zd, zn, za]
 rw [if_neg (by rw [c6]; decide)] at h
 rw [c6] at t6
 have t7 := zz I1 [91]
 rw [zQ] at t7
 cases c7 : isF T [91] p1
 case true =>
  rw [if_pos c7] at h
  rw [c7] at t7
  split at h
  ·cases h
  ·rename_i q hq
   obtain ⟨e, p2⟩ := q
   simp only at h
   have IA := I1.adv _ c7
   obtain ⟨x1, I3⟩ := zta hq IA hn
   have m2 := zx I3 [93]
   have I4 := I3.must [93]
   have m3 := zx I4 [61]
   have I5 := I4.must [61]
   split at h
   ·cases h
   ·rename_i r hr
    obtain ⟨e2, p3⟩ := r
    cases h
    obtain ⟨x2, I6⟩ := zta hr I5 hn
    refine ⟨?_, I6⟩
    refine zb rfl rfl rfl (by simp) ?_
    clear hq hr c6 c7
    rw [za] at x1 x2
    rw [zc]
    simp [*, F136, zd, zn, za]
 rw [if_neg (by rw [c7]; decide)] at h
 rw [c7] at t7
 split at h
 ·cases h
 ·rename_i q hq
  obtain ⟨e, p2⟩ := q
  cases h
  have m1 := zx I1 [61]
  obtain ⟨x1, I3⟩ := zta hq (I1.must _) hn
  refine ⟨?_, I3⟩
  refine zb rfl rfl rfl (by simp) ?_
  clear hq c6 c7
  rw [za] at x1
  rw [zc]
  simp [*, F136, zd, zn, za]
end PE.U

namespace PE.U
open Go PE
def signList : List (List UInt8) := [[], [43], [45], [42], [47], [37], [38], [124], [94], [60, 60], [62, 62], [62, 62, 62], [60], [60, 61], [62], [62, 61], [61, 61], [33, 61], [38, 38], [124, 124], [45], [126], [33], [105, 56], [105, 49, 54], [105, 51, 50], [117, 56], [117, 49, 54], [117, 51, 50]]
def zCc : List Int := [0, 9, 9, 10, 10, 10, 5, 3, 4, 8, 8, 8, 7, 7, 7, 7, 6, 6, 2, 1, 0, 0, 0, 0, 0, 0, 0, 0, 0]
def sgn (op : Int) : List UInt8 := if op < 0 then [] else (signList[op.toNat]?).getD []
def lvl (op : Int) : Int := if op < 0 then 0 else (zCc[op.toNat]?).getD 0
theorem rowCells : ∀ n : Nat, n < 29 -> List.take 2 (List.drop (n * 2) [.str [], .int .i64 0, .str [43], .int .i64 9, .str [45], .int .i64 9, .str [42], .int .i64 10, .str [47], .int .i64 10, .str [37], .int .i64 10, .str [38], .int .i64 5, .str [124], .int .i64 3, .str [94], .int .i64 4, .str [60, 60], .int .i64 8, .str [62, 62], .int .i64 8, .str [62, 62, 62], .int .i64 8, .str [60], .int .i64 7, .str [60, 61], .int .i64 7, .str [62], .int .i64 7, .str [62, 61], .int .i64 7, .str [61, 61], .int .i64 6, .str [33, 61], .int .i64 6, .str [38, 38], .int .i64 2, .str [124, 124], .int .i64 1, .str [45], .int .i64 0, .str [126], .int .i64 0, .str [33], .int .i64 0, .str [105, 56], .int .i64 0, .str [105, 49, 54], .int .i64 0, .str [105, 51, 50], .int .i64 0, .str [117, 56], .int .i64 0, .str [117, 49, 54], .int .i64 0, .str [117, 51, 50], .int .i64 0]) = [PV.str ((signList[n]?).getD []), PV.int .i64 ((zCc[n]?).getD 0)]
 | 0, _ => rfl
 | 1, _ => rfl
 | 2, _ => rfl
 | 3, _ => rfl
 | 4, _ => rfl
 | 5, _ => rfl
 | 6, _ => rfl
 | 7, _ => rfl
 | 8, _ => rfl
 | 9, _ => rfl
 | 10, _ => rfl
 | 11, _ => rfl
 | 12, _ => rfl
 | 13, _ => rfl
 | 14, _ => rfl
 | 15, _ => rfl
 | 16, _ => rfl
 | 17, _ => rfl
 | 18, _ => rfl
 | 19, _ => rfl
 | 20, _ => rfl
 | 21, _ => rfl
 | 22, _ => rfl
 | 23, _ => rfl
 | 24, _ => rfl
 | 25, _ => rfl
 | 26, _ => rfl
 | 27, _ => rfl
 | 28, _ => rfl
 | n + 29, h => by omega
set_option maxHeartbeats 4000000 in
theorem rowOf_spec (op : Int) (σ : ze) : zj E 159 [.int .i64 op] σ = some (.ret (.agg [.str (sgn op), .int .i64 (lvl op)]), σ) := by
 refine zb rfl rfl rfl (by simp) ?_
 by_cases h0 : op < 0
 ·simp [F159, h0, sgn, lvl]
 by_cases h1 : 29 <= op
 ·have : 29 <= op.toNat := by omega
  simp [F159, h0, h1, sgn, lvl, signList, zCc, List.getElem?_eq_none, this]
 have h2 : op.toNat < 29 := by omega
 have h3 : 0 <= op := by omega
 have h4 : op.toNat * 2 <= 56 := by omega
 have e1 : sgn op = ((signList[op.toNat]?).getD []) := by simp [sgn, h0]
 have e2 : lvl op = ((zCc[op.toNat]?).getD 0) := by simp [lvl, h0]
 rw [e1, e2]
 have e3 := rowCells op.toNat h2
 generalize ((signList[op.toNat]?).getD []) = s at *
 generalize ((zCc[op.toNat]?).getD 0) = l at *
 simp [F159, h0, h1, h2, h3, h4, e3]
theorem level_spec (op : Int) (σ : ze) : zj E 148 [.int .i64 op] σ = some (.ret (.int .i64 (lvl op)), σ) := by
 refine zb rfl rfl rfl (by simp) ?_
 (simp [*, F148, rowOf_spec]) <;> (repeat' ((first | refine sP _ ?_ ?_ | refine gP _ ?_ ?_ | refine sN _ ?_ ?_ | refine gN _ ?_ ?_ | refine sM _ ?_ ?_ | refine gM _ ?_ ?_ | refine sB _ ?_ ?_ | refine gB _ ?_ ?_) <;> intro hc <;> simp [*, F148, rowOf_spec]))
theorem lvl_eq (op : Int) : lvl op = zKb op := by
 unfold lvl zKb
 by_cases h0 : op < 0
 ·rw [if_pos h0]
  repeat (rw [if_neg (by omega)])
 ·rw [if_neg h0]
  by_cases h1 : 29 <= op
  ·have : 29 <= op.toNat := by omega
   rw [List.getElem?_eq_none (by simpa [zCc] using this)]
   repeat (rw [if_neg (by omega)])
   rfl
  ·obtain ⟨n, rfl⟩ : ∃ n : Nat, op = n := ⟨op.toNat, by omega⟩
   have hn : n < 29 := by omega
   have key : ∀ n : Nat, n < 29 -> (zCc[((n : Int)).toNat]?).getD 0 = zKb (n : Int) := by decide
   have := key n hn
   unfold zKb at this
   exact this
end PE.U

namespace PE.U
open Go PE
def digF : Nat -> Nat -> List UInt8
 | 0, _ => []
 | k + 1, n => if n < 10 then [UInt8.ofNat (48 + n)] else digF k (n / 10) ++ [UInt8.ofNat (48 + n % 10)]
def digitsM (n : Nat) : List UInt8 := digF 20 n
theorem digF_ne (k n : Nat) : digF (k + 1) n ≠ [] := by unfold digF; split <;> simp
end PE.U

namespace PE.U
open Go PE
theorem lead_ne : ∀ (k m : Nat), 0 < m -> m < 10 ^ (k + 1) -> (digF (k + 1) m).head? ≠ some 48 := by
  intro k
  induction k with
  | zero =>
   intro m hm hm2
   unfold digF
   rw [if_pos (by simpa using hm2)]
   intro e
   have := congrArg UInt8.toNat (Option.some.inj e)
   rw [UInt8.toNat_ofNat'] at this
   simp at hm2 this
   omega
  | succ k ih =>
   intro m hm hm2
   unfold digF
   split
   ·rename_i hm10
    intro e
    have := congrArg UInt8.toNat (Option.some.inj e)
    rw [UInt8.toNat_ofNat'] at this
    simp at this
    omega
   ·rename_i hm10
    have h1 := ih (m / 10) (by omega) (by rw [Nat.pow_succ] at hm2; omega)
    have h2 := digF_ne k (m / 10)
    cases hq : digF (k + 1) (m / 10) with
    | nil => exact absurd hq h2
    | cons b r => rw [hq] at h1; simpa using h1
theorem dec_dig : ∀ (k n : Nat), n < 10 ^ (k + 1) -> Lib.decDigits n = digF (k + 1) n
 | 0, n, h => by rw [Lib.decDigits, digF]; simp at h; simp [h]
 | k + 1, n, h => by
  rw [Lib.decDigits, digF]
  split
  ·rfl
  ·rw [dec_dig k (n / 10) (by rw [Nat.pow_succ] at h; omega)]
theorem itoa_dec (c : Nat) (h : c < 10 ^ 20) : Lib.itoa c = digitsM c := by
 have h0 : ¬ ((c : Int) < 0) := by omega
 unfold Lib.itoa digitsM
 rw [if_neg h0, Int.toNat_natCast, dec_dig 19 c h]
end PE.U

namespace PE.U
open Go PE
abbrev KT := Int × List UInt8
def kt (t : Tok) : KT := (t.kind, t.text)
theorem drop_name {b : UInt8} {r : List UInt8} (h : zw b = true) : ((b :: r).drop ((b :: r).takeWhile zw).length).length <= r.length := by
 have hw : 0 < ((b :: r).takeWhile zw).length := by rw [List.takeWhile_cons, h]; simp
 rw [List.length_drop]; simp only [List.length_cons]; omega
theorem drop_sign {b : UInt8} {r : List UInt8} (h : ¬ zlb (b :: r) = []) : ((b :: r).drop (zlb (b :: r)).length).length <= r.length := by
 have hp : 0 < (zlb (b :: r)).length := List.length_pos_iff.2 h
 rw [List.length_drop]; simp only [List.length_cons]; omega
theorem drop_com {b : UInt8} {r : List UInt8} (h : b = 47) : ((b :: r).dropWhile (· != 10)).length <= r.length := by
 rw [List.dropWhile_cons, h]
 simp only [show ((47 : UInt8) != 10) = true from rfl, if_true]
 rw [zIa, List.length_drop]; omega
end PE.U

namespace PE.U
open Go PE
theorem tokGo_fuel : ∀ n m (s : List UInt8) line acc, s.length < n -> s.length < m -> zma n s line acc = zma m s line acc := by
 intro n
 induction n with
 | zero => intro m s line acc h; omega
 | succ n ih =>
  intro m s line acc hn hm
  obtain ⟨m, rfl⟩ : ∃ k, m = k + 1 := ⟨m - 1, by omega⟩
  cases s with
  | nil => rfl
  | cons b r =>
   simp only [List.length_cons] at hn hm
   simp only [zma]
   split
   ·exact ih m r _ _ (by omega) (by omega)
   split
   ·exact ih m r _ _ (by omega) (by omega)
   split
   ·rename_i h
    have := drop_com (r := r) h.1
    exact ih m _ _ _ (by omega) (by omega)
   split
   ·rename_i h
    have := drop_name (r := r) h
    split
    ·rfl
    ·exact ih m _ _ _ (by omega) (by omega)
   split
   ·rfl
   ·rename_i h
    have := drop_sign h
    exact ih m _ _ _ (by omega) (by omega)
def tokL (s : List UInt8) (line : Int) (acc : List Tok) : List Tok × Int × Int := zma (s.length + 1) s line acc
def zpd (s : List UInt8) (line : Int) : Tok × Bool :=
 if s = [] then (⟨3, [], line⟩, true)
 else if runM s = [] then (⟨2, zlb s, line⟩, decide (zlb s ≠ []))
 else (⟨zMb (runM s) (s.head?.getD 0), runM s, line⟩, !tokBad (runM s) (s.head?.getD 0))
def skips : List UInt8 -> Bool
 | [] => false
 | b :: r => decide (b = 10) || (blank b || (decide (b = 47) && decide (r.head? = some 47)))
def skip1 : List UInt8 -> Int -> List UInt8 × Int
 | [], line => ([], line)
 | b :: r, line => if b = 10 then (r, line + 1) else if blank b then (r, line) else ((b :: r).dropWhile (· != 10), line)
theorem skip1_cons (b : UInt8) (r : List UInt8) (line : Int) : skip1 (b :: r) line = if b = 10 then (r, line + 1) else if blank b then (r, line) else ((b :: r).dropWhile (· != 10), line) := rfl
theorem zVc (b : UInt8) (r : List UInt8) : skips (b :: r) = true <-> b = 10 \/ blank b = true \/ (b = 47 /\ r.head? = some 47) := by
 unfold skips
 simp only [Bool.or_eq_true, decide_eq_true_eq, Bool.and_eq_true]
theorem skip1_len {s : List UInt8} (h : skips s = true) (line : Int) : (skip1 s line).1.length < s.length := by
 cases s with
 | nil => cases h
 | cons b r =>
  rw [skip1_cons]
  rw [zVc] at h
  by_cases h1 : b = 10
  ·rw [if_pos h1]; simp
  rw [if_neg h1]
  by_cases h2 : blank b = true
  ·rw [if_pos h2]; simp
  rw [if_neg h2]
  rcases h with h | h | h
  ·exact absurd h h1
  ·exact absurd h h2
  ·have := drop_com (r := r) h.1
   simp only [List.length_cons]
   omega
theorem skip1_tok {s : List UInt8} (h : skips s = true) (line : Int) (acc : List Tok) : tokL s line acc = tokL (skip1 s line).1 (skip1 s line).2 acc := by
 cases s with
 | nil => cases h
 | cons b r =>
  have hl := skip1_len h line
  unfold tokL
  rw [List.length_cons, zma]
  rw [skip1_cons] at hl ⊢
  rw [zVc] at h
  by_cases h1 : b = 10
  ·rw [if_pos h1, if_pos h1]
  rw [if_neg h1] at hl
  rw [if_neg h1, if_neg h1]
  by_cases h2 : blank b = true
  ·rw [if_pos h2, if_pos h2]
  rw [if_neg h2] at hl
  rw [if_neg h2, if_neg h2]
  have h3 : b = 47 /\ r.head? = some 47 := by
   rcases h with h | h | h
   ·exact absurd h h1
   ·exact absurd h h2
   ·exact h
  rw [if_pos h3]
  exact tokGo_fuel _ _ _ _ _ (by rw [List.length_cons] at hl; exact hl) (Nat.lt_succ_self _)
theorem nextM_cons (b : UInt8) (r : List UInt8) (line : Int) : zpd (b :: r) line = if runM (b :: r) = [] then (⟨2, zlb (b :: r), line⟩, decide (zlb (b :: r) ≠ [])) else (⟨zMb (runM (b :: r)) b, runM (b :: r), line⟩, !tokBad (runM (b :: r)) b) := by
 unfold zpd
 rw [if_neg (List.cons_ne_nil b r)]
 rfl
theorem tokKind_ne (w : List UInt8) (b : UInt8) : ¬ zMb w b = 3 := by
 unfold zMb
 split
 ·decide
 ·split <;> decide
theorem next_tok {s : List UInt8} (h : skips s = false) (line : Int) (acc : List Tok) :
  tokL s line acc = (if (zpd s line).2 = false then ([], 20, line) else if (zpd s line).1.kind = 3 then (acc ++ [(zpd s line).1], 0, 0) else tokL (s.drop (zpd s line).1.text.length) line (acc ++ [(zpd s line).1])) := by
 cases s with
 | nil => simp [tokL, zma, zpd]
 | cons b r =>
  have hn : ¬ (b = 10 \/ blank b = true \/ (b = 47 /\ r.head? = some 47)) := by rw [<- zVc, h]; simp
  simp only [not_or] at hn
  obtain ⟨h1, h2, h3⟩ := hn
  have e1 : tokL (b :: r) line acc = zma (r.length + 1 + 1) (b :: r) line acc := rfl
  rw [e1, zma, if_neg h1, if_neg h2, if_neg h3, nextM_cons]
  have hrun : runM (b :: r) = (b :: r).takeWhile zw := rfl
  rw [hrun]
  by_cases hb : zw b = true
  ·have hne : ¬ (b :: r).takeWhile zw = [] := by rw [List.takeWhile_cons, if_pos hb]; simp
   have hlen := drop_name (r := r) hb
   rw [if_pos hb, if_neg hne]
   cases hbad : tokBad ((b :: r).takeWhile zw) b
   ·rw [if_neg (by simp), if_neg (by simp), if_neg (tokKind_ne _ _)]
    exact tokGo_fuel _ _ _ _ _ (Nat.lt_succ_of_le hlen) (Nat.lt_succ_self _)
   ·simp
  ·have he : (b :: r).takeWhile zw = [] := by rw [List.takeWhile_cons, if_neg hb]
   rw [if_neg hb, if_pos he]
   by_cases hs : zlb (b :: r) = []
   ·rw [if_pos hs, if_pos (by simp [hs])]
   ·have hlen := drop_sign hs
    rw [if_neg hs, if_neg (by simp [hs]), if_neg (by show ¬ (2 : Int) = 3; decide)]
    exact tokGo_fuel _ _ _ _ _ (Nat.lt_succ_of_le hlen) (Nat.lt_succ_self _)
end PE.U

namespace PE.U
open Go PE
def twosT : List UInt8 := [60, 60, 32, 62, 62, 32, 60, 61, 32, 62, 61, 32, 61, 61, 32, 33, 61, 32, 38, 38, 32, 124, 124]
def onesT : List UInt8 := [40, 41, 123, 125, 91, 93, 44, 59, 61, 60, 62, 43, 45, 42, 47, 37, 38, 124, 94, 126, 33]
def pairsL : List (List UInt8) := [[60, 60], [62, 62], [60, 61], [62, 61], [61, 61], [33, 61], [38, 38], [124, 124]]
def onesL : List (List UInt8) := [[40], [41], [123], [125], [91], [93], [44], [59], [61], [60], [62], [43], [45], [42], [47], [37], [38], [124], [94], [126], [33]]
theorem signsL_eq : signsL = [62, 62, 62] :: (pairsL ++ onesL) := by decide
theorem find_len {s : List UInt8} {k : Nat} (hk : k <= s.length) : ∀ (l : List (List UInt8)), (∀ x ∈ l, x.length = k) -> l.find? (fun x => x.isPrefixOf s) = if s.take k ∈ l then some (s.take k) else none
 | [], _ => rfl
 | x :: r, h => by
  have hx : x.length = k := h x (by simp)
  rw [List.find?_cons, find_len hk r (fun y hy => h y (by simp [hy]))]
  have hp := prefix_take x s
  rw [hx] at hp
  by_cases e : s.take k = x
  ·rw [hp]; simp [hk, e]
  ·rw [hp]
   have : ¬ x = s.take k := fun q => e q.symm
   simp [e]
theorem find_short {s : List UInt8} : ∀ (l : List (List UInt8)), (∀ x ∈ l, s.length < x.length) -> l.find? (fun x => x.isPrefixOf s) = none
 | [], _ => rfl
 | x :: r, h => by
  rw [List.find?_cons, find_short r (fun y hy => h y (by simp [hy])), prefix_take]
  have := h x (by simp)
  have hn : ¬ x.length <= s.length := by omega
  simp [hn]
theorem contains_cons (b : UInt8) (l sub : List UInt8) : Lib.contains (b :: l) sub = (sub.isPrefixOf (b :: l) || Lib.contains l sub) := by
 have hg := Lib.index_ge l sub
 unfold Lib.contains
 rw [Lib.index]
 cases h : sub.isPrefixOf (b :: l)
 ·simp only [Bool.false_eq_true, if_false, Bool.false_or]
  split
  ·rename_i e
   simp only [beq_iff_eq] at e
   rw [e]
   try rfl
  ·rename_i e
   simp only [beq_iff_eq] at e
   have e1 : 0 <= Lib.index l sub := by omega
   rw [decide_eq_true e1, decide_eq_true (by omega)]
 ·simp
theorem contains_nil (a : UInt8) (r : List UInt8) : Lib.contains [] (a :: r) = false := by simp [Lib.contains, Lib.index]
theorem twos_pairs (a b : UInt8) (ha : ¬ a = 32) (hb : ¬ b = 32) : Lib.contains twosT [a, b] = pairsL.contains [a, b] := by
 have ha' : (a == 32) = false := by simpa using ha
 have hb' : (b == 32) = false := by simpa using hb
 unfold twosT pairsL
 simp only [contains_cons, contains_nil, List.isPrefixOf, ha', hb', Bool.and_true, Bool.and_false, Bool.false_and, Bool.or_false, Bool.false_or, List.contains_cons, List.contains_nil, Bool.and_self]
 have hbq : ∀ x y : UInt8, (([a, b] : List UInt8) == [x, y]) = (a == x && b == y) := fun x y => by
  rw [Bool.eq_iff_iff]; simp
 simp only [hbq]
theorem index_mem (c : UInt8) : ∀ l : List UInt8, (0 <= Lib.indexByte l c) <-> c ∈ l
 | [] => by simp [Lib.indexByte]
 | b :: l => by
  have hg := Lib.indexByte_ge l c
  rw [Lib.indexByte]
  by_cases h : b = c
  ·subst h; simp
  ·have h' : (b == c) = false := by simpa using h
   rw [h']
   simp only [Bool.false_eq_true, if_false, List.mem_cons]
   have ih := index_mem c l
   split
   ·rename_i e
    simp only [beq_iff_eq] at e
    rw [e] at ih
    constructor
    ·intro q; omega
    ·rintro (q | q)
     ·exact absurd q.symm h
     ·have := ih.2 q; omega
   ·rename_i e
    simp only [beq_iff_eq] at e
    constructor
    ·intro q; exact .inr (ih.1 (by omega))
    ·rintro (q | q)
     ·exact absurd q.symm h
     ·have := ih.2 q; omega
theorem ones_mem (c : UInt8) : [c] ∈ onesL <-> c ∈ onesT := by
 unfold onesL onesT
 simp
def psign (s : List UInt8) : List UInt8 :=
 if [62, 62, 62].isPrefixOf s then [62, 62, 62]
 else match s with
  | a :: b :: r => if ¬ a = 32 /\ ¬ b = 32 /\ Lib.contains twosT [a, b] = true then [a, b] else if 0 <= Lib.indexByte onesT a then [a] else []
  | [a] => if 0 <= Lib.indexByte onesT a then [a] else []
  | [] => []
theorem psign_eq (s : List UInt8) (hs : s ≠ []) : psign s = zlb s := by
 unfold psign zlb
 rw [signsL_eq, List.find?_cons]
 cases h3 : [62, 62, 62].isPrefixOf s
 ·simp only [Bool.false_eq_true, if_false]
  rw [List.find?_append]
  match s, hs with
  | [a], _ =>
   rw [find_short pairsL (by intro x hx; rw [show x.length = 2 from (by decide : ∀ x ∈ pairsL, x.length = 2) x hx]; simp), find_len (k := 1) (by simp) onesL (by decide)]
   simp only [List.take_succ_cons, List.take_zero, Option.none_or, ones_mem, index_mem]
   split <;> rfl
  | a :: b :: r, _ =>
   rw [find_len (k := 2) (by simp) pairsL (by decide), find_len (k := 1) (by simp) onesL (by decide)]
   simp only [List.take_succ_cons, List.take_zero, ones_mem, index_mem]
   by_cases hm : [a, b] ∈ pairsL
   ·have hab : ¬ a = 32 /\ ¬ b = 32 := by
     have hall : pairsL.all (fun x => decide (¬ (32 : UInt8) ∈ x)) = true := by decide
     have := List.all_eq_true.1 hall _ hm
     simp at this
     exact ⟨fun e => this.1 e.symm, fun e => this.2 e.symm⟩
    rw [if_pos ⟨hab.1, hab.2, by rw [twos_pairs a b hab.1 hab.2]; exact List.contains_iff_mem.2 hm⟩]
    simp [hm]
   ·rw [if_neg]
    ·simp only [hm, if_false, Option.none_or]
     split <;> rfl
    ·rintro ⟨h1, h2, h3⟩
     rw [twos_pairs a b h1 h2] at h3
     exact hm (List.contains_iff_mem.1 h3)
 ·simp
def valN (n : Nat) (s : List UInt8) : Nat := s.foldl (fun n b => n * 10 + (b.toNat - 48)) n
theorem valN_nil (n : Nat) : valN n [] = n := rfl
theorem zvc (n : Nat) (b : UInt8) (r : List UInt8) : valN n (b :: r) = valN (n * 10 + (b.toNat - 48)) r := by
 unfold valN
 rw [List.foldl_cons]
theorem valN_ge : ∀ (s : List UInt8) (n : Nat), n <= valN n s
 | [], n => Nat.le_of_eq (valN_nil n).symm
 | b :: r, n => by
  have := valN_ge r (n * 10 + (b.toNat - 48))
  rw [zvc]; omega
theorem zbc {b : UInt8} {r : List UInt8} : digs (b :: r) = true <-> (48 <= b.toNat /\ b.toNat <= 57) /\ digs r = true := by
 unfold digs
 rw [List.all_cons, Bool.and_eq_true]
 simp [zab]
 omega
theorem valGo_N : ∀ (s : List UInt8) (n : Nat), digs s = true -> n <= 9223372036854775807 -> zid n s = if valN n s <= 9223372036854775807 then some (valN n s : Int) else none
 | [], n, _, h => by simp [zid, valN_nil, h]
 | b :: r, n, hd, h => by
  obtain ⟨hb, hr⟩ := zbc.1 hd
  rw [zid, zvc]
  have hc : ((b.toNat : Int) - 48) = ((b.toNat - 48 : Nat) : Int) := by omega
  rw [hc]
  have hge := valN_ge r (n * 10 + (b.toNat - 48))
  split
  ·rename_i hlt
   rw [if_neg (by omega)]
  ·rename_i hlt
   have e : (n : Int) * 10 + ((b.toNat - 48 : Nat) : Int) = ((n * 10 + (b.toNat - 48) : Nat) : Int) := by omega
   rw [e]
   exact valGo_N r _ hr (by omega)
theorem parse_N : ∀ (s : List UInt8) (n : Nat), digs s = true -> n < 18446744073709551616 -> Lib.parseUint10 n s = if valN n s < 18446744073709551616 then .ok (valN n s) else .range
 | [], n, _, h => by simp [Lib.parseUint10, valN_nil, h]
 | b :: r, n, hd, h => by
  obtain ⟨hb, hr⟩ := zbc.1 hd
  rw [Lib.parseUint10, if_pos hb, zvc]
  have hge := valN_ge r (n * 10 + (b.toNat - 48))
  split
  ·rw [if_neg (by omega)]
  split
  ·rw [if_neg (by omega)]
  ·exact parse_N r _ hr (by omega)
theorem parse_bad : ∀ (s : List UInt8) (n u : Nat), digs s = false -> Lib.parseUint10 n s ≠ .ok u
 | [], n, u, hd => by cases hd
 | b :: r, n, u, hd => by
  rw [Lib.parseUint10]
  split
  ·rename_i hb
   split
   ·exact fun e => by cases e
   split
   ·exact fun e => by cases e
   ·refine parse_bad r _ u ?_
    cases hr : digs r
    ·rfl
    ·rw [zbc.2 ⟨hb, hr⟩] at hd; cases hd
  ·exact fun e => by cases e
theorem digF_valN : ∀ (s : List UInt8) (n k : Nat), digs s = true -> 0 < n -> digF (k + s.length) (valN n s) = digF k n ++ s
 | [], n, k, _, _ => by simp [valN_nil]
 | b :: r, n, k, hd, hn => by
  obtain ⟨hb, hr⟩ := zbc.1 hd
  have ih := digF_valN r (n * 10 + (b.toNat - 48)) (k + 1) hr (by omega)
  rw [zvc, List.length_cons, show k + (r.length + 1) = k + 1 + r.length by omega, ih, digF, if_neg (by omega)]
  have e1 : (n * 10 + (b.toNat - 48)) / 10 = n := by omega
  have e2 : (n * 10 + (b.toNat - 48)) % 10 = b.toNat - 48 := by omega
  rw [e1, e2]
  have e3 : UInt8.ofNat (48 + (b.toNat - 48)) = b := by
   rw [show 48 + (b.toNat - 48) = b.toNat by omega]; simp
  rw [e3]; simp
theorem digF_fuel : ∀ (k j v : Nat), v < 10 ^ j -> 0 < j -> j <= k -> digF k v = digF j v
 | 0, j, v, _, h1, h2 => by omega
 | k + 1, 0, v, _, h1, _ => by omega
 | k + 1, j + 1, v, hv, _, hjk => by
  rw [digF, digF]
  split
  ·rfl
  ·cases j with
   | zero => simp at hv; omega
   | succ j => rw [digF_fuel k (j + 1) (v / 10) (by rw [Nat.pow_succ] at hv; omega) (by omega) (by omega)]
theorem valN_lt : ∀ (s : List UInt8) (n j : Nat), digs s = true -> n < 10 ^ j -> valN n s < 10 ^ (j + s.length)
 | [], n, j, _, h => by simpa [valN_nil] using h
 | b :: r, n, j, hd, h => by
  obtain ⟨hb, hr⟩ := zbc.1 hd
  rw [zvc, List.length_cons, show j + (r.length + 1) = j + 1 + r.length by omega]
  exact valN_lt r _ (j + 1) hr (by rw [Nat.pow_succ]; omega)
theorem valN_ge10 : ∀ (s : List UInt8) (n : Nat), digs s = true -> n * 10 ^ s.length <= valN n s
 | [], n, _ => by simp [valN_nil]
 | b :: r, n, hd => by
  obtain ⟨hb, hr⟩ := zbc.1 hd
  have ih := valN_ge10 r (n * 10 + (b.toNat - 48)) hr
  rw [zvc, List.length_cons, Nat.pow_succ]
  refine Nat.le_trans ?_ ih
  rw [Nat.add_mul, Nat.mul_assoc, Nat.mul_comm (10 ^ r.length) 10]
  omega
def pnumber (s : List UInt8) : Bool := match Lib.atoiAll s with
 | .ok v => decide (Lib.itoa v = s)
 | _ => false
theorem pnumber_eq (b : UInt8) (r : List UInt8) (hb : ¬ b.toNat = 43 /\ ¬ b.toNat = 45) : pnumber (b :: r) = zXa (b :: r) := by
 have hat : Lib.atoiAll (b :: r) = match Lib.parseUint10 0 (b :: r) with
   | .«syntax» => .«syntax»
   | .range => .range
   | .ok u => if 9223372036854775808 <= u then .range else .ok (u : Int) := by
  unfold Lib.atoiAll
  simp only [hb.1, hb.2, or_self, if_false, false_and, not_false_eq_true, true_and]
  unfold Lib.parseMag
  rfl
 unfold pnumber zXa
 rw [hat]
 cases hd : digs (b :: r)
 ·cases hp : Lib.parseUint10 0 (b :: r) with
  | ok u => exact absurd hp (parse_bad _ _ _ hd)
  | «syntax» => rfl
  | range => rfl
 ·rw [parse_N _ 0 hd (by omega), Bool.true_and]
  have hv := valGo_N (b :: r) 0 hd (by omega)
  unfold zuc
  rw [show (0 : Int) = ((0 : Nat) : Int) from rfl, hv]
  by_cases h64 : valN 0 (b :: r) < 18446744073709551616
  ·rw [if_pos h64]
   simp only
   by_cases h63 : valN 0 (b :: r) <= 9223372036854775807
   ·rw [if_neg (by omega), if_pos h63]
    simp only
    rw [itoa_dec (valN 0 (b :: r)) (by omega)]
    obtain ⟨hb1, hr⟩ := zbc.1 hd
    have hval : valN 0 (b :: r) = valN (b.toNat - 48) r := by rw [zvc]; simp
    by_cases h0 : b.toNat = 48
    ·have hb48 : b = 48 := by apply UInt8.toNat_inj.1; simpa using h0
     subst hb48
     cases r with
     | nil => decide
     | cons c q =>
      have hlt : 1 < ((48 : UInt8) :: c :: q).length /\ ((48 : UInt8) :: c :: q).head? = some 48 := ⟨by simp, rfl⟩
      rw [Bool.eq_iff_iff]
      simp only [decide_eq_true_eq]
      rw [if_pos (.inr hlt)]
      refine ⟨fun e => absurd e ?_, fun h => absurd h (by decide)⟩
      have hz : digitsM (valN 0 (48 :: c :: q)) ≠ 48 :: c :: q := by
       intro e
       by_cases hsm : valN 0 (48 :: c :: q) < 10
       ·rw [digitsM, digF, if_pos hsm] at e
        have := congrArg List.length e
        simp at this
       ·exact lead_ne 19 (valN 0 (48 :: c :: q)) (by omega) (Nat.lt_of_le_of_lt h63 (by decide)) (by rw [show digF (19 + 1) (valN 0 (48 :: c :: q)) = digitsM _ from rfl, e]; rfl)
      exact hz
    ·have hpos : 0 < b.toNat - 48 := by omega
     rw [Bool.eq_iff_iff]
     simp only [decide_eq_true_eq]
     rw [if_neg (by
      rintro (h | ⟨_, h⟩)
      ·cases h
      ·exact h0 (by rw [Option.some.inj h]; rfl))]
     have hge := valN_ge10 r (b.toNat - 48) hr
     have hlen : r.length <= 18 := by
      rcases Nat.lt_or_ge 18 r.length with h | h
      ·have h1 : 10 ^ 19 <= 10 ^ r.length := Nat.pow_le_pow_right (by omega) h
       have h2 : 1 * 10 ^ r.length <= (b.toNat - 48) * 10 ^ r.length := Nat.mul_le_mul_right _ hpos
       rw [hval] at h63
       omega
      ·exact h
     have e1 := digF_valN r (b.toNat - 48) 1 hr hpos
     have e2 : digF 1 (b.toNat - 48) = [b] := by
      rw [digF, if_pos (by omega), show 48 + (b.toNat - 48) = b.toNat by omega]; simp
     have e3 : digitsM (valN 0 (b :: r)) = b :: r := by
      rw [hval]
      unfold digitsM
      rw [digF_fuel 20 (1 + r.length) _ (valN_lt r _ 1 hr (by omega)) (by omega) (by omega), e1, e2]; rfl
     rw [e3]
     simp
   ·rw [if_pos (by omega), if_neg h63]; rfl
  ·rw [if_neg h64, if_neg (by omega)]; rfl
end PE.U

namespace PE.U
open Go PE
theorem hasPrefix_x (s p : List UInt8) (σ : ze) : zj E 48 [.str s, .str p] σ = some (.ret (.bool (p.isPrefixOf s)), σ) := by
 rw [zZc (E := E) (f := 48) (g := pureX hasPrefixG) rfl]; rfl
theorem indexByte_x (s : List UInt8) (c : Int) (σ : ze) : zj E 50 [.str s, .int .u8 c] σ = some (.ret (.int .i64 (Lib.indexByte s c.toNat.toUInt8)), σ) := by
 rw [zZc (E := E) (f := 50) (g := pureX indexByteG) rfl]; rfl
theorem contains_x (s p : List UInt8) (σ : ze) (h : s.length < 4294967281) : zj E 89 [.str s, .str p] σ = some (.ret (.bool (Lib.contains s p)), σ) := by
 rw [zZc (E := E) (f := 89) (g := pureX containsG) rfl]
 unfold pureX containsG
 simp [h]
theorem cut_x (s p : List UInt8) (σ : ze) (h : s.length < 4294967281) : zj E 49 [.str s, .str p] σ = some (.ret (.tup [.str (Lib.cut s p).1, .str (Lib.cut s p).2.1, .bool (Lib.cut s p).2.2]), σ) := by
 rw [zZc (E := E) (f := 49) (g := pureX cutG) rfl]
 unfold pureX cutG
 simp [h]
def encAtoi (s : List UInt8) : PV := match Lib.atoiAll s with
 | .ok v => .tup [.int .i64 v, .nilif]
 | .«syntax» => .tup [.int .i64 0, .iface 126 .undef]
 | .range => .tup [.int .i64 (Lib.atoiSat s), .iface 126 .undef]
theorem atoi_x (s : List UInt8) (σ : ze) (h : s.length <= 281474976710656) : zj E 58 [.str s] σ = some (.ret (encAtoi s), σ) := by
 rw [zZc (E := E) (f := 58) (g := pureX (atoiG 126)) rfl]
 unfold pureX atoiG encAtoi
 simp only [if_pos h, Option.map_some]
 all_goals (cases Lib.atoiAll s <;> rfl)
theorem itoa_x (n : Int) (σ : ze) (h0 : -9223372036854775808 <= n) (h1 : n <= 9223372036854775807) : zj E 90 [.int .i64 n] σ = some (.ret (.str (Lib.itoa n)), σ) := by
 rw [zZc (E := E) (f := 90) (g := pureX itoaG) rfl]
 unfold pureX itoaG
 simp only [if_pos (And.intro h0 h1), Option.map_some]
@[simp] theorem rebuild_aggT (a l : List PV) : zka (.agg a) l = .agg l := Eq.trans rfl rfl
theorem u8_nat (b : UInt8) : ((b.toNat : Int)).toNat.toUInt8 = b := by simp
theorem u8_ne (b c : UInt8) : (decide ((b.toNat : Int) = c.toNat)) = decide (b = c) := by
 rw [decide_eq_decide]
 constructor
 ·intro h; exact UInt8.toNat_inj.1 (by omega)
 ·rintro rfl; rfl
theorem psign_one (a : UInt8) : psign [a] = if [62, 62, 62].isPrefixOf [a] then [62, 62, 62] else if 0 <= Lib.indexByte onesT a then [a] else [] := rfl
theorem psign_two (a b : UInt8) (r : List UInt8) : psign (a :: b :: r) = if [62, 62, 62].isPrefixOf (a :: b :: r) then [62, 62, 62] else if ¬ a = 32 /\ ¬ b = 32 /\ Lib.contains twosT [a, b] = true then [a, b] else if 0 <= Lib.indexByte onesT a then [a] else [] := rfl
theorem psign_spec (s : List UInt8) (hs : s ≠ []) (hl : s.length < 1099511627776) : zj E 52 [.str s] [] = some (.ret (.str (zlb s)), []) := by
 rw [<- psign_eq s hs]
 refine zb rfl rfl rfl (by simp) ?_
 have h1 := hasPrefix_x s [62, 62, 62] []
 match s, hs with
 | [a], _ =>
  rw [psign_one]
  have h3 := indexByte_x onesT a.toNat []
  rw [u8_nat] at h3
  obtain ⟨i, hi⟩ : ∃ i, Lib.indexByte onesT a = i := ⟨_, rfl⟩
  obtain ⟨p, hp⟩ : ∃ p, List.isPrefixOf [62, 62, 62] [a] = p := ⟨_, rfl⟩
  rw [hi] at h3 ⊢
  rw [hp] at h1 ⊢
  unfold onesT at h3
  clear hi hp
  (simp [*, F52]) <;> (repeat' (first | ((first | refine sP _ ?_ ?_ | refine gP _ ?_ ?_ | refine sN _ ?_ ?_ | refine gN _ ?_ ?_) <;> intro hc <;> (first | replace hc := eqn hc | replace hc := eqp hc) <;> simp [*, F52]) | ((first | refine sM _ ?_ ?_ | refine gM _ ?_ ?_ | refine sB _ ?_ ?_ | refine gB _ ?_ ?_) <;> intro hc <;> simp [*, F52])))
 | a :: b :: r, _ =>
  rw [psign_two]
  have h3 := indexByte_x onesT a.toNat []
  have h2 := contains_x twosT [a, b] [] (by decide)
  rw [u8_nat] at h3
  obtain ⟨i, hi⟩ : ∃ i, Lib.indexByte onesT a = i := ⟨_, rfl⟩
  obtain ⟨c, hc⟩ : ∃ c, Lib.contains twosT [a, b] = c := ⟨_, rfl⟩
  obtain ⟨p, hp⟩ : ∃ p, List.isPrefixOf [62, 62, 62] (a :: b :: r) = p := ⟨_, rfl⟩
  rw [hi] at h3 ⊢
  rw [hp] at h1 ⊢
  rw [hc] at h2 ⊢
  unfold onesT at h3
  unfold twosT at h2
  clear hi hp hc
  have ea : ∀ x : UInt8, ((x.toNat : Int) = 32) = (x = 32) := fun x => by
   have := u8_ne x 32
   rw [decide_eq_decide] at this
   exact propext this
  have e2 : (1 : Int) < (r.length : Int) + 1 + 1 := by omega
  simp only [List.length_cons] at hl
  have ha := ea a
  have hb := ea b
  (simp [*, F52]) <;> (repeat' (first | ((first | refine sP _ ?_ ?_ | refine gP _ ?_ ?_ | refine sN _ ?_ ?_ | refine gN _ ?_ ?_) <;> intro hc <;> (first | replace hc := eqn hc | replace hc := eqp hc) <;> simp [*, F52]) | ((first | refine sM _ ?_ ?_ | refine gM _ ?_ ?_ | refine sB _ ?_ ?_ | refine gB _ ?_ ?_) <;> intro hc <;> simp [*, F52])))
theorem pnumber_spec (b : UInt8) (r : List UInt8) (hb : ¬ b.toNat = 43 /\ ¬ b.toNat = 45) (hl : (b :: r).length < 1099511627776) : zj E 55 [.str (b :: r)] [] = some (.ret (.bool (zXa (b :: r))), []) := by
 rw [<- pnumber_eq b r hb]
 refine zb rfl rfl rfl (by simp) ?_
 have h1 := atoi_x (b :: r) [] (by omega)
 generalize b :: r = s at *
 unfold encAtoi at h1
 unfold pnumber
 cases ha : Lib.atoiAll s with
 | ok v =>
  rw [ha] at h1
  simp only at h1
  obtain ⟨v0, v1⟩ := Lib.atoiAll_bounds ha
  have h2 := itoa_x v [] v0 v1
  clear ha
  (simp [*, F55]) <;> (repeat' (first | ((first | refine sP _ ?_ ?_ | refine gP _ ?_ ?_ | refine sN _ ?_ ?_ | refine gN _ ?_ ?_) <;> intro hc <;> (first | replace hc := eqn hc | replace hc := eqp hc) <;> simp [*, F55]) | ((first | refine sM _ ?_ ?_ | refine gM _ ?_ ?_ | refine sB _ ?_ ?_ | refine gB _ ?_ ?_) <;> intro hc <;> simp [*, F55])))
 | «syntax» =>
  rw [ha] at h1
  simp only at h1
  clear ha
  (simp [*, F55]) <;> (repeat' (first | ((first | refine sP _ ?_ ?_ | refine gP _ ?_ ?_ | refine sN _ ?_ ?_ | refine gN _ ?_ ?_) <;> intro hc <;> (first | replace hc := eqn hc | replace hc := eqp hc) <;> simp [*, F55]) | ((first | refine sM _ ?_ ?_ | refine gM _ ?_ ?_ | refine sB _ ?_ ?_ | refine gB _ ?_ ?_) <;> intro hc <;> simp [*, F55])))
 | range =>
  rw [ha] at h1
  simp only at h1
  clear ha
  (simp [*, F55]) <;> (repeat' (first | ((first | refine sP _ ?_ ?_ | refine gP _ ?_ ?_ | refine sN _ ?_ ?_ | refine gN _ ?_ ?_) <;> intro hc <;> (first | replace hc := eqn hc | replace hc := eqp hc) <;> simp [*, F55]) | ((first | refine sM _ ?_ ?_ | refine gM _ ?_ ?_ | refine sB _ ?_ ?_ | refine gB _ ?_ ?_) <;> intro hc <;> simp [*, F55])))
def sob (s : List UInt8) (line : Int) : ze := [.arr 2 [.agg [.str s, .int .i64 line]]]
def skipGo : Nat -> List UInt8 -> Int -> List UInt8 × Int
 | 0, s, line => (s, line)
 | n + 1, s, line => if skips s then skipGo n (skip1 s line).1 (skip1 s line).2 else (s, line)
theorem skipGo_fuel : ∀ n m (s : List UInt8) line, s.length <= n -> s.length <= m -> skipGo n s line = skipGo m s line := by
 intro n
 induction n with
 | zero =>
  intro m s line hn hm
  have : s = [] := List.eq_nil_of_length_eq_zero (by omega)
  subst this
  cases m <;> rfl
 | succ n ih =>
  intro m s line hn hm
  cases m with
  | zero =>
   have : s = [] := List.eq_nil_of_length_eq_zero (by omega)
   subst this; rfl
  | succ m =>
   unfold skipGo
   split
   ·rename_i h
    have := skip1_len h line
    exact ih m _ _ (by omega) (by omega)
   ·rfl
def skipM (s : List UInt8) (line : Int) : List UInt8 × Int := skipGo (s.length + 1) s line
theorem skipM_stop {s : List UInt8} (h : skips s = false) (line : Int) : skipM s line = (s, line) := by
 unfold skipM
 simp [skipGo, h]
theorem skipM_step {s : List UInt8} (h : skips s = true) (line : Int) : skipM s line = skipM (skip1 s line).1 (skip1 s line).2 := by
 have hl := skip1_len h line
 unfold skipM
 rw [skipGo, if_pos h]
 exact skipGo_fuel _ _ _ _ (by omega) (by omega)
end PE.U

namespace PE.U
open Go PE
structure Os where
 a : Obj
 b : Obj
 c : Obj
def lft (T : List Tok) (p : PS) : List PV := (T.drop p.at').map zl
def qst (o : Os) (T : List Tok) (p : PS) : ze := [o.a, o.b, o.c, .arr 1 [.agg [.slice .plain 3 (lft T p)]]]
def wrongE (e : Int) (T : List Tok) (p : PS) : PV := .iface 51 (.agg [.int .i64 e, .int .i64 (tk T p.at').line])
def wrongV (T : List Tok) (p : PS) : PV := wrongE (if p.deep then 2 else 20) T p
def outQ (o : Os) (T : List Tok) (v : PV) (p : PS) : CRes × ze := if zk p then (.pan (wrongV T p), qst o T p) else (.ret v, qst o T p)
theorem zf {o : Os} {T : List Tok} {v : PV} {p : PS} (h : zk p = true) : outQ o T v p = (.pan (wrongV T p), qst o T p) := if_pos h
theorem zo {o : Os} {T : List Tok} {v : PV} {p : PS} (h : zk p = false) : outQ o T v p = (.ret v, qst o T p) := by unfold outQ; rw [if_neg (by rw [h]; decide)]
theorem lft_0 {T : List Tok} {p : PS} (h : p.at' < T.length) : (lft T p)[0]? = some (zl (tk T p.at')) := by
 unfold lft; rw [List.getElem?_map, List.getElem?_drop, Nat.add_zero, tk_get h]; rfl
theorem lft_len {T : List Tok} {p : PS} (h : p.at' < T.length) : 1 <= (lft T p).length := by unfold lft; simp; omega
theorem lft_drop (T : List Tok) (p : PS) : (lft T p).drop 1 = lft T (adv p) := by unfold lft adv; rw [<- List.map_drop, List.drop_drop]
theorem zrc {p : PS} (h : zk p = false) : p.bad = false /\ p.deep = false := by simpa [zk] using h
theorem zS (p : PS) : zk (adv p) = zk p := rfl
theorem zO {T : List Tok} {s : List UInt8} {p : PS} (h : zk p = true) : zA T s p = p := by
 obtain ⟨a, b, d⟩ := p
 unfold zA isF
 rw [h]
 simp [zk] at h ⊢
 cases d
 ·simp at h; simp [h]
 ·simp
theorem zOa {T : List Tok} {s : List UInt8} {p : PS} (h : zk p = true) : isF T s p = false := by unfold isF; rw [h]; rfl
theorem text_over {T : List Tok} {k : Int} {p : PS} (h : zk p = true) : zy T k p = ([], p) := by unfold zy; rw [if_pos h]
section
variable {o : Os} {T : List Tok} {p : PS}
theorem fail_q (I : Inv1 T p) (e : Int) : zj E 56 [.ptr 3 0 0, .int .i64 e] (qst o T p) = some (.pan (wrongE e T p), qst o T p) := by
 refine zb rfl rfl rfl (by simp) ?_
 have h0 := lft_0 I.lt
 unfold qst wrongE
 generalize lft T p = l at *
 simp [*, F56, zl]
theorem deep_q (I : Inv1 T p) (d : Int) (ho : zk p = false) : zj E 111 [.ptr 3 0 0, .int .i64 d] (qst o T p) = some (outQ o T (.tup []) (deepF d p)) := by
 refine zb rfl rfl rfl (by simp) ?_
 obtain ⟨hb, hd⟩ := zrc ho
 have hf := fail_q (o := o) I 2
 by_cases h : 100 < d
 ·have e1 : deepF d p = { p with deep := true } := by unfold deepF; rw [if_pos h, hb]; rfl
  rw [e1, zf (by simp [zk])]
  have e2 : qst o T { p with deep := true } = qst o T p := rfl
  have e3 : wrongV T { p with deep := true } = wrongE 2 T p := rfl
  rw [e2, e3]
  replace h := eqp h
  clear e1 e2 e3 hb hd ho
  simp [*, F111]
 ·have e1 : deepF d p = p := by unfold deepF; rw [if_neg h]
  rw [e1, zo ho]
  replace h := eqn h
  clear e1 hb hd ho hf
  simp [*, F111]
theorem is_q (I : Inv1 T p) (ho : zk p = false) (s : List UInt8) : zj E 57 [.ptr 3 0 0, .str s] (qst o T p) = some (.ret (.bool (isF T s p)), qst o T p) := by
 refine zb rfl rfl rfl (by simp) ?_
 have h0 := lft_0 I.lt
 have e : isF T s p = (decide ((tk T p.at').kind = 2) && decide ((tk T p.at').text = s)) := by unfold isF; rw [ho]; rfl
 rw [e]
 unfold qst
 clear e
 generalize lft T p = l at *
 generalize tk T p.at' = t at *
 obtain ⟨k, x, ln⟩ := t
 simp only [zl] at h0
 by_cases hk : k = 2
 ·subst hk
  simp [*, F57]
 ·replace hk := eqn hk
  simp [*, F57]
theorem zFa (I : Inv1 T p) (ho : zk p = false) (s : List UInt8) : zj E 31 [.ptr 3 0 0, .str s] (qst o T p) = some (.ret (.bool (isF T s p)), qst o T (if isF T s p then adv p else p)) := by
 refine zb rfl rfl rfl (by simp) ?_
 have h1 := is_q (o := o) I ho s
 have hl := lft_len I.lt
 have hd := lft_drop T p
 cases c : isF T s p
 ·rw [c] at h1
  clear c
  simp [*, F31]
 ·rw [c] at h1
  unfold qst at h1 ⊢
  simp only [if_true]
  rw [<- hd]
  clear c hd
  generalize lft T p = l at *
  simp [*, F31]
def wantsF (T : List Tok) (l : List (List UInt8)) (p : PS) : PS := l.foldl (fun p s => zA T s p) p
theorem wants_over : ∀ (l : List (List UInt8)) {p : PS}, zk p = true -> wantsF T l p = p
 | [], p, h => rfl
 | s :: r, p, h => by
  show wantsF T r (zA T s p) = p
  rw [zO h]; exact wants_over r h
set_option maxHeartbeats 1000000 in
theorem want_q (I : Inv1 T p) (ho : zk p = false) (l : List (List UInt8)) (hl : l.length <= 1000) : zj E 33 [.ptr 3 0 0, .slice .plain 1 (l.map PV.str)] (qst o T p) = some (outQ o T (.tup []) (wantsF T l p)) := by
 refine zb rfl rfl rfl (by simp) ?_
 simp [F33]
 refine zva K33_0 B33_0 (fun c : Nat × PS => l.length - c.1) (fun c => [(8, .int .i64 c.1)]) (fun _ => []) (fun c => qst o T c.2) (fun c => c.1 <= l.length /\ Inv1 T c.2 /\ zk c.2 = false /\ wantsF T l p = wantsF T (l.drop c.1) c.2) (0, p) ⟨by simp, by simp, by simp, by simp, I, ho, by simp⟩ ?_
 rintro ⟨k, q⟩ s1 ⟨hk, Iq, hq, he⟩ g1 g2 g3 g4 g5
 simp only at hk Iq hq he
 simp at g1 g2 g3 g5
 by_cases hkl : k < l.length
 ·obtain ⟨x, hx⟩ : ∃ x, l[k]? = some x := ⟨_, List.getElem?_eq_getElem hkl⟩
  have hd : l.drop k = x :: l.drop (k + 1) := by
   rw [List.drop_eq_getElem_cons hkl]
   congr 1
   exact (List.getElem?_eq_some_iff.1 hx).2
  rw [hd] at he
  have he2 : wantsF T l p = wantsF T (l.drop (k + 1)) (zA T x q) := he
  have t1 := zFa (o := o) Iq hq x
  have f1 := fail_q (o := o) Iq 20
  have kdec : ((k : Int) < l.length) = True := eqp (by omega)
  have hw : zY .i64 ((k : Int) + 1) = (k : Int) + 1 := zm (by omega) (by omega)
  cases c : isF T x q
  ·have hm : zA T x q = { q with bad := true } := by unfold zA; rw [c, (zrc hq).2]; rfl
   rw [he2, hm, wants_over _ (by simp [zk]), zf (by simp [zk])]
   have e2 : qst o T { q with bad := true } = qst o T q := rfl
   have e3 : wrongV T { q with bad := true } = wrongE 20 T q := by unfold wrongV; rw [show PS.deep { q with bad := true } = q.deep from rfl, (zrc hq).2]; rfl
   rw [e2, e3]
   rw [c] at t1
   have hx2 : l[k]'hkl = x := (List.getElem?_eq_some_iff.1 hx).2
   clear hm e2 e3 he he2 hd c
   simp [*]
  ·have hm : zA T x q = adv q := by unfold zA; rw [c]; rfl
   rw [c] at t1
   rw [hm] at he2
   have Ia := Iq.adv _ c
   have hx2 : l[k]'hkl = x := (List.getElem?_eq_some_iff.1 hx).2
   replace he2 := Nonempty.intro (PLift.up he2)
   clear hm he hd c f1
   simp [*]
   obtain ⟨⟨he2⟩⟩ := he2
   exact ⟨k + 1, by omega, rfl, adv q, rfl, by omega, Ia, by rw [zS]; exact hq, he2⟩
 ·have hd : l.drop k = [] := List.drop_eq_nil_of_le (by omega)
  rw [hd] at he
  have he2 : wantsF T l p = q := he
  rw [he2, zo hq]
  have kdec : ((k : Int) < l.length) = False := eqn (by omega)
  clear he he2 hd
  simp [*]
theorem text_q (I : Inv1 T p) (ho : zk p = false) (k : Int) : zj E 30 [.ptr 3 0 0, .int .i64 k] (qst o T p) = some (outQ o T (.str (zy T k p).1) (zy T k p).2) := by
 refine zb rfl rfl rfl (by simp) ?_
 have h0 := lft_0 I.lt
 have hl := lft_len I.lt
 have hd := lft_drop T p
 have f1 := fail_q (o := o) I 20
 by_cases hk : (tk T p.at').kind = k
 ·have e : zy T k p = ((tk T p.at').text, adv p) := by unfold zy; rw [if_neg (by rw [ho]; decide), if_pos hk]; rfl
  rw [e, zo (by rw [zS]; exact ho)]
  unfold qst
  rw [<- hd]
  clear e f1 hd
  generalize lft T p = l at *
  generalize tk T p.at' = t at *
  obtain ⟨k', x, ln⟩ := t
  simp only at hk
  subst hk
  simp only [zl] at h0
  simp [*, F30]
 ·have e : zy T k p = ([], { p with bad := true }) := by unfold zy; rw [if_neg (by rw [ho]; decide), if_neg hk]
  rw [e, zf (by simp [zk])]
  have e2 : qst o T { p with bad := true } = qst o T p := rfl
  have e3 : wrongV T { p with bad := true } = wrongE 20 T p := by unfold wrongV; rw [show PS.deep { p with bad := true } = p.deep from rfl, (zrc ho).2]; rfl
  rw [e2, e3]
  clear e e2 e3 hd
  unfold qst at f1 ⊢
  generalize wrongE 20 T p = wv at *
  generalize lft T p = l at *
  generalize tk T p.at' = t at *
  obtain ⟨k', x, ln⟩ := t
  simp only at hk
  replace hk := eqn hk
  simp only [zl] at h0
  simp [*, F30]
theorem typed_q (I : Inv1 T p) (ho : zk p = false) : zj E 29 [.ptr 3 0 0] (qst o T p) = some (outQ o T (.int .i64 (zM T p).1) (zM T p).2) := by
 refine zb rfl rfl rfl (by simp) ?_
 have t1 := zFa (o := o) I ho [105, 110, 116]
 have w1 := want_q (o := o) I ho [[98, 111, 111, 108]] (by simp)
 unfold zM
 cases c : isF T [105, 110, 116] p
 ·rw [c] at t1
  simp only [List.map_cons, List.map_nil] at w1
  have e : wantsF T [[98, 111, 111, 108]] p = zA T [98, 111, 111, 108] p := rfl
  rw [e] at w1
  simp only [Bool.false_eq_true, if_false]
  cases hq : zk (zA T [98, 111, 111, 108] p)
  ·rw [zo hq] at w1 ⊢
   clear e hq c
   simp [*, F29]
  ·rw [zf hq] at w1 ⊢
   clear e hq c
   simp [*, F29]
 ·rw [c] at t1
  simp only [if_true]
  rw [zo (by exact ho)]
  have e : ({ p with at' := p.at' + 1 } : PS) = adv p := rfl
  rw [e]
  clear w1 e c
  simp [*, F29]
end
end PE.U

namespace PE.U
open Go PE
theorem atoi_num (s : List UInt8) (h : zXa s = true) : Lib.atoiAll s = .ok (zuc s) := by
 cases s with
 | nil => exact absurd h (by decide)
 | cons b r =>
  unfold zXa at h
  simp only [Bool.and_eq_true, decide_eq_true_eq] at h
  obtain ⟨hd, hv⟩ := h
  obtain ⟨hb, hr⟩ := zbc.1 hd
  have hat : Lib.atoiAll (b :: r) = match Lib.parseUint10 0 (b :: r) with
    | .«syntax» => .«syntax»
    | .range => .range
    | .ok u => if 9223372036854775808 <= u then .range else .ok (u : Int) := by
   have h1 : ¬ b.toNat = 43 := by omega
   have h2 : ¬ b.toNat = 45 := by omega
   unfold Lib.atoiAll
   simp only [h1, h2, or_self, if_false, false_and, not_false_eq_true, true_and]
   unfold Lib.parseMag
   rfl
  have hN := valGo_N (b :: r) 0 hd (by omega)
  unfold zuc at hv ⊢
  rw [show (0 : Int) = ((0 : Nat) : Int) from rfl, hN] at hv ⊢
  by_cases h63 : valN 0 (b :: r) <= 9223372036854775807
  ·rw [if_pos h63] at hv ⊢
   simp only at hv ⊢
   rw [hat, parse_N _ 0 hd (by omega), if_pos (by omega)]
   simp only
   rw [if_neg (by omega)]
   split at hv
   ·exact absurd hv (by decide)
   ·rename_i hc
    rw [if_neg hc]
  ·rw [if_neg h63] at hv
   simp at hv
def NumT (T : List Tok) : Prop := ∀ t ∈ T, t.kind = 0 -> zXa t.text = true
section
variable {o : Os} {T : List Tok} {p : PS}
theorem number_q (I : Inv1 T p) (hN : NumT T) (ho : zk p = false) : zj E 32 [.ptr 3 0 0] (qst o T p) = some (outQ o T (.int .i64 (zuc (zy T 0 p).1)) (zy T 0 p).2) := by
 refine zb rfl rfl rfl (by simp) ?_
 have t1 := text_q (o := o) I ho 0
 cases hq : zk (zy T 0 p).2
 ·rw [zo hq] at t1 ⊢
  have hk : (tk T p.at').kind = 0 := by
   by_cases hk : (tk T p.at').kind = 0
   ·exact hk
   ·unfold zy at hq
    rw [if_neg (by rw [ho]; decide), if_neg hk] at hq
    simp [zk] at hq
  have hx : (zy T 0 p).1 = (tk T p.at').text := by unfold zy; rw [if_neg (by rw [ho]; decide), if_pos hk]
  have hm : tk T p.at' ∈ T := by rw [<- zjd I.lt]; exact List.getElem_mem I.lt
  have hn := hN _ hm hk
  have hlen := (I.num _ hm hk).2
  have a1 := atoi_x (zy T 0 p).1 [] (by rw [hx]; omega)
  unfold encAtoi at a1
  rw [atoi_num (zy T 0 p).1 (by rw [hx]; exact hn)] at a1
  simp only at a1
  generalize zy T 0 p = q at *
  obtain ⟨s, p1⟩ := q
  simp only at *
  clear hx hk hm hn hlen hq
  simp [*, F32]
 ·rw [zf hq] at t1 ⊢
  clear hq
  simp [*, F32]
theorem sgn_eq (op : Int) : sgn op = zOb op := by
 unfold sgn zOb
 by_cases h0 : op < 1
 ·rw [if_pos (Or.inl h0)]
  by_cases h : op < 0
  ·rw [if_pos h]
  ·rw [if_neg h]
   have : op = 0 := by omega
   subst this; rfl
 ·by_cases h1 : 28 < op
  ·rw [if_pos (Or.inr h1), if_neg (by omega), List.getElem?_eq_none (by simp [signList]; omega)]; rfl
  ·rw [if_neg (by omega), if_neg (by omega)]
   obtain ⟨n, rfl⟩ : ∃ n : Nat, op = ((n + 1 : Nat) : Int) := ⟨op.toNat - 1, by omega⟩
   have e : (((n + 1 : Nat) : Int) - 1).toNat = n := by omega
   rw [e]
   rfl
theorem sign_q (op : Int) (σ : ze) : zj E 163 [.int .i64 op] σ = some (.ret (.str (zOb op)), σ) := by
 rw [<- sgn_eq]
 refine zb rfl rfl rfl (by simp) ?_
 (simp [*, F163, rowOf_spec]) <;> (repeat' ((first | refine sP _ ?_ ?_ | refine gP _ ?_ ?_ | refine sN _ ?_ ?_ | refine gN _ ?_ ?_ | refine sM _ ?_ ?_ | refine gM _ ?_ ?_ | refine sB _ ?_ ?_ | refine gB _ ?_ ?_) <;> intro hc <;> simp [*, F163, rowOf_spec]))
theorem level_q (op : Int) (σ : ze) : zj E 148 [.int .i64 op] σ = some (.ret (.int .i64 (zKb op)), σ) := by
 rw [<- lvl_eq]; exact level_spec op σ
set_option maxHeartbeats 1000000 in
theorem operator_q (I : Inv1 T p) (ho : zk p = false) (L : Int) : zj E 158 [.ptr 3 0 0, .int .i64 L] (qst o T p) = some (.ret (.int .i64 (opF T L p)), qst o T p) := by
 refine zb rfl rfl rfl (by simp) ?_
 simp [F158]
 refine zfa (List.range 19) K158_0 B158_0 (fun d => [(5, .int .i64 ((d.length + 1 : Nat) : Int))]) (fun _ => qst o T p) (fun d => ∀ i ∈ d, zDb T L p i = false) (by simp) (by simp) ?_ ?_
 ·intros d x r s1 hl' hlt hget hget' hw hp h1 h2 h3 h4
  simp at h1 h3 hlt
  have hx : x = d.length := by rw [<- hget', List.getElem_range]
  subst hx
  have e1 := level_q ((d.length + 1 : Nat) : Int) []
  have e2 := sign_q ((d.length + 1 : Nat) : Int) []
  have e3 := is_q (o := o) I ho (zOb ((d.length + 1 : Nat) : Int))
  have hle : (d.length : Int) + 1 <= 19 := by omega
  have hw2 : zY .i64 ((d.length : Int) + 1 + 1) = (d.length : Int) + 1 + 1 := zm (by omega) (by omega)
  have hf : zDb T L p d.length = true -> opF T L p = ((d.length + 1 : Nat) : Int) := by
   intro h
   unfold opF
   rw [hl'.eq, List.find?_append]
   have : d.find? (zDb T L p) = none := by rw [List.find?_eq_none]; intro y hy; simp [hp y hy]
   rw [this]
   simp [List.find?_cons, h]
  have hop : zDb T L p d.length = (decide (zKb ((d.length + 1 : Nat) : Int) = L) && isF T (zOb ((d.length + 1 : Nat) : Int)) p) := rfl
  have hn := fun (h : zDb T L p d.length = false) => (fun i (hi : i ∈ d ++ [d.length]) => by
   rcases List.mem_append.1 hi with h' | h'
   ·exact hp i h'
   ·rw [List.mem_singleton.1 h']; exact h : ∀ i ∈ d ++ [d.length], zDb T L p i = false)
  clear h2 hget hget' hl' hp
  simp at e1 e2 e3 hop hf
  by_cases hL : zKb ((d.length : Int) + 1) = L
  ·have hL' : decide (zKb ((d.length : Int) + 1) = L) = true := decide_eq_true hL
   rw [hL', Bool.true_and] at hop
   replace hL := eqp hL
   cases hi : isF T (zOb ((d.length : Int) + 1)) p
   ·replace hn := hn (hop.trans hi)
    rw [hi] at hop e3
    clear hf hop
    simp [*]
    grind
   ·replace hf := hf (hop.trans hi)
    rw [hi] at hop e3
    clear hn hop
    simp [*]
  ·have hL' : decide (zKb ((d.length : Int) + 1) = L) = false := decide_eq_false hL
   rw [hL', Bool.false_and] at hop
   replace hL := eqn hL
   replace hn := hn hop
   clear hf hop
   simp [*]
   grind
 ·intros s1 hp h1 h2 h3 h4
  simp at h1 h3
  have hf : opF T L p = 0 := by
   unfold opF
   have : (List.range 19).find? (zDb T L p) = none := by rw [List.find?_eq_none]; intro y hy; simp [hp y hy]
   rw [this]
  clear h2 hp
  simp [*]
end
end PE.U

namespace PE.U
open Go PE
theorem opF_over {T : List Tok} {L : Int} {p : PS} (h : zk p = true) : opF T L p = 0 := by
 unfold opF
 have : (List.range 19).find? (zDb T L p) = none := by
  rw [List.find?_eq_none]; intro y hy; simp [zDb, zOa h]
 rw [this]
theorem unF_over {T : List Tok} {p : PS} (h : zk p = true) : unF T p = none := by
 unfold unF
 rw [List.find?_eq_none]; intro y hy; simp [zCa, zOa h]
theorem deepF_over {d : Int} {p : PS} (h : zk p = true) : deepF d p = p := by
 obtain ⟨a, b, e⟩ := p
 unfold deepF
 split
 ·cases b
  ·simp [zk] at h; simp [h]
  ·rfl
 ·rfl
structure OverE (T : List Tok) (n : Nat) : Prop where
 primary : ∀ d p v p', zxa T n d p = some (v, p') -> zk p = true -> p' = p
 unary : ∀ d p v p', zJb T n d p = some (v, p') -> zk p = true -> p' = p
 expr : ∀ L d p v p', zsa T n L d p = some (v, p') -> zk p = true -> p' = p
 args : ∀ d p v p', zhd T n d p = some (v, p') -> zk p = true -> p' = p
theorem overE (T : List Tok) : ∀ n, OverE T n
 | 0 => ⟨fun _ _ _ _ h => by simp [zxa] at h, fun _ _ _ _ h => by simp [zJb] at h, fun _ _ _ _ _ h => by simp [zsa] at h, fun _ _ _ _ h => by simp [zhd] at h⟩
 | n + 1 => by
  have ih := overE T n
  refine ⟨fun d p v p' h ho => ?_, fun d p v p' h ho => ?_, fun L d p v p' h ho => ?_, fun d p v p' h ho => ?_⟩
  ·simp only [zxa] at h
   rw [if_pos ho] at h
   cases h; rfl
  ·simp only [zJb] at h
   rw [deepF_over ho, unF_over ho] at h
   exact ih.primary _ _ _ _ h ho
  ·simp only [zsa] at h
   split at h
   ·exact ih.unary _ _ _ _ h ho
   ·split at h
    ·cases h
    ·rename_i q hq
     obtain ⟨a, p1⟩ := q
     have e := ih.expr _ _ _ _ _ hq ho
     subst e
     cases n with
     | zero => simp [zU] at h
     | succ n =>
      simp only [zU] at h
      rw [if_pos (opF_over ho)] at h
      cases h; rfl
  ·simp only [zhd] at h
   rw [if_neg (by rw [zOa ho]; decide)] at h
   split at h
   ·cases h
   ·rename_i q hq
    cases h
    cases n with
    | zero => simp [zP] at hq
    | succ n =>
     simp only [zP, Bool.true_or, if_true] at hq
     rw [if_pos ho] at hq
     cases hq
     exact zO ho
theorem isF_ne {T : List Tok} {s s' : List UInt8} {p : PS} (h : isF T s p = true) (hne : s ≠ s') : isF T s' p = false := by
 obtain ⟨h1, h2, h3, h4⟩ := isF_kind h
 unfold isF
 rw [h2]
 simp [hne]
structure QSpec (o : Os) (T : List Tok) (n : Nat) : Prop where
 primary : ∀ d p v p', zxa T n d p = some (v, p') -> Inv1 T p -> zk p = false -> 0 <= d -> d + n <= 1000000000 -> zj E 164 [.ptr 3 0 0, .int .i64 d] (qst o T p) = some (outQ o T (zH v) p')
 unary : ∀ d p v p', zJb T n d p = some (v, p') -> Inv1 T p -> zk p = false -> 0 <= d -> d + n <= 1000000000 -> zj E 157 [.ptr 3 0 0, .int .i64 d] (qst o T p) = some (outQ o T (zH v) p')
 expr : ∀ L d p v p', zsa T n L d p = some (v, p') -> Inv1 T p -> zk p = false -> 1 <= L -> L <= 11 -> 0 <= d -> d + n <= 1000000000 -> zj E 144 [.ptr 3 0 0, .int .i64 L, .int .i64 d] (qst o T p) = some (outQ o T (zH v) p')
section
variable {o : Os} {T : List Tok}
theorem zyb {p : PS} (I : Inv1 T p) (ho : zk p = false) (s : List UInt8) : zj E 33 [.ptr 3 0 0, .slice .plain 1 [.str s]] (qst o T p) = some (outQ o T (.tup []) (zA T s p)) := want_q I ho [s] (by simp)
theorem want2_q {p : PS} (I : Inv1 T p) (ho : zk p = false) (s t : List UInt8) : zj E 33 [.ptr 3 0 0, .slice .plain 1 [.str s, .str t]] (qst o T p) = some (outQ o T (.tup []) (zA T t (zA T s p))) := want_q I ho [s, t] (by simp)
theorem index_q {n : Nat} (S : QSpec o T n) {d : Int} {p p1 : PS} {e : Expr} (h : zsa T n 1 d p = some (e, p1)) (I : Inv1 T p) (ho : zk p = false) (hd : 0 <= d) (hn : d + n <= 1000000000) :
  zj E 130 [.ptr 3 0 0, .int .i64 d] (qst o T p) = some (outQ o T (zH e) (zA T [93] p1)) := by
 refine zb rfl rfl rfl (by simp) ?_
 have x1 := S.expr 1 d p e p1 h I ho (by omega) (by omega) hd hn
 have I1 := ((espec T n).expr 1 d p e p1 h I (by omega) (by omega) hd hn).2
 rw [za] at x1 ⊢
 simp only [zd] at x1 ⊢
 clear h
 cases hq : zk p1
 ·rw [zo hq] at x1
  have w1 := zyb (o := o) I1 hq [93]
  cases hm : zk (zA T [93] p1)
  ·rw [zo hm] at w1 ⊢
   clear hm hq ho
   simp [*, F130, zd]
  ·rw [zf hm] at w1 ⊢
   clear hm hq ho
   simp [*, F130, zd]
 ·rw [zf hq] at x1
  rw [zO hq, zf hq]
  clear hq ho
  simp [*, F130, zd]
theorem call1_q {n : Nat} (S : QSpec o T n) {d : Int} {p p1 : PS} {e : Expr} (h : zsa T n 1 d p = some (e, p1)) (I : Inv1 T p) (ho : zk p = false) (hd : 0 <= d) (hn : d + n <= 1000000000) :
  zj E 146 [.iptr [.ptr 3 0 0] 0, .iptr [.int .i64 d] 0] (qst o T p) = some (outQ o T (zH e) p1) := by
 refine zb rfl rfl rfl (by simp) ?_
 have x1 := S.expr 1 d p e p1 h I ho (by omega) (by omega) hd hn
 rw [za] at x1 ⊢
 simp only [zd] at x1 ⊢
 clear h
 cases hq : zk p1
 ·rw [zo hq] at x1 ⊢
  clear hq ho
  simp [*, F146, zd]
 ·rw [zf hq] at x1 ⊢
  clear hq ho
  simp [*, F146, zd]
structure QS where
 m : Nat
 l : List Expr
 p : PS
set_option maxHeartbeats 2000000 in
theorem list_q {n : Nat} (S : ∀ k, k <= n -> QSpec o T k) {d : Int} {p p' : PS} {v : List Expr} (h : zhd T (n + 1) d p = some (v, p')) (I : Inv1 T p) (ho : zk p = false) (hd : 0 <= d) (hn : d + (n + 1 : Nat) <= 1000000000) :
  zj E 145 [.ptr 3 0 0, .fn 146 [] [.iptr [.ptr 3 0 0] 0, .iptr [.int .i64 d] 0]] (qst o T p) = some (outQ o T (zd v) p') := by
 refine zb rfl rfl rfl (by simp) ?_
 simp only [zhd] at h
 have t1 := zFa (o := o) I ho [41]
 cases c1 : isF T [41] p
 case true =>
  rw [if_pos c1] at h
  rw [c1] at t1
  cases h
  rw [zo (by rw [zS]; exact ho)]
  clear c1
  simp [*, F145, zd]
 rw [if_neg (by rw [c1]; decide)] at h
 rw [c1] at t1
 split at h
 ·cases h
 rename_i q hq
 obtain ⟨l', p1⟩ := q
 cases h
 simp [*, F145, zd]
 have hstart : ∃ m, n = m + 1 /\ (match zsa T m 1 d p with | none => none | some x => zP T m d ([] ++ [x.1]) false x.2) = some (l', p1) := by
  cases n with
  | zero => simp [zP] at hq
  | succ m =>
   simp only [zP, Bool.true_or, if_true] at hq
   rw [if_neg (by rw [ho]; decide)] at hq
   exact ⟨m, rfl, hq⟩
 obtain ⟨m0, hm0, hs0⟩ := hstart
 refine zva K145_0 B145_0 (fun c : QS => c.m) (fun c => [(4, acc 5 (c.l.map zH))]) (fun c => []) (fun c => qst o T c.p) (fun c => c.m < n /\ c.l.length + c.m < n /\ zk c.p = false /\ Inv1 T c.p /\ (match zsa T c.m 1 d c.p with | none => none | some x => zP T c.m d (c.l ++ [x.1]) false x.2) = some (l', p1)) ⟨m0, [], p⟩ ⟨by simp, by simp, by simp, by simp only; omega, by simp only [List.length_nil]; omega, ho, I, hs0⟩ ?_
 rintro ⟨m, l, p⟩ s1 ⟨hm, hlm, ho, I, hr⟩ g1 g2 g3 g4 g5
 simp only at hm hlm ho I hr
 simp at g1 g3 g5
 clear g2 g4 t1 hs0 hm0 c1 hq
 have hroom : (l.length + 1) * 64 <= zG := by simp only [zG]; omega
 split at hr
 ·cases hr
 rename_i x hx
 obtain ⟨e, p2⟩ := x
 simp only at hr
 have x1 := call1_q (S m (by omega)) hx I ho hd (by omega)
 have I2 := ((espec T m).expr 1 d p e p2 hx I (by omega) (by omega) hd (by omega)).2
 rw [za] at x1
 simp only [zd] at x1
 cases m with
 | zero => simp [zP] at hr
 | succ m =>
  simp only [zP, Bool.false_or] at hr
  clear hx
  cases hq2 : zk p2
  ·rw [zo hq2] at x1
   have t2 := zFa (o := o) I2 hq2 [44]
   cases c2 : isF T [44] p2
   ·rw [c2] at hr t2
    simp only [Bool.false_eq_true, if_false] at hr t2
    have hl1 := (Prod.mk.inj (Option.some.inj hr)).1
    have hp1 := (Prod.mk.inj (Option.some.inj hr)).2
    subst hl1
    subst hp1
    have w1 := zyb (o := o) I2 hq2 [41]
    cases hm2 : zk (zA T [41] p2)
    ·rw [zo hm2] at w1 ⊢
     clear hm2 hq2 c2 ho
     simp [*, zd, za]
    ·rw [zf hm2] at w1 ⊢
     clear hm2 hq2 c2 ho
     simp [*, zd, za]
   ·rw [c2] at hr t2
    have Ia := I2.adv _ c2
    simp only [if_true, Bool.false_eq_true, if_false] at hr t2
    rw [if_neg (by rw [zS, hq2]; decide)] at hr
    have hoa : zk (adv p2) = false := by rw [zS]; exact hq2
    replace hr := Nonempty.intro (PLift.up hr)
    clear hq2 c2 ho
    simp [*, zd, za]
    obtain ⟨⟨hr⟩⟩ := hr
    exact ⟨⟨m, l ++ [e], adv p2⟩, by simp, by simp [za, zd, acc_ne], rfl, by simp only; omega, by simp; omega, hoa, Ia, hr⟩
  ·rw [zf hq2] at x1
   rw [zOa hq2] at hr
   simp only [Bool.false_eq_true, if_false] at hr
   have hl1 := (Prod.mk.inj (Option.some.inj hr)).1
   have hp1 := (Prod.mk.inj (Option.some.inj hr)).2
   subst hl1
   subst hp1
   rw [zO hq2, zf hq2]
   clear hq2 ho
   simp [*, zd, za]
theorem call_q {n : Nat} (S : ∀ k, k <= n -> QSpec o T k) {d : Int} {p p' : PS} {v : List Expr} (nm : List UInt8) (h : zhd T (n + 1) d p = some (v, p')) (I : Inv1 T p) (ho : zk p = false) (hd : 0 <= d) (hn : d + (n + 1 : Nat) <= 1000000000) :
  zj E 129 [.ptr 3 0 0, .str nm, .int .i64 d] (qst o T p) = some (outQ o T (zH ⟨7, 0, 0, nm, v⟩) p') := by
 refine zb rfl rfl rfl (by simp) ?_
 have x1 := list_q S h I ho hd hn
 rw [za]
 simp only [zd] at x1 ⊢
 clear h
 cases hq : zk p'
 ·rw [zo hq] at x1 ⊢
  clear hq ho
  simp [*, F129, zd]
 ·rw [zf hq] at x1 ⊢
  clear hq ho
  simp [*, F129, zd]
end
end PE.U

namespace PE.U
open Go PE
def nameF (T : List Tok) (n : Nat) (d : Int) (p : PS) : Option (Expr × PS) :=
 if isF T [40] (zy T 1 p).2 then
  match zhd T n (d + 1) (adv (zy T 1 p).2) with
  | none => none
  | some q => some (⟨7, 0, 0, (zy T 1 p).1, q.1⟩, q.2)
 else if isF T [91] (zy T 1 p).2 then
  match zsa T n 1 (d + 1) (adv (zy T 1 p).2) with
  | none => none
  | some q => some (⟨6, 0, 0, (zy T 1 p).1, [q.1]⟩, zA T [93] q.2)
 else some (⟨3, 0, 0, (zy T 1 p).1, []⟩, (zy T 1 p).2)
section
variable {o : Os} {T : List Tok}
set_option maxHeartbeats 2000000 in
theorem named_q {n : Nat} (S : ∀ k, k <= n -> QSpec o T k) {d : Int} {p p' : PS} {v : Expr} (h : nameF T n d p = some (v, p')) (I : Inv1 T p) (ho : zk p = false) (hd : 0 <= d) (hn : d + (n + 1 : Nat) <= 1000000000) :
  zj E 165 [.ptr 3 0 0, .int .i64 d] (qst o T p) = some (outQ o T (zH v) p') := by
 refine zb rfl rfl rfl (by simp) ?_
 have hw : zY .i64 (d + 1) = d + 1 := zm (by omega) (by omega)
 have x1 := text_q (o := o) I ho 1
 have I1 := I.text 1 (by decide)
 unfold nameF at h
 generalize zy T 1 p = q at *
 obtain ⟨s, p1⟩ := q
 simp only at h x1 I1
 cases hq1 : zk p1
 case true =>
  rw [zf hq1] at x1
  rw [zOa hq1, zOa hq1] at h
  simp only [Bool.false_eq_true, if_false] at h
  have hv := (Prod.mk.inj (Option.some.inj h)).1
  have hp1 := (Prod.mk.inj (Option.some.inj h)).2
  subst hv
  subst hp1
  rw [zf hq1]
  clear hq1 ho h
  simp [*, F165]
 rw [zo hq1] at x1
 have t1 := zFa (o := o) I1 hq1 [40]
 cases c1 : isF T [40] p1
 case true =>
  rw [c1] at t1 h
  simp only [if_true] at h t1
  have Ia := I1.adv _ c1
  split at h
  ·cases h
  rename_i r hr
  obtain ⟨l, p2⟩ := r
  cases h
  cases n with
  | zero => simp [zhd] at hr
  | succ n =>
  have x2 := call_q (fun k hk => S k (by omega)) s hr Ia (by rw [zS]; exact hq1) (by omega) (by omega)
  rw [za] at x2 ⊢
  simp only [zd] at x2 ⊢
  clear hr c1 S
  cases hq2 : zk p2
  ·rw [zo hq2] at x2 ⊢
   clear hq2 hq1 ho
   simp [*, F165, zd]
  ·rw [zf hq2] at x2 ⊢
   clear hq2 hq1 ho
   simp [*, F165, zd]
 rw [c1] at t1 h
 simp only [Bool.false_eq_true, if_false] at h t1
 have t2 := zFa (o := o) I1 hq1 [91]
 cases c2 : isF T [91] p1
 case true =>
  rw [c2] at t2 h
  simp only [if_true] at h t2
  have Ia := I1.adv _ c2
  split at h
  ·cases h
  rename_i r hr
  obtain ⟨e, p2⟩ := r
  cases h
  have x2 := index_q (S n (Nat.le_refl n)) hr Ia (by rw [zS]; exact hq1) (by omega) (by omega)
  rw [za] at x2 ⊢
  simp only [zd] at x2 ⊢
  clear hr c1 c2 S
  cases hq2 : zk (zA T [93] p2)
  ·rw [zo hq2] at x2 ⊢
   clear hq2 hq1 ho
   simp [*, F165, zd, za]
  ·rw [zf hq2] at x2 ⊢
   clear hq2 hq1 ho
   simp [*, F165, zd, za]
 rw [c2] at t2 h
 simp only [Bool.false_eq_true, if_false] at h t2
 cases h
 rw [zo hq1, za]
 clear c1 c2 hq1 ho S
 simp [*, F165, zd]
set_option maxHeartbeats 4000000 in
theorem primary_q {n : Nat} (hN : NumT T) (S : ∀ k, k <= n -> QSpec o T k) : ∀ d p v p', zxa T (n + 1) d p = some (v, p') -> Inv1 T p -> zk p = false -> 0 <= d -> d + (n + 1 : Nat) <= 1000000000 -> zj E 164 [.ptr 3 0 0, .int .i64 d] (qst o T p) = some (outQ o T (zH v) p') := by
 intro d p v p' h I ho hd hn
 refine zb rfl rfl rfl (by simp) ?_
 have hw : zY .i64 (d + 1) = d + 1 := zm (by omega) (by omega)
 simp only [zxa] at h
 rw [if_neg (by rw [ho]; decide)] at h
 have t1 := zFa (o := o) I ho [40]
 cases c1 : isF T [40] p
 case true =>
  rw [c1] at h t1
  simp only [if_true] at h t1
  have Ia := I.adv _ c1
  split at h
  ·cases h
  rename_i r hr
  obtain ⟨e, p2⟩ := r
  cases h
  have x2 := (S n (Nat.le_refl n)).expr 1 (d + 1) _ e p2 hr Ia (by rw [zS]; exact ho) (by omega) (by omega) (by omega) (by omega)
  have I2 := ((espec T n).expr 1 (d + 1) _ e p2 hr Ia (by omega) (by omega) (by omega) (by omega)).2
  rw [za] at x2 ⊢
  simp only [zd] at x2 ⊢
  clear hr c1 S
  cases hq2 : zk p2
  ·rw [zo hq2] at x2
   have w1 := zyb (o := o) I2 hq2 [41]
   cases hm2 : zk (zA T [41] p2)
   ·rw [zo hm2] at w1 ⊢
    clear hm2 hq2 ho
    simp [*, F164, zd]
   ·rw [zf hm2] at w1 ⊢
    clear hm2 hq2 ho
    simp [*, F164, zd]
  ·rw [zf hq2] at x2
   rw [zO hq2, zf hq2]
   clear hq2 ho
   simp [*, F164, zd]
 rw [c1] at h t1
 simp only [Bool.false_eq_true, if_false] at h t1
 have t2 := zFa (o := o) I ho [114, 101, 97, 100]
 have t3 := zFa (o := o) I ho [116, 114, 117, 101]
 have t4 := zFa (o := o) I ho [102, 97, 108, 115, 101]
 cases c3 : isF T [116, 114, 117, 101] p
 case true =>
  rw [c3] at h t3
  rw [isF_ne c3 (by decide)] at t2
  simp only [if_true, Bool.false_eq_true, if_false] at h t2 t3
  cases h
  rw [zo (by rw [zS]; exact ho), za]
  clear c1 c3 S t4 ho
  simp [*, F164, zd]
 rw [c3] at h t3
 simp only [Bool.false_eq_true, if_false] at h t3
 cases c4 : isF T [102, 97, 108, 115, 101] p
 case true =>
  rw [c4] at h t4
  rw [isF_ne c4 (by decide)] at t2
  simp only [if_true, Bool.false_eq_true, if_false] at h t2 t4
  cases h
  rw [zo (by rw [zS]; exact ho), za]
  clear c1 c3 c4 S ho
  simp [*, F164, zd]
 rw [c4] at h t4
 simp only [Bool.false_eq_true, if_false] at h t4
 cases c2 : isF T [114, 101, 97, 100] p
 case true =>
  rw [c2] at h t2
  simp only [if_true] at h t2
  cases h
  have Ia := I.adv _ c2
  have w1 := want2_q (o := o) Ia (by rw [zS]; exact ho) [40] [41]
  rw [za]
  cases hm2 : zk (zA T [41] (zA T [40] (adv p)))
  ·rw [zo hm2] at w1 ⊢
   clear hm2 ho c1 c2 c3 c4 S t3 t4
   simp [*, F164, zd]
  ·rw [zf hm2] at w1 ⊢
   clear hm2 ho c1 c2 c3 c4 S t3 t4
   simp [*, F164, zd]
 rw [c2] at h t2
 simp only [Bool.false_eq_true, if_false] at h t2
 have h0 := lft_0 I.lt
 by_cases hk : (tk T p.at').kind = 0
 ·rw [if_pos hk] at h
  have n1 := number_q (o := o) I hN ho
  have hx : zy T 0 p = ((tk T p.at').text, adv p) := by unfold zy; rw [if_neg (by rw [ho]; decide), if_pos hk]; rfl
  rw [hx, zo (by rw [zS]; exact ho)] at n1
  cases h
  rw [zo (by rw [zS]; exact ho), za]
  unfold qst at *
  simp only at n1
  generalize lft T p = l at *
  generalize lft T (adv p) = l' at *
  generalize tk T p.at' = t at *
  obtain ⟨k', x, ln⟩ := t
  simp only at hk
  subst hk
  simp only [zl] at h0
  clear ho c1 c2 c3 c4 S hx
  simp [*, F164, zd]
 ·rw [if_neg hk] at h
  have x1 := named_q (n := n) S (v := v) (p' := p') h I ho hd hn
  rw [za] at x1 ⊢
  simp only [zd] at x1 ⊢
  have hk2 := eqn hk
  clear c1 c2 c3 c4 S h hk
  cases hq : zk p'
  ·rw [zo hq] at x1 ⊢
   unfold qst at *
   generalize lft T p = l at *
   generalize lft T p' = l' at *
   generalize tk T p.at' = t at *
   obtain ⟨k', x, ln⟩ := t
   simp only at hk2
   simp only [zl] at h0
   clear hq ho
   simp [*, F164, zd]
  ·rw [zf hq] at x1 ⊢
   generalize wrongV T p' = wv at *
   unfold qst at *
   generalize lft T p = l at *
   generalize lft T p' = l' at *
   generalize tk T p.at' = t at *
   obtain ⟨k', x, ln⟩ := t
   simp only at hk2
   simp only [zl] at h0
   clear hq ho
   simp [*, F164, zd]
end
end PE.U

namespace PE.U
open Go PE
section
variable {o : Os} {T : List Tok}
set_option maxHeartbeats 4000000 in
theorem unary_q {n : Nat} (S : QSpec o T n) : ∀ d p v p', zJb T (n + 1) d p = some (v, p') -> Inv1 T p -> zk p = false -> 0 <= d -> d + (n + 1 : Nat) <= 1000000000 -> zj E 157 [.ptr 3 0 0, .int .i64 d] (qst o T p) = some (outQ o T (zH v) p') := by
 intro d p v p' h I ho hd hn
 refine zb rfl rfl rfl (by simp) ?_
 have hw : zY .i64 (d + 1) = d + 1 := zm (by omega) (by omega)
 simp only [zJb] at h
 have d1 := deep_q (o := o) I d ho
 by_cases h100 : 100 < d
 ·have e1 : deepF d p = { p with deep := true } := by unfold deepF; rw [if_pos h100, (zrc ho).1]; rfl
  have hov : zk (deepF d p) = true := by rw [e1]; simp [zk]
  have hp : p' = deepF d p := by
   rw [unF_over hov] at h
   exact (overE T n).primary _ _ _ _ h hov
  subst hp
  rw [zf hov] at d1 ⊢
  clear e1 hov h
  generalize deepF d p = p2 at *
  simp [*, F157]
 have e1 : deepF d p = p := by unfold deepF; rw [if_neg h100]
 rw [e1, zo ho] at d1
 rw [e1] at h
 clear e1
 simp [d1, F157]
 refine wp_eachB (List.range 9) K157_0 B157_0 (fun c => [(5, .int .i64 ((c.length + 20 : Nat) : Int))]) (fun _ => [(4, .cells [.int .i64 0, .int .i64 0, .int .i64 0, .str [], .slice .fit 5 []])]) (fun _ => qst o T p) (fun c => ∀ i ∈ c, zCa T p i = false) (by simp) (by simp) ?_ ?_
 ·intros c x r s1 hl' hlt hget hget' hw1 hp g1 g2 g3 g3' g4
  simp at g1 g3 g3' hlt
  have hx : x = c.length := by rw [<- hget', List.getElem_range]
  subst hx
  have e2 := sign_q ((c.length + 20 : Nat) : Int) []
  have e3 := zFa (o := o) I ho (zOb ((c.length + 20 : Nat) : Int))
  have hle : (c.length : Int) + 20 <= 28 := by omega
  have hw2 : zY .i64 ((c.length : Int) + 20 + 1) = (c.length : Int) + 1 + 20 := by rw [zm (by omega) (by omega)]; omega
  have hf : zCa T p c.length = true -> unF T p = some c.length := by
   intro h
   unfold unF
   rw [hl'.eq, List.find?_append]
   have : c.find? (zCa T p) = none := by rw [List.find?_eq_none]; intro y hy; simp [hp y hy]
   rw [this]
   simp [List.find?_cons, h]
  have hu : zCa T p c.length = isF T (zOb ((c.length + 20 : Nat) : Int)) p := rfl
  have hnx := fun (h : zCa T p c.length = false) => (fun i (hi : i ∈ c ++ [c.length]) => by
   rcases List.mem_append.1 hi with h' | h'
   ·exact hp i h'
   ·rw [List.mem_singleton.1 h']; exact h : ∀ i ∈ c ++ [c.length], zCa T p i = false)
  clear g2 hget hget' hl' hp d1
  cases hi : isF T (zOb ((c.length + 20 : Nat) : Int)) p
  ·replace hnx := hnx (hu.trans hi)
   rw [hi] at e3
   clear hf hu h ho
   simp at e2 e3
   simp [*]
   exact fun i hi => hnx i (by simpa using hi)
  ·replace hf := hf (hu.trans hi)
   have IA := I.adv _ hi
   have hoa : zk (adv p) = false := by rw [zS]; exact ho
   rw [hi] at e3
   rw [hf] at h
   simp only at h
   clear hnx hu hf hi
   by_cases h3 : 3 <= c.length
   ·rw [if_pos h3] at h
    have h23 : ((c.length : Int) + 20 < 23) = False := eqn (by omega)
    have w1 := zyb (o := o) IA hoa [40]
    have IM := IA.must [40]
    split at h
    ·cases h
    rename_i x hq
    obtain ⟨e, p2⟩ := x
    have hv := (Prod.mk.inj (Option.some.inj h)).1
    have hp' := (Prod.mk.inj (Option.some.inj h)).2
    subst hv
    subst hp'
    rw [za]
    cases hm1 : zk (zA T [40] (adv p))
    case true =>
     have e := (overE T n).expr _ _ _ _ _ hq hm1
     subst e
     rw [zO hm1, zf hm1]
     rw [zf hm1] at w1
     generalize zA T [40] (adv p) = p3 at *
     clear hq hm1 ho hoa h
     simp at e2 e3
     simp [*, zd, za]
    rw [zo hm1] at w1
    have x1 := S.expr 1 (d + 1) _ e p2 hq IM hm1 (by omega) (by omega) (by omega) (by omega)
    have I2 := ((espec T n).expr 1 (d + 1) _ e p2 hq IM (by omega) (by omega) (by omega) (by omega)).2
    generalize zA T [40] (adv p) = p3 at *
    rw [za] at x1
    simp only [zd] at x1 ⊢
    clear hq hm1 ho hoa h
    cases hq2 : zk p2
    ·rw [zo hq2] at x1
     have w2 := zyb (o := o) I2 hq2 [41]
     cases hm2 : zk (zA T [41] p2)
     ·rw [zo hm2] at w2 ⊢
      clear hm2 hq2
      simp at e2 e3
      simp [*, zd, za]
     ·rw [zf hm2] at w2 ⊢
      clear hm2 hq2
      simp at e2 e3
      simp [*, zd, za]
    ·rw [zf hq2] at x1
     rw [zO hq2, zf hq2]
     clear hq2
     simp at e2 e3
     simp [*, zd, za]
   ·rw [if_neg h3] at h
    have h23 : ((c.length : Int) + 20 < 23) = True := eqp (by omega)
    split at h
    ·cases h
    rename_i x hq
    obtain ⟨e, p2⟩ := x
    have hv := (Prod.mk.inj (Option.some.inj h)).1
    have hp' := (Prod.mk.inj (Option.some.inj h)).2
    subst hv
    subst hp'
    have x1 := S.unary (d + 1) _ e p2 hq IA hoa (by omega) (by omega)
    rw [za] at x1 ⊢
    simp only [zd] at x1 ⊢
    clear hq ho hoa h
    cases hq2 : zk p2
    ·rw [zo hq2] at x1 ⊢
     clear hq2
     simp at e2 e3
     simp [*, zd, za]
    ·rw [zf hq2] at x1 ⊢
     clear hq2
     simp at e2 e3
     simp [*, zd, za]
 ·intros s1 hp g1 g2 g3 g3' g4
  simp at g1 g3 g3'
  have hf : unF T p = none := by
   unfold unF
   rw [List.find?_eq_none]; intro y hy; simp [hp y hy]
  rw [hf] at h
  simp only at h
  have x1 := S.primary _ _ _ _ h I ho hd (by omega)
  rw [za] at x1 ⊢
  simp only [zd] at x1 ⊢
  clear g2 hp hf h d1
  cases hq2 : zk p'
  ·rw [zo hq2] at x1 ⊢
   clear hq2 ho
   simp [*, zd]
  ·rw [zf hq2] at x1 ⊢
   clear hq2 ho
   simp [*, zd]
end
end PE.U

namespace PE.U
open Go PE
section
variable {o : Os} {T : List Tok}
set_option maxHeartbeats 4000000 in
theorem expr_q {n : Nat} (S : ∀ k, k <= n -> QSpec o T k) : ∀ L d p v p', zsa T (n + 1) L d p = some (v, p') -> Inv1 T p -> zk p = false -> 1 <= L -> L <= 11 -> 0 <= d -> d + (n + 1 : Nat) <= 1000000000 -> zj E 144 [.ptr 3 0 0, .int .i64 L, .int .i64 d] (qst o T p) = some (outQ o T (zH v) p') := by
 intro L d p v p' h I ho h1 h11 hd hn
 refine zb rfl rfl rfl (by simp) ?_
 have hw : zY .i64 (L + 1) = L + 1 := zm (by omega) (by omega)
 simp only [zsa] at h
 rw [za]
 by_cases hL : 10 < L
 ·rw [if_pos hL] at h
  have x1 := (S n (by omega)).unary d p v p' h I ho hd (by omega)
  rw [za] at x1
  simp only [zd] at x1 ⊢
  replace hL := eqp hL
  clear h S
  cases hq : zk p'
  ·rw [zo hq] at x1 ⊢
   clear hq ho
   simp [*, F144]
  ·rw [zf hq] at x1 ⊢
   clear hq ho
   simp [*, F144]
 rw [if_neg hL] at h
 split at h
 ·cases h
 rename_i q hx
 obtain ⟨a, p1⟩ := q
 simp only at h
 have e1 := (S n (by omega)).expr (L + 1) d p a p1 hx I ho (by omega) (by omega) hd (by omega)
 have I1 := ((espec T n).expr (L + 1) d p a p1 hx I (by omega) (by omega) hd (by omega)).2
 rw [za] at e1
 have hL2 : L + 1 <= 11 := by omega
 replace hL := eqn hL
 cases hq1 : zk p1
 case true =>
  have hp : p1 = p' /\ a = v := by
   cases n with
   | zero => simp [zU] at h
   | succ n =>
    simp only [zU] at h
    rw [if_pos (opF_over hq1)] at h
    exact ⟨(Prod.mk.inj (Option.some.inj h)).2, (Prod.mk.inj (Option.some.inj h)).1⟩
  obtain ⟨rfl, rfl⟩ := hp
  rw [zf hq1] at e1 ⊢
  clear hx h S hq1 ho hL2
  simp [*, F144]
 rw [zo hq1] at e1
 have o1 := operator_q (o := o) I1 hq1 L
 simp only [zd] at e1 ⊢
 simp [F144, hL, hw, e1, o1]
 refine zva K144_0 B144_0 (fun c : LS => c.m) (fun c => [(8, .int .i64 (opF T L c.p))]) (fun c => [(6, .cells [.int .i64 0, .int .i64 0, .int .i64 0, .str [], .slice .fit 5 []]), (7, .cells [.int .i64 c.a.kind, .int .i64 c.a.op, .int .i64 c.a.n, .str c.a.name, .slice .plain 5 (c.a.args.map zH)])]) (fun c => qst o T c.p) (fun c => c.m <= n /\ zU T c.m L d c.a c.p = some (v, p') /\ Inv1 T c.p /\ zk c.p = false) ⟨n, a, p1⟩ ⟨by simp, by simp, by simp, Nat.le_refl _, h, I1, hq1⟩ ?_
 rintro ⟨m, a, p⟩ s1 ⟨hm, hr, I, hop⟩ g1 g2 g3 g4 g5
 simp only at hm hr I hop
 simp at g1 g3 g4 g5
 clear g2 e1 hx h I1 o1 hq1 ho
 cases m with
 | zero => simp [zU] at hr
 | succ m =>
  simp only [zU] at hr
  by_cases hne : opF T L p = 0
  ·rw [if_pos hne] at hr
   have hv := (Prod.mk.inj (Option.some.inj hr)).1
   have hp' := (Prod.mk.inj (Option.some.inj hr)).2
   subst hv
   subst hp'
   rw [zo hop]
   rw [hne] at g3
   clear hop hne hr hL2
   simp [*]
  ·rw [if_neg hne] at hr
   obtain ⟨s, hs⟩ := opF_pos hne
   have Ia := I.adv s hs
   have hoa : zk (adv p) = false := by rw [zS]; exact hop
   have hl := lft_len I.lt
   have hdr := lft_drop T p
   split at hr
   ·cases hr
   rename_i q hq
   obtain ⟨b, p2⟩ := q
   simp only at hr
   have e2 := (S m (by omega)).expr (L + 1) d _ b p2 hq Ia hoa (by omega) (by omega) hd (by omega)
   have I2 := ((espec T m).expr (L + 1) d _ b p2 hq Ia (by omega) (by omega) hd (by omega)).2
   replace hne := eqn hne
   rw [za] at e2
   simp only [zd] at e2
   cases hq2 : zk p2
   case true =>
    have hp : p2 = p' := by
     cases m with
     | zero => simp [zU] at hr
     | succ m =>
      simp only [zU] at hr
      rw [if_pos (opF_over hq2)] at hr
      exact (Prod.mk.inj (Option.some.inj hr)).2
    subst hp
    rw [zf hq2] at e2 ⊢
    generalize wrongV T p2 = wv at *
    unfold qst at *
    rw [<- hdr, List.drop_one] at e2
    clear hq hr hq2 hop hoa hs S hdr Ia hL2
    generalize lft T p = l at *
    generalize lft T p2 = l2 at *
    simp [*]
   rw [zo hq2] at e2
   have o2 := operator_q (o := o) I2 hq2 L
   replace hr := Nonempty.intro (PLift.up hr)
   unfold qst at *
   rw [<- hdr, List.drop_one] at e2
   clear hq hop hoa hs S hdr Ia hL2
   generalize hl1 : lft T p = l at *
   generalize hl2 : lft T p2 = l2 at *
   clear hl1
   replace hl2 := Nonempty.intro (PLift.up hl2)
   replace hq2 := Nonempty.intro (PLift.up hq2)
   simp [*]
   obtain ⟨⟨hr⟩⟩ := hr
   obtain ⟨⟨hl2⟩⟩ := hl2
   obtain ⟨⟨hq2⟩⟩ := hq2
   exact ⟨⟨m, ⟨5, opF T L p, 0, [], [a, b]⟩, p2⟩, Nat.lt_succ_self m, rfl, ⟨rfl, rfl, rfl, rfl, by simp [za, zd]⟩, hl2.symm, by simp only; omega, hr, I2, hq2⟩
end
end PE.U

namespace PE.U
open Go PE
def deepS (d : Int) (p : PS) : PS := if 100 < d then { p with deep := true } else p
theorem Inv1.deepS {T : List Tok} {p : PS} (I : Inv1 T p) (d : Int) : Inv1 T (deepS d p) := by
 unfold PE.U.deepS
 split
 ·exact I.deep'
 ·exact I
mutual
def stmtF (T : List Tok) : Nat -> Int -> PS -> Option (Stmt × PS)
 | 0, _, _ => none
 | n + 1, d, p =>
  if isF T [105, 110, 116] (deepS d p) || isF T [98, 111, 111, 108] (deepS d p) then
   match zsa T n 1 1 (zA T [61] (zy T 1 (zM T (deepS d p)).2).2) with
   | none => none
   | some q => some (⟨1, (zM T (deepS d p)).1, (zy T 1 (zM T (deepS d p)).2).1, [q.1], [], []⟩, zA T [59] q.2)
  else if isF T [105, 102] (deepS d p) then
   match zHb T n (adv (deepS d p)) with
   | none => none
   | some q => match zca T n (d + 1) [] (zA T [123] q.2) with
    | none => none
    | some r =>
     if isF T [101, 108, 115, 101] r.2 then
      match zca T n (d + 1) [] (zA T [123] (adv r.2)) with
      | none => none
      | some t => some (⟨4, 0, [], [q.1], r.1, t.1⟩, t.2)
     else some (⟨4, 0, [], [q.1], r.1, []⟩, r.2)
  else if isF T [119, 104, 105, 108, 101] (deepS d p) then
   match zHb T n (adv (deepS d p)) with
   | none => none
   | some q => match zca T n (d + 1) [] (zA T [123] q.2) with
    | none => none
    | some r => some (⟨5, 0, [], [q.1], r.1, []⟩, r.2)
  else if isF T [98, 114, 101, 97, 107] (deepS d p) then some (⟨6, 0, [], [], [], []⟩, zA T [59] (adv (deepS d p)))
  else if isF T [99, 111, 110, 116, 105, 110, 117, 101] (deepS d p) then some (⟨7, 0, [], [], [], []⟩, zA T [59] (adv (deepS d p)))
  else if isF T [114, 101, 116, 117, 114, 110] (deepS d p) then
   match zsa T n 1 1 (adv (deepS d p)) with
   | none => none
   | some q => some (⟨8, 0, [], [q.1], [], []⟩, zA T [59] q.2)
  else if isF T [112, 114, 105, 110, 116] (deepS d p) then
   match zHb T n (adv (deepS d p)) with
   | none => none
   | some q => some (⟨9, 0, [], [q.1], [], []⟩, zA T [59] q.2)
  else match zbd T n (deepS d p) with
   | none => none
   | some q => some (q.1, zA T [59] q.2)
/-- Behind the brace. -/
def zca (T : List Tok) : Nat -> Int -> List Stmt -> PS -> Option (List Stmt × PS)
 | 0, _, _, _ => none
 | n + 1, d, l, p =>
  if zk p then some (l, p)
  else if isF T [125] p then some (l, adv p)
  else match stmtF T n d p with
   | none => none
   | some q => zca T n d (l ++ [q.1]) q.2
end
structure SSpec (T : List Tok) (n : Nat) : Prop where
 stmt : ∀ d p v p', stmtF T n d p = some (v, p') -> Inv1 T p -> 0 <= d -> d + n <= 999999990 -> zj E 119 [.ptr 0 0 0, .int .i64 d] (pob T p) = some (.ret (zla v), pob T p') /\ Inv1 T p'
 block : ∀ d p v p', zca T n d [] (zA T [123] p) = some (v, p') -> Inv1 T p -> 0 <= d -> d + n <= 999999990 -> zj E 101 [.ptr 0 0 0, .int .i64 d] (pob T p) = some (.ret (zn v), pob T p') /\ Inv1 T p'
structure BS where
 m : Nat
 l : List Stmt
 p : PS
set_option maxHeartbeats 2000000 in
theorem block_of {T : List Tok} {n : Nat} (S : ∀ k, k < n -> SSpec T k) : ∀ d p v p', zca T n d [] (zA T [123] p) = some (v, p') -> Inv1 T p -> 0 <= d -> d + n <= 999999990 -> zj E 101 [.ptr 0 0 0, .int .i64 d] (pob T p) = some (.ret (zn v), pob T p') /\ Inv1 T p' := by
 intro d p v p' h I hd hn
 have hI : ∀ m l p v p', m <= n -> zca T m d l p = some (v, p') -> Inv1 T p -> Inv1 T p' := by
  intro m
  induction m with
  | zero => intro l p v p' _ h; simp [zca] at h
  | succ m ih =>
   intro l p v p' hm h I
   simp only [zca] at h
   split at h
   ·cases h; exact I
   ·split at h
    ·rename_i hc
     cases h; exact I.adv _ hc
    ·split at h
     ·cases h
     ·rename_i x hx
      exact ih _ _ _ _ (by omega) h ((S m (by omega)).stmt _ _ _ _ hx I hd (by omega)).2
 have m1 := zx I [123]
 have I1 := I.must [123]
 have I' := hI n _ _ _ _ (Nat.le_refl _) h I1
 refine ⟨?_, I'⟩
 refine zb rfl rfl rfl (by simp) ?_
 simp [*, F101, zn]
 refine zva K101_0 B101_0 (fun c : BS => c.m) (fun c => [(5, acc 6 (c.l.map zla))]) (fun c => []) (fun c => pob T c.p) (fun c => c.m <= n /\ c.l.length + c.m <= n /\ zca T c.m d c.l c.p = some (v, p') /\ Inv1 T c.p) ⟨n, [], zA T [123] p⟩ ⟨by simp, by simp, by simp, Nat.le_refl _, by simp, h, I1⟩ ?_
 rintro ⟨m, l, p⟩ s1 ⟨hm, hlm, hr, I⟩ g1 g2 g3 g4 g5
 simp at g1 g3 g5 hm hlm hr I
 clear g2 g4 m1 h I' hI I1
 cases m with
 | zero => simp [zca] at hr
 | succ m =>
  simp only [zca] at hr
  have hroom : (l.length + 1) * 104 <= zG := by simp only [zG]; omega
  have ho := zCb I
  have t2 := zz I [125]
  rw [zQ] at t2
  cases o : zk p
  ·rw [if_neg (by rw [o]; decide)] at hr
   rw [o] at ho
   cases c2 : isF T [125] p
   ·rw [if_neg (by rw [c2]; decide)] at hr
    rw [c2] at t2
    split at hr
    ·cases hr
    ·rename_i x hx
     obtain ⟨e, p2⟩ := x
     simp only at hr
     obtain ⟨x1, I3⟩ := (S m (by omega)).stmt _ _ _ _ hx I hd (by omega)
     rw [zc] at x1
     clear hx o c2
     simp [*]
     exact ⟨⟨m, l ++ [e], p2⟩, Nat.lt_succ_self m, by simp [zc], rfl, by simp only; omega, by simp only [List.length_append, List.length_cons, List.length_nil]; omega, hr, I3⟩
   ·rw [if_pos c2] at hr
    rw [c2] at t2
    cases hr
    clear o c2
    simp [*]
  ·rw [if_pos o] at hr
   rw [o] at ho
   cases hr
   clear o t2
   simp [*]
end PE.U

namespace PE.U
open Go PE
theorem qspec_all (o : Os) {T : List Tok} (hN : NumT T) : ∀ n k, k <= n -> QSpec o T k
 | 0, k, h => by
  have : k = 0 := by omega
  subst this
  exact ⟨fun _ _ _ _ h => by simp [zxa] at h, fun _ _ _ _ h => by simp [zJb] at h, fun _ _ _ _ _ h => by simp [zsa] at h⟩
 | n + 1, k, h => by
  have ih := qspec_all o hN n
  rcases Nat.lt_or_ge k (n + 1) with h1 | h1
  ·exact ih k (by omega)
  ·have : k = n + 1 := by omega
   subst this
   exact ⟨primary_q hN ih, unary_q (ih n (Nat.le_refl n)), expr_q ih⟩
theorem qspec (o : Os) {T : List Tok} (hN : NumT T) (n : Nat) : QSpec o T n := qspec_all o hN n n (Nat.le_refl n)
section
variable {o : Os} {T : List Tok}
theorem expr1_q (hN : NumT T) {n : Nat} {p p' : PS} {v : Expr} (h : zsa T n 1 1 p = some (v, p')) (I : Inv1 T p) (ho : zk p = false) (hn : n <= 999999990) : zj E 144 [.ptr 3 0 0, .int .i64 1, .int .i64 1] (qst o T p) = some (outQ o T (zH v) p') :=
 (qspec o hN n).expr 1 1 p v p' h I ho (by omega) (by omega) (by omega) (by omega)
theorem whole_q (hN : NumT T) {n : Nat} {p p' : PS} {v : Expr} (h : zsa T n 1 1 p = some (v, p')) (I : Inv1 T p) (ho : zk p = false) (hn : n <= 999999990) : zj E 128 [.ptr 3 0 0] (qst o T p) = some (outQ o T (zd [v]) p') := by
 refine zb rfl rfl rfl (by simp) ?_
 have x1 := expr1_q (o := o) hN h I ho hn
 simp only [zd, List.map_cons, List.map_nil]
 rw [za] at x1 ⊢
 simp only [zd] at x1 ⊢
 clear h
 cases hq : zk p'
 ·rw [zo hq] at x1 ⊢
  clear hq ho
  simp [*, F128, zd]
 ·rw [zf hq] at x1 ⊢
  clear hq ho
  simp [*, F128, zd]
theorem inside_q (hN : NumT T) {n : Nat} {p p' : PS} {v : Expr} (h : zHb T n p = some (v, p')) (I : Inv1 T p) (ho : zk p = false) (hn : n <= 999999990) : zj E 127 [.ptr 3 0 0] (qst o T p) = some (outQ o T (zd [v]) p') := by
 refine zb rfl rfl rfl (by simp) ?_
 have w1 := zyb (o := o) I ho [40]
 have I1 := I.must [40]
 unfold zHb at h
 split at h
 ·cases h
 rename_i q hq
 obtain ⟨e, p2⟩ := q
 cases h
 generalize zA T [40] p = p1 at *
 cases hq1 : zk p1
 case true =>
  have e2 := (overE T n).expr _ _ _ _ _ hq hq1
  subst e2
  rw [zO hq1, zf hq1]
  rw [zf hq1] at w1
  clear hq hq1 ho
  simp [*, F127]
 rw [zo hq1] at w1
 have x1 := whole_q (o := o) hN hq I1 hq1 hn
 have I2 := (zta hq I1 hn).2
 simp only [zd, List.map_cons, List.map_nil] at x1 ⊢
 rw [za] at x1 ⊢
 simp only [zd] at x1 ⊢
 clear hq
 cases hq2 : zk p2
 ·rw [zo hq2] at x1
  have w2 := zyb (o := o) I2 hq2 [41]
  cases hm : zk (zA T [41] p2)
  ·rw [zo hm] at w2 ⊢
   clear hm hq2 hq1 ho
   simp [*, F127]
  ·rw [zf hm] at w2 ⊢
   clear hm hq2 hq1 ho
   simp [*, F127]
 ·rw [zf hq2] at x1
  rw [zO hq2, zf hq2]
  clear hq2 hq1 ho
  simp [*, F127]
def simpleF (T : List Tok) (n : Nat) (p : PS) : Option (Stmt × PS) :=
 if isF T [105, 110, 116] p || isF T [98, 111, 111, 108] p then
  match zsa T n 1 1 (zA T [61] (zy T 1 (zM T p).2).2) with
  | none => none
  | some q => some (⟨1, (zM T p).1, (zy T 1 (zM T p).2).1, [q.1], [], []⟩, q.2)
 else if isF T [98, 114, 101, 97, 107] p then some (⟨6, 0, [], [], [], []⟩, adv p)
 else if isF T [99, 111, 110, 116, 105, 110, 117, 101] p then some (⟨7, 0, [], [], [], []⟩, adv p)
 else if isF T [114, 101, 116, 117, 114, 110] p then
  match zsa T n 1 1 (adv p) with
  | none => none
  | some q => some (⟨8, 0, [], [q.1], [], []⟩, q.2)
 else if isF T [112, 114, 105, 110, 116] p then
  match zHb T n (adv p) with
  | none => none
  | some q => some (⟨9, 0, [], [q.1], [], []⟩, q.2)
 else zbd T n p
theorem named_over {n : Nat} {p p' : PS} {v : Stmt} (h : zbd T n p = some (v, p')) (ho : zk p = true) : p' = p := by
 unfold zbd at h
 rw [text_over ho] at h
 simp only [zOa ho, Bool.false_eq_true, if_false] at h
 rw [zO ho] at h
 split at h
 ·cases h
 ·rename_i q hq
  obtain ⟨e, p1⟩ := q
  cases h
  exact (overE T n).expr _ _ _ _ _ hq ho
set_option maxHeartbeats 8000000 in
theorem simple_q (hN : NumT T) {n : Nat} {p p' : PS} {v : Stmt} (h : simpleF T n p = some (v, p')) (I : Inv1 T p) (ho : zk p = false) (hn : n <= 999999980) : zj E 113 [.ptr 3 0 0] (qst o T p) = some (outQ o T (zla v) p') := by
 refine zb rfl rfl rfl (by simp) ?_
 have i1 := is_q (o := o) I ho [105, 110, 116]
 have i2 := is_q (o := o) I ho [98, 111, 111, 108]
 unfold simpleF at h
 cases c0 : (isF T [105, 110, 116] p || isF T [98, 111, 111, 108] p)
 case true =>
  rw [if_pos c0] at h
  have ty := typed_q (o := o) I ho
  have I1 := I.typed
  generalize zM T p = tt at *
  obtain ⟨t, p1⟩ := tt
  simp only at h ty I1
  have hc : ∃ a b, isF T [105, 110, 116] p = a /\ isF T [98, 111, 111, 108] p = b /\ (a = true \/ (a = false /\ b = true)) := by
   refine ⟨_, _, rfl, rfl, ?_⟩
   simp only [Bool.or_eq_true] at c0
   cases e : isF T [105, 110, 116] p
   ·rw [e] at c0; simp at c0; exact .inr ⟨rfl, c0⟩
   ·exact .inl rfl
  obtain ⟨a, b, ea, eb, hab⟩ := hc
  rw [ea] at i1
  rw [eb] at i2
  clear c0 ea eb
  rw [zc]
  -- the type
  cases hq1 : zk p1
  case true =>
   rw [text_over hq1] at h
   simp only at h
   rw [zO hq1] at h
   split at h
   ·cases h
   rename_i q hq
   obtain ⟨e, p4⟩ := q
   have e4 := (overE T n).expr _ _ _ _ _ hq hq1
   have hv := (Prod.mk.inj (Option.some.inj h)).1
   have hp' := (Prod.mk.inj (Option.some.inj h)).2
   simp only at hp'
   subst hv
   subst hp'
   subst e4
   rw [zf hq1] at ty ⊢
   clear hq hq1 ho h
   rcases hab with rfl | ⟨rfl, rfl⟩ <;> simp [*, F113]
  rw [zo hq1] at ty
  -- the name
  have tx := text_q (o := o) I1 hq1 1
  have I2 := I1.text 1 (by decide)
  generalize zy T 1 p1 = tt at *
  obtain ⟨s, p2⟩ := tt
  simp only at h tx I2
  cases hq2 : zk p2
  case true =>
   rw [zO hq2] at h
   split at h
   ·cases h
   rename_i q hq
   obtain ⟨e, p4⟩ := q
   have e4 := (overE T n).expr _ _ _ _ _ hq hq2
   have hv := (Prod.mk.inj (Option.some.inj h)).1
   have hp' := (Prod.mk.inj (Option.some.inj h)).2
   simp only at hp'
   subst hv
   subst hp'
   subst e4
   rw [zf hq2] at tx ⊢
   clear hq hq2 hq1 ho h
   rcases hab with rfl | ⟨rfl, rfl⟩ <;> simp [*, F113]
  rw [zo hq2] at tx
  have w1 := zyb (o := o) I2 hq2 [61]
  have I3 := I2.must [61]
  generalize zA T [61] p2 = p3 at *
  split at h
  ·cases h
  rename_i q hq
  obtain ⟨e, p4⟩ := q
  have hv := (Prod.mk.inj (Option.some.inj h)).1
  have hp' := (Prod.mk.inj (Option.some.inj h)).2
  simp only at hp'
  subst hv
  subst hp'
  cases hq3 : zk p3
  case true =>
   have e4 := (overE T n).expr _ _ _ _ _ hq hq3
   subst e4
   rw [zf hq3] at w1 ⊢
   clear hq hq3 hq2 hq1 ho h
   rcases hab with rfl | ⟨rfl, rfl⟩ <;> simp [*, F113]
  rw [zo hq3] at w1
  have x1 := whole_q (o := o) hN hq I3 hq3 (by omega)
  simp only [zd, zn, List.map_cons, List.map_nil] at x1 ⊢
  rw [za] at x1 ⊢
  simp only [zd] at x1 ⊢
  clear hq h
  cases hq4 : zk p4
  ·rw [zo hq4] at x1 ⊢
   clear hq4 hq3 hq2 hq1 ho
   rcases hab with rfl | ⟨rfl, rfl⟩ <;> simp [*, F113]
  ·rw [zf hq4] at x1 ⊢
   clear hq4 hq3 hq2 hq1 ho
   rcases hab with rfl | ⟨rfl, rfl⟩ <;> simp [*, F113]
 rw [if_neg (by rw [c0]; decide)] at h
 simp only [Bool.or_eq_false_iff] at c0
 rw [c0.1] at i1
 rw [c0.2] at i2
 clear c0
 have t1 := zFa (o := o) I ho [98, 114, 101, 97, 107]
 cases c1 : isF T [98, 114, 101, 97, 107] p
 case true =>
  rw [c1] at h t1
  simp only [if_true] at h t1
  cases h
  rw [zo (by rw [zS]; exact ho), zc]
  clear c1 ho
  simp [*, F113, zd, zn]
 rw [c1] at h t1
 simp only [Bool.false_eq_true, if_false] at h t1
 have t2 := zFa (o := o) I ho [99, 111, 110, 116, 105, 110, 117, 101]
 cases c2 : isF T [99, 111, 110, 116, 105, 110, 117, 101] p
 case true =>
  rw [c2] at h t2
  simp only [if_true] at h t2
  cases h
  rw [zo (by rw [zS]; exact ho), zc]
  clear c1 c2 ho
  simp [*, F113, zd, zn]
 rw [c2] at h t2
 simp only [Bool.false_eq_true, if_false] at h t2
 have t3 := zFa (o := o) I ho [114, 101, 116, 117, 114, 110]
 cases c3 : isF T [114, 101, 116, 117, 114, 110] p
 case true =>
  rw [c3] at h t3
  simp only [if_true] at h t3
  have Ia := I.adv _ c3
  split at h
  ·cases h
  rename_i q hq
  obtain ⟨e, p4⟩ := q
  have hv := (Prod.mk.inj (Option.some.inj h)).1
  have hp' := (Prod.mk.inj (Option.some.inj h)).2
  simp only at hp'
  subst hv
  subst hp'
  have x1 := whole_q (o := o) hN hq Ia (by rw [zS]; exact ho) (by omega)
  rw [zc]
  simp only [zd, zn, List.map_cons, List.map_nil] at x1 ⊢
  rw [za] at x1 ⊢
  simp only [zd] at x1 ⊢
  clear hq h c1 c2 c3
  cases hq4 : zk p4
  ·rw [zo hq4] at x1 ⊢
   clear hq4 ho
   simp [*, F113]
  ·rw [zf hq4] at x1 ⊢
   clear hq4 ho
   simp [*, F113]
 rw [c3] at h t3
 simp only [Bool.false_eq_true, if_false] at h t3
 have t4 := zFa (o := o) I ho [112, 114, 105, 110, 116]
 cases c4 : isF T [112, 114, 105, 110, 116] p
 case true =>
  rw [c4] at h t4
  simp only [if_true] at h t4
  have Ia := I.adv _ c4
  split at h
  ·cases h
  rename_i q hq
  obtain ⟨e, p4⟩ := q
  have hv := (Prod.mk.inj (Option.some.inj h)).1
  have hp' := (Prod.mk.inj (Option.some.inj h)).2
  simp only at hp'
  subst hv
  subst hp'
  have x1 := inside_q (o := o) hN hq Ia (by rw [zS]; exact ho) (by omega)
  rw [zc]
  simp only [zd, zn, List.map_cons, List.map_nil] at x1 ⊢
  rw [za] at x1 ⊢
  simp only [zd] at x1 ⊢
  clear hq h c1 c2 c3 c4
  cases hq4 : zk p4
  ·rw [zo hq4] at x1 ⊢
   clear hq4 ho
   simp [*, F113]
  ·rw [zf hq4] at x1 ⊢
   clear hq4 ho
   simp [*, F113]
 rw [c4] at h t4
 simp only [Bool.false_eq_true, if_false] at h t4
 clear c1 c2 c3 c4
 -- what begins with a name
 unfold zbd at h
 have tx := text_q (o := o) I ho 1
 have I1 := I.text 1 (by decide)
 generalize zy T 1 p = tt at *
 obtain ⟨s, p1⟩ := tt
 simp only at h tx I1
 rw [zc]
 cases hq1 : zk p1
 case true =>
  simp only [zOa hq1, Bool.false_eq_true, if_false] at h
  rw [zO hq1] at h
  split at h
  ·cases h
  rename_i q hq
  obtain ⟨e, p4⟩ := q
  have e4 := (overE T n).expr _ _ _ _ _ hq hq1
  have hv := (Prod.mk.inj (Option.some.inj h)).1
  have hp' := (Prod.mk.inj (Option.some.inj h)).2
  simp only at hp'
  subst hv
  subst hp'
  subst e4
  rw [zf hq1] at tx ⊢
  clear hq hq1 ho h
  simp [*, F113]
 rw [zo hq1] at tx
 have t5 := zFa (o := o) I1 hq1 [40]
 cases c5 : isF T [40] p1
 case true =>
  rw [c5] at h t5
  simp only [if_true] at h t5
  have Ia := I1.adv _ c5
  split at h
  ·cases h
  rename_i q hq
  obtain ⟨l, p4⟩ := q
  have hv := (Prod.mk.inj (Option.some.inj h)).1
  have hp' := (Prod.mk.inj (Option.some.inj h)).2
  simp only at hp'
  subst hv
  subst hp'
  cases n with
  | zero => simp [zhd] at hq
  | succ n =>
  have x1 := call_q (fun k hk => qspec o hN k) s hq Ia (by rw [zS]; exact hq1) (by omega) (by omega)
  simp only [zd, zn, List.map_cons, List.map_nil] at x1 ⊢
  rw [za] at x1 ⊢
  simp only [zd] at x1 ⊢
  clear hq h c5
  cases hq4 : zk p4
  ·rw [zo hq4] at x1 ⊢
   clear hq4 hq1 ho
   simp [*, F113]
  ·rw [zf hq4] at x1 ⊢
   clear hq4 hq1 ho
   simp [*, F113]
 rw [c5] at h t5
 simp only [Bool.false_eq_true, if_false] at h t5
 have t6 := zFa (o := o) I1 hq1 [91]
 cases c6 : isF T [91] p1
 case true =>
  rw [c6] at h t6
  simp only [if_true] at h t6
  have Ia := I1.adv _ c6
  split at h
  ·cases h
  rename_i q hq
  obtain ⟨e, p2⟩ := q
  simp only at h
  have hx1 := index_q (qspec o hN n) hq Ia (by rw [zS]; exact hq1) (by omega) (by omega)
  have I2 := (zta hq Ia (by omega)).2.must [93]
  rw [za] at hx1
  generalize zA T [93] p2 = p3 at *
  split at h
  ·cases h
  rename_i r hr
  obtain ⟨e2, p5⟩ := r
  have hv := (Prod.mk.inj (Option.some.inj h)).1
  have hp' := (Prod.mk.inj (Option.some.inj h)).2
  simp only at hp'
  subst hv
  subst hp'
  simp only [zd, zn, List.map_cons, List.map_nil] at hx1 ⊢
  rw [za, za]
  simp only [zd]
  clear hq h c5 c6
  cases hq3 : zk p3
  case true =>
   rw [zO hq3] at hr
   have e4 := (overE T n).expr _ _ _ _ _ hr hq3
   subst e4
   rw [zf hq3] at hx1 ⊢
   clear hr hq3 hq1 ho
   simp [*, F113]
  rw [zo hq3] at hx1
  have w1 := zyb (o := o) I2 hq3 [61]
  have I3 := I2.must [61]
  generalize zA T [61] p3 = p4 at *
  cases hq4 : zk p4
  case true =>
   have e4 := (overE T n).expr _ _ _ _ _ hr hq4
   subst e4
   rw [zf hq4] at w1 ⊢
   clear hr hq4 hq3 hq1 ho
   simp [*, F113]
  rw [zo hq4] at w1
  have x1 := whole_q (o := o) hN hr I3 hq4 (by omega)
  simp only [zd, List.map_cons, List.map_nil] at x1
  rw [za] at x1
  simp only [zd] at x1
  clear hr
  have hroom : (1 + 1) * 64 <= zG := by simp only [zG]; omega
  cases hq5 : zk p5
  ·rw [zo hq5] at x1 ⊢
   clear hq5 hq4 hq3 hq1 ho
   simp [*, F113]
  ·rw [zf hq5] at x1 ⊢
   clear hq5 hq4 hq3 hq1 ho
   simp [*, F113]
 rw [c6] at h t6
 simp only [Bool.false_eq_true, if_false] at h t6
 have w1 := zyb (o := o) I1 hq1 [61]
 have I3 := I1.must [61]
 generalize zA T [61] p1 = p4 at *
 split at h
 ·cases h
 rename_i r hr
 obtain ⟨e2, p5⟩ := r
 have hv := (Prod.mk.inj (Option.some.inj h)).1
 have hp' := (Prod.mk.inj (Option.some.inj h)).2
 simp only at hp'
 subst hv
 subst hp'
 simp only [zd, zn, List.map_cons, List.map_nil]
 rw [za]
 simp only [zd]
 clear h c5 c6
 cases hq4 : zk p4
 case true =>
  have e4 := (overE T n).expr _ _ _ _ _ hr hq4
  subst e4
  rw [zf hq4] at w1 ⊢
  clear hr hq4 hq1 ho
  simp [*, F113]
 rw [zo hq4] at w1
 have x1 := whole_q (o := o) hN hr I3 hq4 (by omega)
 simp only [zd, List.map_cons, List.map_nil] at x1
 rw [za] at x1
 simp only [zd] at x1
 clear hr
 have hroom : (0 + 1) * 64 <= zG := by simp only [zG]; omega
 cases hq5 : zk p5
 ·rw [zo hq5] at x1 ⊢
  clear hq5 hq4 hq1 ho
  simp [*, F113]
 ·rw [zf hq5] at x1 ⊢
  clear hq5 hq4 hq1 ho
  simp [*, F113]
end
end PE.U

namespace PE.U
open Go PE
set_option maxHeartbeats 8000000 in
theorem stmt_of {T : List Tok} {n : Nat} (S : SSpec T n) : ∀ d p v p', stmtF T (n + 1) d p = some (v, p') -> Inv1 T p -> 0 <= d -> d + (n + 1 : Nat) <= 999999990 -> zj E 119 [.ptr 0 0 0, .int .i64 d] (pob T p) = some (.ret (zla v), pob T p') /\ Inv1 T p' := by
 intro d p v p' h I0 hd hn
 have hw : zY .i64 (d + 1) = d + 1 := zm (by omega) (by omega)
 simp only [stmtF] at h
 have I := I0.deepS d
 have hn' : n <= 999999990 := by omega
 obtain ⟨pa, pb, pd⟩ := p
 by_cases h100 : 100 < d
 ·have hdp : deepS d ⟨pa, pb, pd⟩ = ⟨pa, pb, true⟩ := by unfold deepS; rw [if_pos h100]
  rw [hdp] at h I
  clear hdp I0
  replace h100 := eqp h100
  have i1 := is_spec I [105, 110, 116]
  have i2 := is_spec I [98, 111, 111, 108]
  cases c0 : (isF T [105, 110, 116] ⟨pa, pb, true⟩ || isF T [98, 111, 111, 108] ⟨pa, pb, true⟩)
  case true =>
   rw [if_pos c0] at h
   have ty := typed_spec I
   have I1 := I.typed
   generalize hty : zM T ⟨pa, pb, true⟩ = tt at *
   obtain ⟨t, p1⟩ := tt
   simp only at h ty I1
   have tx := zVb I1 1
   have I2 := I1.text 1 (by decide)
   generalize htx : zy T 1 p1 = tt at *
   obtain ⟨s, p2⟩ := tt
   simp only at h tx I2
   have m1 := zx I2 [61]
   split at h
   ·cases h
   rename_i x hq
   obtain ⟨e, p3⟩ := x
   cases h
   obtain ⟨x1, I3⟩ := zta hq (I2.must _) hn'
   have m2 := zx I3 [59]
   refine ⟨?_, I3.must _⟩
   clear htx hty hq
   rw [za] at x1
   simp [pob, toks, adv, zd] at i1 i2 ty tx m1 m2 x1
   refine zb rfl rfl rfl (by simp) ?_
   rw [zc]
   cases c1 : isF T [105, 110, 116] ⟨pa, pb, true⟩
   ·rw [c1] at c0 i1
    have c0 : isF T [98, 111, 111, 108] ⟨pa, pb, true⟩ = true := c0
    rw [c0] at i2
    clear c0 c1
    simp [*, F119, zd, zn, pob, toks, zc, za]
   ·rw [c1] at i1
    clear c0 c1
    simp [*, F119, zd, zn, pob, toks, zc, za]
  rw [if_neg (by rw [c0]; decide)] at h
  simp only [Bool.or_eq_false_iff] at c0
  rw [c0.1] at i1
  rw [c0.2] at i2
  clear c0
  have t1 := zz I [105, 102]
  rw [zQ] at t1
  cases c_t1 : isF T [105, 102] ⟨pa, pb, true⟩
  case true =>
   rw [if_pos c_t1] at h
   rw [c_t1] at t1
   have IA := I.adv _ c_t1
   clear c_t1
   split at h
   ·cases h
   rename_i x hq
   obtain ⟨e, p1⟩ := x
   simp only at h
   obtain ⟨x1, I1⟩ := zPa hq IA hn'
   split at h
   ·cases h
   rename_i x hr
   obtain ⟨l1, p2⟩ := x
   simp only at h
   obtain ⟨x2, I2⟩ := S.block (d + 1) _ l1 p2 hr I1 (by omega) (by omega)
   have te := zz I2 [101, 108, 115, 101]
   rw [zQ] at te
   cases ce : isF T [101, 108, 115, 101] p2
   case true =>
    rw [if_pos ce] at h
    rw [ce] at te
    split at h
    ·cases h
    rename_i x hs
    obtain ⟨l2, p3⟩ := x
    cases h
    obtain ⟨x3, I3⟩ := S.block (d + 1) _ l2 p3 hs (I2.adv _ ce) (by omega) (by omega)
    refine ⟨?_, I3⟩
    clear hq hr hs ce
    simp [pob, toks, adv, zd, zn] at i1 i2 t1 x1 x2 x3 te
    refine zb rfl rfl rfl (by simp) ?_
    rw [zc]
    simp [*, F119, zd, zn, pob, toks, zc, za]
   rw [if_neg (by rw [ce]; decide)] at h
   rw [ce] at te
   cases h
   refine ⟨?_, I2⟩
   clear hq hr ce
   simp [pob, toks, adv, zd, zn] at i1 i2 t1 x1 x2 te
   refine zb rfl rfl rfl (by simp) ?_
   rw [zc]
   simp [*, F119, zd, zn, pob, toks, zc, za]
  rw [if_neg (by rw [c_t1]; decide)] at h
  rw [c_t1] at t1
  clear c_t1
  have t2 := zz I [119, 104, 105, 108, 101]
  rw [zQ] at t2
  cases c_t2 : isF T [119, 104, 105, 108, 101] ⟨pa, pb, true⟩
  case true =>
   rw [if_pos c_t2] at h
   rw [c_t2] at t2
   have IA := I.adv _ c_t2
   clear c_t2
   split at h
   ·cases h
   rename_i x hq
   obtain ⟨e, p1⟩ := x
   simp only at h
   obtain ⟨x1, I1⟩ := zPa hq IA hn'
   split at h
   ·cases h
   rename_i x hr
   obtain ⟨l1, p2⟩ := x
   cases h
   obtain ⟨x2, I2⟩ := S.block (d + 1) _ l1 p2 hr I1 (by omega) (by omega)
   refine ⟨?_, I2⟩
   clear hq hr
   simp [pob, toks, adv, zd, zn] at i1 i2 t1 t2 x1 x2
   refine zb rfl rfl rfl (by simp) ?_
   rw [zc]
   simp [*, F119, zd, zn, pob, toks, zc, za]
  rw [if_neg (by rw [c_t2]; decide)] at h
  rw [c_t2] at t2
  clear c_t2
  have t3 := zz I [98, 114, 101, 97, 107]
  rw [zQ] at t3
  cases c_t3 : isF T [98, 114, 101, 97, 107] ⟨pa, pb, true⟩
  case true =>
   rw [if_pos c_t3] at h
   rw [c_t3] at t3
   have IA := I.adv _ c_t3
   clear c_t3
   cases h
   have m1 := zx IA [59]
   refine ⟨?_, IA.must _⟩
   simp [pob, toks, adv, zd, zn] at i1 i2 t1 t2 t3 m1
   refine zb rfl rfl rfl (by simp) ?_
   rw [zc]
   simp [*, F119, zd, zn, pob, toks, zc, za]
   exact ⟨rfl, rfl, rfl⟩
  rw [if_neg (by rw [c_t3]; decide)] at h
  rw [c_t3] at t3
  clear c_t3
  have t4 := zz I [99, 111, 110, 116, 105, 110, 117, 101]
  rw [zQ] at t4
  cases c_t4 : isF T [99, 111, 110, 116, 105, 110, 117, 101] ⟨pa, pb, true⟩
  case true =>
   rw [if_pos c_t4] at h
   rw [c_t4] at t4
   have IA := I.adv _ c_t4
   clear c_t4
   cases h
   have m1 := zx IA [59]
   refine ⟨?_, IA.must _⟩
   simp [pob, toks, adv, zd, zn] at i1 i2 t1 t2 t3 t4 m1
   refine zb rfl rfl rfl (by simp) ?_
   rw [zc]
   simp [*, F119, zd, zn, pob, toks, zc, za]
   exact ⟨rfl, rfl, rfl⟩
  rw [if_neg (by rw [c_t4]; decide)] at h
  rw [c_t4] at t4
  clear c_t4
  have t5 := zz I [114, 101, 116, 117, 114, 110]
  rw [zQ] at t5
  cases c_t5 : isF T [114, 101, 116, 117, 114, 110] ⟨pa, pb, true⟩
  case true =>
   rw [if_pos c_t5] at h
   rw [c_t5] at t5
   have IA := I.adv _ c_t5
   clear c_t5
   split at h
   ·cases h
   rename_i x hq
   obtain ⟨e, p1⟩ := x
   cases h
   obtain ⟨x1, I1⟩ := zta hq IA hn'
   have m1 := zx I1 [59]
   refine ⟨?_, I1.must _⟩
   clear hq
   rw [za] at x1
   simp [pob, toks, adv, zd, zn] at i1 i2 t1 t2 t3 t4 t5 x1 m1
   refine zb rfl rfl rfl (by simp) ?_
   rw [zc]
   simp [*, F119, zd, zn, pob, toks, zc, za]
  rw [if_neg (by rw [c_t5]; decide)] at h
  rw [c_t5] at t5
  clear c_t5
  have t6 := zz I [112, 114, 105, 110, 116]
  rw [zQ] at t6
  cases c_t6 : isF T [112, 114, 105, 110, 116] ⟨pa, pb, true⟩
  case true =>
   rw [if_pos c_t6] at h
   rw [c_t6] at t6
   have IA := I.adv _ c_t6
   clear c_t6
   split at h
   ·cases h
   rename_i x hq
   obtain ⟨e, p1⟩ := x
   cases h
   obtain ⟨x1, I1⟩ := zPa hq IA hn'
   have m1 := zx I1 [59]
   refine ⟨?_, I1.must _⟩
   clear hq
   simp [pob, toks, adv, zd, zn] at i1 i2 t1 t2 t3 t4 t5 t6 x1 m1
   refine zb rfl rfl rfl (by simp) ?_
   rw [zc]
   simp [*, F119, zd, zn, pob, toks, zc, za]
  rw [if_neg (by rw [c_t6]; decide)] at h
  rw [c_t6] at t6
  clear c_t6
  split at h
  ·cases h
  rename_i x hq
  obtain ⟨w, p1⟩ := x
  cases h
  obtain ⟨x1, I1⟩ := named_spec hq I hn'
  have m1 := zx I1 [59]
  refine ⟨?_, I1.must _⟩
  clear hq
  rw [zc] at x1
  simp [pob, toks, adv, zd, zn] at i1 i2 t1 t2 t3 t4 t5 t6 x1 m1
  refine zb rfl rfl rfl (by simp) ?_
  rw [zc]
  simp [*, F119, zd, zn, pob, toks, zc, za]
 ·have hdp : deepS d ⟨pa, pb, pd⟩ = ⟨pa, pb, pd⟩ := by unfold deepS; rw [if_neg h100]
  rw [hdp] at h I
  clear hdp I0
  replace h100 := eqn h100
  have i1 := is_spec I [105, 110, 116]
  have i2 := is_spec I [98, 111, 111, 108]
  cases c0 : (isF T [105, 110, 116] ⟨pa, pb, pd⟩ || isF T [98, 111, 111, 108] ⟨pa, pb, pd⟩)
  case true =>
   rw [if_pos c0] at h
   have ty := typed_spec I
   have I1 := I.typed
   generalize hty : zM T ⟨pa, pb, pd⟩ = tt at *
   obtain ⟨t, p1⟩ := tt
   simp only at h ty I1
   have tx := zVb I1 1
   have I2 := I1.text 1 (by decide)
   generalize htx : zy T 1 p1 = tt at *
   obtain ⟨s, p2⟩ := tt
   simp only at h tx I2
   have m1 := zx I2 [61]
   split at h
   ·cases h
   rename_i x hq
   obtain ⟨e, p3⟩ := x
   cases h
   obtain ⟨x1, I3⟩ := zta hq (I2.must _) hn'
   have m2 := zx I3 [59]
   refine ⟨?_, I3.must _⟩
   clear htx hty hq
   rw [za] at x1
   simp [pob, toks, adv, zd] at i1 i2 ty tx m1 m2 x1
   refine zb rfl rfl rfl (by simp) ?_
   rw [zc]
   cases c1 : isF T [105, 110, 116] ⟨pa, pb, pd⟩
   ·rw [c1] at c0 i1
    have c0 : isF T [98, 111, 111, 108] ⟨pa, pb, pd⟩ = true := c0
    rw [c0] at i2
    clear c0 c1
    simp [*, F119, zd, zn, pob, toks, zc, za]
   ·rw [c1] at i1
    clear c0 c1
    simp [*, F119, zd, zn, pob, toks, zc, za]
  rw [if_neg (by rw [c0]; decide)] at h
  simp only [Bool.or_eq_false_iff] at c0
  rw [c0.1] at i1
  rw [c0.2] at i2
  clear c0
  have t1 := zz I [105, 102]
  rw [zQ] at t1
  cases c_t1 : isF T [105, 102] ⟨pa, pb, pd⟩
  case true =>
   rw [if_pos c_t1] at h
   rw [c_t1] at t1
   have IA := I.adv _ c_t1
   clear c_t1
   split at h
   ·cases h
   rename_i x hq
   obtain ⟨e, p1⟩ := x
   simp only at h
   obtain ⟨x1, I1⟩ := zPa hq IA hn'
   split at h
   ·cases h
   rename_i x hr
   obtain ⟨l1, p2⟩ := x
   simp only at h
   obtain ⟨x2, I2⟩ := S.block (d + 1) _ l1 p2 hr I1 (by omega) (by omega)
   have te := zz I2 [101, 108, 115, 101]
   rw [zQ] at te
   cases ce : isF T [101, 108, 115, 101] p2
   case true =>
    rw [if_pos ce] at h
    rw [ce] at te
    split at h
    ·cases h
    rename_i x hs
    obtain ⟨l2, p3⟩ := x
    cases h
    obtain ⟨x3, I3⟩ := S.block (d + 1) _ l2 p3 hs (I2.adv _ ce) (by omega) (by omega)
    refine ⟨?_, I3⟩
    clear hq hr hs ce
    simp [pob, toks, adv, zd, zn] at i1 i2 t1 x1 x2 x3 te
    refine zb rfl rfl rfl (by simp) ?_
    rw [zc]
    simp [*, F119, zd, zn, pob, toks, zc, za]
   rw [if_neg (by rw [ce]; decide)] at h
   rw [ce] at te
   cases h
   refine ⟨?_, I2⟩
   clear hq hr ce
   simp [pob, toks, adv, zd, zn] at i1 i2 t1 x1 x2 te
   refine zb rfl rfl rfl (by simp) ?_
   rw [zc]
   simp [*, F119, zd, zn, pob, toks, zc, za]
  rw [if_neg (by rw [c_t1]; decide)] at h
  rw [c_t1] at t1
  clear c_t1
  have t2 := zz I [119, 104, 105, 108, 101]
  rw [zQ] at t2
  cases c_t2 : isF T [119, 104, 105, 108, 101] ⟨pa, pb, pd⟩
  case true =>
   rw [if_pos c_t2] at h
   rw [c_t2] at t2
   have IA := I.adv _ c_t2
   clear c_t2
   split at h
   ·cases h
   rename_i x hq
   obtain ⟨e, p1⟩ := x
   simp only at h
   obtain ⟨x1, I1⟩ := zPa hq IA hn'
   split at h
   ·cases h
   rename_i x hr
   obtain ⟨l1, p2⟩ := x
   cases h
   obtain ⟨x2, I2⟩ := S.block (d + 1) _ l1 p2 hr I1 (by omega) (by omega)
   refine ⟨?_, I2⟩
   clear hq hr
   simp [pob, toks, adv, zd, zn] at i1 i2 t1 t2 x1 x2
   refine zb rfl rfl rfl (by simp) ?_
   rw [zc]
   simp [*, F119, zd, zn, pob, toks, zc, za]
  rw [if_neg (by rw [c_t2]; decide)] at h
  rw [c_t2] at t2
  clear c_t2
  have t3 := zz I [98, 114, 101, 97, 107]
  rw [zQ] at t3
  cases c_t3 : isF T [98, 114, 101, 97, 107] ⟨pa, pb, pd⟩
  case true =>
   rw [if_pos c_t3] at h
   rw [c_t3] at t3
   have IA := I.adv _ c_t3
   clear c_t3
   cases h
   have m1 := zx IA [59]
   refine ⟨?_, IA.must _⟩
   simp [pob, toks, adv, zd, zn] at i1 i2 t1 t2 t3 m1
   refine zb rfl rfl rfl (by simp) ?_
   rw [zc]
   simp [*, F119, zd, zn, pob, toks, zc, za]
   exact ⟨rfl, rfl, rfl⟩
  rw [if_neg (by rw [c_t3]; decide)] at h
  rw [c_t3] at t3
  clear c_t3
  have t4 := zz I [99, 111, 110, 116, 105, 110, 117, 101]
  rw [zQ] at t4
  cases c_t4 : isF T [99, 111, 110, 116, 105, 110, 117, 101] ⟨pa, pb, pd⟩
  case true =>
   rw [if_pos c_t4] at h
   rw [c_t4] at t4
   have IA := I.adv _ c_t4
   clear c_t4
   cases h
   have m1 := zx IA [59]
   refine ⟨?_, IA.must _⟩
   simp [pob, toks, adv, zd, zn] at i1 i2 t1 t2 t3 t4 m1
   refine zb rfl rfl rfl (by simp) ?_
   rw [zc]
   simp [*, F119, zd, zn, pob, toks, zc, za]
   exact ⟨rfl, rfl, rfl⟩
  rw [if_neg (by rw [c_t4]; decide)] at h
  rw [c_t4] at t4
  clear c_t4
  have t5 := zz I [114, 101, 116, 117, 114, 110]
  rw [zQ] at t5
  cases c_t5 : isF T [114, 101, 116, 117, 114, 110] ⟨pa, pb, pd⟩
  case true =>
   rw [if_pos c_t5] at h
   rw [c_t5] at t5
   have IA := I.adv _ c_t5
   clear c_t5
   split at h
   ·cases h
   rename_i x hq
   obtain ⟨e, p1⟩ := x
   cases h
   obtain ⟨x1, I1⟩ := zta hq IA hn'
   have m1 := zx I1 [59]
   refine ⟨?_, I1.must _⟩
   clear hq
   rw [za] at x1
   simp [pob, toks, adv, zd, zn] at i1 i2 t1 t2 t3 t4 t5 x1 m1
   refine zb rfl rfl rfl (by simp) ?_
   rw [zc]
   simp [*, F119, zd, zn, pob, toks, zc, za]
  rw [if_neg (by rw [c_t5]; decide)] at h
  rw [c_t5] at t5
  clear c_t5
  have t6 := zz I [112, 114, 105, 110, 116]
  rw [zQ] at t6
  cases c_t6 : isF T [112, 114, 105, 110, 116] ⟨pa, pb, pd⟩
  case true =>
   rw [if_pos c_t6] at h
   rw [c_t6] at t6
   have IA := I.adv _ c_t6
   clear c_t6
   split at h
   ·cases h
   rename_i x hq
   obtain ⟨e, p1⟩ := x
   cases h
   obtain ⟨x1, I1⟩ := zPa hq IA hn'
   have m1 := zx I1 [59]
   refine ⟨?_, I1.must _⟩
   clear hq
   simp [pob, toks, adv, zd, zn] at i1 i2 t1 t2 t3 t4 t5 t6 x1 m1
   refine zb rfl rfl rfl (by simp) ?_
   rw [zc]
   simp [*, F119, zd, zn, pob, toks, zc, za]
  rw [if_neg (by rw [c_t6]; decide)] at h
  rw [c_t6] at t6
  clear c_t6
  split at h
  ·cases h
  rename_i x hq
  obtain ⟨w, p1⟩ := x
  cases h
  obtain ⟨x1, I1⟩ := named_spec hq I hn'
  have m1 := zx I1 [59]
  refine ⟨?_, I1.must _⟩
  clear hq
  rw [zc] at x1
  simp [pob, toks, adv, zd, zn] at i1 i2 t1 t2 t3 t4 t5 t6 x1 m1
  refine zb rfl rfl rfl (by simp) ?_
  rw [zc]
  simp [*, F119, zd, zn, pob, toks, zc, za]
theorem sspec_all (T : List Tok) : ∀ n k, k <= n -> SSpec T k
 | 0, k, h => by
  have : k = 0 := by omega
  subst this
  exact ⟨fun _ _ _ _ h => by simp [stmtF] at h, block_of (fun k hk => absurd hk (by omega))⟩
 | n + 1, k, h => by
  have ih := sspec_all T n
  rcases Nat.lt_or_ge k (n + 1) with h1 | h1
  ·exact ih k (by omega)
  ·have : k = n + 1 := by omega
   subst this
   exact ⟨stmt_of (ih n (Nat.le_refl n)), block_of (fun k hk => ih k (by omega))⟩
theorem sspec (T : List Tok) (n : Nat) : SSpec T n := sspec_all T n n (Nat.le_refl n)
end PE.U

namespace PE.U
open Go PE
theorem zmc (sz : Nat) (l : List PV) (x : PV) : acc sz (l ++ [x]) = .slice .own sz (l ++ [x]) := acc_ne (by simp)
@[simp] theorem isOwn_acc_snoc (sz : Nat) (l : List PV) (x : PV) : isOwn (acc sz (l ++ [x])) = some (sz, l ++ [x]) := by rw [zmc]; rfl
def zaa (T : List Tok) : Nat -> List Par -> Bool -> PS -> Option (List Par × PS)
 | 0, _, _, _ => none
 | n + 1, l, first, p =>
  if first || isF T [44] p then
   if zk (if first then p else adv p) then some (l, if first then p else adv p)
   else zaa T n (l ++ [⟨(zy T 1 (zM T (if first then p else adv p)).2).1, (zM T (if first then p else adv p)).1⟩]) false (zy T 1 (zM T (if first then p else adv p)).2).2
  else some (l, p)
def zZa (T : List Tok) (n : Nat) (t : Int) (s : List UInt8) (p : PS) : Option (Func × PS) :=
 if isF T [41] (zA T [40] p) then
  match zca T n 1 [] (zA T [123] (adv (zA T [40] p))) with
  | none => none
  | some q => some (⟨s, t, [], q.1⟩, q.2)
 else match zaa T n [] true (zA T [40] p) with
  | none => none
  | some r => match zca T n 1 [] (zA T [123] (zA T [41] r.2)) with
   | none => none
   | some q => some (⟨s, t, r.1, q.1⟩, q.2)
structure FS where
 m : Nat
 l : List Par
 f : Bool
 p : PS
theorem paramsF_inv {T : List Tok} : ∀ m l f p v p', zaa T m l f p = some (v, p') -> Inv1 T p -> Inv1 T p' := by
 intro m
 induction m with
 | zero => intro l f p v p' h; simp [zaa] at h
 | succ m ih =>
  intro l f p v p' h I
  simp only [zaa] at h
  have fin : ∀ q : PS, Inv1 T q -> (if zk q then some (l, q) else zaa T m (l ++ [⟨(zy T 1 (zM T q).2).1, (zM T q).1⟩]) false (zy T 1 (zM T q).2).2) = some (v, p') -> Inv1 T p' := by
   intro q Iq h
   split at h
   ·cases h; exact Iq
   ·exact ih _ _ _ _ _ h (Iq.typed.text 1 (by decide))
  cases f
  ·cases c2 : isF T [44] p
   ·rw [c2] at h
    simp at h
    exact h.2 ▸ I
   ·rw [c2] at h
    simp at h
    exact fin _ (I.adv _ c2) h
  ·simp at h
   exact fin _ I h
set_option maxHeartbeats 4000000 in
theorem zic {T : List Tok} {n : Nat} {t : Int} {s : List UInt8} {p p' : PS} {v : Func} (h : zZa T n t s p = some (v, p')) (I : Inv1 T p) (hn : n <= 999999980) : zj E 84 [.ptr 0 0 0, .int .i64 t, .str s] (pob T p) = some (.ret (zD v), pob T p') /\ Inv1 T p' := by
 unfold zZa at h
 have m1 := zx I [40]
 have I1 := I.must [40]
 have t1 := zz I1 [41]
 rw [zQ] at t1
 cases c1 : isF T [41] (zA T [40] p)
 case true =>
  rw [if_pos c1] at h
  rw [c1] at t1
  split at h
  ·cases h
  rename_i q hq
  obtain ⟨l, p2⟩ := q
  cases h
  obtain ⟨x1, I3⟩ := (sspec T n).block 1 _ l p2 hq (I1.adv _ c1) (by omega) (by omega)
  refine ⟨?_, I3⟩
  refine zb rfl rfl rfl (by simp) ?_
  clear hq c1
  simp [zn] at x1
  simp [*, F84, zD, parsV, zn]
 rw [if_neg (by rw [c1]; decide)] at h
 rw [c1] at t1
 split at h
 ·cases h
 rename_i r hr
 obtain ⟨ps, p1⟩ := r
 simp only at h
 split at h
 ·cases h
 rename_i q hq
 obtain ⟨l, p2⟩ := q
 cases h
 have Ip := paramsF_inv _ _ _ _ _ _ hr I1
 have m2 := zx Ip [41]
 obtain ⟨x1, I3⟩ := (sspec T n).block 1 _ l p2 hq (Ip.must [41]) (by omega) (by omega)
 refine ⟨?_, I3⟩
 refine zb rfl rfl rfl (by simp) ?_
 clear hq c1
 simp [zn] at x1
 simp [*, F84, zD, parsV, zn]
 refine zva K84_0 B84_0 (fun c : FS => c.m) (fun c => [(8, .bool c.f)]) (fun c => [(7, .cells [.str s, .int .i64 t, acc 2 (c.l.map encPar), .slice .fit 6 []])]) (fun c => pob T c.p) (fun c => c.m <= n /\ c.l.length + c.m <= n /\ zaa T c.m c.l c.f c.p = some (ps, p1) /\ Inv1 T c.p) ⟨n, [], true, zA T [40] p⟩ ⟨by simp, by simp, by simp, Nat.le_refl _, by simp, hr, I1⟩ ?_
 rintro ⟨m, l2, f, p⟩ s1 ⟨hm, hlm, hr, I⟩ g1 g2 g3 g4 g5
 simp at g1 g2 g3 g4 g5 hm hlm hr I
 clear t1 I1 I3 Ip
 cases m with
 | zero => simp [zaa] at hr
 | succ m =>
  simp only [zaa] at hr
  have hroom : (l2.length + 1) * 24 <= zG := by simp only [zG]; omega
  have t2 := zz I [44]
  rw [zQ] at t2
  have key : ∀ q : PS, Inv1 T q -> (if zk q then some (l2, q) else zaa T m (l2 ++ [⟨(zy T 1 (zM T q).2).1, (zM T q).1⟩]) false (zy T 1 (zM T q).2).2) = some (ps, p1) →
    (zk q = true /\ l2 = ps /\ q = p1) \/ (zk q = false /\ ∃ ty pt tx p3, zj E 79 [.ptr 0 0 0] (pob T q) = some (.ret (.int .i64 ty), pob T pt) /\ zj E 80 [.ptr 0 0 0, .int .i64 1] (pob T pt) = some (.ret (.str tx), pob T p3) /\ Inv1 T p3 /\ zaa T m (l2 ++ [⟨tx, ty⟩]) false p3 = some (ps, p1)) := by
   intro q Iq h
   cases ho : zk q
   ·right
    rw [if_neg (by rw [ho]; decide)] at h
    exact ⟨rfl, _, _, _, _, typed_spec Iq, zVb Iq.typed 1, Iq.typed.text 1 (by decide), h⟩
   ·left
    rw [if_pos ho] at h
    cases h
    exact ⟨rfl, rfl, rfl⟩
  cases f
  ·cases c2 : isF T [44] p
   ·rw [c2] at hr t2
    simp at hr
    obtain ⟨rfl, rfl⟩ := hr
    clear key c2
    simp [*]
   ·have IA := I.adv _ c2
    rw [c2] at hr t2
    simp at hr
    have ho := zCb IA
    rcases key _ IA hr with ⟨k1, rfl, rfl⟩ | ⟨k1, ty, pt, tx, p3, x2, x3, I3, hr2⟩
    ·rw [k1] at ho
     clear key c2 hr
     simp [*]
    ·rw [k1] at ho
     clear key c2 hr k1
     simp [*]
     exact ⟨⟨m, l2 ++ [⟨tx, ty⟩], false, p3⟩, Nat.lt_succ_self m, rfl, by simp [encPar, zmc], rfl, by simp only; omega, by simp only [List.length_append, List.length_cons, List.length_nil]; omega, hr2, I3⟩
  ·simp at hr
   have ho := zCb I
   rcases key _ I hr with ⟨k1, rfl, rfl⟩ | ⟨k1, ty, pt, tx, p3, x2, x3, I3, hr2⟩
   ·rw [k1] at ho
    clear key hr t2
    simp [*]
   ·rw [k1] at ho
    clear key hr k1 t2
    simp [*]
    exact ⟨⟨m, l2 ++ [⟨tx, ty⟩], false, p3⟩, Nat.lt_succ_self m, rfl, by simp [encPar, zmc], rfl, by simp only; omega, by simp only [List.length_append, List.length_cons, List.length_nil]; omega, hr2, I3⟩
end PE.U

namespace PE.U
open Go PE
def zgc (T : List Tok) : Nat -> List PArr -> List Func -> PS -> Option (Prog × PS)
 | 0, _, _, _ => none
 | n + 1, ars, fs, p =>
  if zk p then some (⟨ars, fs⟩, p)
  else if (tk T p.at').kind = 3 then some (⟨ars, fs⟩, p)
  else if (zM T p).1 = 1 /\ fs = [] /\ isF T [91] (zy T 1 (zM T p).2).2 = true then
   zgc T n (ars ++ [⟨(zy T 1 (zM T p).2).1, zuc (zy T 0 (adv (zy T 1 (zM T p).2).2)).1⟩]) fs (zA T [59] (zA T [93] (zy T 0 (adv (zy T 1 (zM T p).2).2)).2))
  else match zZa T n (zM T p).1 (zy T 1 (zM T p).2).1 (zy T 1 (zM T p).2).2 with
   | none => none
   | some q => zgc T n ars (fs ++ [q.1]) q.2
structure GS where
 m : Nat
 ars : List PArr
 fs : List Func
 p : PS
theorem text0_num {T : List Tok} {p : PS} (I : Inv1 T p) : digs (zy T 0 p).1 = true /\ (zy T 0 p).1.length < 1000000 := by
 unfold zy
 split
 ·exact ⟨rfl, by simp⟩
 ·split
  ·rename_i h
   refine I.num _ ?_ h
   rw [<- zjd I.lt]; exact List.getElem_mem I.lt
  ·exact ⟨rfl, by simp⟩
theorem progF_inv {T : List Tok} : ∀ m ars fs p v p', m <= 999999980 -> zgc T m ars fs p = some (v, p') -> Inv1 T p -> Inv1 T p' := by
 intro m
 induction m with
 | zero => intro ars fs p v p' _ h; simp [zgc] at h
 | succ m ih =>
  intro ars fs p v p' hm h I
  simp only [zgc] at h
  have I2 := I.typed.text 1 (by decide)
  split at h
  ·cases h; exact I
  ·split at h
   ·cases h; exact I
   ·split at h
    ·rename_i hc
     exact ih _ _ _ _ _ (by omega) h ((((I2.adv _ hc.2.2).text 0 (by decide)).must _).must _)
    ·split at h
     ·cases h
     ·rename_i q hq
      exact ih _ _ _ _ _ (by omega) h (zic hq I2 (by omega)).2
set_option maxHeartbeats 4000000 in
theorem prog_spec {T : List Tok} {n : Nat} {p p' : PS} {v : Prog} (h : zgc T n [] [] p = some (v, p')) (I : Inv1 T p) (hn : n <= 999999980) : zj E 47 [.ptr 0 0 0] (pob T p) = some (.ret (zZ v), pob T p') /\ Inv1 T p' := by
 refine ⟨?_, progF_inv _ _ _ _ _ _ hn h I⟩
 refine zb rfl rfl rfl (by simp) ?_
 simp [F47, zZ, zhc, funcs]
 refine zva K47_0 B47_0 (fun c : GS => c.m) (fun c => []) (fun c => [(3, .cells [acc 2 (c.ars.map zha), acc 4 (c.fs.map zD)])]) (fun c => pob T c.p) (fun c => c.m <= n /\ c.ars.length + c.m <= n /\ c.fs.length + c.m <= n /\ zgc T c.m c.ars c.fs c.p = some (v, p') /\ Inv1 T c.p) ⟨n, [], [], p⟩ ⟨by simp, by simp, by simp, Nat.le_refl _, by simp, by simp, h, I⟩ ?_
 clear h I
 rintro ⟨m, ars, fs, p⟩ s1 ⟨hm, hla, hlf, hr, I⟩ g1 g2 g3 g4 g5
 simp at g1 g2 g4 g5 hm hla hlf hr I
 clear g3
 cases m with
 | zero => simp [zgc] at hr
 | succ m =>
  simp only [zgc] at hr
  have hrm1 : (ars.length + 1) * 24 <= zG := by simp only [zG]; omega
  have hrm2 : (fs.length + 1) * 72 <= zG := by simp only [zG]; omega
  have ho := zCb I
  have hlt := I.lt
  have hg := tk_get hlt
  have hg' := zjd hlt
  cases o : zk p
  case true =>
   rw [if_pos o] at hr
   rw [o] at ho
   cases hr
   clear o
   simp [*]
  rw [if_neg (by rw [o]; decide)] at hr
  rw [o] at ho
  clear o
  by_cases hk : (tk T p.at').kind = 3
  ·rw [if_pos hk] at hr
   replace hk := eqp hk
   cases hr
   simp [pob, toks] at ho g5
   simp [*, pob, toks, zl]
  rw [if_neg hk] at hr
  replace hk := eqn hk
  have ty := typed_spec I
  have I1 := I.typed
  generalize zM T p = tt at *
  obtain ⟨t, p1⟩ := tt
  simp only at ty I1 hr
  have tx := zVb I1 1
  have I2 := I1.text 1 (by decide)
  generalize zy T 1 p1 = tt at *
  obtain ⟨s, p2⟩ := tt
  simp only at tx I2 hr
  have t2 := zz I2 [91]
  rw [zQ] at t2
  by_cases hc : t = 1 /\ fs = [] /\ isF T [91] p2 = true
  ·rw [if_pos hc] at hr
   obtain ⟨rfl, rfl, hc⟩ := hc
   have IA := I2.adv _ hc
   rw [hc] at t2
   have x1 := zVb IA 0
   obtain ⟨n1, n2⟩ := text0_num IA
   have I3 := IA.text 0 (by decide)
   generalize zy T 0 (adv p2) = tt at *
   obtain ⟨x, p3⟩ := tt
   simp only at x1 I3 hr n1 n2
   have vv := value_spec' x [] n1 (by omega)
   have m1 := zx I3 [93]
   have m2 := zx (I3.must [93]) [59]
   have I4 := (I3.must [93]).must [59]
   clear hc
   simp [pob, toks] at ho g5 ty tx t2 x1 m1 m2
   simp [*, pob, toks, zl]
   exact ⟨⟨m, ars ++ [⟨s, zuc x⟩], [], _⟩, Nat.lt_succ_self m, by simp [zha, zmc], ⟨rfl, rfl, rfl⟩, by simp only; omega, by simp only [List.length_append, List.length_cons, List.length_nil]; omega, by simp only [List.length_nil]; omega, hr, I4⟩
  ·rw [if_neg hc] at hr
   split at hr
   ·cases hr
   rename_i q hq
   obtain ⟨fn, p3⟩ := q
   simp only at hr
   obtain ⟨x1, I3⟩ := zic hq I2 (by omega)
   clear hq
   have hs := is_spec I2 [91]
   simp [zD, parsV, zn] at x1
   simp [pob, toks] at ho g5 ty tx t2 x1
   by_cases h1 : t = 1
   ·by_cases h2 : fs = []
    ·have h3 : isF T [91] p2 = false := by
      cases h3 : isF T [91] p2
      ·rfl
      ·exact absurd ⟨h1, h2, h3⟩ hc
     rw [h3] at t2
     subst h1 h2
     clear hc h3 hs hrm2
     have hrm2 : 72 <= zG := by simp only [zG]; omega
     simp at g4 hr
     simp [*, pob, toks, zl]
     exact ⟨⟨m, ars, [fn], p3⟩, Nat.lt_succ_self m, ⟨rfl, by simp [zD, parsV, zn]⟩, ⟨rfl, rfl, rfl⟩, by simp only; omega, by simp only; omega, by simp only [List.length_cons, List.length_nil] at hlf ⊢; omega, hr, I3⟩
    ·have h2' : ¬ fs.length = 0 := by simpa using h2
     clear hc h2 t2 hs
     subst h1
     simp [*, pob, toks, zl]
     exact ⟨⟨m, ars, fs ++ [fn], p3⟩, Nat.lt_succ_self m, ⟨rfl, by simp [zD, parsV, zn, zmc]⟩, ⟨rfl, rfl, rfl⟩, by simp only; omega, by simp only; omega, by simp only [List.length_append, List.length_cons, List.length_nil]; omega, hr, I3⟩
   ·clear hc t2 hs
    replace h1 := eqn h1
    simp [*, pob, toks, zl]
    exact ⟨⟨m, ars, fs ++ [fn], p3⟩, Nat.lt_succ_self m, ⟨rfl, by simp [zD, parsV, zn, zmc]⟩, ⟨rfl, rfl, rfl⟩, by simp only; omega, by simp only; omega, by simp only [List.length_append, List.length_cons, List.length_nil]; omega, hr, I3⟩
end PE.U

namespace PE.U
open Go PE
def left (T : List Tok) (p : PS) : Nat := T.length - p.at'
def Fw (p q : PS) : Prop := p.at' <= q.at' /\ (zk p = true -> zk q = true)
theorem Fw.refl (p : PS) : Fw p p := ⟨Nat.le_refl _, id⟩
theorem Fw.trans {p q r : PS} (a : Fw p q) (b : Fw q r) : Fw p r := ⟨Nat.le_trans a.1 b.1, fun h => b.2 (a.2 h)⟩
theorem zN (p : PS) : Fw p (adv p) := ⟨Nat.le_succ _, id⟩
theorem zq (T : List Tok) (s : List UInt8) (p : PS) : Fw p (zA T s p) := by
 unfold zA
 split
 ·exact ⟨Nat.le_succ _, id⟩
 ·split
  ·exact Fw.refl _
  ·exact ⟨Nat.le_refl _, fun _ => rfl⟩
theorem zQb (T : List Tok) (k : Int) (p : PS) : Fw p (zy T k p).2 := by
 unfold zy
 split
 ·exact Fw.refl _
 ·split
  ·exact ⟨Nat.le_succ _, id⟩
  ·exact ⟨Nat.le_refl _, fun _ => rfl⟩
theorem fw_typed (T : List Tok) (p : PS) : Fw p (zM T p).2 := by
 unfold zM
 split
 ·exact zN p
 ·exact zq T _ p
theorem fw_deepF (d : Int) (p : PS) : Fw p (deepF d p) := by
 unfold deepF
 split
 ·split
  ·exact Fw.refl _
  ·exact ⟨Nat.le_refl _, fun _ => by simp [zk]⟩
 ·exact Fw.refl _
theorem fw_deepS (d : Int) (p : PS) : Fw p (deepS d p) := by
 unfold deepS
 split
 ·exact ⟨Nat.le_refl _, fun _ => by simp [zk]⟩
 ·exact Fw.refl _
theorem zWa {T : List Tok} {p : PS} {s : List UInt8} (I : Inv1 T p) (h : isF T s p = true) : left T (adv p) + 1 = left T p := by
 have := I.lt
 unfold left adv; simp only; omega
theorem zqa {T : List Tok} {p q : PS} (h : Fw p q) : left T q <= left T p := by
 unfold left; have := h.1; omega
structure Enough (T : List Tok) (n : Nat) : Prop where
 primary : ∀ d p, Inv1 T p -> 64 * left T p + 1 <= n -> ∃ v p', zxa T n d p = some (v, p') /\ Inv1 T p' /\ Fw p p'
 unary : ∀ d p, Inv1 T p -> 64 * left T p + 2 <= n -> ∃ v p', zJb T n d p = some (v, p') /\ Inv1 T p' /\ Fw p p'
 expr : ∀ (k : Nat) L d p, Inv1 T p -> L = 11 - (k : Int) -> k <= 10 -> 64 * left T p + 3 + 2 * k <= n -> ∃ v p', zsa T n L d p = some (v, p') /\ Inv1 T p' /\ Fw p p'
 loop : ∀ (k : Nat) L d a p, Inv1 T p -> L = 11 - (k : Int) -> 1 <= k -> k <= 10 -> 64 * left T p + 2 + 2 * k <= n -> ∃ v p', zU T n L d a p = some (v, p') /\ Inv1 T p' /\ Fw p p'
 args : ∀ d p, Inv1 T p -> 64 * left T p + 26 <= n -> ∃ v p', zhd T n d p = some (v, p') /\ Inv1 T p' /\ Fw p p'
 al : ∀ d l (f : Bool) p, Inv1 T p -> 64 * left T p + 24 + f.toNat <= n -> ∃ v p', zP T n d l f p = some (v, p') /\ Inv1 T p' /\ Fw p p'
theorem enough_of {T : List Tok} {n : Nat} (E : Enough T n) : Enough T (n + 1) := by
 refine ⟨?_, ?_, ?_, ?_, ?_, ?_⟩
 ·intro d p I h
  simp only [zxa]
  split
  ·exact ⟨_, _, rfl, I, Fw.refl _⟩
  split
  ·rename_i hc
   have hl := zWa I hc
   obtain ⟨v, p', e, I', F⟩ := E.expr 10 1 (d + 1) (adv p) (I.adv _ hc) (by omega) (by omega) (by omega)
   rw [e]
   exact ⟨_, _, rfl, I'.must _, ((zN p).trans F).trans (zq _ _ _)⟩
  split
  ·rename_i hc; exact ⟨_, _, rfl, I.adv _ hc, zN p⟩
  split
  ·rename_i hc; exact ⟨_, _, rfl, I.adv _ hc, zN p⟩
  split
  ·rename_i hc; exact ⟨_, _, rfl, ((I.adv _ hc).must _).must _, ((zN p).trans (zq _ _ _)).trans (zq _ _ _)⟩
  split
  ·rename_i hc; exact ⟨_, _, rfl, I.next (by rw [hc]; decide) _ _, zN p⟩
  have I1 := I.text 1 (by decide)
  have F1 := zQb T 1 p
  have hl1 := zqa (T := T) F1
  split
  ·rename_i hc
   have hl := zWa I1 hc
   obtain ⟨v, p', e, I', F⟩ := E.args (d + 1) _ (I1.adv _ hc) (by omega)
   rw [e]
   exact ⟨_, _, rfl, I', (F1.trans (zN _)).trans F⟩
  split
  ·rename_i hc
   have hl := zWa I1 hc
   obtain ⟨v, p', e, I', F⟩ := E.expr 10 1 (d + 1) _ (I1.adv _ hc) (by omega) (by omega) (by omega)
   rw [e]
   exact ⟨_, _, rfl, I'.must _, ((F1.trans (zN _)).trans F).trans (zq _ _ _)⟩
  exact ⟨_, _, rfl, I1, F1⟩
 ·intro d p I h
  simp only [zJb]
  have I1 := I.deepF d
  have F1 := fw_deepF d p
  have hl1 := zqa (T := T) F1
  cases hu : unF T (deepF d p) with
  | none =>
   simp only
   obtain ⟨v, p', e, I', F⟩ := E.primary d _ I1 (by omega)
   exact ⟨v, p', e, I', F1.trans F⟩
  | some i =>
   simp only
   have hi : isF T (zOb ((i + 20 : Nat) : Int)) (deepF d p) = true := (unF_get hu).2.1
   have hl := zWa I1 hi
   split
   ·have F2 := zq T [40] (adv (deepF d p))
    have hl2 := zqa (T := T) F2
    obtain ⟨v, p', e, I', F⟩ := E.expr 10 1 (d + 1) _ ((I1.adv _ hi).must [40]) (by omega) (by omega) (by omega)
    rw [e]
    exact ⟨_, _, rfl, I'.must _, (((F1.trans (zN _)).trans F2).trans F).trans (zq _ _ _)⟩
   ·obtain ⟨v, p', e, I', F⟩ := E.unary (d + 1) _ (I1.adv _ hi) (by omega)
    rw [e]
    exact ⟨_, _, rfl, I', (F1.trans (zN _)).trans F⟩
 ·intro k L d p I hL hk h
  simp only [zsa]
  split
  ·exact E.unary d p I (by omega)
  ·rename_i h10
   obtain ⟨v, p', e, I', F⟩ := E.expr (k - 1) (L + 1) d p I (by omega) (by omega) (by omega)
   rw [e]
   have hl := zqa (T := T) F
   obtain ⟨v2, p2, e2, I2, F2⟩ := E.loop k L d v p' I' hL (by omega) hk (by omega)
   exact ⟨v2, p2, e2, I2, F.trans F2⟩
 ·intro k L d a p I hL hk1 hk h
  simp only [zU]
  split
  ·exact ⟨_, _, rfl, I, Fw.refl _⟩
  ·rename_i hne
   obtain ⟨s, hs⟩ := opF_pos hne
   have hl := zWa I hs
   obtain ⟨v, p', e, I', F⟩ := E.expr (k - 1) (L + 1) d (adv p) (I.adv _ hs) (by omega) (by omega) (by omega)
   rw [e]
   have hl2 := zqa (T := T) F
   obtain ⟨v2, p2, e2, I2, F2⟩ := E.loop k L d _ p' I' hL hk1 hk (by omega)
   exact ⟨v2, p2, e2, I2, ((zN p).trans F).trans F2⟩
 ·intro d p I h
  simp only [zhd]
  split
  ·rename_i hc; exact ⟨_, _, rfl, I.adv _ hc, zN p⟩
  ·obtain ⟨v, p', e, I', F⟩ := E.al d [] true p I (by simp; omega)
   rw [e]
   exact ⟨_, _, rfl, I'.must _, F.trans (zq _ _ _)⟩
 ·intro d l f p I h
  simp only [zP]
  have fin : ∀ q : PS, Inv1 T q -> Fw p q -> 64 * left T q + 24 <= n -> ∃ v p', (if zk q then some (l, q) else match zsa T n 1 d q with | none => none | some x => zP T n d (l ++ [x.1]) false x.2) = some (v, p') /\ Inv1 T p' /\ Fw p p' := by
   intro q Iq Fq hq
   split
   ·exact ⟨_, _, rfl, Iq, Fq⟩
   ·obtain ⟨v, p', e, I', F⟩ := E.expr 10 1 d q Iq (by omega) (by omega) (by omega)
    rw [e]
    have hl := zqa (T := T) F
    obtain ⟨v2, p2, e2, I2, F2⟩ := E.al d (l ++ [v]) false p' I' (by simp; omega)
    exact ⟨v2, p2, e2, I2, (Fq.trans F).trans F2⟩
  cases f
  ·cases c2 : isF T [44] p
   ·exact ⟨l, p, rfl, I, Fw.refl _⟩
   ·have hl := zWa I c2
    replace h : 64 * left T p + 24 <= n + 1 := by simpa using h
    have hh := fin (adv p) (I.adv _ c2) (zN p) (by omega)
    exact hh
  ·simp at h
   have hh := fin p I (Fw.refl _) (by omega)
   exact hh
theorem enough (T : List Tok) : ∀ n, Enough T n
 | 0 => ⟨fun _ _ _ h => by omega, fun _ _ _ h => by omega, fun _ _ _ _ _ _ _ h => by omega, fun _ _ _ _ _ _ _ _ _ h => by omega, fun _ _ _ h => by omega, fun _ _ _ _ _ h => by omega⟩
 | n + 1 => enough_of (enough T n)
end PE.U

namespace PE.U
open Go PE
theorem zub {T : List Tok} {n : Nat} {p : PS} (I : Inv1 T p) (h : 64 * left T p + 23 <= n) : ∃ v p', zsa T n 1 1 p = some (v, p') /\ Inv1 T p' /\ Fw p p' :=
 (enough T n).expr 10 1 1 p I (by omega) (by omega) (by omega)
theorem zqd {T : List Tok} {n : Nat} {p : PS} (I : Inv1 T p) (h : 64 * left T p + 23 <= n) : ∃ v p', zHb T n p = some (v, p') /\ Inv1 T p' /\ Fw p p' := by
 unfold zHb
 have hl := zqa (T := T) (zq T [40] p)
 obtain ⟨v, p', e, I', F⟩ := zub (n := n) (I.must [40]) (by omega)
 rw [e]
 exact ⟨_, _, rfl, I'.must _, ((zq _ _ _).trans F).trans (zq _ _ _)⟩
def Go1 (p q : PS) : Prop := p.at' < q.at' \/ zk q = true
theorem text_go {T : List Tok} {k : Int} {p : PS} : Go1 p (zy T k p).2 := by
 unfold zy
 split
 ·rename_i h; exact Or.inr h
 ·split
  ·exact Or.inl (Nat.lt_succ_self _)
  ·exact Or.inr (by simp [zk])
theorem must_go {T : List Tok} {s : List UInt8} {p : PS} : Go1 p (zA T s p) := by
 unfold zA
 split
 ·exact Or.inl (Nat.lt_succ_self _)
 ·split
  ·rename_i h; exact Or.inr (by simp [zk, h])
  ·exact Or.inr (by simp [zk])
theorem typed_go {T : List Tok} {p : PS} : Go1 p (zM T p).2 := by
 unfold zM
 split
 ·exact Or.inl (Nat.lt_succ_self _)
 ·exact must_go
theorem adv_go (p : PS) : Go1 p (adv p) := Or.inl (Nat.lt_succ_self _)
theorem Go1.fw {p q r : PS} (h : Go1 p q) (f : Fw q r) : Go1 p r := by
 rcases h with h | h
 ·exact Or.inl (Nat.lt_of_lt_of_le h f.1)
 ·exact Or.inr (f.2 h)
theorem Fw.go {p q r : PS} (f : Fw p q) (h : Go1 q r) : Go1 p r := by
 rcases h with h | h
 ·exact Or.inl (Nat.lt_of_le_of_lt f.1 h)
 ·exact Or.inr h
theorem named_enough {T : List Tok} {n : Nat} {p : PS} (I : Inv1 T p) (h : 64 * left T p + 26 <= n) : ∃ v p', zbd T n p = some (v, p') /\ Inv1 T p' /\ Fw p p' /\ Go1 p p' := by
 unfold zbd
 have I1 := I.text 1 (by decide)
 have F1 := zQb T 1 p
 have G1 := text_go (T := T) (k := 1) (p := p)
 have hl1 := zqa (T := T) F1
 split
 ·rename_i hc
  have hl := zWa I1 hc
  obtain ⟨v, p', e, I', F⟩ := (enough T n).args 2 _ (I1.adv _ hc) (by omega)
  rw [e]
  exact ⟨_, _, rfl, I', (F1.trans (zN _)).trans F, G1.fw ((zN _).trans F)⟩
 split
 ·rename_i hc
  have hl := zWa I1 hc
  obtain ⟨v, p', e, I', F⟩ := zub (n := n) (I1.adv _ hc) (by omega)
  rw [e]
  simp only
  have F2 := (zq T [93] p').trans (zq T [61] _)
  have hl2 := zqa (T := T) F
  have hl3 := zqa (T := T) F2
  obtain ⟨v2, p2, e2, I2, F3⟩ := zub (n := n) ((I'.must [93]).must [61]) (by omega)
  rw [e2]
  exact ⟨_, _, rfl, I2, (((F1.trans (zN _)).trans F).trans F2).trans F3, G1.fw ((((zN _).trans F).trans F2).trans F3)⟩
 ·have F2 := zq T [61] (zy T 1 p).2
  have hl3 := zqa (T := T) F2
  obtain ⟨v2, p2, e2, I2, F3⟩ := zub (n := n) (I1.must [61]) (by omega)
  rw [e2]
  exact ⟨_, _, rfl, I2, (F1.trans F2).trans F3, G1.fw (F2.trans F3)⟩
structure EnoughS (T : List Tok) (n : Nat) : Prop where
 stmt : ∀ d p, Inv1 T p -> 64 * left T p + 28 <= n -> ∃ v p', stmtF T n d p = some (v, p') /\ Inv1 T p' /\ Fw p p' /\ Go1 p p'
 block : ∀ d l p, Inv1 T p -> 64 * left T p + 30 <= n -> ∃ v p', zca T n d l p = some (v, p') /\ Inv1 T p' /\ Fw p p'
 over : ∀ d l p, Inv1 T p -> 1 <= n -> zk p = true -> ∃ v p', zca T n d l p = some (v, p') /\ Inv1 T p' /\ Fw p p'
theorem enoughS_of {T : List Tok} {n : Nat} (E : EnoughS T n) : EnoughS T (n + 1) := by
 refine ⟨?_, ?_, ?_⟩
 ·intro d p I0 h
  simp only [stmtF]
  have I := I0.deepS d
  have F0 := fw_deepS d p
  have hl0 := zqa (T := T) F0
  generalize deepS d p = q at *
  have fin : ∀ r, Fw q r -> Go1 q r -> Fw p r /\ Go1 p r := fun r a b => ⟨F0.trans a, F0.go b⟩
  split
  ·have G1 := typed_go (T := T) (p := q)
   have F1 := ((fw_typed T q).trans (zQb T 1 _)).trans (zq T [61] _)
   have hl := zqa (T := T) F1
   obtain ⟨v, p', e, I', F⟩ := zub (n := n) ((I.typed.text 1 (by decide)).must [61]) (by omega)
   rw [e]
   have := fin _ ((F1.trans F).trans (zq T [59] _)) (G1.fw ((((zQb T 1 _).trans (zq T [61] _)).trans F).trans (zq T [59] _)))
   exact ⟨_, _, rfl, I'.must _, this.1, this.2⟩
  split
  ·rename_i hc
   have hl := zWa I hc
   obtain ⟨v, p', e, I', F⟩ := zqd (n := n) (I.adv _ hc) (by omega)
   rw [e]
   simp only
   have F2 := F.trans (zq T [123] p')
   have hl2 := zqa (T := T) F2
   obtain ⟨v2, p2, e2, I2, F3⟩ := E.block (d + 1) [] _ (I'.must [123]) (by omega)
   rw [e2]
   simp only
   have hl3 := zqa (T := T) F3
   split
   ·rename_i hc2
    have hl4 := zWa I2 hc2
    have F4 := (zN p2).trans (zq T [123] _)
    have hl5 := zqa (T := T) (zq T [123] (adv p2))
    obtain ⟨v3, p3, e3, I3, F5⟩ := E.block (d + 1) [] _ ((I2.adv _ hc2).must [123]) (by omega)
    rw [e3]
    have := fin _ (((((zN q).trans F2).trans F3).trans F4).trans F5) ((adv_go q).fw (((F2.trans F3).trans F4).trans F5))
    exact ⟨_, _, rfl, I3, this.1, this.2⟩
   ·have := fin _ (((zN q).trans F2).trans F3) ((adv_go q).fw (F2.trans F3))
    exact ⟨_, _, rfl, I2, this.1, this.2⟩
  split
  ·rename_i hc
   have hl := zWa I hc
   obtain ⟨v, p', e, I', F⟩ := zqd (n := n) (I.adv _ hc) (by omega)
   rw [e]
   simp only
   have F2 := F.trans (zq T [123] p')
   have hl2 := zqa (T := T) F2
   obtain ⟨v2, p2, e2, I2, F3⟩ := E.block (d + 1) [] _ (I'.must [123]) (by omega)
   rw [e2]
   have := fin _ (((zN q).trans F2).trans F3) ((adv_go q).fw (F2.trans F3))
   exact ⟨_, _, rfl, I2, this.1, this.2⟩
  split
  ·rename_i hc
   have := fin _ ((zN q).trans (zq T [59] _)) ((adv_go q).fw (zq T [59] _))
   exact ⟨_, _, rfl, (I.adv _ hc).must _, this.1, this.2⟩
  split
  ·rename_i hc
   have := fin _ ((zN q).trans (zq T [59] _)) ((adv_go q).fw (zq T [59] _))
   exact ⟨_, _, rfl, (I.adv _ hc).must _, this.1, this.2⟩
  split
  ·rename_i hc
   have hl := zWa I hc
   obtain ⟨v, p', e, I', F⟩ := zub (n := n) (I.adv _ hc) (by omega)
   rw [e]
   have := fin _ (((zN q).trans F).trans (zq T [59] _)) ((adv_go q).fw (F.trans (zq T [59] _)))
   exact ⟨_, _, rfl, I'.must _, this.1, this.2⟩
  split
  ·rename_i hc
   have hl := zWa I hc
   obtain ⟨v, p', e, I', F⟩ := zqd (n := n) (I.adv _ hc) (by omega)
   rw [e]
   have := fin _ (((zN q).trans F).trans (zq T [59] _)) ((adv_go q).fw (F.trans (zq T [59] _)))
   exact ⟨_, _, rfl, I'.must _, this.1, this.2⟩
  ·obtain ⟨v, p', e, I', F, G⟩ := named_enough (n := n) I (by omega)
   rw [e]
   have := fin _ (F.trans (zq T [59] _)) (G.fw (zq T [59] _))
   exact ⟨_, _, rfl, I'.must _, this.1, this.2⟩
 ·intro d l p I h
  simp only [zca]
  split
  ·exact ⟨_, _, rfl, I, Fw.refl _⟩
  split
  ·rename_i hc; exact ⟨_, _, rfl, I.adv _ hc, zN p⟩
  ·obtain ⟨v, p', e, I', F, G⟩ := E.stmt d p I (by omega)
   rw [e]
   simp only
   rcases G with hg | hg
   ·have hl : left T p' + 1 <= left T p := by
     have := I'.lt; have := I.lt; unfold left; omega
    obtain ⟨v2, p2, e2, I2, F2⟩ := E.block d (l ++ [v]) p' I' (by omega)
    exact ⟨v2, p2, e2, I2, F.trans F2⟩
   ·obtain ⟨v2, p2, e2, I2, F2⟩ := E.over d (l ++ [v]) p' I' (by omega) hg
    exact ⟨v2, p2, e2, I2, F.trans F2⟩
 ·intro d l p I h ho
  simp only [zca]
  rw [if_pos ho]
  exact ⟨_, _, rfl, I, Fw.refl _⟩
theorem enoughS (T : List Tok) : ∀ n, EnoughS T n
 | 0 => ⟨fun _ _ _ h => by omega, fun _ _ _ _ h => by omega, fun _ _ _ _ h => by omega⟩
 | n + 1 => enoughS_of (enoughS T n)
end PE.U

namespace PE.U
open Go PE
theorem params_enough {T : List Tok} : ∀ n l (f : Bool) p, Inv1 T p -> left T p + 2 + f.toNat <= n -> ∃ v p', zaa T n l f p = some (v, p') /\ Inv1 T p' /\ Fw p p' := by
 intro n
 induction n with
 | zero => intro l f p _ h; omega
 | succ n ih =>
  intro l f p I h
  simp only [zaa]
  have ov : ∀ l q, Inv1 T q -> zk q = true -> 1 <= n -> ∃ v p', zaa T n l false q = some (v, p') /\ Inv1 T p' /\ Fw q p' := by
   intro l q Iq ho hn
   obtain ⟨n, rfl⟩ : ∃ m, n = m + 1 := ⟨n - 1, by omega⟩
   have hc : isF T [44] q = false := by unfold isF; rw [ho]; rfl
   refine ⟨l, q, ?_, Iq, Fw.refl _⟩
   simp [zaa, hc]
  have fin : ∀ q : PS, Inv1 T q -> Fw p q -> left T q + 2 <= n -> ∃ v p', (if zk q then some (l, q) else zaa T n (l ++ [⟨(zy T 1 (zM T q).2).1, (zM T q).1⟩]) false (zy T 1 (zM T q).2).2) = some (v, p') /\ Inv1 T p' /\ Fw p p' := by
   intro q Iq Fq hq
   split
   ·exact ⟨_, _, rfl, Iq, Fq⟩
   ·have F := (fw_typed T q).trans (zQb T 1 _)
    have hl := zqa (T := T) F
    have I2 := Iq.typed.text 1 (by decide)
    obtain ⟨v2, p2, e2, I3, F2⟩ := ih (l ++ [⟨(zy T 1 (zM T q).2).1, (zM T q).1⟩]) false _ I2 (by simp; omega)
    exact ⟨v2, p2, e2, I3, (Fq.trans F).trans F2⟩
  cases f
  ·cases c2 : isF T [44] p
   ·exact ⟨l, p, rfl, I, Fw.refl _⟩
   ·have hl := zWa I c2
    replace h : left T p + 2 <= n + 1 := by simpa using h
    have hh := fin (adv p) (I.adv _ c2) (zN p) (by omega)
    exact hh
  ·replace h : left T p + 2 + 1 <= n + 1 := by simpa using h
   have hh := fin p I (Fw.refl _) (by omega)
   exact hh
theorem function_enough {T : List Tok} {n : Nat} {t : Int} {s : List UInt8} {p : PS} (I : Inv1 T p) (h : 64 * left T p + 30 <= n) : ∃ v p', zZa T n t s p = some (v, p') /\ Inv1 T p' /\ Fw p p' := by
 unfold zZa
 have I1 := I.must [40]
 have F1 := zq T [40] p
 have hl1 := zqa (T := T) F1
 split
 ·rename_i hc
  have F2 := (zN (zA T [40] p)).trans (zq T [123] _)
  have hl2 := zqa (T := T) F2
  obtain ⟨v, p', e, I', F⟩ := (enoughS T n).block 1 [] _ ((I1.adv _ hc).must [123]) (by omega)
  rw [e]
  exact ⟨_, _, rfl, I', (F1.trans F2).trans F⟩
 ·obtain ⟨v, p', e, I', F⟩ := params_enough n [] true _ I1 (by simp; omega)
  rw [e]
  simp only
  have F2 := (zq T [41] p').trans (zq T [123] _)
  have hl2 := zqa (T := T) F
  have hl3 := zqa (T := T) F2
  obtain ⟨v2, p2, e2, I2, F3⟩ := (enoughS T n).block 1 [] _ ((I'.must [41]).must [123]) (by omega)
  rw [e2]
  exact ⟨_, _, rfl, I2, ((F1.trans F).trans F2).trans F3⟩
theorem prog_enough {T : List Tok} : ∀ n ars fs p, Inv1 T p -> 64 * left T p + 31 <= n \/ (zk p = true /\ 1 <= n) -> ∃ v p', zgc T n ars fs p = some (v, p') /\ Inv1 T p' := by
 intro n
 induction n with
 | zero => intro ars fs p _ h; omega
 | succ n ih =>
  intro ars fs p I h
  simp only [zgc]
  split
  ·exact ⟨_, _, rfl, I⟩
  rename_i hno
  replace h : 64 * left T p + 31 <= n + 1 := by
   rcases h with h | h
   ·exact h
   ·exact absurd h.1 hno
  split
  ·exact ⟨_, _, rfl, I⟩
  have G1 := typed_go (T := T) (p := p)
  have I2 := I.typed.text 1 (by decide)
  have F1 := (fw_typed T p).trans (zQb T 1 _)
  have G2 : Go1 p (zy T 1 (zM T p).2).2 := G1.fw (zQb T 1 _)
  have hl := zqa (T := T) F1
  have nx : ∀ q, Inv1 T q -> Go1 p q -> 64 * left T q + 31 <= n \/ (zk q = true /\ 1 <= n) := by
   intro q Iq G
   rcases G with g | g
   ·left
    have := Iq.lt; have := I.lt; unfold left at *; omega
   ·exact Or.inr ⟨g, by omega⟩
  split
  ·rename_i hc
   have I3 := (((I2.adv _ hc.2.2).text 0 (by decide)).must [93]).must [59]
   exact ih _ _ _ I3 (nx _ I3 (G2.fw ((((zN _).trans (zQb T 0 _)).trans (zq T [93] _)).trans (zq T [59] _))))
  ·obtain ⟨v, p', e, I', F⟩ := function_enough (n := n) (t := (zM T p).1) (s := (zy T 1 (zM T p).2).1) I2 (by omega)
   rw [e]
   exact ih _ _ _ I' (nx _ I' (G2.fw F))
end PE.U

namespace PE.U
open Go PE
def kindR (k o n : Int) (s : List UInt8) (a : Nat) : Bool :=
 if k = 1 then decide (o = 0) && (decide (0 <= n) && (decide (s = []) && decide (a = 0)))
 else if k = 2 then decide (o = 0) && ((decide (n = 0) || decide (n = 1)) && (decide (s = []) && decide (a = 0)))
 else if k = 3 then (decide (o = 0) && decide (n = 0)) && (zGb s && decide (a = 0))
 else if k = 4 then oneR o && (decide (n = 0) && (decide (s = []) && decide (a = 1)))
 else if k = 5 then decide (0 < zKb o) && (decide (n = 0) && (decide (s = []) && decide (a = 2)))
 else if k = 6 then (decide (o = 0) && decide (n = 0)) && (zGb s && decide (a = 1))
 else if k = 7 then (decide (o = 0) && decide (n = 0)) && (zGb s && decide (a <= 8))
 else if k = 8 then (decide (o = 0) && decide (n = 0)) && (decide (s = []) && decide (a = 0))
 else false
mutual
def zEc : Expr -> Int -> Bool
 | ⟨k, o, n, s, a⟩, m => zac a m && kindR k o n s a.length
def zac : List Expr -> Int -> Bool
 | [], _ => true
 | x :: r, m => (decide (2 <= m) && zEc x (m - 1)) && zac r m
end
theorem exprR_eq (e : Expr) (m : Int) : zEc e m = (zac e.args m && kindR e.kind e.op e.n e.name e.args.length) := by cases e; rw [zEc]
theorem ztd (a b : List Expr) (m : Int) : zac (a ++ b) m = (zac a m && zac b m) := by
 induction a with
 | nil => simp [zac]
 | cons x r ih => simp [zac, ih, Bool.and_assoc]
set_option maxHeartbeats 4000000 in
theorem exprR_spec' : ∀ w (e : Expr) (m : Int), wtE e <= w -> w < 1099511000000 -> m <= 1000000 -> zj E 72 [zH e, .int .i64 m] [] = some (.ret (.bool (zEc e m)), [])
 | 0, e, m, h, _, _ => by rw [wtE_eq] at h; omega
 | w + 1, e, m, h, hw, hm => by
  refine zb rfl rfl rfl (by simp [za]) ?_
  have hlen := len_wtEs e.args
  rw [wtE_eq] at h
  simp [F72, za, zd]
  refine zfa e.args K72_0 B72_0 (fun d => [(5, .int .i64 d.length)]) (fun _ => []) (fun d => zac d m = true) (by omega) (by simp [zac]) ?_ ?_
  ·intros d x r s1 hl' hlt hget hget' hw1 hp h1 h2 h3 h4
   simp at h1 h2 h3
   have hwx := wtE_mem hl'.mem
   have hf : zEc e m = false \/ (2 <= m /\ zEc x (m - 1) = true) := by
    by_cases h2m : 2 <= m
    ·cases hx : zEc x (m - 1)
     ·left
      rw [exprR_eq, hl'.eq, ztd]
      simp [zac, hx]
     ·exact Or.inr ⟨h2m, rfl⟩
    ·left
     rw [exprR_eq, hl'.eq, ztd]
     simp [zac, h2m]
   have hnx : 2 <= m -> zEc x (m - 1) = true -> zac (d ++ [x]) m = true := by
    intro a b
    rw [ztd, hp]
    simp [zac, a, b]
   by_cases h2m : m < 2
   ·rcases hf with hf | hf
    ·clear hnx hl' hp
     (simp [*]) <;> (repeat' (first | ((first | refine sP _ ?_ ?_ | refine gP _ ?_ ?_ | refine sN _ ?_ ?_ | refine gN _ ?_ ?_) <;> intro hc <;> (first | replace hc := eqn hc | replace hc := eqp hc) <;> simp [*]) | ((first | refine sM _ ?_ ?_ | refine gM _ ?_ ?_ | refine sB _ ?_ ?_ | refine gB _ ?_ ?_) <;> intro hc <;> simp [*])))
    ·omega
   ·have ih := exprR_spec' w x (m - 1) (by omega) (by omega) (by omega)
    have hwm : zY .i64 (m - 1) = m - 1 := zm (by omega) (by omega)
    rw [za] at ih
    cases hx : zEc x (m - 1)
    ·rcases hf with hf | hf
     ·rw [hx] at ih
      clear hnx hl' hp
      simp [zd] at ih
      (simp [*, za, zd]) <;> (repeat' (first | ((first | refine sP _ ?_ ?_ | refine gP _ ?_ ?_ | refine sN _ ?_ ?_ | refine gN _ ?_ ?_) <;> intro hc <;> (first | replace hc := eqn hc | replace hc := eqp hc) <;> simp [*, za, zd]) | ((first | refine sM _ ?_ ?_ | refine gM _ ?_ ?_ | refine sB _ ?_ ?_ | refine gB _ ?_ ?_) <;> intro hc <;> simp [*, za, zd])))
     ·rw [hx] at hf; exact absurd hf.2 (by decide)
    ·replace hnx := hnx (by omega) hx
     rw [hx] at ih
     clear hf hl' hp
     simp [zd] at ih
     (simp [*, za, zd]) <;> (repeat' (first | ((first | refine sP _ ?_ ?_ | refine gP _ ?_ ?_ | refine sN _ ?_ ?_ | refine gN _ ?_ ?_) <;> intro hc <;> (first | replace hc := eqn hc | replace hc := eqp hc) <;> simp [*, za, zd]) | ((first | refine sM _ ?_ ?_ | refine gM _ ?_ ?_ | refine sB _ ?_ ?_ | refine gB _ ?_ ?_) <;> intro hc <;> simp [*, za, zd])))
  ·intros s1 hp h1 h2 h3 h4
   simp at h1 h2 h3
   rw [exprR_eq, hp, Bool.true_and]
   have hn := zpc e.name []
   have h5 := rlevel_spec e.op
   have h6 := roneR_spec e.op
   clear h hlen hp
   generalize hal : e.args.length = al at *
   unfold kindR
   by_cases k1 : e.kind = 1
   ·replace k1 := eqp k1
    (simp [*]) <;> (repeat' (first | ((first | refine sP _ ?_ ?_ | refine gP _ ?_ ?_ | refine sN _ ?_ ?_ | refine gN _ ?_ ?_) <;> intro hc <;> (first | replace hc := eqn hc | replace hc := eqp hc) <;> simp [*]) | ((first | refine sM _ ?_ ?_ | refine gM _ ?_ ?_ | refine sB _ ?_ ?_ | refine gB _ ?_ ?_) <;> intro hc <;> simp [*])))
    all_goals (try omega)
   by_cases k2 : e.kind = 2
   ·replace k1 := eqn k1
    replace k2 := eqp k2
    (simp [*]) <;> (repeat' (first | ((first | refine sP _ ?_ ?_ | refine gP _ ?_ ?_ | refine sN _ ?_ ?_ | refine gN _ ?_ ?_) <;> intro hc <;> (first | replace hc := eqn hc | replace hc := eqp hc) <;> simp [*]) | ((first | refine sM _ ?_ ?_ | refine gM _ ?_ ?_ | refine sB _ ?_ ?_ | refine gB _ ?_ ?_) <;> intro hc <;> simp [*])))
    all_goals (try omega)
   by_cases k3 : e.kind = 3
   ·replace k1 := eqn k1
    replace k2 := eqn k2
    replace k3 := eqp k3
    (simp [*]) <;> (repeat' (first | ((first | refine sP _ ?_ ?_ | refine gP _ ?_ ?_ | refine sN _ ?_ ?_ | refine gN _ ?_ ?_) <;> intro hc <;> (first | replace hc := eqn hc | replace hc := eqp hc) <;> simp [*]) | ((first | refine sM _ ?_ ?_ | refine gM _ ?_ ?_ | refine sB _ ?_ ?_ | refine gB _ ?_ ?_) <;> intro hc <;> simp [*])))
    all_goals (try omega)
   by_cases k4 : e.kind = 4
   ·replace k1 := eqn k1
    replace k2 := eqn k2
    replace k3 := eqn k3
    replace k4 := eqp k4
    (simp [*]) <;> (repeat' (first | ((first | refine sP _ ?_ ?_ | refine gP _ ?_ ?_ | refine sN _ ?_ ?_ | refine gN _ ?_ ?_) <;> intro hc <;> (first | replace hc := eqn hc | replace hc := eqp hc) <;> simp [*]) | ((first | refine sM _ ?_ ?_ | refine gM _ ?_ ?_ | refine sB _ ?_ ?_ | refine gB _ ?_ ?_) <;> intro hc <;> simp [*])))
    all_goals (try omega)
   by_cases k5 : e.kind = 5
   ·replace k1 := eqn k1
    replace k2 := eqn k2
    replace k3 := eqn k3
    replace k4 := eqn k4
    replace k5 := eqp k5
    (simp [*]) <;> (repeat' (first | ((first | refine sP _ ?_ ?_ | refine gP _ ?_ ?_ | refine sN _ ?_ ?_ | refine gN _ ?_ ?_) <;> intro hc <;> (first | replace hc := eqn hc | replace hc := eqp hc) <;> simp [*]) | ((first | refine sM _ ?_ ?_ | refine gM _ ?_ ?_ | refine sB _ ?_ ?_ | refine gB _ ?_ ?_) <;> intro hc <;> simp [*])))
    all_goals (try omega)
   replace k1 := eqn k1
   replace k2 := eqn k2
   replace k3 := eqn k3
   replace k4 := eqn k4
   replace k5 := eqn k5
   by_cases k6 : e.kind = 6
   ·replace k6 := eqp k6
    (simp [*]) <;> (repeat' (first | ((first | refine sP _ ?_ ?_ | refine gP _ ?_ ?_ | refine sN _ ?_ ?_ | refine gN _ ?_ ?_) <;> intro hc <;> (first | replace hc := eqn hc | replace hc := eqp hc) <;> simp [*]) | ((first | refine sM _ ?_ ?_ | refine gM _ ?_ ?_ | refine sB _ ?_ ?_ | refine gB _ ?_ ?_) <;> intro hc <;> simp [*])))
    all_goals (try omega)
   replace k6 := eqn k6
   by_cases k7 : e.kind = 7
   ·replace k7 := eqp k7
    (simp [*]) <;> (repeat' (first | ((first | refine sP _ ?_ ?_ | refine gP _ ?_ ?_ | refine sN _ ?_ ?_ | refine gN _ ?_ ?_) <;> intro hc <;> (first | replace hc := eqn hc | replace hc := eqp hc) <;> simp [*]) | ((first | refine sM _ ?_ ?_ | refine gM _ ?_ ?_ | refine sB _ ?_ ?_ | refine gB _ ?_ ?_) <;> intro hc <;> simp [*])))
    all_goals (try omega)
   replace k7 := eqn k7
   by_cases k8 : e.kind = 8
   ·replace k8 := eqp k8
    (simp [*]) <;> (repeat' (first | ((first | refine sP _ ?_ ?_ | refine gP _ ?_ ?_ | refine sN _ ?_ ?_ | refine gN _ ?_ ?_) <;> intro hc <;> (first | replace hc := eqn hc | replace hc := eqp hc) <;> simp [*]) | ((first | refine sM _ ?_ ?_ | refine gM _ ?_ ?_ | refine sB _ ?_ ?_ | refine gB _ ?_ ?_) <;> intro hc <;> simp [*])))
    all_goals (try omega)
   replace k8 := eqn k8
   (simp [*]) <;> (repeat' (first | ((first | refine sP _ ?_ ?_ | refine gP _ ?_ ?_ | refine sN _ ?_ ?_ | refine gN _ ?_ ?_) <;> intro hc <;> (first | replace hc := eqn hc | replace hc := eqp hc) <;> simp [*]) | ((first | refine sM _ ?_ ?_ | refine gM _ ?_ ?_ | refine sB _ ?_ ?_ | refine gB _ ?_ ?_) <;> intro hc <;> simp [*])))
   all_goals (try omega)
theorem exprR_spec (e : Expr) (m : Int) (h : wtE e < 1099510000000) (hm : m <= 1000000) : zj E 72 [zH e, .int .i64 m] [] = some (.ret (.bool (zEc e m)), []) := exprR_spec' (wtE e) e m (Nat.le_refl _) (by omega) hm
end PE.U

namespace PE.U
open Go PE
def zra (k : Int) : Bool × Bool × Int × Bool × Bool :=
 if k = 1 then (true, true, 1, false, false)
 else if k = 2 then (false, true, 1, false, false)
 else if k = 3 then (false, true, 2, false, false)
 else if k = 4 then (false, false, 1, true, true)
 else if k = 5 then (false, false, 1, true, false)
 else if k = 6 \/ k = 7 then (false, false, 0, false, false)
 else if k = 8 \/ k = 9 \/ k = 10 then (false, false, 1, false, false)
 else (false, false, -1, false, false)
theorem shape_spec (k : Int) : zj E 71 [.int .i64 k] [] = some (.ret (.tup [.bool (zra k).1, .bool (zra k).2.1, .int .i64 (zra k).2.2.1, .bool (zra k).2.2.2.1, .bool (zra k).2.2.2.2]), []) := by
 refine zb rfl rfl rfl (by simp) ?_
 unfold zra
 (simp [*, F71]) <;> (repeat' ((first | refine sP _ ?_ ?_ | refine gP _ ?_ ?_ | refine sN _ ?_ ?_ | refine gN _ ?_ ?_ | refine sM _ ?_ ?_ | refine gM _ ?_ ?_ | refine sB _ ?_ ?_ | refine gB _ ?_ ?_) <;> intro hc <;> simp [*, F71]))
def headR (s : Stmt) (m : Int) : Bool :=
 !(decide (m < 1) || (decide (¬ (s.args.length : Int) = (zra s.kind).2.2.1) || ((zra s.kind).1 != (decide (s.type = 1) || decide (s.type = 2)) || ((!(zra s.kind).1 && decide (¬ s.type = 0)) || ((zra s.kind).2.1 != zGb s.name || (!(zra s.kind).2.1 && decide (¬ s.name = [])))))))
def argsR (l : List Expr) : Bool := l.all fun e => zEc e 100
def doR (k : Int) (l : List Expr) : Bool := !(decide (k = 10) && (match l with | [] => false | e :: _ => decide (¬ e.kind = 7)))
mutual
def zRc : Stmt -> Int -> Bool
 | ⟨k, t, s, a, th, el⟩, m => headR ⟨k, t, s, a, th, el⟩ m && (argsR a && (doR k a && ((((zra k).2.2.2.1 || th.isEmpty) && ((zra k).2.2.2.2 || el.isEmpty)) && (zea th (m - 1) && zea el (m - 1)))))
def zea : List Stmt -> Int -> Bool
 | [], _ => true
 | x :: r, m => zRc x m && zea r m
end
theorem stmtR_eq (s : Stmt) (m : Int) : zRc s m = (headR s m && (argsR s.args && (doR s.kind s.args && ((((zra s.kind).2.2.2.1 || s.thn.isEmpty) && ((zra s.kind).2.2.2.2 || s.els.isEmpty)) && (zea s.thn (m - 1) && zea s.els (m - 1)))))) := by cases s; rw [zRc]
theorem stmtsR_append (a b : List Stmt) (m : Int) : zea (a ++ b) m = (zea a m && zea b m) := by
 induction a with
 | nil => simp [zea]
 | cons x r ih => simp [zea, ih, Bool.and_assoc]
theorem rtype_spec (t : Int) : zj E 43 [.int .i64 t] [] = some (.ret (.bool (decide (t = 1) || decide (t = 2))), []) := by
 refine zb rfl rfl rfl (by simp) ?_
 (simp [*, F43]) <;> (repeat' ((first | refine sP _ ?_ ?_ | refine gP _ ?_ ?_ | refine sN _ ?_ ?_ | refine gN _ ?_ ?_ | refine sM _ ?_ ?_ | refine gM _ ?_ ?_ | refine sB _ ?_ ?_ | refine gB _ ?_ ?_) <;> intro hc <;> simp [*, F43]))
end PE.U

namespace PE.U
open Go PE
set_option maxHeartbeats 8000000 in
theorem stmtsR_spec' : ∀ w (l : List Stmt) (m : Int), wtSs l <= w -> w < 1099509000000 -> m <= 1000000 -> zj E 44 [zn l, .int .i64 m] [] = some (.ret (.bool (zea l m)), []) := by
 intro w
 induction w with
 | zero =>
  intro l m h hw hm
  have : l = [] := by
   cases l with
   | nil => rfl
   | cons x r => simp [wtSs] at h
  subst this
  refine zb rfl rfl rfl (by simp) ?_
  simp [F44, zn, zea]
  refine zfa ([] : List Stmt) K44_1 B44_1 (fun d => [(5, .int .i64 d.length)]) (fun _ => []) (fun _ => True) (by simp) (by simp) ?_ ?_
  ·intros d x r s1 hl' hlt; simp at hlt
  ·intros s1 hp h1 h2 h3 h4
   simp at h1 h3
   clear h2
   simp [*]
 | succ w ih =>
  intro l m h hw hm
  refine zb rfl rfl rfl (by simp) ?_
  have hlen := len_wtSs l
  simp [F44, zn]
  refine zfa l K44_1 B44_1 (fun d => [(5, .int .i64 d.length)]) (fun _ => []) (fun d => zea d m = true) (by omega) (by simp [zea]) ?_ ?_
  ·intros d x r s1 hl' hlt hget hget' hw1 hp h1 h2 h3 h4
   simp at h1 h3
   clear h2
   have hwx := wtS_mem hl'.mem
   have hwe := wtS_eq x
   have hf : zRc x m = false -> zea l m = false := fun hx => by
    rw [hl'.eq, stmtsR_append]; simp [zea, hx]
   have hnx : zRc x m = true -> zea (d ++ [x]) m = true := fun hx => by
    rw [stmtsR_append, hp]; simp [zea, hx]
   clear hl' hp
   have e1 := shape_spec x.kind
   have e2 := zpc x.name []
   have hlw := len_wtEs x.args
   cases hh : headR x m
   ·-- the head is wrong
    replace hf := hf (by rw [stmtR_eq, hh]; rfl)
    clear hnx
    simp only [headR, Bool.not_eq_false', Bool.or_eq_true, decide_eq_true_eq, Bool.and_eq_true, Bool.not_eq_true', bne_iff_ne] at hh
    generalize zra x.kind = sh at *
    obtain ⟨t, nm, n, th, ot⟩ := sh
    simp only at hh e1
    have hh2 := hh
    clear hh
    cases hnn : zGb x.name <;> rw [hnn] at e2 hh2 <;> cases t <;> cases nm <;>
    ·simp at e1 hh2
     (simp [*, zc, zd, zn]) <;> (repeat' (first | ((first | refine sP _ ?_ ?_ | refine gP _ ?_ ?_ | refine sN _ ?_ ?_ | refine gN _ ?_ ?_) <;> intro hc <;> (first | replace hc := eqn hc | replace hc := eqp hc) <;> simp [*, zc, zd, zn]) | ((first | refine sM _ ?_ ?_ | refine gM _ ?_ ?_ | refine sB _ ?_ ?_ | refine gB _ ?_ ?_) <;> intro hc <;> simp [*, zc, zd, zn])))
     all_goals (exfalso; grind)
   ·-- the head is right
    have hs := stmtR_eq x m
    rw [hh, Bool.true_and] at hs
    simp only [headR, Bool.not_eq_true', Bool.not_eq_false', Bool.or_eq_false_iff, decide_eq_false_iff_not, Bool.and_eq_false_iff, bne_eq_false_iff_eq, Decidable.not_not, Bool.not_eq_true] at hh
    generalize hsh : zra x.kind = sh at *
    obtain ⟨t, nm, n, th, ot⟩ := sh
    simp only at hh hs e1
    obtain ⟨a1, a2, a3, a4, a5, a6⟩ := hh
    subst a2
    rw [<- a5] at e2
    have hm1 : zY .i64 (m - 1) = m - 1 := zm (by omega) (by omega)
    rcases (show (t = true /\ x.type = 1) \/ (t = true /\ x.type = 2) \/ (t = false /\ x.type = 0) by
     cases t
     ·right; right; exact ⟨rfl, by simpa using a4⟩
     ·have := a3.symm
      simp only [Bool.or_eq_true, decide_eq_true_eq] at this
      rcases this with h | h
      ·exact Or.inl ⟨rfl, h⟩
      ·exact Or.inr (Or.inl ⟨rfl, h⟩)) with ⟨rfl, ht⟩ | ⟨rfl, ht⟩ | ⟨rfl, ht⟩
    all_goals
     clear a3 a4 a5
     cases nm
     ·replace a6 : x.name = [] := by simpa using a6
      rw [a6] at e2
      simp [*, zc, zd, zn]
      have hlt0 : x.args.length < 2 ^ 62 := by omega
      refine zfa x.args K44_0 B44_0 (fun d => [(12, .int .i64 d.length)]) (fun _ => []) (fun d => argsR d = true) hlt0 (by simp [argsR]) ?_ ?_
      ·intros d2 y r2 s2 hl2 hlt2 hget2 hget2' hw2 hp2 g1 g2 g3 g4
       simp at g1 g2 g3
       have hwy := wtE_mem hl2.mem
       have ey := exprR_spec y 100 (by omega) (by omega)
       rw [za] at ey
       simp [zd] at ey
       have hlt2' : (d2.length : Int) < x.args.length := by omega
       cases hy : zEc y 100
       ·have ha : argsR x.args = false := by
         rw [hl2.eq]; simp [argsR, hy]
        replace hf := hf (by rw [hs, ha]; rfl)
        rw [hy] at ey
        clear hnx hs hp2 hl2 e1 e2 ht
        simp [*, za, zd]
       ·have ha : argsR (d2 ++ [y]) = true := by
         simp only [argsR] at hp2 ⊢
         rw [List.all_append, hp2]; simp [hy]
        rw [hy] at ey
        clear hnx hs hf hp2 hl2 e1 e2 ht
        simp [*, za, zd]
      ·intros s2 hp2 g1 g2 g3 g4
       simp at g1 g2 g3
       rw [hp2, Bool.true_and] at hs
       have i1 := ih x.thn (m - 1) (by omega) (by omega) (by omega)
       have i2 := ih x.els (m - 1) (by omega) (by omega) (by omega)
       simp [zn] at i1 i2
       have k1 : (x.kind = 10 /\ ∃ e, x.args = [e]) \/ ¬ x.kind = 10 := by
        by_cases hk : x.kind = 10
        ·refine Or.inl ⟨hk, ?_⟩
         have hn1 : (x.args.length : Int) = 1 := by
          have := congrArg (fun p => p.2.2.1) hsh
          rw [hk] at this
          exact this.symm
         have : x.args.length = 1 := by omega
         exact List.length_eq_one_iff.1 this
        ·exact Or.inr hk
       clear hp2 hsh
       clear e1 e2 a6
       rcases k1 with ⟨hk, e, hae⟩ | hk
       ·have hdo : doR x.kind x.args = decide (e.kind = 7) := by
         rw [hk, hae]; simp [doR]
        rw [hdo] at hs
        by_cases h7 : e.kind = 7
        ·have hd7 : decide (e.kind = 7) = true := decide_eq_true h7
         rw [hd7, Bool.true_and] at hs
         replace hk := eqp hk
         replace h7 := eqp h7
         clear hdo hd7 ht a1
         have e3 : (x.thn.isEmpty = true <-> x.thn.length = 0) := by cases x.thn <;> simp
         have e4 : (x.els.isEmpty = true <-> x.els.length = 0) := by cases x.els <;> simp
         have tree : zRc x m = true \/ zRc x m = false := by cases zRc x m <;> simp
         by_cases b1 : th = false /\ 0 < x.thn.length
         ·have hb : (th || x.thn.isEmpty) = false := by
           rw [b1.1, Bool.false_or]; cases hx : x.thn.isEmpty
           ·rfl
           ·have := e3.1 hx; omega
          rw [hb] at hs
          replace hf := hf (by rw [hs]; rfl)
          obtain ⟨rfl, b1⟩ := b1
          clear hs hnx tree e3 e4 i1 i2 hb
          simp [*, zn, za]
         by_cases b2 : ot = false /\ 0 < x.els.length
         ·have hb : (ot || x.els.isEmpty) = false := by
           rw [b2.1, Bool.false_or]; cases hx : x.els.isEmpty
           ·rfl
           ·have := e4.1 hx; omega
          rw [hb] at hs
          replace hf := hf (by rw [hs]; simp)
          obtain ⟨rfl, b2⟩ := b2
          clear hs hnx tree e3 e4 i1 i2 hb
          cases th
          ·have b1' : ¬ 0 < x.thn.length := fun h => b1 ⟨rfl, h⟩
           clear b1
           simp [*, zn, za]
          ·clear b1
           simp [*, zn, za]
         have hb1 : (th || x.thn.isEmpty) = true := by
          cases th
          ·rw [Bool.false_or]; exact e3.2 (by by_cases h : 0 < x.thn.length; exact absurd ⟨rfl, h⟩ b1; omega)
          ·rfl
         have hb2 : (ot || x.els.isEmpty) = true := by
          cases ot
          ·rw [Bool.false_or]; exact e4.2 (by by_cases h : 0 < x.els.length; exact absurd ⟨rfl, h⟩ b2; omega)
          ·rfl
         rw [hb1, hb2] at hs
         clear e3 e4 tree hb1 hb2
         have b1' : th = true \/ (th = false /\ ¬ 0 < x.thn.length) := by
          cases th
          ·exact Or.inr ⟨rfl, fun h => b1 ⟨rfl, h⟩⟩
          ·exact Or.inl rfl
         have b2' : ot = true \/ (ot = false /\ ¬ 0 < x.els.length) := by
          cases ot
          ·exact Or.inr ⟨rfl, fun h => b2 ⟨rfl, h⟩⟩
          ·exact Or.inl rfl
         clear b1 b2
         cases q1 : zea x.thn (m - 1)
         ·rw [q1] at i1 hs
          replace hf := hf (by rw [hs]; rfl)
          clear hs hnx i2 q1
          rcases b1' with rfl | ⟨rfl, b1⟩ <;> rcases b2' with rfl | ⟨rfl, b2⟩ <;> simp [*, zn, za]
         ·rw [q1] at i1 hs
          cases q2 : zea x.els (m - 1)
          ·rw [q2] at i2 hs
           replace hf := hf (by rw [hs]; rfl)
           clear hs hnx q1 q2
           rcases b1' with rfl | ⟨rfl, b1⟩ <;> rcases b2' with rfl | ⟨rfl, b2⟩ <;> simp [*, zn, za]
          ·rw [q2] at i2 hs
           replace hnx := hnx (by rw [hs]; rfl)
           clear hs hf q1 q2
           rcases b1' with rfl | ⟨rfl, b1⟩ <;> rcases b2' with rfl | ⟨rfl, b2⟩ <;> simp [*, zn, za]
        ·have hd7 : decide (e.kind = 7) = false := decide_eq_false h7
         rw [hd7, Bool.false_and] at hs
         replace hf := hf hs
         replace hk := eqp hk
         replace h7 := eqn h7
         clear hdo hd7 hs hnx ht a1
         simp [*, za]
       ·have hdo : doR x.kind x.args = true := by simp [doR, hk]
        rw [hdo, Bool.true_and] at hs
        replace hk := eqn hk
        clear hdo ht a1
        have e3 : (x.thn.isEmpty = true <-> x.thn.length = 0) := by cases x.thn <;> simp
        have e4 : (x.els.isEmpty = true <-> x.els.length = 0) := by cases x.els <;> simp
        have tree : zRc x m = true \/ zRc x m = false := by cases zRc x m <;> simp
        by_cases b1 : th = false /\ 0 < x.thn.length
        ·have hb : (th || x.thn.isEmpty) = false := by
          rw [b1.1, Bool.false_or]; cases hx : x.thn.isEmpty
          ·rfl
          ·have := e3.1 hx; omega
         rw [hb] at hs
         replace hf := hf (by rw [hs]; rfl)
         obtain ⟨rfl, b1⟩ := b1
         clear hs hnx tree e3 e4 i1 i2 hb
         simp [*, zn, za]
        by_cases b2 : ot = false /\ 0 < x.els.length
        ·have hb : (ot || x.els.isEmpty) = false := by
          rw [b2.1, Bool.false_or]; cases hx : x.els.isEmpty
          ·rfl
          ·have := e4.1 hx; omega
         rw [hb] at hs
         replace hf := hf (by rw [hs]; simp)
         obtain ⟨rfl, b2⟩ := b2
         clear hs hnx tree e3 e4 i1 i2 hb
         cases th
         ·have b1' : ¬ 0 < x.thn.length := fun h => b1 ⟨rfl, h⟩
          clear b1
          simp [*, zn, za]
         ·clear b1
          simp [*, zn, za]
        have hb1 : (th || x.thn.isEmpty) = true := by
         cases th
         ·rw [Bool.false_or]; exact e3.2 (by by_cases h : 0 < x.thn.length; exact absurd ⟨rfl, h⟩ b1; omega)
         ·rfl
        have hb2 : (ot || x.els.isEmpty) = true := by
         cases ot
         ·rw [Bool.false_or]; exact e4.2 (by by_cases h : 0 < x.els.length; exact absurd ⟨rfl, h⟩ b2; omega)
         ·rfl
        rw [hb1, hb2] at hs
        clear e3 e4 tree hb1 hb2
        have b1' : th = true \/ (th = false /\ ¬ 0 < x.thn.length) := by
         cases th
         ·exact Or.inr ⟨rfl, fun h => b1 ⟨rfl, h⟩⟩
         ·exact Or.inl rfl
        have b2' : ot = true \/ (ot = false /\ ¬ 0 < x.els.length) := by
         cases ot
         ·exact Or.inr ⟨rfl, fun h => b2 ⟨rfl, h⟩⟩
         ·exact Or.inl rfl
        clear b1 b2
        cases q1 : zea x.thn (m - 1)
        ·rw [q1] at i1 hs
         replace hf := hf (by rw [hs]; rfl)
         clear hs hnx i2 q1
         rcases b1' with rfl | ⟨rfl, b1⟩ <;> rcases b2' with rfl | ⟨rfl, b2⟩ <;> simp [*, zn, za]
        ·rw [q1] at i1 hs
         cases q2 : zea x.els (m - 1)
         ·rw [q2] at i2 hs
          replace hf := hf (by rw [hs]; rfl)
          clear hs hnx q1 q2
          rcases b1' with rfl | ⟨rfl, b1⟩ <;> rcases b2' with rfl | ⟨rfl, b2⟩ <;> simp [*, zn, za]
         ·rw [q2] at i2 hs
          replace hnx := hnx (by rw [hs]; rfl)
          clear hs hf q1 q2
          rcases b1' with rfl | ⟨rfl, b1⟩ <;> rcases b2' with rfl | ⟨rfl, b2⟩ <;> simp [*, zn, za]
     ·clear a6
      have a6 : True := trivial
      simp [*, zc, zd, zn]
      have hlt0 : x.args.length < 2 ^ 62 := by omega
      refine zfa x.args K44_0 B44_0 (fun d => [(12, .int .i64 d.length)]) (fun _ => []) (fun d => argsR d = true) hlt0 (by simp [argsR]) ?_ ?_
      ·intros d2 y r2 s2 hl2 hlt2 hget2 hget2' hw2 hp2 g1 g2 g3 g4
       simp at g1 g2 g3
       have hwy := wtE_mem hl2.mem
       have ey := exprR_spec y 100 (by omega) (by omega)
       rw [za] at ey
       simp [zd] at ey
       have hlt2' : (d2.length : Int) < x.args.length := by omega
       cases hy : zEc y 100
       ·have ha : argsR x.args = false := by
         rw [hl2.eq]; simp [argsR, hy]
        replace hf := hf (by rw [hs, ha]; rfl)
        rw [hy] at ey
        clear hnx hs hp2 hl2 e1 e2 ht
        simp [*, za, zd]
       ·have ha : argsR (d2 ++ [y]) = true := by
         simp only [argsR] at hp2 ⊢
         rw [List.all_append, hp2]; simp [hy]
        rw [hy] at ey
        clear hnx hs hf hp2 hl2 e1 e2 ht
        simp [*, za, zd]
      ·intros s2 hp2 g1 g2 g3 g4
       simp at g1 g2 g3
       rw [hp2, Bool.true_and] at hs
       have i1 := ih x.thn (m - 1) (by omega) (by omega) (by omega)
       have i2 := ih x.els (m - 1) (by omega) (by omega) (by omega)
       simp [zn] at i1 i2
       have k1 : (x.kind = 10 /\ ∃ e, x.args = [e]) \/ ¬ x.kind = 10 := by
        by_cases hk : x.kind = 10
        ·refine Or.inl ⟨hk, ?_⟩
         have hn1 : (x.args.length : Int) = 1 := by
          have := congrArg (fun p => p.2.2.1) hsh
          rw [hk] at this
          exact this.symm
         have : x.args.length = 1 := by omega
         exact List.length_eq_one_iff.1 this
        ·exact Or.inr hk
       clear hp2 hsh
       clear e1 e2 a6
       rcases k1 with ⟨hk, e, hae⟩ | hk
       ·have hdo : doR x.kind x.args = decide (e.kind = 7) := by
         rw [hk, hae]; simp [doR]
        rw [hdo] at hs
        by_cases h7 : e.kind = 7
        ·have hd7 : decide (e.kind = 7) = true := decide_eq_true h7
         rw [hd7, Bool.true_and] at hs
         replace hk := eqp hk
         replace h7 := eqp h7
         clear hdo hd7 ht a1
         have e3 : (x.thn.isEmpty = true <-> x.thn.length = 0) := by cases x.thn <;> simp
         have e4 : (x.els.isEmpty = true <-> x.els.length = 0) := by cases x.els <;> simp
         have tree : zRc x m = true \/ zRc x m = false := by cases zRc x m <;> simp
         by_cases b1 : th = false /\ 0 < x.thn.length
         ·have hb : (th || x.thn.isEmpty) = false := by
           rw [b1.1, Bool.false_or]; cases hx : x.thn.isEmpty
           ·rfl
           ·have := e3.1 hx; omega
          rw [hb] at hs
          replace hf := hf (by rw [hs]; rfl)
          obtain ⟨rfl, b1⟩ := b1
          clear hs hnx tree e3 e4 i1 i2 hb
          simp [*, zn, za]
         by_cases b2 : ot = false /\ 0 < x.els.length
         ·have hb : (ot || x.els.isEmpty) = false := by
           rw [b2.1, Bool.false_or]; cases hx : x.els.isEmpty
           ·rfl
           ·have := e4.1 hx; omega
          rw [hb] at hs
          replace hf := hf (by rw [hs]; simp)
          obtain ⟨rfl, b2⟩ := b2
          clear hs hnx tree e3 e4 i1 i2 hb
          cases th
          ·have b1' : ¬ 0 < x.thn.length := fun h => b1 ⟨rfl, h⟩
           clear b1
           simp [*, zn, za]
          ·clear b1
           simp [*, zn, za]
         have hb1 : (th || x.thn.isEmpty) = true := by
          cases th
          ·rw [Bool.false_or]; exact e3.2 (by by_cases h : 0 < x.thn.length; exact absurd ⟨rfl, h⟩ b1; omega)
          ·rfl
         have hb2 : (ot || x.els.isEmpty) = true := by
          cases ot
          ·rw [Bool.false_or]; exact e4.2 (by by_cases h : 0 < x.els.length; exact absurd ⟨rfl, h⟩ b2; omega)
          ·rfl
         rw [hb1, hb2] at hs
         clear e3 e4 tree hb1 hb2
         have b1' : th = true \/ (th = false /\ ¬ 0 < x.thn.length) := by
          cases th
          ·exact Or.inr ⟨rfl, fun h => b1 ⟨rfl, h⟩⟩
          ·exact Or.inl rfl
         have b2' : ot = true \/ (ot = false /\ ¬ 0 < x.els.length) := by
          cases ot
          ·exact Or.inr ⟨rfl, fun h => b2 ⟨rfl, h⟩⟩
          ·exact Or.inl rfl
         clear b1 b2
         cases q1 : zea x.thn (m - 1)
         ·rw [q1] at i1 hs
          replace hf := hf (by rw [hs]; rfl)
          clear hs hnx i2 q1
          rcases b1' with rfl | ⟨rfl, b1⟩ <;> rcases b2' with rfl | ⟨rfl, b2⟩ <;> simp [*, zn, za]
         ·rw [q1] at i1 hs
          cases q2 : zea x.els (m - 1)
          ·rw [q2] at i2 hs
           replace hf := hf (by rw [hs]; rfl)
           clear hs hnx q1 q2
           rcases b1' with rfl | ⟨rfl, b1⟩ <;> rcases b2' with rfl | ⟨rfl, b2⟩ <;> simp [*, zn, za]
          ·rw [q2] at i2 hs
           replace hnx := hnx (by rw [hs]; rfl)
           clear hs hf q1 q2
           rcases b1' with rfl | ⟨rfl, b1⟩ <;> rcases b2' with rfl | ⟨rfl, b2⟩ <;> simp [*, zn, za]
        ·have hd7 : decide (e.kind = 7) = false := decide_eq_false h7
         rw [hd7, Bool.false_and] at hs
         replace hf := hf hs
         replace hk := eqp hk
         replace h7 := eqn h7
         clear hdo hd7 hs hnx ht a1
         simp [*, za]
       ·have hdo : doR x.kind x.args = true := by simp [doR, hk]
        rw [hdo, Bool.true_and] at hs
        replace hk := eqn hk
        clear hdo ht a1
        have e3 : (x.thn.isEmpty = true <-> x.thn.length = 0) := by cases x.thn <;> simp
        have e4 : (x.els.isEmpty = true <-> x.els.length = 0) := by cases x.els <;> simp
        have tree : zRc x m = true \/ zRc x m = false := by cases zRc x m <;> simp
        by_cases b1 : th = false /\ 0 < x.thn.length
        ·have hb : (th || x.thn.isEmpty) = false := by
          rw [b1.1, Bool.false_or]; cases hx : x.thn.isEmpty
          ·rfl
          ·have := e3.1 hx; omega
         rw [hb] at hs
         replace hf := hf (by rw [hs]; rfl)
         obtain ⟨rfl, b1⟩ := b1
         clear hs hnx tree e3 e4 i1 i2 hb
         simp [*, zn, za]
        by_cases b2 : ot = false /\ 0 < x.els.length
        ·have hb : (ot || x.els.isEmpty) = false := by
          rw [b2.1, Bool.false_or]; cases hx : x.els.isEmpty
          ·rfl
          ·have := e4.1 hx; omega
         rw [hb] at hs
         replace hf := hf (by rw [hs]; simp)
         obtain ⟨rfl, b2⟩ := b2
         clear hs hnx tree e3 e4 i1 i2 hb
         cases th
         ·have b1' : ¬ 0 < x.thn.length := fun h => b1 ⟨rfl, h⟩
          clear b1
          simp [*, zn, za]
         ·clear b1
          simp [*, zn, za]
        have hb1 : (th || x.thn.isEmpty) = true := by
         cases th
         ·rw [Bool.false_or]; exact e3.2 (by by_cases h : 0 < x.thn.length; exact absurd ⟨rfl, h⟩ b1; omega)
         ·rfl
        have hb2 : (ot || x.els.isEmpty) = true := by
         cases ot
         ·rw [Bool.false_or]; exact e4.2 (by by_cases h : 0 < x.els.length; exact absurd ⟨rfl, h⟩ b2; omega)
         ·rfl
        rw [hb1, hb2] at hs
        clear e3 e4 tree hb1 hb2
        have b1' : th = true \/ (th = false /\ ¬ 0 < x.thn.length) := by
         cases th
         ·exact Or.inr ⟨rfl, fun h => b1 ⟨rfl, h⟩⟩
         ·exact Or.inl rfl
        have b2' : ot = true \/ (ot = false /\ ¬ 0 < x.els.length) := by
         cases ot
         ·exact Or.inr ⟨rfl, fun h => b2 ⟨rfl, h⟩⟩
         ·exact Or.inl rfl
        clear b1 b2
        cases q1 : zea x.thn (m - 1)
        ·rw [q1] at i1 hs
         replace hf := hf (by rw [hs]; rfl)
         clear hs hnx i2 q1
         rcases b1' with rfl | ⟨rfl, b1⟩ <;> rcases b2' with rfl | ⟨rfl, b2⟩ <;> simp [*, zn, za]
        ·rw [q1] at i1 hs
         cases q2 : zea x.els (m - 1)
         ·rw [q2] at i2 hs
          replace hf := hf (by rw [hs]; rfl)
          clear hs hnx q1 q2
          rcases b1' with rfl | ⟨rfl, b1⟩ <;> rcases b2' with rfl | ⟨rfl, b2⟩ <;> simp [*, zn, za]
         ·rw [q2] at i2 hs
          replace hnx := hnx (by rw [hs]; rfl)
          clear hs hf q1 q2
          rcases b1' with rfl | ⟨rfl, b1⟩ <;> rcases b2' with rfl | ⟨rfl, b2⟩ <;> simp [*, zn, za]
  ·intros s1 hp h1 h2 h3 h4
   simp at h1 h3
   clear h2
   simp [*]
end PE.U

namespace PE.U
open Go PE
def arrR (a : PArr) : Bool := zGb a.name && (decide (1 <= a.size) && decide (a.size <= 1000))
def parR (p : Par) : Bool := zGb p.name && (decide (p.type = 1) || decide (p.type = 2))
def funcR (f : Func) : Bool := zGb f.name && ((decide (f.type = 1) || decide (f.type = 2)) && (decide (f.params.length <= 8) && (zea f.body 100 && f.params.all parR)))
def zyc (p : Prog) : Bool := p.arrays.all arrR && p.funcs.all funcR
theorem stmtsR_spec (l : List Stmt) (m : Int) (h : wtSs l < 1099508000000) (hm : m <= 1000000) : zj E 44 [zn l, .int .i64 m] [] = some (.ret (.bool (zea l m)), []) := stmtsR_spec' (wtSs l) l m (Nat.le_refl _) (by omega) hm
def PSz (p : Prog) : Prop := p.arrays.length < 1099509000000 /\ p.funcs.length < 1099509000000 /\ ∀ f ∈ p.funcs, wtSs f.body < 1099508000000 /\ f.params.length < 1099509000000
set_option maxHeartbeats 4000000 in
theorem right_spec (p : Prog) (hz : PSz p) : zj E 22 [zZ p] [] = some (.ret (.bool (zyc p)), []) := by
 obtain ⟨z1, z2, z3⟩ := hz
 refine zb rfl rfl rfl (by simp [zZ]) ?_
 simp [F22, zZ, zhc, funcs]
 refine zfa p.arrays K22_0 B22_0 (fun d => [(3, .int .i64 d.length)]) (fun _ => []) (fun d => d.all arrR = true) (by omega) (by simp) ?_ ?_
 ·intros d x r s1 hl' hlt hget hget' hw hp h1 h2 h3 h4
  simp at h1 h2 h3
  have hf : arrR x = false -> zyc p = false := fun h => by
   unfold zyc; rw [hl'.eq]; simp [h]
  have hnx : arrR x = true -> (d ++ [x]).all arrR = true := fun h => by rw [List.all_append, hp]; simp [h]
  have e1 := zpc x.name []
  clear hl' hp
  cases c1 : zGb x.name
  ·replace hf := hf (by unfold arrR; rw [c1]; rfl)
   rw [c1] at e1
   clear hnx
   simp [*, zha]
  ·rw [c1] at e1
   by_cases c2 : x.size < 1
   ·replace hf := hf (by unfold arrR; simp; omega)
    clear hnx
    simp [*, zha]
   ·by_cases c3 : 1000 < x.size
    ·replace hf := hf (by unfold arrR; simp; omega)
     clear hnx
     simp [*, zha]
    ·replace hnx := hnx (by unfold arrR; rw [c1]; simp; omega)
     clear hf
     simp [*, zha]
     all_goals (try grind)
 intros s1 hp h1 h2 h3 h4
 simp at h1 h2 h3
 have har : p.arrays.all arrR = true := hp
 clear hp
 simp [*]
 refine zfa p.funcs K22_2 B22_2 (fun d => [(4, .int .i64 d.length)]) (fun _ => []) (fun d => d.all funcR = true) (by omega) (by simp) ?_ ?_
 ·intros d x r s2 hl' hlt hget hget' hw hp g1 g2 g3 g4
  simp at g1 g2 g3
  obtain ⟨y1, y2⟩ := z3 x hl'.mem
  have hf : funcR x = false -> zyc p = false := fun h => by
   unfold zyc; rw [har, hl'.eq]; simp [h]
  have hnx : funcR x = true -> (d ++ [x]).all funcR = true := fun h => by rw [List.all_append, hp]; simp [h]
  have e1 := zpc x.name []
  have e2 := rtype_spec x.type
  have e3 := stmtsR_spec x.body 100 y1 (by omega)
  have hp0 : True -> d.all funcR = true := fun _ => hp
  clear hl' hp har
  simp [zn] at e3
  generalize htt : (decide (x.type = 1) || decide (x.type = 2)) = tt at *
  have hq : funcR x = (zGb x.name && (tt && (decide (x.params.length <= 8) && (zea x.body 100 && x.params.all parR)))) := by unfold funcR; rw [htt]
  clear htt
  cases c1 : zGb x.name
  ·replace hf := hf (by rw [hq, c1]; rfl)
   rw [c1] at e1
   clear hnx hq
   simp [*, zD, parsV, zn]
  rw [c1] at e1
  cases tt
  ·replace hf := hf (by rw [hq]; simp)
   clear hnx hq
   simp [*, zD, parsV, zn]
  by_cases c2 : 8 < x.params.length
  ·replace hf := hf (by rw [hq]; simp; omega)
   have c2' : (8 : Int) < x.params.length := by omega
   clear hnx hq
   simp [*, zD, parsV, zn]
  have c2' : ¬ (8 : Int) < x.params.length := by omega
  cases c3 : zea x.body 100
  ·replace hf := hf (by rw [hq, c3]; simp)
   rw [c3] at e3
   clear hnx hq
   simp [*, zD, parsV, zn]
  rw [c3] at e3
  have hd8 : decide (x.params.length <= 8) = true := decide_eq_true (by omega)
  rw [c1, c3, hd8, Bool.true_and, Bool.true_and, Bool.true_and, Bool.true_and] at hq
  clear hd8
  simp [*, zD, parsV, zn]
  refine zfa x.params K22_1 B22_1 (fun d => [(6, .int .i64 d.length)]) (fun _ => []) (fun d => d.all parR = true) (by omega) (by simp) ?_ ?_
  ·intros d2 y r2 s3 hl2 hlt2 hget2 hget2' hw2 hp2 k1 k2 k3 k4
   simp at k1 k2 k3
   have hfy : parR y = false -> zyc p = false := fun h => hf (by rw [hq, hl2.eq]; simp [h])
   have hny : parR y = true -> (d2 ++ [y]).all parR = true := fun h => by rw [List.all_append, hp2]; simp [h]
   have i1 := zpc y.name []
   have i2 := rtype_spec y.type
   generalize htt : (decide (y.type = 1) || decide (y.type = 2)) = tt at *
   have hqy : parR y = (zGb y.name && tt) := by unfold parR; rw [htt]
   clear htt hl2 hp2 hq hf hnx e1 e2 e3
   cases c4 : zGb y.name
   ·rw [c4] at i1
    replace hfy := hfy (by rw [hqy, c4]; rfl)
    clear hny hqy
    simp [*, encPar]
   ·rw [c4] at i1
    cases tt
    ·replace hfy := hfy (by rw [hqy]; simp)
     clear hny hqy
     simp [*, encPar]
    ·replace hny := hny (by rw [hqy, c4]; rfl)
     clear hfy hqy
     simp [*, encPar]
     all_goals (try grind)
  ·intros s3 hp2 k1 k2 k3 k4
   simp at k1 k2 k3
   replace hnx := hnx (by rw [hq]; exact hp2)
   replace hp0 := hp0 trivial
   clear hf hq e1 e2 e3
   simp only [List.all_eq_true] at hp0 hp2
   simp [*]
   first | exact hp2 | exact ⟨hp0, hp2⟩
 ·intros s2 hp g1 g2 g3 g4
  simp at g1 g2 g3
  have hr : zyc p = true := by unfold zyc; rw [har, hp]; rfl
  clear hp har
  simp [*]
end PE.U

namespace PE.U
open Go PE
def TokOK (t : Tok) : Prop := t.kind = 0 -> digs t.text = true /\ t.text.length < 1000000
theorem tokGo_ok : ∀ n (q : List UInt8) line acc, q.length < n -> q.length <= 100000 -> (∀ t ∈ acc, TokOK t) -> (zma n q line acc).2.1 = 0 →
  (∀ t ∈ (zma n q line acc).1, TokOK t) /\ (zma n q line acc).1.length <= acc.length + q.length + 1 /\ 0 < (zma n q line acc).1.length /\ ∃ t, (zma n q line acc).1[(zma n q line acc).1.length - 1]? = some t /\ t.kind = 3 := by
 intro n
 induction n with
 | zero => intro q line acc h; omega
 | succ n ih =>
  intro q line acc hq hs ha h0
  cases q with
  | nil =>
   simp only [zma]
   refine ⟨?_, by simp, by simp, ⟨3, [], line⟩, by simp, rfl⟩
   intro t ht
   rcases List.mem_append.1 ht with h | h
   ·exact ha t h
   ·rw [List.mem_singleton.1 h]; intro h; exact absurd h (by simp)
  | cons b r =>
   simp only [List.length_cons] at hq hs
   have mono : ∀ (q' : List UInt8) line' acc', q'.length <= r.length -> acc'.length + q'.length <= acc.length + r.length + 1 -> (∀ t ∈ acc', TokOK t) -> (zma n q' line' acc').2.1 = 0 →
     (∀ t ∈ (zma n q' line' acc').1, TokOK t) /\ (zma n q' line' acc').1.length <= acc.length + (b :: r).length + 1 /\ 0 < (zma n q' line' acc').1.length /\ ∃ t, (zma n q' line' acc').1[(zma n q' line' acc').1.length - 1]? = some t /\ t.kind = 3 := by
    intro q' line' acc' h1 h2 h3 h4
    obtain ⟨x1, x2, x3, x4⟩ := ih q' line' acc' (by omega) (by omega) h3 h4
    exact ⟨x1, by simp only [List.length_cons]; omega, x3, x4⟩
   simp only [zma] at h0 ⊢
   split at h0
   ·rename_i c; rw [if_pos c]; exact mono r _ _ (Nat.le_refl _) (by omega) ha h0
   rename_i c; rw [if_neg c]
   split at h0
   ·rename_i c; rw [if_pos c]; exact mono r _ _ (Nat.le_refl _) (by omega) ha h0
   rename_i c; rw [if_neg c]
   split at h0
   ·rename_i c; rw [if_pos c]
    have hl : ((b :: r).dropWhile (· != 10)).length <= r.length := by
     rw [List.dropWhile_cons, c.1]
     simp only [show ((47 : UInt8) != 10) = true from rfl, if_true]
     rw [zIa, List.length_drop]; omega
    exact mono _ _ _ hl (by omega) ha h0
   rename_i c; rw [if_neg c]
   split at h0
   ·rename_i c; rw [if_pos c]
    split at h0
    ·exact absurd h0 (by simp)
    rename_i c2; rw [if_neg c2]
    have hw : 0 < ((b :: r).takeWhile zw).length := by rw [List.takeWhile_cons, c]; simp
    have hw2 := (List.takeWhile_prefix (l := b :: r) (p := zw)).length_le
    simp only [List.length_cons] at hw2
    refine mono _ _ _ (by rw [List.length_drop]; simp only [List.length_cons]; omega) (by rw [List.length_drop]; simp only [List.length_cons, List.length_append, List.length_nil]; omega) ?_ h0
    intro t ht
    rcases List.mem_append.1 ht with h | h
    ·exact ha t h
    ·rw [List.mem_singleton.1 h]
     intro hk
     simp only at hk
     refine ⟨?_, by simp only; omega⟩
     simp only [tokBad, hk, Bool.or_eq_true, Bool.and_eq_true, decide_eq_true_eq, Bool.not_eq_true', not_or, not_and, Bool.not_eq_false] at c2
     have := c2.2 trivial
     simp only [zXa, Bool.and_eq_true] at this
     exact this.1
   rename_i c; rw [if_neg c]
   split at h0
   ·exact absurd h0 (by simp)
   rename_i c2; rw [if_neg c2]
   have hp : 0 < (zlb (b :: r)).length := List.length_pos_iff.2 c2
   have hp2 := sign_len (b :: r)
   simp only [List.length_cons] at hp2
   refine mono _ _ _ (by rw [List.length_drop]; simp only [List.length_cons]; omega) (by rw [List.length_drop]; simp only [List.length_cons, List.length_append, List.length_nil]; omega) ?_ h0
   intro t ht
   rcases List.mem_append.1 ht with h | h
   ·exact ha t h
   ·rw [List.mem_singleton.1 h]; intro h; exact absurd h (by simp)
theorem tokens_inv (s : List UInt8) (h : (zu s).2.1 = 0) : Inv1 (zu s).1 ⟨0, false, false⟩ := by
 unfold zu at h ⊢
 split at h
 ·exact absurd h (by decide)
 rename_i hs
 rw [if_neg hs]
 obtain ⟨x1, x2, x3, x4⟩ := tokGo_ok (s.length + 1) s 1 [] (by omega) (by omega) (by simp) h
 exact ⟨x3, x4, by simp at x2; omega, x1⟩
def fuel (l : List Tok) : Nat := 64 * l.length + 100
def zob (s : List UInt8) : Prog × Int × Int :=
 if (zu s).2.1 = 0 then
  match zgc (zu s).1 (fuel (zu s).1) [] [] ⟨0, false, false⟩ with
  | none => (⟨[], []⟩, 0, 0)
  | some q =>
   if q.2.deep then (⟨[], []⟩, 2, (tk (zu s).1 q.2.at').line)
   else if q.2.bad then (⟨[], []⟩, 20, (tk (zu s).1 q.2.at').line)
   else if zyc q.1 then (q.1, 0, 0) else (⟨[], []⟩, 2, 0)
 else (⟨[], []⟩, (zu s).2.1, (zu s).2.2)
end PE.U
