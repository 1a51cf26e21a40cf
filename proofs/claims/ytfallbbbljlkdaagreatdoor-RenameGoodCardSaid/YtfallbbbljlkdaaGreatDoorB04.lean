/-
  Texts joined by program: A6P1, A6P2, A6P3, A6P4, A6P5, A6P6, A6P7, A6P8, A6P9, A6P10, A6P11, A6P12, A6P13, A6P14, A6P15, A6P16, A6P17, A6M1, A6M2, A6M3, A6N1, A6N2a, A6N2, A6N3, A6T1, A6T0r, A6P18, A6P19, A6P20, A6T2, A6T3, A6T4, A6T5.
-/
import Derived.Test.YtfallbbbljlkdaaGreatDoorB03
set_option linter.unusedVariables false
set_option linter.unusedSectionVars false
set_option linter.unusedSimpArgs false
namespace PE.U
open Go PE
def valGo : Int -> List UInt8 -> Option Int
 | n, [] => some n
 | n, b :: r => if (9223372036854775807 - ((b.toNat : Int) - 48)) / 10 < n then none else valGo (n * 10 + ((b.toNat : Int) - 48)) r
def valueM (s : List UInt8) : Int := match valGo 0 s with
 | none => -1
 | some n => if s = [] \/ (1 < s.length /\ s.head? = some 48) then -1 else n
def digs (s : List UInt8) : Bool := s.all fun b => zcc b.toNat
theorem valGo_append : ∀ (a b : List UInt8) (n : Int), valGo n (a ++ b) = (valGo n a).bind fun m => valGo m b
 | [], b, n => by simp [valGo]
 | x :: a, b, n => by
  simp only [List.cons_append, valGo]
  split
  ·simp
  ·exact valGo_append a b _
theorem valGo_range : ∀ (s : List UInt8) (n m : Int), digs s = true -> 0 <= n -> n <= 9223372036854775807 -> valGo n s = some m -> 0 <= m /\ m <= 9223372036854775807
 | [], n, m, _, h0, h1, h => by simp [valGo] at h; omega
 | b :: r, n, m, hd, h0, h1, h => by
  simp only [valGo] at h
  simp only [digs, List.all_cons, Bool.and_eq_true] at hd
  split at h
  ·cases h
  ·rename_i hc
   have : 48 <= (b.toNat : Int) /\ (b.toNat : Int) <= 57 := by simpa [zcc] using hd.1
   exact valGo_range r _ m hd.2 (by omega) (by omega) h
theorem value_spec' (s : List UInt8) (σ : zf) (hs : digs s = true) (hl : s.length < 1099511627776) : zi E 42 [.str s] σ = some (.ret (.int .i64 (valueM s)), σ) := by
 refine zc rfl rfl rfl (by simp) ?_
 simp [F42]
 refine zz s K42_0 B42_0 (fun d => [(4, .int .i64 d.length), (3, .int .i64 ((valGo 0 d).getD 0))]) (fun _ => σ) (fun d => (valGo 0 d).isSome = true) (by omega) (by simp [valGo]) ?_ ?_
 ·intros d x r s1 hl' hlt hget hget' hw hp h1 h2 h3 h4
  simp at h1 h3
  obtain ⟨n, hn⟩ := Option.isSome_iff_exists.1 hp
  have hdd : digs d = true := by
   have := hl'.eq
   rw [this] at hs; simp only [digs, List.all_append, Bool.and_eq_true] at hs; exact hs.1
  have hdx : zcc x.toNat = true := by
   have := hl'.eq
   rw [this] at hs; simp only [digs, List.all_append, List.all_cons, Bool.and_eq_true] at hs; exact hs.2.1
  have hx : 48 <= (x.toNat : Int) /\ (x.toNat : Int) <= 57 := by simpa [zcc] using hdx
  obtain ⟨n0, n1⟩ := valGo_range d 0 n hdd (by omega) (by omega) hn
  have w1 : zN .i64 ((x.toNat : Int) - 48) = (x.toNat : Int) - 48 := zj (by omega) (by omega)
  have w2 : zN .i64 (9223372036854775807 - ((x.toNat : Int) - 48)) = 9223372036854775807 - ((x.toNat : Int) - 48) := zj (by omega) (by omega)
  have w3 : (9223372036854775807 - ((x.toNat : Int) - 48)).tdiv 10 = (9223372036854775807 - ((x.toNat : Int) - 48)) / 10 := Int.tdiv_eq_ediv_of_nonneg (by omega)
  have w4 : zN .i64 ((9223372036854775807 - ((x.toNat : Int) - 48)) / 10) = (9223372036854775807 - ((x.toNat : Int) - 48)) / 10 := zj (by omega) (by omega)
  have e1 : valGo 0 (d ++ [x]) = if (9223372036854775807 - ((x.toNat : Int) - 48)) / 10 < n then none else some (n * 10 + ((x.toNat : Int) - 48)) := by
   rw [valGo_append, hn]; simp only [Option.bind_some, valGo]
  rw [hn] at h3
  simp at h3
  clear h2 hp hs
  by_cases hc : (9223372036854775807 - ((x.toNat : Int) - 48)) / 10 < n
  ·have hv : valueM s = -1 := by
    unfold valueM
    have : valGo 0 s = none := by
     rw [hl'.eq, show d ++ x :: r = (d ++ [x]) ++ r by simp, valGo_append, e1, if_pos hc]; rfl
    rw [this]
   rw [if_pos hc] at e1
   (simp [*]) <;> (repeat' (first | ((first | refine sP _ ?_ ?_ | refine gP _ ?_ ?_ | refine sN _ ?_ ?_ | refine gN _ ?_ ?_) <;> intro hc <;> (first | replace hc := eqn hc | replace hc := eqp hc) <;> simp [*]) | ((first | refine sM _ ?_ ?_ | refine gM _ ?_ ?_ | refine sB _ ?_ ?_ | refine gB _ ?_ ?_) <;> intro hc <;> simp [*])))
  ·rw [if_neg hc] at e1
   have w5 : zN .i64 (n * 10) = n * 10 := zj (by omega) (by omega)
   have w6 : zN .i64 (n * 10 + ((x.toNat : Int) - 48)) = n * 10 + ((x.toNat : Int) - 48) := zj (by omega) (by omega)
   (simp [*]) <;> (repeat' (first | ((first | refine sP _ ?_ ?_ | refine gP _ ?_ ?_ | refine sN _ ?_ ?_ | refine gN _ ?_ ?_) <;> intro hc <;> (first | replace hc := eqn hc | replace hc := eqp hc) <;> simp [*]) | ((first | refine sM _ ?_ ?_ | refine gM _ ?_ ?_ | refine sB _ ?_ ?_ | refine gB _ ?_ ?_) <;> intro hc <;> simp [*])))
 ·intros s1 hp h1 h2 h3 h4
  simp at h1 h3
  obtain ⟨n, hn⟩ := Option.isSome_iff_exists.1 hp
  have hv : valueM s = if s = [] \/ (1 < s.length /\ s.head? = some 48) then -1 else n := by unfold valueM; rw [hn]
  rw [hn] at h3
  simp at h3
  clear h2 hp hs hn
  by_cases he : s = []
  ·subst he; (simp [*]) <;> (repeat' (first | ((first | refine sP _ ?_ ?_ | refine gP _ ?_ ?_ | refine sN _ ?_ ?_ | refine gN _ ?_ ?_) <;> intro hc <;> (first | replace hc := eqn hc | replace hc := eqp hc) <;> simp [*]) | ((first | refine sM _ ?_ ?_ | refine gM _ ?_ ?_ | refine sB _ ?_ ?_ | refine gB _ ?_ ?_) <;> intro hc <;> simp [*])))
  ·obtain ⟨b, r, rfl⟩ := List.exists_cons_of_ne_nil he
   simp at hv
   have hbb : ((b.toNat : Int) = 48) = (b = 48) := by
    apply propext
    constructor
    ·intro h; apply UInt8.toNat_inj.1; simpa using (by omega : b.toNat = 48)
    ·rintro rfl; rfl
   by_cases h1l : 0 < r.length
   ·have h1l' : (1 : Int) < (r.length : Int) + 1 := by omega
    by_cases hb : b = 48
    ·subst hb; (simp [*]) <;> (repeat' (first | ((first | refine sP _ ?_ ?_ | refine gP _ ?_ ?_ | refine sN _ ?_ ?_ | refine gN _ ?_ ?_) <;> intro hc <;> (first | replace hc := eqn hc | replace hc := eqp hc) <;> simp [*]) | ((first | refine sM _ ?_ ?_ | refine gM _ ?_ ?_ | refine sB _ ?_ ?_ | refine gB _ ?_ ?_) <;> intro hc <;> simp [*])))
    ·(simp [*]) <;> (repeat' (first | ((first | refine sP _ ?_ ?_ | refine gP _ ?_ ?_ | refine sN _ ?_ ?_ | refine gN _ ?_ ?_) <;> intro hc <;> (first | replace hc := eqn hc | replace hc := eqp hc) <;> simp [*]) | ((first | refine sM _ ?_ ?_ | refine gM _ ?_ ?_ | refine sB _ ?_ ?_ | refine gB _ ?_ ?_) <;> intro hc <;> simp [*])))
   ·have h1l' : ¬ (1 : Int) < (r.length : Int) + 1 := by omega
    (simp [*]) <;> (repeat' (first | ((first | refine sP _ ?_ ?_ | refine gP _ ?_ ?_ | refine sN _ ?_ ?_ | refine gN _ ?_ ?_) <;> intro hc <;> (first | replace hc := eqn hc | replace hc := eqp hc) <;> simp [*]) | ((first | refine sM _ ?_ ?_ | refine gM _ ?_ ?_ | refine sB _ ?_ ?_ | refine gB _ ?_ ?_) <;> intro hc <;> simp [*])))
def zId (s : List UInt8) : Bool := digs s && decide (0 <= valueM s)
theorem number_spec (s : List UInt8) (hl : s.length < 1099511627776) : zi E 36 [.str s] [] = some (.ret (.bool (zId s)), []) := by
 refine zc rfl rfl rfl (by simp) ?_
 simp [F36]
 refine zz s K36_0 B36_0 (fun d => [(3, .int .i64 d.length)]) (fun _ => []) (fun d => digs d = true) (by omega) (by simp [digs]) ?_ ?_
 ·intros d x r s1 hl' hlt hget hget' hw hp h1 h2 h3 h4
  simp at h1 h3
  clear h2
  have hd := zXa x.toNat []
  have hn : zcc x.toNat = false -> zId s = false := fun h => by
   unfold zId digs
   rw [hl'.eq]; simp [h]
  have hdd : digs (d ++ [x]) = zcc x.toNat := by simp only [digs] at hp ⊢; rw [List.all_append, hp]; simp
  cases hx : zcc x.toNat
  ·have hn := hn hx
   rw [hx] at hdd
   (simp [*]) <;> (repeat' (first | ((first | refine sP _ ?_ ?_ | refine gP _ ?_ ?_ | refine sN _ ?_ ?_ | refine gN _ ?_ ?_) <;> intro hc <;> (first | replace hc := eqn hc | replace hc := eqp hc) <;> simp [*]) | ((first | refine sM _ ?_ ?_ | refine gM _ ?_ ?_ | refine sB _ ?_ ?_ | refine gB _ ?_ ?_) <;> intro hc <;> simp [*])))
  ·clear hn
   rw [hx] at hdd
   (simp [*]) <;> (repeat' (first | ((first | refine sP _ ?_ ?_ | refine gP _ ?_ ?_ | refine sN _ ?_ ?_ | refine gN _ ?_ ?_) <;> intro hc <;> (first | replace hc := eqn hc | replace hc := eqp hc) <;> simp [*]) | ((first | refine sM _ ?_ ?_ | refine gM _ ?_ ?_ | refine sB _ ?_ ?_ | refine gB _ ?_ ?_) <;> intro hc <;> simp [*])))
 ·intros s1 hp h1 h2 h3 h4
  simp at h1 h3
  have hv := value_spec' s [] hp hl
  have hn : zId s = decide (0 <= valueM s) := by unfold zId; rw [hp]; rfl
  clear h2 hp
  (simp [*]) <;> (repeat' (first | ((first | refine sP _ ?_ ?_ | refine gP _ ?_ ?_ | refine sN _ ?_ ?_ | refine gN _ ?_ ?_) <;> intro hc <;> (first | replace hc := eqn hc | replace hc := eqp hc) <;> simp [*]) | ((first | refine sM _ ?_ ?_ | refine gM _ ?_ ?_ | refine sB _ ?_ ?_ | refine gB _ ?_ ?_) <;> intro hc <;> simp [*])))
def signsL : List (List UInt8) := [[62, 62, 62], [60, 60], [62, 62], [60, 61], [62, 61], [61, 61], [33, 61], [38, 38], [124, 124], [40], [41], [123], [125], [91], [93], [44], [59], [61], [60], [62], [43], [45], [42], [47], [37], [38], [124], [94], [126], [33]]
def zMd (s : List UInt8) : List UInt8 := (signsL.find? fun x => x.isPrefixOf s).getD []
theorem prefix_take (x s : List UInt8) : x.isPrefixOf s = (decide (x.length <= s.length) && decide (s.take x.length = x)) := by
 rw [Bool.eq_iff_iff]
 simp only [List.isPrefixOf_iff_prefix, Bool.and_eq_true, decide_eq_true_eq]
 constructor
 ·intro h; exact ⟨h.length_le, (List.prefix_iff_eq_take.1 h).symm⟩
 ·rintro ⟨_, h⟩; rw [<- h]; exact List.take_prefix _ _
theorem sign_spec (s : List UInt8) (hl : s.length < 1099511627776) : zi E 37 [.str s] [] = some (.ret (.str (zMd s)), []) := by
 refine zc rfl rfl rfl (by simp) ?_
 simp [F37]
 refine zz signsL K37_0 B37_0 (fun d => [(4, .int .i64 d.length)]) (fun _ => []) (fun d => ∀ x ∈ d, x.isPrefixOf s = false) (by decide) (by simp) ?_ ?_
 ·intros d x r s1 hl' hlt hget hget' hw hp h1 h2 h3 h4
  have hl3 : [PV.str [62, 62, 62], PV.str [60, 60], PV.str [62, 62], PV.str [60, 61], PV.str [62, 61], PV.str [61, 61], PV.str [33, 61], PV.str [38, 38], PV.str [124, 124], PV.str [40], PV.str [41], PV.str [123], PV.str [125], PV.str [91], PV.str [93], PV.str [44], PV.str [59], PV.str [61], PV.str [60], PV.str [62], PV.str [43], PV.str [45], PV.str [42], PV.str [47], PV.str [37], PV.str [38], PV.str [124], PV.str [94], PV.str [126], PV.str [33]] = signsL.map PV.str := rfl
  simp [hl3] at h1 h3
  clear h2
  have hlen : d.length < 30 := hlt
  have hl30 : (signsL.map PV.str).length = 30 := rfl
  have hpre := prefix_take x s
  have hxl : x.length <= 3 := by
   have : ∀ y ∈ signsL, y.length <= 3 := by decide
   exact this x hl'.mem
  have hf : x.isPrefixOf s = true -> zMd s = x := by
   intro h
   unfold zMd
   rw [hl'.eq, List.find?_append]
   have : d.find? (fun x => x.isPrefixOf s) = none := by rw [List.find?_eq_none]; intro y hy; simp [hp y hy]
   rw [this]
   simp [List.find?_cons, h]
  cases hx : x.isPrefixOf s
  ·rw [hx] at hpre
   by_cases hle : x.length <= s.length
   ·have hne : ¬ s.take x.length = x := by
     intro h; simp [hle, h] at hpre
    clear hf hpre hl3
    (simp [*]) <;> (repeat' (first | ((first | refine sP _ ?_ ?_ | refine gP _ ?_ ?_ | refine sN _ ?_ ?_ | refine gN _ ?_ ?_) <;> intro hc <;> (first | replace hc := eqn hc | replace hc := eqp hc) <;> simp [*]) | ((first | refine sM _ ?_ ?_ | refine gM _ ?_ ?_ | refine sB _ ?_ ?_ | refine gB _ ?_ ?_) <;> intro hc <;> simp [*])))
    all_goals (try refine ⟨rfl, ?_⟩)
    all_goals (try grind)
   ·clear hf hpre hl3
    (simp [*]) <;> (repeat' (first | ((first | refine sP _ ?_ ?_ | refine gP _ ?_ ?_ | refine sN _ ?_ ?_ | refine gN _ ?_ ?_) <;> intro hc <;> (first | replace hc := eqn hc | replace hc := eqp hc) <;> simp [*]) | ((first | refine sM _ ?_ ?_ | refine gM _ ?_ ?_ | refine sB _ ?_ ?_ | refine gB _ ?_ ?_) <;> intro hc <;> simp [*])))
    all_goals (try refine ⟨rfl, ?_⟩)
    all_goals (try grind)
  ·rw [hx] at hpre
   have hf := hf hx
   have hpre' := hpre.symm
   simp only [Bool.and_eq_true, decide_eq_true_eq] at hpre'
   obtain ⟨p1, p2⟩ := hpre'
   clear hl3 hpre
   (simp [*]) <;> (repeat' (first | ((first | refine sP _ ?_ ?_ | refine gP _ ?_ ?_ | refine sN _ ?_ ?_ | refine gN _ ?_ ?_) <;> intro hc <;> (first | replace hc := eqn hc | replace hc := eqp hc) <;> simp [*]) | ((first | refine sM _ ?_ ?_ | refine gM _ ?_ ?_ | refine sB _ ?_ ?_ | refine gB _ ?_ ?_) <;> intro hc <;> simp [*])))
   all_goals (try grind)
 ·intros s1 hp h1 h2 h3 h4
  have hl3 : [PV.str [62, 62, 62], PV.str [60, 60], PV.str [62, 62], PV.str [60, 61], PV.str [62, 61], PV.str [61, 61], PV.str [33, 61], PV.str [38, 38], PV.str [124, 124], PV.str [40], PV.str [41], PV.str [123], PV.str [125], PV.str [91], PV.str [93], PV.str [44], PV.str [59], PV.str [61], PV.str [60], PV.str [62], PV.str [43], PV.str [45], PV.str [42], PV.str [47], PV.str [37], PV.str [38], PV.str [124], PV.str [94], PV.str [126], PV.str [33]] = signsL.map PV.str := rfl
  simp [hl3] at h1 h3
  have hf : zMd s = [] := by
   unfold zMd
   have : signsL.find? (fun x => x.isPrefixOf s) = none := by rw [List.find?_eq_none]; intro y hy; simp [hp y hy]
   rw [this]; rfl
  have hl30 : (signsL.map PV.str).length = 30 := rfl
  have hl30' : (signsL.length : Int) = 30 := rfl
  clear h2 hp hl3
  (simp [*]) <;> (repeat' (first | ((first | refine sP _ ?_ ?_ | refine gP _ ?_ ?_ | refine sN _ ?_ ?_ | refine gN _ ?_ ?_) <;> intro hc <;> (first | replace hc := eqn hc | replace hc := eqp hc) <;> simp [*]) | ((first | refine sM _ ?_ ?_ | refine gM _ ?_ ?_ | refine sB _ ?_ ?_ | refine gB _ ?_ ?_) <;> intro hc <;> simp [*])))
end PE.U

namespace PE.U
open Go PE
def tokKind (w : List UInt8) (b : UInt8) : Int := if wordM w then 2 else if zMa b.toNat then 1 else 0
def tokBad (w : List UInt8) (b : UInt8) : Bool := (decide (tokKind w b = 1) && !zcb w) || (decide (tokKind w b = 0) && !zId w)
def blank (b : UInt8) : Bool := b == 32 || b == 9 || b == 13
def zab : Nat -> List UInt8 -> Int -> List Tok -> List Tok × Int × Int
 | 0, _, _, acc => (acc, 0, 0)
 | _ + 1, [], line, acc => (acc ++ [⟨3, [], line⟩], 0, 0)
 | n + 1, b :: r, line, acc =>
  if b = 10 then zab n r (line + 1) acc
  else if blank b then zab n r line acc
  else if b = 47 /\ r.head? = some 47 then zab n ((b :: r).dropWhile (· != 10)) line acc
  else if zB b then
   if tokBad ((b :: r).takeWhile zB) b then ([], 20, line)
   else zab n ((b :: r).drop ((b :: r).takeWhile zB).length) line (acc ++ [⟨tokKind ((b :: r).takeWhile zB) b, (b :: r).takeWhile zB, line⟩])
  else if zMd (b :: r) = [] then ([], 20, line)
  else zab n ((b :: r).drop (zMd (b :: r)).length) line (acc ++ [⟨2, zMd (b :: r), line⟩])
def zF (s : List UInt8) : List Tok × Int × Int := if 100000 < s.length then ([], 2, 0) else zab (s.length + 1) s 1 []
example : zF [105, 110, 116, 32, 120, 61, 49, 59, 10] = ([⟨2, [105, 110, 116], 1⟩, ⟨1, [120], 1⟩, ⟨2, [61], 1⟩, ⟨0, [49], 1⟩, ⟨2, [59], 1⟩, ⟨3, [], 2⟩], 0, 0) := by decide
theorem sign_len (s : List UInt8) : (zMd s).length <= s.length := by
 unfold zMd
 cases h : signsL.find? (fun x => x.isPrefixOf s) with
 | none => simp
 | some x =>
  have := List.find?_some h
  simp only [List.isPrefixOf_iff_prefix] at this
  simpa using this.length_le
end PE.U

namespace PE.U
open Go PE
theorem zHa {s : List UInt8} {i : Nat} (h : i < s.length) : s.drop i = s[i] :: s.drop (i + 1) := List.drop_eq_getElem_cons h
theorem takeWhile_all (p : UInt8 -> Bool) (l : List UInt8) (j : Nat) (h : j < (l.takeWhile p).length) (h' : j < l.length) : p l[j] = true := by
 have h1 : (l.takeWhile p)[j] = l[j] := by
  have := List.takeWhile_prefix (l := l) (p := p)
  exact this.getElem h
 rw [<- h1]
 exact (List.all_eq_true.1 (List.all_takeWhile (l := l) (p := p))) _ (List.getElem_mem h)
theorem zGd (p : UInt8 -> Bool) : ∀ (l : List UInt8) (h : (l.takeWhile p).length < l.length), p (l[(l.takeWhile p).length]) = false
 | [], h => by simp at h
 | b :: r, h => by
  cases hp : p b
  ·have e : (b :: r).takeWhile p = [] := by simp [hp]
   simp only [e]; simpa using hp
  ·have e : (b :: r).takeWhile p = b :: r.takeWhile p := by simp [hp]
   simp only [e, List.length_cons, List.getElem_cons_succ]
   exact zGd p r (by rw [e] at h; simpa using h)
theorem zAc (p : UInt8 -> Bool) (l : List UInt8) : l.dropWhile p = l.drop (l.takeWhile p).length := by
 induction l with
 | nil => rfl
 | cons b r ih =>
  cases hp : p b <;> simp [hp, ih]
theorem takeWhile_eq_take (p : UInt8 -> Bool) (l : List UInt8) : l.takeWhile p = l.take (l.takeWhile p).length := by
 induction l with
 | nil => rfl
 | cons b r ih =>
  cases hp : p b
  ·simp [hp]
  ·simp only [List.takeWhile_cons, hp, if_true, List.length_cons, List.take_succ_cons]; rw [<- ih]
def zib (s : List UInt8) (at' : Nat) : Nat := ((s.drop at').takeWhile zB).length
theorem runLen_le (s : List UInt8) (i : Nat) (h : i <= s.length) : i + zib s i <= s.length := by
 unfold zib
 have := (List.takeWhile_prefix (l := s.drop i) (p := zB)).length_le
 simp at this; omega
theorem runLen_in (s : List UInt8) (i j : Nat) (h : j < zib s i) (h' : i + j < s.length) : zB (s[i + j]) = true := by
 have := takeWhile_all zB (s.drop i) j h (by simp; omega)
 simpa using this
theorem runLen_end (s : List UInt8) (i : Nat) (h : i + zib s i < s.length) : zB (s[i + zib s i]) = false := by
 unfold zib at h ⊢
 have := zGd zB (s.drop i) (by simp; omega)
 simpa using this
def comLen (s : List UInt8) (i : Nat) : Nat := ((s.drop i).takeWhile (· != 10)).length
theorem comLen_le (s : List UInt8) (i : Nat) (h : i <= s.length) : i + comLen s i <= s.length := by
 unfold comLen
 have := (List.takeWhile_prefix (l := s.drop i) (p := (· != 10))).length_le
 simp at this; omega
theorem comLen_in (s : List UInt8) (i j : Nat) (h : j < comLen s i) (h' : i + j < s.length) : ¬ s[i + j] = 10 := by
 have := takeWhile_all (· != 10) (s.drop i) j h (by simp; omega)
 simpa using this
theorem comLen_end (s : List UInt8) (i : Nat) (h : i + comLen s i < s.length) : s[i + comLen s i] = 10 := by
 unfold comLen at h ⊢
 have := zGd (· != 10) (s.drop i) (by simp; omega)
 simpa using this
structure TS where
 at' : Nat
 line : Nat
 acc : List Tok
def OnRoad (s : List UInt8) (c : TS) : Prop := c.at' <= s.length /\ c.line <= c.at' + 1 /\ c.acc.length <= c.at' /\ ∃ n, s.length - c.at' < n /\ zab (s.length + 1) s 1 [] = zab n (s.drop c.at') c.line c.acc
theorem getD_idx {s : List UInt8} {i : Nat} (h : i < s.length) : s[i]? = some s[i] := by simp [h]
end PE.U

namespace PE.U
open Go PE
abbrev encTokR (r : List Tok × Int × Int) : List PV := [toks r.1, .int .i64 r.2.1, .int .i64 r.2.2]
theorem road_nl {s : List UInt8} {i line : Nat} {ac : List Tok} (h : OnRoad s ⟨i, line, ac⟩) (hi : i < s.length) (hb : (s[i].toNat : Int) = 10) : OnRoad s ⟨i + 1, line + 1, ac⟩ := by
 obtain ⟨h1, h2, h3, n, h4, h5⟩ := h
 simp only at h1 h2 h3 h4 h5
 obtain ⟨n, rfl⟩ : ∃ m, n = m + 1 := ⟨n - 1, by omega⟩
 have hb' : s[i] = 10 := UInt8.toNat_inj.1 (by simp; omega)
 refine ⟨by simp only; omega, by simp only; omega, by simp only; omega, n, by simp only; omega, ?_⟩
 rw [h5, zHa hi]
 simp [zab, hb']
theorem road_blank {s : List UInt8} {i line : Nat} {ac : List Tok} (h : OnRoad s ⟨i, line, ac⟩) (hi : i < s.length) (hb : blank s[i] = true) : OnRoad s ⟨i + 1, line, ac⟩ := by
 obtain ⟨h1, h2, h3, n, h4, h5⟩ := h
 simp only at h1 h2 h3 h4 h5
 obtain ⟨n, rfl⟩ : ∃ m, n = m + 1 := ⟨n - 1, by omega⟩
 have hb' : ¬ s[i] = 10 := by intro h; rw [h] at hb; exact absurd hb (by decide)
 refine ⟨by simp only; omega, by simp only; omega, by simp only; omega, n, by simp only; omega, ?_⟩
 rw [h5, zHa hi]
 simp [zab, hb', hb]
theorem road_com {s : List UInt8} {i line : Nat} {ac : List Tok} (h : OnRoad s ⟨i, line, ac⟩) (hi : i < s.length) (hb : (s[i].toNat : Int) = 47) (hi2 : i + 1 < s.length) (hb2 : (s[i + 1].toNat : Int) = 47) : OnRoad s ⟨i + comLen s i, line, ac⟩ /\ 0 < comLen s i := by
 obtain ⟨h1, h2, h3, n, h4, h5⟩ := h
 simp only at h1 h2 h3 h4 h5
 obtain ⟨n, rfl⟩ : ∃ m, n = m + 1 := ⟨n - 1, by omega⟩
 have hb' : s[i] = 47 := UInt8.toNat_inj.1 (by simp; omega)
 have hb2' : s[i + 1] = 47 := UInt8.toNat_inj.1 (by simp; omega)
 have hpos : 0 < comLen s i := by
  unfold comLen; rw [zHa hi, List.takeWhile_cons]; simp [hb']
 have hle := comLen_le s i h1
 refine ⟨⟨by simp only; omega, by simp only; omega, by simp only; omega, n, by simp only; omega, ?_⟩, hpos⟩
 have e : (s[i] :: s.drop (i + 1)).dropWhile (· != 10) = s.drop (i + comLen s i) := by
  rw [<- zHa hi, zAc, List.drop_drop]; rfl
 have hh : (s.drop (i + 1)).head? = some 47 := by rw [zHa hi2, hb2']; rfl
 rw [h5, zHa hi]
 simp only [zab]
 rw [if_neg (by rw [hb']; decide), if_neg (by rw [hb']; decide), if_pos ⟨hb', hh⟩, e]
structure Plain (s : List UInt8) (i : Nat) (hi : i < s.length) : Prop where
 nl : ¬ (s[i].toNat : Int) = 10
 blank : blank s[i] = false
 com : ¬ (s[i] = 47 /\ (s.drop (i + 1)).head? = some 47)
theorem road_name {s : List UInt8} {i line : Nat} {ac : List Tok} (h : OnRoad s ⟨i, line, ac⟩) (hi : i < s.length) (hp : Plain s i hi) (hn : zB s[i] = true) :
  (tokBad ((s.take (i + zib s i)).drop i) s[i] = true -> zab (s.length + 1) s 1 [] = ([], 20, (line : Int))) ∧
  (tokBad ((s.take (i + zib s i)).drop i) s[i] = false -> OnRoad s ⟨i + zib s i, line, ac ++ [⟨tokKind ((s.take (i + zib s i)).drop i) s[i], (s.take (i + zib s i)).drop i, line⟩]⟩) := by
 obtain ⟨h1, h2, h3, n, h4, h5⟩ := h
 simp only at h1 h2 h3 h4 h5
 obtain ⟨n, rfl⟩ : ∃ m, n = m + 1 := ⟨n - 1, by omega⟩
 have hnl : ¬ s[i] = 10 := by intro h; exact hp.nl (by rw [h]; rfl)
 have hpos : 0 < zib s i := by
  unfold zib; rw [zHa hi, List.takeWhile_cons]; simp [hn]
 have hle := runLen_le s i h1
 have e : (s[i] :: s.drop (i + 1)).takeWhile zB = (s.take (i + zib s i)).drop i := by
  rw [<- zHa hi, takeWhile_eq_take]
  rw [List.drop_take]; congr 1; unfold zib; omega
 have el : ((s.take (i + zib s i)).drop i).length = zib s i := by simp; omega
 have hs : ∀ k : Nat, zab (k + 1) (s[i] :: s.drop (i + 1)) line ac = if tokBad ((s.take (i + zib s i)).drop i) s[i] then ([], 20, (line : Int)) else zab k (s.drop (i + zib s i)) line (ac ++ [⟨tokKind ((s.take (i + zib s i)).drop i) s[i], (s.take (i + zib s i)).drop i, line⟩]) := by
  intro k
  simp only [zab]
  rw [if_neg hnl, if_neg (by rw [hp.blank]; decide), if_neg hp.com, if_pos hn, e, el]
  rw [<- zHa hi, List.drop_drop]
 refine ⟨fun hb => by rw [h5, zHa hi, hs, if_pos hb], fun hb => ⟨by simp only; omega, by simp only; omega, by simp only [List.length_append, List.length_cons, List.length_nil]; omega, n, by simp only; omega, ?_⟩⟩
 rw [h5, zHa hi, hs, if_neg (by rw [hb]; decide)]
theorem road_sign {s : List UInt8} {i line : Nat} {ac : List Tok} (h : OnRoad s ⟨i, line, ac⟩) (hi : i < s.length) (hp : Plain s i hi) (hn : zB s[i] = false) :
  (zMd (s.drop i) = [] -> zab (s.length + 1) s 1 [] = ([], 20, (line : Int))) ∧
  (¬ zMd (s.drop i) = [] -> OnRoad s ⟨i + (zMd (s.drop i)).length, line, ac ++ [⟨2, zMd (s.drop i), line⟩]⟩) := by
 obtain ⟨h1, h2, h3, n, h4, h5⟩ := h
 simp only at h1 h2 h3 h4 h5
 obtain ⟨n, rfl⟩ : ∃ m, n = m + 1 := ⟨n - 1, by omega⟩
 have hnl : ¬ s[i] = 10 := by intro h; exact hp.nl (by rw [h]; rfl)
 have hle := sign_len (s.drop i)
 rw [List.length_drop] at hle
 have hs : ∀ k : Nat, zab (k + 1) (s.drop i) line ac = if zMd (s.drop i) = [] then ([], 20, (line : Int)) else zab k (s.drop (i + (zMd (s.drop i)).length)) line (ac ++ [⟨2, zMd (s.drop i), line⟩]) := by
  intro k
  rw [<- List.drop_drop]
  rw [zHa hi]
  simp only [zab]
  rw [if_neg hnl, if_neg (by rw [hp.blank]; decide), if_neg hp.com, if_neg (by rw [hn]; decide)]
 refine ⟨fun hb => by rw [h5, hs, if_pos hb], fun hb => ?_⟩
 have hpos : 0 < (zMd (s.drop i)).length := List.length_pos_iff.2 hb
 refine ⟨by simp only; omega, by simp only; omega, by simp only [List.length_append, List.length_cons, List.length_nil]; omega, n, by simp only; omega, ?_⟩
 rw [h5, hs, if_neg hb]
theorem ub_eq (b : UInt8) (n : Nat) (h : n < 256) : (b == UInt8.ofNat n) = decide ((b.toNat : Int) = n) := by
 rw [Bool.eq_iff_iff]
 simp only [beq_iff_eq, decide_eq_true_eq]
 constructor
 ·rintro rfl; simp; omega
 ·intro h2; apply UInt8.toNat_inj.1; simp; omega
theorem blank_eq (b : UInt8) : blank b = (decide ((b.toNat : Int) = 32) || (decide ((b.toNat : Int) = 9) || decide ((b.toNat : Int) = 13))) := by
 unfold blank
 rw [show (32 : UInt8) = UInt8.ofNat 32 from rfl, show (9 : UInt8) = UInt8.ofNat 9 from rfl, show (13 : UInt8) = UInt8.ofNat 13 from rfl, ub_eq _ _ (by omega), ub_eq _ _ (by omega), ub_eq _ _ (by omega), Bool.or_assoc]
 rfl
theorem run_zero {s : List UInt8} {i : Nat} (hi : i < s.length) : zib s i = 0 <-> zB s[i] = false := by
 unfold zib
 rw [zHa hi, List.takeWhile_cons]
 cases zB s[i] <;> simp
set_option maxHeartbeats 4000000 in
set_option maxRecDepth 3000 in
theorem tokens_spec (s : List UInt8) : zi E 15 [.str s] [] = some (.ret (.tup (encTokR (zF s))), []) := by
 refine zc rfl rfl rfl (by simp) ?_
 by_cases hlong : 100000 < s.length
 ·have e : zF s = ([], 2, 0) := by unfold zF; rw [if_pos hlong]
  have hlong' : (100000 : Int) < s.length := by omega
  simp [F15, hlong', e, encTokR, toks]
 have e0 : zF s = zab (s.length + 1) s 1 [] := by unfold zF; rw [if_neg hlong]
 have hlong' : ¬ (100000 : Int) < s.length := by omega
 simp [F15, hlong', encTokR, toks]
 refine zza K15_2 B15_2 (fun c : TS => s.length - c.at') (fun c => [(7, .int .i64 c.at'), (6, .int .i64 c.line), (5, acc 3 (c.acc.map zw))]) (fun _ => []) (fun _ => []) (OnRoad s) ⟨0, 1, []⟩ ⟨?_, ?_, ?_, ?_⟩ ?_
 ·simp
 ·simp
 ·simp
 ·exact ⟨by simp, by simp, by simp, s.length + 1, by simp, by simp⟩
 rintro ⟨i, line, ac⟩ s1 ⟨hi, hline, hac, n, hn, hg⟩ h1 h2 h3 _ h4
 simp at hi hline hac hn hg h1 h3
 have w0 : zN .i64 ((i : Int) + 1) = (i : Int) + 1 := zj (by omega) (by omega)
 have w1 : zN .i64 ((line : Int) + 1) = (line : Int) + 1 := zj (by omega) (by omega)
 have hroad : OnRoad s ⟨i, line, ac⟩ := ⟨hi, hline, hac, n, hn, hg⟩
 obtain ⟨n, rfl⟩ : ∃ m, n = m + 1 := ⟨n - 1, by omega⟩
 by_cases hend : ¬ i < s.length
 ·have he : i = s.length := by omega
  subst he
  have e1 : zF s = (ac ++ [⟨3, [], line⟩], 0, 0) := by rw [e0, hg]; simp [zab]
  have q4 : (ac.length + 1) * 32 <= zn := by simp only [zn]; omega
  clear hg e0 hroad
  (simp [*, zw]) <;> (repeat' (first | ((first | refine sP _ ?_ ?_ | refine gP _ ?_ ?_ | refine sN _ ?_ ?_ | refine gN _ ?_ ?_) <;> intro hc <;> (first | replace hc := eqn hc | replace hc := eqp hc) <;> simp [*, zw]) | ((first | refine sM _ ?_ ?_ | refine gM _ ?_ ?_ | refine sB _ ?_ ?_ | refine gB _ ?_ ?_) <;> intro hc <;> simp [*, zw])))
 have hend := Decidable.of_not_not hend
 have hi2 : (i : Int) < s.length := by omega
 have hgi := getD_idx hend
 clear hg hn
 have hget : s[i]? = some s[i] := by simp [hend]
 -- the run
 have hrun : ∀ (s2 : St) (Q : Ex -> St -> Prop), (∀ t ∈ K15_0, s2.fr t = s2.fr t) -> True := fun _ _ _ => trivial
 clear hrun
 have hrl := runLen_le s i hi
 have hri := runLen_in s i
 have hre := runLen_end s i
 generalize hk : zib s i = k at *
 simp [h1, h3, h4, hend]
 refine zz (List.range k) K15_0 B15_0 (fun d => [(9, .int .i64 d.length)]) (fun _ => []) (fun d => True) (by simp; omega) (by simp; try exact h4) ?_ ?_
 ·intros d x r s3 hl' hlt hget2 hget' hw hp h1' h2' h3' h4'
  simp at h1' h3' hlt
  simp at h2'
  clear hget2 hget' hl'
  have hq : i + d.length < s.length := by omega
  have hcb := hri d.length hlt hq
  have hgc : s[i + d.length]? = some s[i + d.length] := by simp [hq]
  generalize s[i + d.length] = c at hcb hgc
  have l1 := zAa c.toNat []
  have l2 := zXa c.toNat []
  have wi : zN .i64 ((i : Int) + d.length) = ((i + d.length : Nat) : Int) := zj (by omega) (by omega)
  clear h1 h2 h3 e0 hgi hget hre hri hroad
  generalize i + d.length = q at *
  have hgc' : s[q]'hq = c := by simpa [hq] using hgc
  simp only [zB, Bool.or_eq_true] at hcb
  cases hx : zMa c.toNat
  ·have hy : zcc c.toNat = true := by simpa [hx] using hcb
   clear hcb
   (simp [*]) <;> (repeat' (first | ((first | refine sP _ ?_ ?_ | refine gP _ ?_ ?_ | refine sN _ ?_ ?_ | refine gN _ ?_ ?_) <;> intro hc <;> (first | replace hc := eqn hc | replace hc := eqp hc) <;> simp [*]) | ((first | refine sM _ ?_ ?_ | refine gM _ ?_ ?_ | refine sB _ ?_ ?_ | refine gB _ ?_ ?_) <;> intro hc <;> simp [*])))
   all_goals (try grind)
  ·clear hcb
   (simp [*]) <;> (repeat' (first | ((first | refine sP _ ?_ ?_ | refine gP _ ?_ ?_ | refine sN _ ?_ ?_ | refine gN _ ?_ ?_) <;> intro hc <;> (first | replace hc := eqn hc | replace hc := eqp hc) <;> simp [*]) | ((first | refine sM _ ?_ ?_ | refine gM _ ?_ ?_ | refine sB _ ?_ ?_ | refine gB _ ?_ ?_) <;> intro hc <;> simp [*])))
   all_goals (try grind)
 ·intros s3 hp h1' h2' h3' h4'
  simp at h1' h2' h3'
  clear h1 h2 h3 hri hp
  have wk : ∃ q : Nat, q = i + k /\ zN .i64 ((i : Int) + k) = (q : Int) /\ (q = s.length \/ ∃ c, ∃ h : q < s.length, s[q]'h = c /\ s[q]? = some c /\ zMa c.toNat = false /\ zcc c.toNat = false) := by
   refine ⟨i + k, rfl, zj (by omega) (by omega), ?_⟩
   by_cases h : i + k < s.length
   ·have := hre h
    simp only [zB, Bool.or_eq_false_iff] at this
    exact Or.inr ⟨s[i + k], h, rfl, by simp [h], this.1, this.2⟩
   ·exact Or.inl (by omega)
  obtain ⟨q, hq, wk, hstop⟩ := wk
  clear hre
  have hz := run_zero hend
  rw [hk] at hz
  have b10 := fun h => road_nl hroad hend h
  have bbl := fun h => road_blank hroad hend h
  have bcom := fun h => road_com hroad hend h
  have bname := fun hp h => road_name hroad hend hp h
  have bsign := fun hp h => road_sign hroad hend hp h
  rw [hk] at bname
  have hle := comLen_le s i hi
  have hci := comLen_in s i
  have hce := comLen_end s i
  generalize hbb : s[i] = b at *
  have l1 := zAa b.toNat []
  have hbl : blank b = (decide ((b.toNat : Int) = 32) || (decide ((b.toNat : Int) = 9) || decide ((b.toNat : Int) = 13))) := blank_eq b
  by_cases c10 : (b.toNat : Int) = 10
  ·have r := b10 c10
   clear b10 bbl bcom bname bsign hz hroad e0 hle hci hce hq hbl
   replace c10 := eqp c10
   rcases hstop with hst | ⟨c, hst, g1, g2, g3, g4⟩
   ·(simp [*]) <;> (repeat' (first | ((first | refine sP _ ?_ ?_ | refine gP _ ?_ ?_ | refine sN _ ?_ ?_ | refine gN _ ?_ ?_) <;> intro hc <;> (first | replace hc := eqn hc | replace hc := eqp hc) <;> simp [*]) | ((first | refine sM _ ?_ ?_ | refine gM _ ?_ ?_ | refine sB _ ?_ ?_ | refine gB _ ?_ ?_) <;> intro hc <;> simp [*])))
    all_goals exact ⟨⟨i + 1, line + 1, ac⟩, by simp only; omega, ⟨by simp, by simp, rfl⟩, r⟩
   ·have l2 := zAa c.toNat []
    have l3 := zXa c.toNat []
    (simp [*]) <;> (repeat' (first | ((first | refine sP _ ?_ ?_ | refine gP _ ?_ ?_ | refine sN _ ?_ ?_ | refine gN _ ?_ ?_) <;> intro hc <;> (first | replace hc := eqn hc | replace hc := eqp hc) <;> simp [*]) | ((first | refine sM _ ?_ ?_ | refine gM _ ?_ ?_ | refine sB _ ?_ ?_ | refine gB _ ?_ ?_) <;> intro hc <;> simp [*])))
    all_goals exact ⟨⟨i + 1, line + 1, ac⟩, by simp only; omega, ⟨by simp, by simp, rfl⟩, r⟩
  replace c10 := eqn c10
  cases hcb : blank b
  ·rw [hcb] at hbl
   replace hbl := hbl.symm
   simp only [Bool.or_eq_false_iff, decide_eq_false_iff_not] at hbl
   obtain ⟨c1, c2, c3⟩ := hbl
   have hpl : ¬ (b = 47 /\ (s.drop (i + 1)).head? = some 47) -> Plain s i hend := fun h => ⟨by rw [hbb]; simpa using c10, by rw [hbb]; exact hcb, by rw [hbb]; exact h⟩
   replace c1 := eqn c1
   replace c2 := eqn c2
   replace c3 := eqn c3
   have w1' : zN .i64 ((i : Int) + 1) = ((i + 1 : Nat) : Int) := by rw [w0]; simp
   by_cases hcom : (b.toNat : Int) = 47 /\ ∃ h : i + 1 < s.length, (s[i + 1].toNat : Int) = 47
   ·obtain ⟨c4, hj, c5⟩ := hcom
    obtain ⟨r, hpos⟩ := bcom c4 hj c5
    clear b10 bbl bcom bname bsign hz hroad e0 hq hpl hcb
    replace c4 := eqp c4
    have gj : s[i + 1]? = some s[i + 1] := by simp [hj]
    have gj' : s[i + 1]'hj = s[i + 1] := rfl
    generalize hm : comLen s i = m at *
    generalize hbj : s[i + 1] = bj at *
    have hj' : (i : Int) + 1 < s.length := by omega
    have tj : ((i : Int) + 1).toNat = i + 1 := by omega
    have nj : (0 : Int) <= (i : Int) + 1 := by omega
    replace c5 := eqp c5
    clear w1'
    rcases hstop with hst | ⟨c, hst, g1, g2, g3, g4⟩
    ·(simp [*]) <;> (repeat' (first | ((first | refine sP _ ?_ ?_ | refine gP _ ?_ ?_ | refine sN _ ?_ ?_ | refine gN _ ?_ ?_) <;> intro hc <;> (first | replace hc := eqn hc | replace hc := eqp hc) <;> simp [*]) | ((first | refine sM _ ?_ ?_ | refine gM _ ?_ ?_ | refine sB _ ?_ ?_ | refine gB _ ?_ ?_) <;> intro hc <;> simp [*])))
     refine zz (List.range m) K15_1 B15_1 (fun d => [(7, .int .i64 ((i + d.length : Nat) : Int))]) (fun _ => []) (fun _ => True) (by simp; omega) (by simp) ?_ ?_
     ·intros d x r' s4 hl' hlt hget2 hget' hw hp h1'' h2'' h3'' h4''
      simp at h1'' h3'' hlt
      have hq2 : i + d.length < s.length := by omega
      have hcb := hci d.length hlt hq2
      have hgc : s[i + d.length]? = some s[i + d.length] := by simp [hq2]
      have hcb' : ¬ (s[i + d.length].toNat : Int) = 10 := fun h => hcb (UInt8.toNat_inj.1 (by simp; omega))
      have wi : zN .i64 ((i : Int) + d.length + 1) = ((i : Int) + d.length) + 1 := zj (by omega) (by omega)
      have a0 : (0 : Int) <= (i : Int) + d.length := by omega
      have a1 : ((i : Int) + d.length).toNat = i + d.length := by omega
      have a2 : (i : Int) + d.length < s.length := by omega
      have a3 : (i : Int) + (d.length + 1) = (i : Int) + d.length + 1 := by omega
      obtain ⟨c2, hgc'⟩ : ∃ c2, s[i + d.length]'hq2 = c2 := ⟨_, rfl⟩
      rw [hgc'] at hcb hgc hcb'
      replace hcb' := eqn hcb'
      clear hci hce hget2 hget' hl' hbb hgi hget gj gj' h2'' hcb
      simp [*]
     ·intros s4 hp h1'' h2'' h3'' h4''
      simp at h1'' h3''
      have a0 : (0 : Int) <= (i : Int) + m := by omega
      have a1 : ((i : Int) + m).toNat = i + m := by omega
      clear hci hbb hgi hget gj gj' h2''
      by_cases hmm : i + m < s.length
      ·have hcb := hce hmm
       have hgc : s[i + m]? = some s[i + m] := by simp [hmm]
       have a2 : (i : Int) + m < s.length := by omega
       rw [hcb] at hgc
       clear hce
       simp [*]
       exact ⟨⟨i + m, line, ac⟩, by simp only; omega, ⟨by simp, by simp, rfl⟩, r⟩
      ·have a2 : ¬ (i : Int) + m < s.length := by omega
       clear hce
       simp [*]
       exact ⟨⟨i + m, line, ac⟩, by simp only; omega, ⟨by simp, by simp, rfl⟩, r⟩
    ·have l2 := zAa c.toNat []
     have l3 := zXa c.toNat []
     (simp [*]) <;> (repeat' (first | ((first | refine sP _ ?_ ?_ | refine gP _ ?_ ?_ | refine sN _ ?_ ?_ | refine gN _ ?_ ?_) <;> intro hc <;> (first | replace hc := eqn hc | replace hc := eqp hc) <;> simp [*]) | ((first | refine sM _ ?_ ?_ | refine gM _ ?_ ?_ | refine sB _ ?_ ?_ | refine gB _ ?_ ?_) <;> intro hc <;> simp [*])))
     refine zz (List.range m) K15_1 B15_1 (fun d => [(7, .int .i64 ((i + d.length : Nat) : Int))]) (fun _ => []) (fun _ => True) (by simp; omega) (by simp) ?_ ?_
     ·intros d x r' s4 hl' hlt hget2 hget' hw hp h1'' h2'' h3'' h4''
      simp at h1'' h3'' hlt
      have hq2 : i + d.length < s.length := by omega
      have hcb := hci d.length hlt hq2
      have hgc : s[i + d.length]? = some s[i + d.length] := by simp [hq2]
      have hcb' : ¬ (s[i + d.length].toNat : Int) = 10 := fun h => hcb (UInt8.toNat_inj.1 (by simp; omega))
      have wi : zN .i64 ((i : Int) + d.length + 1) = ((i : Int) + d.length) + 1 := zj (by omega) (by omega)
      have a0 : (0 : Int) <= (i : Int) + d.length := by omega
      have a1 : ((i : Int) + d.length).toNat = i + d.length := by omega
      have a2 : (i : Int) + d.length < s.length := by omega
      have a3 : (i : Int) + (d.length + 1) = (i : Int) + d.length + 1 := by omega
      obtain ⟨c2, hgc'⟩ : ∃ c2, s[i + d.length]'hq2 = c2 := ⟨_, rfl⟩
      rw [hgc'] at hcb hgc hcb'
      replace hcb' := eqn hcb'
      clear hci hce hget2 hget' hl' hbb hgi hget gj gj' h2'' hcb
      simp [*]
     ·intros s4 hp h1'' h2'' h3'' h4''
      simp at h1'' h3''
      have a0 : (0 : Int) <= (i : Int) + m := by omega
      have a1 : ((i : Int) + m).toNat = i + m := by omega
      clear hci hbb hgi hget gj gj' h2''
      by_cases hmm : i + m < s.length
      ·have hcb := hce hmm
       have hgc : s[i + m]? = some s[i + m] := by simp [hmm]
       have a2 : (i : Int) + m < s.length := by omega
       rw [hcb] at hgc
       clear hce
       simp [*]
       exact ⟨⟨i + m, line, ac⟩, by simp only; omega, ⟨by simp, by simp, rfl⟩, r⟩
      ·have a2 : ¬ (i : Int) + m < s.length := by omega
       clear hce
       simp [*]
       exact ⟨⟨i + m, line, ac⟩, by simp only; omega, ⟨by simp, by simp, rfl⟩, r⟩
   ·clear bcom hci hce hle
    replace hpl := hpl (by
     rintro ⟨h1, h2⟩
     apply hcom
     refine ⟨by rw [h1]; rfl, ?_⟩
     by_cases hj : i + 1 < s.length
     ·refine ⟨hj, ?_⟩
      rw [zHa hj] at h2
      simp at h2
      have h3 : s[i + 1] = 47 := by
       have : s[i + 1]? = some s[i + 1] := by simp [hj]
       rw [this] at h2; simpa using h2
      rw [h3]; rfl
     ·rw [List.drop_eq_nil_of_le (by omega)] at h2; simp at h2)
    have q4 : (ac.length + 1) * 32 <= zn := by simp only [zn]; omega
    cases hnb : zB b
    ·obtain ⟨s0, s1⟩ := bsign hpl hnb
     have hk0 : k = 0 := hz.2 hnb
     have hs := sign_spec (s.drop i) (by simp; omega)
     have hsl := sign_len (s.drop i)
     simp at hsl
     generalize hsg : zMd (s.drop i) = sg at *
     have hcc : (¬ (b.toNat : Int) = 47) \/ ((b.toNat : Int) = 47 /\ (i + 1 = s.length \/ ∃ h : i + 1 < s.length, ¬ (s[i + 1].toNat : Int) = 47)) := by
      by_cases c4 : (b.toNat : Int) = 47
      ·right; refine ⟨c4, ?_⟩
       by_cases hj : i + 1 < s.length
       ·exact Or.inr ⟨hj, fun h => hcom ⟨c4, hj, h⟩⟩
       ·exact Or.inl (by omega)
      ·exact Or.inl c4
     have he : sg = [] -> zF s = ([], 20, (line : Int)) := fun h => by rw [e0]; exact s0 h
     have hnb' := hnb
     clear b10 bbl bname bsign hz hcb hcom hpl hroad s0 hnb e0 hk hrl hsg
     subst hk0
     have hwi : zN .i64 ((i : Int) + sg.length) = ((i + sg.length : Nat) : Int) := zj (by omega) (by omega)
     have hii : i <= s.length := hi
     generalize hq2 : i + sg.length = q2 at *
     have wi0 : zN .i64 (i : Int) = i := zj (by omega) (by omega)
     have l3 := zXa b.toNat []
     simp only [zB, Bool.or_eq_false_iff] at hnb'
     obtain ⟨g3, g4⟩ := hnb'
     clear hq hstop wk
     rcases hcc with c4 | ⟨c4, hj | ⟨hj, c5⟩⟩
     ·replace c4 := eqn c4
      by_cases hsn : sg = []
      ·replace he := he hsn
       subst hsn
       clear s1
       (simp [*]) <;> (repeat' (first | ((first | refine sP _ ?_ ?_ | refine gP _ ?_ ?_ | refine sN _ ?_ ?_ | refine gN _ ?_ ?_) <;> intro hc <;> (first | replace hc := eqn hc | replace hc := eqp hc) <;> simp [*]) | ((first | refine sM _ ?_ ?_ | refine gM _ ?_ ?_ | refine sB _ ?_ ?_ | refine gB _ ?_ ?_) <;> intro hc <;> simp [*])))
      ·replace s1 := s1 hsn
       have hpos : 0 < sg.length := List.length_pos_iff.2 hsn
       replace hsn := eqn hsn
       clear he
       (simp [*, zw]) <;> (repeat' (first | ((first | refine sP _ ?_ ?_ | refine gP _ ?_ ?_ | refine sN _ ?_ ?_ | refine gN _ ?_ ?_) <;> intro hc <;> (first | replace hc := eqn hc | replace hc := eqp hc) <;> simp [*, zw]) | ((first | refine sM _ ?_ ?_ | refine gM _ ?_ ?_ | refine sB _ ?_ ?_ | refine gB _ ?_ ?_) <;> intro hc <;> simp [*, zw])))
       all_goals exact ⟨⟨q2, line, ac ++ [⟨2, sg, line⟩]⟩, by simp only; omega, ⟨by first | rfl | omega | (simp only; omega), by simp, by simp [zw]⟩, s1⟩
     ·replace c4 := eqp c4
      have hj1 : ¬ (i : Int) + 1 < s.length := by omega
      by_cases hsn : sg = []
      ·replace he := he hsn
       subst hsn
       clear s1
       (simp [*]) <;> (repeat' (first | ((first | refine sP _ ?_ ?_ | refine gP _ ?_ ?_ | refine sN _ ?_ ?_ | refine gN _ ?_ ?_) <;> intro hc <;> (first | replace hc := eqn hc | replace hc := eqp hc) <;> simp [*]) | ((first | refine sM _ ?_ ?_ | refine gM _ ?_ ?_ | refine sB _ ?_ ?_ | refine gB _ ?_ ?_) <;> intro hc <;> simp [*])))
      ·replace s1 := s1 hsn
       have hpos : 0 < sg.length := List.length_pos_iff.2 hsn
       replace hsn := eqn hsn
       clear he
       (simp [*, zw]) <;> (repeat' (first | ((first | refine sP _ ?_ ?_ | refine gP _ ?_ ?_ | refine sN _ ?_ ?_ | refine gN _ ?_ ?_) <;> intro hc <;> (first | replace hc := eqn hc | replace hc := eqp hc) <;> simp [*, zw]) | ((first | refine sM _ ?_ ?_ | refine gM _ ?_ ?_ | refine sB _ ?_ ?_ | refine gB _ ?_ ?_) <;> intro hc <;> simp [*, zw])))
       all_goals exact ⟨⟨q2, line, ac ++ [⟨2, sg, line⟩]⟩, by simp only; omega, ⟨by first | rfl | omega | (simp only; omega), by simp, by simp [zw]⟩, s1⟩
     ·replace c4 := eqp c4
      have hj1 : (i : Int) + 1 < s.length := by omega
      have tj : ((i : Int) + 1).toNat = i + 1 := by omega
      have nj : (0 : Int) <= (i : Int) + 1 := by omega
      obtain ⟨bj, gj'⟩ : ∃ bj, s[i + 1]'hj = bj := ⟨_, rfl⟩
      rw [gj'] at c5
      replace c5 := eqn c5
      clear w1'
      by_cases hsn : sg = []
      ·replace he := he hsn
       subst hsn
       clear s1
       (simp [*]) <;> (repeat' (first | ((first | refine sP _ ?_ ?_ | refine gP _ ?_ ?_ | refine sN _ ?_ ?_ | refine gN _ ?_ ?_) <;> intro hc <;> (first | replace hc := eqn hc | replace hc := eqp hc) <;> simp [*]) | ((first | refine sM _ ?_ ?_ | refine gM _ ?_ ?_ | refine sB _ ?_ ?_ | refine gB _ ?_ ?_) <;> intro hc <;> simp [*])))
      ·replace s1 := s1 hsn
       have hpos : 0 < sg.length := List.length_pos_iff.2 hsn
       replace hsn := eqn hsn
       clear he
       (simp [*, zw]) <;> (repeat' (first | ((first | refine sP _ ?_ ?_ | refine gP _ ?_ ?_ | refine sN _ ?_ ?_ | refine gN _ ?_ ?_) <;> intro hc <;> (first | replace hc := eqn hc | replace hc := eqp hc) <;> simp [*, zw]) | ((first | refine sM _ ?_ ?_ | refine gM _ ?_ ?_ | refine sB _ ?_ ?_ | refine gB _ ?_ ?_) <;> intro hc <;> simp [*, zw])))
       all_goals exact ⟨⟨q2, line, ac ++ [⟨2, sg, line⟩]⟩, by simp only; omega, ⟨by first | rfl | omega | (simp only; omega), by simp, by simp [zw]⟩, s1⟩
    ·obtain ⟨s0, s1⟩ := bname hpl hnb
     have hk0 : 0 < k := by
      rcases Nat.eq_zero_or_pos k with h | h
      ·rw [hz.1 h] at hnb; cases hnb
      ·exact h
     have c4 : ¬ (b.toNat : Int) = 47 := by
      intro h
      have : b = 47 := UInt8.toNat_inj.1 (by simp; omega)
      rw [this] at hnb; exact absurd hnb (by decide)
     rw [<- hq] at s0 s1
     have hqi : i <= q := by omega
     have hqs : q <= s.length := by omega
     have hwl : ((s.take q).drop i).length = k := by simp; omega
     have hqk : i < q := by omega
     clear hz hcom hpl hroad b10 bbl bname bsign hcb hk hrl
     have hw1 := rword_spec ((s.take q).drop i) []
     have hw2 := zTc ((s.take q).drop i) []
     have hw3 := number_spec ((s.take q).drop i) (by simp; omega)
     have he : tokBad ((s.take q).drop i) b = true -> zF s = ([], 20, (line : Int)) := fun h => by rw [e0]; exact s0 h
     clear s0 e0
     have ww : zN .i64 ((i : Int) + k) = q := wk
     have hki : i + k = q := hq.symm
     clear hq
     generalize hww : (s.take q).drop i = w at *
     replace c4 := eqn c4
     have hnbb : zB b = (zMa b.toNat || zcc b.toNat) := rfl
     rw [hnb] at hnbb
     replace hnbb := hnbb.symm
     have hkn : tokKind w b = if wordM w then 2 else if zMa b.toNat then 1 else 0 := rfl
     have hbn : tokBad w b = ((decide (tokKind w b = 1) && !zcb w) || (decide (tokKind w b = 0) && !zId w)) := rfl
     rcases hstop with hst | ⟨c, hst, g1, g2, g3, g4⟩
     ·rw [hst, List.take_length] at hww
      cases f1 : wordM w
      ·cases f2 : zMa b.toNat
       ·rw [f1, f2] at hkn
        simp at hkn
        rw [hkn] at hbn s1
        cases f3 : zId w
        ·rw [f3] at hbn
         simp at hbn
         replace he := he hbn
         clear s1 hkn hnbb hbn
         (simp [*]) <;> (repeat' (first | ((first | refine sP _ ?_ ?_ | refine gP _ ?_ ?_ | refine sN _ ?_ ?_ | refine gN _ ?_ ?_) <;> intro hc <;> (first | replace hc := eqn hc | replace hc := eqp hc) <;> simp [*]) | ((first | refine sM _ ?_ ?_ | refine gM _ ?_ ?_ | refine sB _ ?_ ?_ | refine gB _ ?_ ?_) <;> intro hc <;> simp [*])))
        ·rw [f3] at hbn
         simp at hbn
         replace s1 := s1 hbn
         clear he hkn hnbb hbn
         (simp [*, zw]) <;> (repeat' (first | ((first | refine sP _ ?_ ?_ | refine gP _ ?_ ?_ | refine sN _ ?_ ?_ | refine gN _ ?_ ?_) <;> intro hc <;> (first | replace hc := eqn hc | replace hc := eqp hc) <;> simp [*, zw]) | ((first | refine sM _ ?_ ?_ | refine gM _ ?_ ?_ | refine sB _ ?_ ?_ | refine gB _ ?_ ?_) <;> intro hc <;> simp [*, zw])))
         all_goals exact ⟨⟨q, line, ac ++ [⟨0, w, line⟩]⟩, by simp only; omega, ⟨by first | rfl | omega | (simp only; omega), by simp, by simp [zw]⟩, s1⟩
       ·rw [f1, f2] at hkn
        simp at hkn
        rw [hkn] at hbn s1
        cases f3 : zcb w
        ·rw [f3] at hbn
         simp at hbn
         replace he := he hbn
         clear s1 hkn hnbb hbn
         (simp [*]) <;> (repeat' (first | ((first | refine sP _ ?_ ?_ | refine gP _ ?_ ?_ | refine sN _ ?_ ?_ | refine gN _ ?_ ?_) <;> intro hc <;> (first | replace hc := eqn hc | replace hc := eqp hc) <;> simp [*]) | ((first | refine sM _ ?_ ?_ | refine gM _ ?_ ?_ | refine sB _ ?_ ?_ | refine gB _ ?_ ?_) <;> intro hc <;> simp [*])))
        ·rw [f3] at hbn
         simp at hbn
         replace s1 := s1 hbn
         clear he hkn hnbb hbn
         (simp [*, zw]) <;> (repeat' (first | ((first | refine sP _ ?_ ?_ | refine gP _ ?_ ?_ | refine sN _ ?_ ?_ | refine gN _ ?_ ?_) <;> intro hc <;> (first | replace hc := eqn hc | replace hc := eqp hc) <;> simp [*, zw]) | ((first | refine sM _ ?_ ?_ | refine gM _ ?_ ?_ | refine sB _ ?_ ?_ | refine gB _ ?_ ?_) <;> intro hc <;> simp [*, zw])))
         all_goals exact ⟨⟨q, line, ac ++ [⟨1, w, line⟩]⟩, by simp only; omega, ⟨by first | rfl | omega | (simp only; omega), by simp, by simp [zw]⟩, s1⟩
      ·rw [f1] at hkn
       simp at hkn
       rw [hkn] at hbn s1
       simp at hbn
       replace s1 := s1 hbn
       clear he hkn hnbb hbn
       cases f2 : zMa b.toNat
       ·(simp [*, zw]) <;> (repeat' (first | ((first | refine sP _ ?_ ?_ | refine gP _ ?_ ?_ | refine sN _ ?_ ?_ | refine gN _ ?_ ?_) <;> intro hc <;> (first | replace hc := eqn hc | replace hc := eqp hc) <;> simp [*, zw]) | ((first | refine sM _ ?_ ?_ | refine gM _ ?_ ?_ | refine sB _ ?_ ?_ | refine gB _ ?_ ?_) <;> intro hc <;> simp [*, zw])))
        all_goals exact ⟨⟨q, line, ac ++ [⟨2, w, line⟩]⟩, by simp only; omega, ⟨by first | rfl | omega | (simp only; omega), by simp, by simp [zw]⟩, s1⟩
       ·(simp [*, zw]) <;> (repeat' (first | ((first | refine sP _ ?_ ?_ | refine gP _ ?_ ?_ | refine sN _ ?_ ?_ | refine gN _ ?_ ?_) <;> intro hc <;> (first | replace hc := eqn hc | replace hc := eqp hc) <;> simp [*, zw]) | ((first | refine sM _ ?_ ?_ | refine gM _ ?_ ?_ | refine sB _ ?_ ?_ | refine gB _ ?_ ?_) <;> intro hc <;> simp [*, zw])))
        all_goals exact ⟨⟨q, line, ac ++ [⟨2, w, line⟩]⟩, by simp only; omega, ⟨by first | rfl | omega | (simp only; omega), by simp, by simp [zw]⟩, s1⟩
     ·have l2 := zAa c.toNat []
      have l3 := zXa c.toNat []
      cases f1 : wordM w
      ·cases f2 : zMa b.toNat
       ·rw [f1, f2] at hkn
        simp at hkn
        rw [hkn] at hbn s1
        cases f3 : zId w
        ·rw [f3] at hbn
         simp at hbn
         replace he := he hbn
         clear s1 hkn hnbb hbn
         (simp [*]) <;> (repeat' (first | ((first | refine sP _ ?_ ?_ | refine gP _ ?_ ?_ | refine sN _ ?_ ?_ | refine gN _ ?_ ?_) <;> intro hc <;> (first | replace hc := eqn hc | replace hc := eqp hc) <;> simp [*]) | ((first | refine sM _ ?_ ?_ | refine gM _ ?_ ?_ | refine sB _ ?_ ?_ | refine gB _ ?_ ?_) <;> intro hc <;> simp [*])))
        ·rw [f3] at hbn
         simp at hbn
         replace s1 := s1 hbn
         clear he hkn hnbb hbn
         (simp [*, zw]) <;> (repeat' (first | ((first | refine sP _ ?_ ?_ | refine gP _ ?_ ?_ | refine sN _ ?_ ?_ | refine gN _ ?_ ?_) <;> intro hc <;> (first | replace hc := eqn hc | replace hc := eqp hc) <;> simp [*, zw]) | ((first | refine sM _ ?_ ?_ | refine gM _ ?_ ?_ | refine sB _ ?_ ?_ | refine gB _ ?_ ?_) <;> intro hc <;> simp [*, zw])))
         all_goals exact ⟨⟨q, line, ac ++ [⟨0, w, line⟩]⟩, by simp only; omega, ⟨by first | rfl | omega | (simp only; omega), by simp, by simp [zw]⟩, s1⟩
       ·rw [f1, f2] at hkn
        simp at hkn
        rw [hkn] at hbn s1
        cases f3 : zcb w
        ·rw [f3] at hbn
         simp at hbn
         replace he := he hbn
         clear s1 hkn hnbb hbn
         (simp [*]) <;> (repeat' (first | ((first | refine sP _ ?_ ?_ | refine gP _ ?_ ?_ | refine sN _ ?_ ?_ | refine gN _ ?_ ?_) <;> intro hc <;> (first | replace hc := eqn hc | replace hc := eqp hc) <;> simp [*]) | ((first | refine sM _ ?_ ?_ | refine gM _ ?_ ?_ | refine sB _ ?_ ?_ | refine gB _ ?_ ?_) <;> intro hc <;> simp [*])))
        ·rw [f3] at hbn
         simp at hbn
         replace s1 := s1 hbn
         clear he hkn hnbb hbn
         (simp [*, zw]) <;> (repeat' (first | ((first | refine sP _ ?_ ?_ | refine gP _ ?_ ?_ | refine sN _ ?_ ?_ | refine gN _ ?_ ?_) <;> intro hc <;> (first | replace hc := eqn hc | replace hc := eqp hc) <;> simp [*, zw]) | ((first | refine sM _ ?_ ?_ | refine gM _ ?_ ?_ | refine sB _ ?_ ?_ | refine gB _ ?_ ?_) <;> intro hc <;> simp [*, zw])))
         all_goals exact ⟨⟨q, line, ac ++ [⟨1, w, line⟩]⟩, by simp only; omega, ⟨by first | rfl | omega | (simp only; omega), by simp, by simp [zw]⟩, s1⟩
      ·rw [f1] at hkn
       simp at hkn
       rw [hkn] at hbn s1
       simp at hbn
       replace s1 := s1 hbn
       clear he hkn hnbb hbn
       cases f2 : zMa b.toNat
       ·(simp [*, zw]) <;> (repeat' (first | ((first | refine sP _ ?_ ?_ | refine gP _ ?_ ?_ | refine sN _ ?_ ?_ | refine gN _ ?_ ?_) <;> intro hc <;> (first | replace hc := eqn hc | replace hc := eqp hc) <;> simp [*, zw]) | ((first | refine sM _ ?_ ?_ | refine gM _ ?_ ?_ | refine sB _ ?_ ?_ | refine gB _ ?_ ?_) <;> intro hc <;> simp [*, zw])))
        all_goals exact ⟨⟨q, line, ac ++ [⟨2, w, line⟩]⟩, by simp only; omega, ⟨by first | rfl | omega | (simp only; omega), by simp, by simp [zw]⟩, s1⟩
       ·(simp [*, zw]) <;> (repeat' (first | ((first | refine sP _ ?_ ?_ | refine gP _ ?_ ?_ | refine sN _ ?_ ?_ | refine gN _ ?_ ?_) <;> intro hc <;> (first | replace hc := eqn hc | replace hc := eqp hc) <;> simp [*, zw]) | ((first | refine sM _ ?_ ?_ | refine gM _ ?_ ?_ | refine sB _ ?_ ?_ | refine gB _ ?_ ?_) <;> intro hc <;> simp [*, zw])))
        all_goals exact ⟨⟨q, line, ac ++ [⟨2, w, line⟩]⟩, by simp only; omega, ⟨by first | rfl | omega | (simp only; omega), by simp, by simp [zw]⟩, s1⟩
  ·have r := bbl hcb
   rw [hcb] at hbl
   replace hbl := hbl.symm
   simp only [Bool.or_eq_true, decide_eq_true_eq] at hbl
   clear b10 bbl bcom bname bsign hz hroad e0 hle hci hce hq hcb
   rcases hbl with c1 | c1 | c1
   all_goals
    replace c1 := eqp c1
    rcases hstop with hst | ⟨c, hst, g1, g2, g3, g4⟩
    ·(simp [*]) <;> (repeat' (first | ((first | refine sP _ ?_ ?_ | refine gP _ ?_ ?_ | refine sN _ ?_ ?_ | refine gN _ ?_ ?_) <;> intro hc <;> (first | replace hc := eqn hc | replace hc := eqp hc) <;> simp [*]) | ((first | refine sM _ ?_ ?_ | refine gM _ ?_ ?_ | refine sB _ ?_ ?_ | refine gB _ ?_ ?_) <;> intro hc <;> simp [*])))
     all_goals exact ⟨⟨i + 1, line, ac⟩, by simp only; omega, ⟨by simp, by simp, rfl⟩, r⟩
    ·have l2 := zAa c.toNat []
     have l3 := zXa c.toNat []
     (simp [*]) <;> (repeat' (first | ((first | refine sP _ ?_ ?_ | refine gP _ ?_ ?_ | refine sN _ ?_ ?_ | refine gN _ ?_ ?_) <;> intro hc <;> (first | replace hc := eqn hc | replace hc := eqp hc) <;> simp [*]) | ((first | refine sM _ ?_ ?_ | refine gM _ ?_ ?_ | refine sB _ ?_ ?_ | refine gB _ ?_ ?_) <;> intro hc <;> simp [*])))
     all_goals exact ⟨⟨i + 1, line, ac⟩, by simp only; omega, ⟨by simp, by simp, rfl⟩, r⟩
end PE.U

namespace PE.U
open Go PE
@[simp] theorem rebuild_agg (a l : List PV) : zKa (.agg a) l = .agg l := Eq.trans rfl rfl
structure PS where
 at' : Nat
 bad : Bool
 deep : Bool
def pob (T : List Tok) (p : PS) : zf := [.arr 4 [.agg [toks T, .int .i64 p.at', .bool p.bad, .bool p.deep]]]
def tk (T : List Tok) (i : Nat) : Tok := T[i]?.getD ⟨3, [], 0⟩
def zLa (p : PS) : Bool := p.bad || p.deep
def isF (T : List Tok) (s : List UInt8) (p : PS) : Bool := !zLa p && (decide ((tk T p.at').kind = 2) && decide ((tk T p.at').text = s))
def takeF (T : List Tok) (s : List UInt8) (p : PS) : Bool × PS := if isF T s p then (true, { p with at' := p.at' + 1 }) else (false, p)
def zxa (T : List Tok) (s : List UInt8) (p : PS) : PS := if isF T s p then { p with at' := p.at' + 1 } else if p.deep then p else { p with bad := true }
def zaa (T : List Tok) (k : Int) (p : PS) : List UInt8 × PS := if zLa p then ([], p) else if (tk T p.at').kind = k then ((tk T p.at').text, { p with at' := p.at' + 1 }) else ([], { p with bad := true })
def zca (T : List Tok) (p : PS) : Int × PS := if isF T [105, 110, 116] p then (1, { p with at' := p.at' + 1 }) else (2, zxa T [98, 111, 111, 108] p)
structure Inv1 (T : List Tok) (p : PS) : Prop where
 lt : p.at' < T.length
 last : ∃ t, T[T.length - 1]? = some t /\ t.kind = 3
 sm : T.length < 1000000
 num : ∀ t ∈ T, t.kind = 0 -> digs t.text = true /\ t.text.length < 1000000
theorem tk_get {T : List Tok} {i : Nat} (h : i < T.length) : T[i]? = some (tk T i) := by unfold tk; simp [h]
theorem tk_get' {T : List Tok} {i : Nat} (h : i < T.length) : T[i]'h = tk T i := by unfold tk; simp [h]
theorem Inv1.next {T : List Tok} {p : PS} (h : Inv1 T p) (hk : (tk T p.at').kind ≠ 3) (b d : Bool) : Inv1 T ⟨p.at' + 1, b, d⟩ := by
 obtain ⟨h1, ⟨t, h2, h3⟩, h4, h5⟩ := h
 refine ⟨?_, ⟨t, h2, h3⟩, h4, h5⟩
 show p.at' + 1 < T.length
 rcases Nat.lt_or_ge (p.at' + 1) T.length with h | h
 ·exact h
 ·have : p.at' = T.length - 1 := by omega
  unfold tk at hk
  rw [this, h2] at hk
  exact absurd h3 hk
theorem isF_kind {T : List Tok} {s : List UInt8} {p : PS} (h : isF T s p = true) : (tk T p.at').kind = 2 /\ (tk T p.at').text = s /\ p.bad = false /\ p.deep = false := by
 simp [isF, zLa] at h; grind
def adv (p : PS) : PS := { p with at' := p.at' + 1 }
theorem zR (T : List Tok) (s : List UInt8) (p : PS) : takeF T s p = if isF T s p then (true, adv p) else (false, p) := rfl
theorem Inv1.adv {T : List Tok} {p : PS} (I : Inv1 T p) (s : List UInt8) (h : isF T s p = true) : Inv1 T (adv p) := I.next (by rw [(isF_kind h).1]; decide) _ _
section
variable {T : List Tok} {p : PS}
theorem zjc (I : Inv1 T p) : zi E 38 [.ptr 0 0 0] (pob T p) = some (.ret (.bool (zLa p)), pob T p) := by
 refine zc rfl rfl rfl (by simp) ?_
 unfold zLa
 cases hb : p.bad <;> (simp [*, F38, pob, toks]) <;> (repeat' ((first | refine sP _ ?_ ?_ | refine gP _ ?_ ?_ | refine sN _ ?_ ?_ | refine gN _ ?_ ?_ | refine sM _ ?_ ?_ | refine gM _ ?_ ?_ | refine sB _ ?_ ?_ | refine gB _ ?_ ?_) <;> intro hc <;> simp [*, F38, pob, toks]))
theorem is_spec (I : Inv1 T p) (s : List UInt8) : zi E 66 [.ptr 0 0 0, .str s] (pob T p) = some (.ret (.bool (isF T s p)), pob T p) := by
 refine zc rfl rfl rfl (by simp) ?_
 have h1 := zjc I
 have hlt := I.lt
 have hg := tk_get hlt
 have hg' := tk_get' hlt
 unfold isF
 cases ho : zLa p
 ·rw [ho] at h1
  by_cases hk : (tk T p.at').kind = 2
  ·have hk' : decide ((tk T p.at').kind = 2) = true := decide_eq_true hk
   replace hk := eqp hk
   simp [pob, toks] at h1
   (simp [*, F66, pob, toks, zw]) <;> (repeat' (first | ((first | refine sP _ ?_ ?_ | refine gP _ ?_ ?_ | refine sN _ ?_ ?_ | refine gN _ ?_ ?_) <;> intro hc <;> (first | replace hc := eqn hc | replace hc := eqp hc) <;> simp [*, F66, pob, toks, zw]) | ((first | refine sM _ ?_ ?_ | refine gM _ ?_ ?_ | refine sB _ ?_ ?_ | refine gB _ ?_ ?_) <;> intro hc <;> simp [*, F66, pob, toks, zw])))
  ·have hk' : decide ((tk T p.at').kind = 2) = false := decide_eq_false hk
   replace hk := eqn hk
   simp [pob, toks] at h1
   (simp [*, F66, pob, toks, zw]) <;> (repeat' (first | ((first | refine sP _ ?_ ?_ | refine gP _ ?_ ?_ | refine sN _ ?_ ?_ | refine gN _ ?_ ?_) <;> intro hc <;> (first | replace hc := eqn hc | replace hc := eqp hc) <;> simp [*, F66, pob, toks, zw]) | ((first | refine sM _ ?_ ?_ | refine gM _ ?_ ?_ | refine sB _ ?_ ?_ | refine gB _ ?_ ?_) <;> intro hc <;> simp [*, F66, pob, toks, zw])))
 ·rw [ho] at h1
  simp [pob, toks] at h1
  (simp [*, F66, pob, toks, zw]) <;> (repeat' (first | ((first | refine sP _ ?_ ?_ | refine gP _ ?_ ?_ | refine sN _ ?_ ?_ | refine gN _ ?_ ?_) <;> intro hc <;> (first | replace hc := eqn hc | replace hc := eqp hc) <;> simp [*, F66, pob, toks, zw]) | ((first | refine sM _ ?_ ?_ | refine gM _ ?_ ?_ | refine sB _ ?_ ?_ | refine gB _ ?_ ?_) <;> intro hc <;> simp [*, F66, pob, toks, zw])))
theorem Inv1.bad' (I : Inv1 T p) : Inv1 T { p with bad := true } := ⟨I.lt, I.last, I.sm, I.num⟩
theorem Inv1.deep' (I : Inv1 T p) : Inv1 T { p with deep := true } := ⟨I.lt, I.last, I.sm, I.num⟩
theorem Inv1.must (I : Inv1 T p) (s : List UInt8) : Inv1 T (zxa T s p) := by
 unfold zxa
 split
 ·rename_i h
  exact I.next (by rw [(isF_kind h).1]; decide) _ _
 ·split
  ·exact I
  ·exact I.bad'
theorem Inv1.text (I : Inv1 T p) (k : Int) (hk : k ≠ 3) : Inv1 T (zaa T k p).2 := by
 unfold zaa
 split
 ·exact I
 ·split
  ·rename_i h
   exact I.next (by rw [h]; exact hk) _ _
  ·exact I.bad'
theorem Inv1.typed (I : Inv1 T p) : Inv1 T (zca T p).2 := by
 unfold zca
 split
 ·rename_i h
  exact I.next (by rw [(isF_kind h).1]; decide) _ _
 ·exact I.must _
theorem zA (I : Inv1 T p) (s : List UInt8) : zi E 41 [.ptr 0 0 0, .str s] (pob T p) = some (.ret (.bool (takeF T s p).1), pob T (takeF T s p).2) := by
 refine zc rfl rfl rfl (by simp) ?_
 have h1 := is_spec I s
 have hw : zN .i64 ((p.at' : Int) + 1) = (p.at' : Int) + 1 := zj (by omega) (by have := I.lt; have := I.sm; omega)
 unfold takeF
 cases ho : isF T s p
 ·rw [ho] at h1
  simp [pob, toks] at h1
  (simp [*, F41, pob, toks]) <;> (repeat' (first | ((first | refine sP _ ?_ ?_ | refine gP _ ?_ ?_ | refine sN _ ?_ ?_ | refine gN _ ?_ ?_) <;> intro hc <;> (first | replace hc := eqn hc | replace hc := eqp hc) <;> simp [*, F41, pob, toks]) | ((first | refine sM _ ?_ ?_ | refine gM _ ?_ ?_ | refine sB _ ?_ ?_ | refine gB _ ?_ ?_) <;> intro hc <;> simp [*, F41, pob, toks])))
 ·rw [ho] at h1
  simp [pob, toks] at h1
  (simp [*, F41, pob, toks]) <;> (repeat' (first | ((first | refine sP _ ?_ ?_ | refine gP _ ?_ ?_ | refine sN _ ?_ ?_ | refine gN _ ?_ ?_) <;> intro hc <;> (first | replace hc := eqn hc | replace hc := eqp hc) <;> simp [*, F41, pob, toks]) | ((first | refine sM _ ?_ ?_ | refine gM _ ?_ ?_ | refine sB _ ?_ ?_ | refine gB _ ?_ ?_) <;> intro hc <;> simp [*, F41, pob, toks])))
theorem zy (I : Inv1 T p) (s : List UInt8) : zi E 43 [.ptr 0 0 0, .str s] (pob T p) = some (.ret (.tup []), pob T (zxa T s p)) := by
 refine zc rfl rfl rfl (by simp) ?_
 have h1 := zA I s
 unfold zxa
 unfold takeF at h1
 cases ho : isF T s p
 ·rw [ho] at h1
  simp [pob, toks] at h1
  cases hd : p.deep
  ·rw [hd] at h1
   (simp [*, F43, pob, toks]) <;> (repeat' (first | ((first | refine sP _ ?_ ?_ | refine gP _ ?_ ?_ | refine sN _ ?_ ?_ | refine gN _ ?_ ?_) <;> intro hc <;> (first | replace hc := eqn hc | replace hc := eqp hc) <;> simp [*, F43, pob, toks]) | ((first | refine sM _ ?_ ?_ | refine gM _ ?_ ?_ | refine sB _ ?_ ?_ | refine gB _ ?_ ?_) <;> intro hc <;> simp [*, F43, pob, toks])))
  ·rw [hd] at h1
   (simp [*, F43, pob, toks]) <;> (repeat' (first | ((first | refine sP _ ?_ ?_ | refine gP _ ?_ ?_ | refine sN _ ?_ ?_ | refine gN _ ?_ ?_) <;> intro hc <;> (first | replace hc := eqn hc | replace hc := eqp hc) <;> simp [*, F43, pob, toks]) | ((first | refine sM _ ?_ ?_ | refine gM _ ?_ ?_ | refine sB _ ?_ ?_ | refine gB _ ?_ ?_) <;> intro hc <;> simp [*, F43, pob, toks])))
 ·rw [ho] at h1
  simp [pob, toks] at h1
  (simp [*, F43, pob, toks]) <;> (repeat' (first | ((first | refine sP _ ?_ ?_ | refine gP _ ?_ ?_ | refine sN _ ?_ ?_ | refine gN _ ?_ ?_) <;> intro hc <;> (first | replace hc := eqn hc | replace hc := eqp hc) <;> simp [*, F43, pob, toks]) | ((first | refine sM _ ?_ ?_ | refine gM _ ?_ ?_ | refine sB _ ?_ ?_ | refine gB _ ?_ ?_) <;> intro hc <;> simp [*, F43, pob, toks])))
theorem zGc (I : Inv1 T p) (k : Int) : zi E 40 [.ptr 0 0 0, .int .i64 k] (pob T p) = some (.ret (.str (zaa T k p).1), pob T (zaa T k p).2) := by
 refine zc rfl rfl rfl (by simp) ?_
 have h1 := zjc I
 have hlt := I.lt
 have hg := tk_get hlt
 have hg' := tk_get' hlt
 have hw : zN .i64 ((p.at' : Int) + 1) = (p.at' : Int) + 1 := zj (by omega) (by have := I.lt; have := I.sm; omega)
 unfold zaa
 cases ho : zLa p
 ·rw [ho] at h1
  simp [pob, toks] at h1
  by_cases hk : (tk T p.at').kind = k
  ·replace hk := eqp hk
   (simp [*, F40, pob, toks, zw]) <;> (repeat' (first | ((first | refine sP _ ?_ ?_ | refine gP _ ?_ ?_ | refine sN _ ?_ ?_ | refine gN _ ?_ ?_) <;> intro hc <;> (first | replace hc := eqn hc | replace hc := eqp hc) <;> simp [*, F40, pob, toks, zw]) | ((first | refine sM _ ?_ ?_ | refine gM _ ?_ ?_ | refine sB _ ?_ ?_ | refine gB _ ?_ ?_) <;> intro hc <;> simp [*, F40, pob, toks, zw])))
  ·replace hk := eqn hk
   (simp [*, F40, pob, toks, zw]) <;> (repeat' (first | ((first | refine sP _ ?_ ?_ | refine gP _ ?_ ?_ | refine sN _ ?_ ?_ | refine gN _ ?_ ?_) <;> intro hc <;> (first | replace hc := eqn hc | replace hc := eqp hc) <;> simp [*, F40, pob, toks, zw]) | ((first | refine sM _ ?_ ?_ | refine gM _ ?_ ?_ | refine sB _ ?_ ?_ | refine gB _ ?_ ?_) <;> intro hc <;> simp [*, F40, pob, toks, zw])))
 ·rw [ho] at h1
  simp [pob, toks] at h1
  (simp [*, F40, pob, toks, zw]) <;> (repeat' (first | ((first | refine sP _ ?_ ?_ | refine gP _ ?_ ?_ | refine sN _ ?_ ?_ | refine gN _ ?_ ?_) <;> intro hc <;> (first | replace hc := eqn hc | replace hc := eqp hc) <;> simp [*, F40, pob, toks, zw]) | ((first | refine sM _ ?_ ?_ | refine gM _ ?_ ?_ | refine sB _ ?_ ?_ | refine gB _ ?_ ?_) <;> intro hc <;> simp [*, F40, pob, toks, zw])))
theorem typed_spec (I : Inv1 T p) : zi E 39 [.ptr 0 0 0] (pob T p) = some (.ret (.int .i64 (zca T p).1), pob T (zca T p).2) := by
 refine zc rfl rfl rfl (by simp) ?_
 have h1 := zA I [105, 110, 116]
 have h2 := zy I [98, 111, 111, 108]
 unfold zca
 unfold takeF at h1
 cases ho : isF T [105, 110, 116] p
 ·rw [ho] at h1
  (simp [*, F39]) <;> (repeat' (first | ((first | refine sP _ ?_ ?_ | refine gP _ ?_ ?_ | refine sN _ ?_ ?_ | refine gN _ ?_ ?_) <;> intro hc <;> (first | replace hc := eqn hc | replace hc := eqp hc) <;> simp [*, F39]) | ((first | refine sM _ ?_ ?_ | refine gM _ ?_ ?_ | refine sB _ ?_ ?_ | refine gB _ ?_ ?_) <;> intro hc <;> simp [*, F39])))
 ·rw [ho] at h1
  (simp [*, F39]) <;> (repeat' (first | ((first | refine sP _ ?_ ?_ | refine gP _ ?_ ?_ | refine sN _ ?_ ?_ | refine gN _ ?_ ?_) <;> intro hc <;> (first | replace hc := eqn hc | replace hc := eqp hc) <;> simp [*, F39]) | ((first | refine sM _ ?_ ?_ | refine gM _ ?_ ?_ | refine sB _ ?_ ?_ | refine gB _ ?_ ?_) <;> intro hc <;> simp [*, F39])))
end
end PE.U

namespace PE.U
open Go PE
def signsR : List (List UInt8) := [[43], [45], [42], [47], [37], [38], [124], [94], [60, 60], [62, 62], [62, 62, 62], [60], [60, 61], [62], [62, 61], [61, 61], [33, 61], [38, 38], [124, 124], [45], [126], [33], [105, 56], [105, 49, 54], [105, 51, 50], [117, 56], [117, 49, 54], [117, 51, 50]]
def signR (op : Int) : List UInt8 := if op < 1 \/ 28 < op then [] else signsR[(op - 1).toNat]?.getD []
def zQd (op : Int) : Int :=
 if op = 19 then 1 else if op = 18 then 2 else if op = 7 then 3 else if op = 8 then 4 else if op = 6 then 5
 else if op = 16 \/ op = 17 then 6 else if op = 12 \/ op = 13 \/ op = 14 \/ op = 15 then 7 else if op = 9 \/ op = 10 \/ op = 11 then 8
 else if op = 1 \/ op = 2 then 9 else if op = 3 \/ op = 4 \/ op = 5 then 10 else 0
def oneR (op : Int) : Bool := decide (20 <= op) && decide (op <= 28)
theorem signs_spec : zi E 150 [] [] = some (.ret (.slice .plain 1 (signsR.map PV.str)), []) := by
 refine zc rfl rfl rfl (by simp) ?_
 have : signsR.map PV.str = [PV.str [43], PV.str [45], PV.str [42], PV.str [47], PV.str [37], PV.str [38], PV.str [124], PV.str [94], PV.str [60, 60], PV.str [62, 62], PV.str [62, 62, 62], PV.str [60], PV.str [60, 61], PV.str [62], PV.str [62, 61], PV.str [61, 61], PV.str [33, 61], PV.str [38, 38], PV.str [124, 124], PV.str [45], PV.str [126], PV.str [33], PV.str [105, 56], PV.str [105, 49, 54], PV.str [105, 51, 50], PV.str [117, 56], PV.str [117, 49, 54], PV.str [117, 51, 50]] := rfl
 rw [this]
 simp [F150]
theorem rsign_spec (op : Int) : zi E 140 [.int .i64 op] [] = some (.ret (.str (signR op)), []) := by
 refine zc rfl rfl rfl (by simp) ?_
 have hs := signs_spec
 unfold signR
 by_cases h1 : op < 1
 ·(simp [*, F140]) <;> (repeat' ((first | refine sP _ ?_ ?_ | refine gP _ ?_ ?_ | refine sN _ ?_ ?_ | refine gN _ ?_ ?_ | refine sM _ ?_ ?_ | refine gM _ ?_ ?_ | refine sB _ ?_ ?_ | refine gB _ ?_ ?_) <;> intro hc <;> simp [*, F140]))
 ·by_cases h2 : 28 < op
  ·(simp [*, F140]) <;> (repeat' ((first | refine sP _ ?_ ?_ | refine gP _ ?_ ?_ | refine sN _ ?_ ?_ | refine gN _ ?_ ?_ | refine sM _ ?_ ?_ | refine gM _ ?_ ?_ | refine sB _ ?_ ?_ | refine gB _ ?_ ?_) <;> intro hc <;> simp [*, F140]))
  ·have hw : zN .i64 (op - 1) = op - 1 := zj (by omega) (by omega)
   have h3 : 0 <= op - 1 := by omega
   have hl : signsR.length = 28 := rfl
   have h4 : op.toNat - 1 < signsR.length := by omega
   have h6 : (op - 1).toNat = op.toNat - 1 := by omega
   rw [h6]
   have h5 : signsR[op.toNat - 1]? = some (signsR[op.toNat - 1]'h4) := by simp [h4]
   clear h6
   generalize hx : op.toNat - 1 = n at *
   have h3' : 1 <= op := by omega
   clear hl
   generalize signsR = l at *
   (simp [*, F140]) <;> (repeat' ((first | refine sP _ ?_ ?_ | refine gP _ ?_ ?_ | refine sN _ ?_ ?_ | refine gN _ ?_ ?_ | refine sM _ ?_ ?_ | refine gM _ ?_ ?_ | refine sB _ ?_ ?_ | refine gB _ ?_ ?_) <;> intro hc <;> simp [*, F140]))
theorem rlevel_spec (op : Int) : zi E 91 [.int .i64 op] [] = some (.ret (.int .i64 (zQd op)), []) := by
 refine zc rfl rfl rfl (by simp) ?_
 unfold zQd
 (simp [*, F91]) <;> (repeat' ((first | refine sP _ ?_ ?_ | refine gP _ ?_ ?_ | refine sN _ ?_ ?_ | refine gN _ ?_ ?_ | refine sM _ ?_ ?_ | refine gM _ ?_ ?_ | refine sB _ ?_ ?_ | refine gB _ ?_ ?_) <;> intro hc <;> simp [*, F91]))
theorem roneR_spec (op : Int) : zi E 90 [.int .i64 op] [] = some (.ret (.bool (oneR op)), []) := by
 refine zc rfl rfl rfl (by simp) ?_
 unfold oneR
 (simp [*, F90]) <;> (repeat' ((first | refine sP _ ?_ ?_ | refine gP _ ?_ ?_ | refine sN _ ?_ ?_ | refine gN _ ?_ ?_ | refine sM _ ?_ ?_ | refine gM _ ?_ ?_ | refine sB _ ?_ ?_ | refine gB _ ?_ ?_) <;> intro hc <;> simp [*, F90]))
def opHere (T : List Tok) (L : Int) (p : PS) (i : Nat) : Bool := decide (zQd (i + 1 : Nat) = L) && isF T (signR (i + 1 : Nat)) p
def opF (T : List Tok) (L : Int) (p : PS) : Int := match (List.range 19).find? (opHere T L p) with
 | some i => ((i + 1 : Nat) : Int)
 | none => 0
theorem op_spec {T : List Tok} {p : PS} (I : Inv1 T p) (L : Int) : zi E 126 [.ptr 0 0 0, .int .i64 L] (pob T p) = some (.ret (.int .i64 (opF T L p)), pob T p) := by
 refine zc rfl rfl rfl (by simp) ?_
 simp [F126]
 refine zz (List.range 19) K126_0 B126_0 (fun d => [(5, .int .i64 ((d.length + 1 : Nat) : Int))]) (fun _ => pob T p) (fun d => ∀ i ∈ d, opHere T L p i = false) (by simp) (by simp) ?_ ?_
 ·intros d x r s1 hl' hlt hget hget' hw hp h1 h2 h3 h4
  simp at h1 h3 hlt
  have hx : x = d.length := by rw [<- hget', List.getElem_range]
  subst hx
  have e1 := rlevel_spec ((d.length + 1 : Nat) : Int)
  have e2 := rsign_spec ((d.length + 1 : Nat) : Int)
  have e3 := is_spec I (signR ((d.length + 1 : Nat) : Int))
  have hle : (d.length : Int) + 1 <= 19 := by omega
  have hw2 : zN .i64 ((d.length : Int) + 1 + 1) = (d.length : Int) + 1 + 1 := zj (by omega) (by omega)
  have hf : opHere T L p d.length = true -> opF T L p = ((d.length + 1 : Nat) : Int) := by
   intro h
   unfold opF
   rw [hl'.eq, List.find?_append]
   have : d.find? (opHere T L p) = none := by rw [List.find?_eq_none]; intro y hy; simp [hp y hy]
   rw [this]
   simp [List.find?_cons, h]
  have ho : opHere T L p d.length = (decide (zQd ((d.length + 1 : Nat) : Int) = L) && isF T (signR ((d.length + 1 : Nat) : Int)) p) := rfl
  have hn := fun (h : opHere T L p d.length = false) => (fun i (hi : i ∈ d ++ [d.length]) => by
   rcases List.mem_append.1 hi with h' | h'
   ·exact hp i h'
   ·rw [List.mem_singleton.1 h']; exact h : ∀ i ∈ d ++ [d.length], opHere T L p i = false)
  clear h2 hget hget' hl' hp
  simp at e1 e2 e3 ho hf
  by_cases hL : zQd ((d.length : Int) + 1) = L
  ·have hL' : decide (zQd ((d.length : Int) + 1) = L) = true := decide_eq_true hL
   rw [hL', Bool.true_and] at ho
   replace hL := eqp hL
   cases hi : isF T (signR ((d.length : Int) + 1)) p
   ·replace hn := hn (ho.trans hi)
    rw [hi] at ho e3
    clear hf ho
    simp [*]
    grind
   ·replace hf := hf (ho.trans hi)
    rw [hi] at ho e3
    clear hn ho
    simp [*]
  ·have hL' : decide (zQd ((d.length : Int) + 1) = L) = false := decide_eq_false hL
   rw [hL', Bool.false_and] at ho
   replace hL := eqn hL
   replace hn := hn ho
   clear hf ho
   simp [*]
   grind
 ·intros s1 hp h1 h2 h3 h4
  simp at h1 h3
  have hf : opF T L p = 0 := by
   unfold opF
   have : (List.range 19).find? (opHere T L p) = none := by rw [List.find?_eq_none]; intro y hy; simp [hp y hy]
   rw [this]
  clear h2 hp
  simp [*]
def zDb (T : List Tok) (p : PS) (i : Nat) : Bool := isF T (signR ((i + 20 : Nat) : Int)) p
def deepF (d : Int) (p : PS) : PS := if 100 < d then if p.bad then p else { p with deep := true } else p
theorem Inv1.deepF {T : List Tok} {p : PS} (I : Inv1 T p) (d : Int) : Inv1 T (deepF d p) := by
 unfold PE.U.deepF
 split
 ·split
  ·exact I
  ·exact I.deep'
 ·exact I
def unF (T : List Tok) (p : PS) : Option Nat := (List.range 9).find? (zDb T p)
end PE.U

namespace PE.U
open Go PE
mutual
def zFc (T : List Tok) : Nat -> Int -> PS -> Option (Expr × PS)
 | 0, _, _ => none
 | n + 1, d, p =>
  if zLa p then some (⟨0, 0, 0, [], []⟩, p)
  else if isF T [40] p then
   match znc T n 1 (d + 1) (adv p) with
   | none => none
   | some q => some (q.1, zxa T [41] q.2)
  else if isF T [116, 114, 117, 101] p then some (⟨2, 0, 1, [], []⟩, adv p)
  else if isF T [102, 97, 108, 115, 101] p then some (⟨2, 0, 0, [], []⟩, adv p)
  else if isF T [114, 101, 97, 100] p then some (⟨8, 0, 0, [], []⟩, zxa T [41] (zxa T [40] (adv p)))
  else if (tk T p.at').kind = 0 then some (⟨1, 0, valueM (tk T p.at').text, [], []⟩, adv p)
  else if isF T [40] (zaa T 1 p).2 then
   match argsF T n (d + 1) (adv (zaa T 1 p).2) with
   | none => none
   | some q => some (⟨7, 0, 0, (zaa T 1 p).1, q.1⟩, q.2)
  else if isF T [91] (zaa T 1 p).2 then
   match znc T n 1 (d + 1) (adv (zaa T 1 p).2) with
   | none => none
   | some q => some (⟨6, 0, 0, (zaa T 1 p).1, [q.1]⟩, zxa T [93] q.2)
  else some (⟨3, 0, 0, (zaa T 1 p).1, []⟩, (zaa T 1 p).2)
def unaryF (T : List Tok) : Nat -> Int -> PS -> Option (Expr × PS)
 | 0, _, _ => none
 | n + 1, d, p =>
  match unF T (deepF d p) with
  | some i =>
   if 3 <= i then
    match znc T n 1 (d + 1) (zxa T [40] (adv (deepF d p))) with
    | none => none
    | some q => some (⟨4, ((i + 20 : Nat) : Int), 0, [], [q.1]⟩, zxa T [41] q.2)
   else
    match unaryF T n (d + 1) (adv (deepF d p)) with
    | none => none
    | some q => some (⟨4, ((i + 20 : Nat) : Int), 0, [], [q.1]⟩, q.2)
  | none => zFc T n d (deepF d p)
def znc (T : List Tok) : Nat -> Int -> Int -> PS -> Option (Expr × PS)
 | 0, _, _, _ => none
 | n + 1, L, d, p =>
  if 10 < L then unaryF T n d p
  else match znc T n (L + 1) d p with
   | none => none
   | some q => zSa T n L d q.1 q.2
def zSa (T : List Tok) : Nat -> Int -> Int -> Expr -> PS -> Option (Expr × PS)
 | 0, _, _, _, _ => none
 | n + 1, L, d, a, p =>
  if opF T L p = 0 then some (a, p)
  else match znc T n (L + 1) d (adv p) with
   | none => none
   | some q => zSa T n L d ⟨5, opF T L p, 0, [], [a, q.1]⟩ q.2
def argsF (T : List Tok) : Nat -> Int -> PS -> Option (List Expr × PS)
 | 0, _, _ => none
 | n + 1, d, p =>
  if isF T [41] p then some ([], adv p)
  else match zka T n d [] true p with
   | none => none
   | some q => some (q.1, zxa T [41] q.2)
def zka (T : List Tok) : Nat -> Int -> List Expr -> Bool -> PS -> Option (List Expr × PS)
 | 0, _, _, _, _ => none
 | n + 1, d, l, first, p =>
  if first || isF T [44] p then
   if zLa (if first then p else adv p) then some (l, if first then p else adv p)
   else match znc T n 1 d (if first then p else adv p) with
    | none => none
    | some q => zka T n d (l ++ [q.1]) false q.2
  else some (l, p)
end
structure ESpec (T : List Tok) (n : Nat) : Prop where
 primary : ∀ d p v p', zFc T n d p = some (v, p') -> Inv1 T p -> 0 <= d -> d + n <= 1000000000 -> zi E 141 [.ptr 0 0 0, .int .i64 d] (pob T p) = some (.ret (zo v), pob T p') /\ Inv1 T p'
 unary : ∀ d p v p', unaryF T n d p = some (v, p') -> Inv1 T p -> 0 <= d -> d + n <= 1000000000 -> zi E 125 [.ptr 0 0 0, .int .i64 d] (pob T p) = some (.ret (zo v), pob T p') /\ Inv1 T p'
 expr : ∀ L d p v p', znc T n L d p = some (v, p') -> Inv1 T p -> 1 <= L -> L <= 11 -> 0 <= d -> d + n <= 1000000000 -> zi E 112 [.ptr 0 0 0, .int .i64 L, .int .i64 d] (pob T p) = some (.ret (zo v), pob T p') /\ Inv1 T p'
 args : ∀ d p v p', argsF T n d p = some (v, p') -> Inv1 T p -> 0 <= d -> d + n <= 1000000000 -> zi E 127 [.ptr 0 0 0, .int .i64 d] (pob T p) = some (.ret (ze v), pob T p') /\ Inv1 T p'
end PE.U

namespace PE.U
open Go PE
set_option maxHeartbeats 4000000 in
theorem primary_of {T : List Tok} {n : Nat} (S : ESpec T n) : ∀ d p v p', zFc T (n + 1) d p = some (v, p') -> Inv1 T p -> 0 <= d -> d + (n + 1 : Nat) <= 1000000000 -> zi E 141 [.ptr 0 0 0, .int .i64 d] (pob T p) = some (.ret (zo v), pob T p') /\ Inv1 T p' := by
 intro d p v p' h I hd hn
 have hw : zN .i64 (d + 1) = d + 1 := zj (by omega) (by omega)
 simp only [zFc] at h
 have ho := zjc I
 cases o : zLa p
 case true =>
  rw [if_pos o] at h
  cases h
  refine ⟨?_, I⟩
  refine zc rfl rfl rfl (by simp) ?_
  rw [o] at ho
  simp [pob, toks] at ho
  simp [*, F141, zo, encEs, pob, toks]
 rw [if_neg (by rw [o]; decide)] at h
 rw [o] at ho
 have t1 := zA I [40]
 rw [zR] at t1
 cases c1 : isF T [40] p
 case true =>
  rw [if_pos c1] at h
  rw [c1] at t1
  split at h
  ·cases h
  ·rename_i q hq
   obtain ⟨e, p2⟩ := q
   cases h
   have IA := I.adv _ c1
   obtain ⟨x1, I3⟩ := S.expr 1 (d + 1) _ e p2 hq IA (by omega) (by omega) (by omega) (by omega)
   have m2 := zy I3 [41]
   refine ⟨?_, I3.must _⟩
   refine zc rfl rfl rfl (by simp) ?_
   clear hq o c1
   rw [za] at x1 ⊢
   simp [pob, toks, adv, ze] at ho t1 x1 m2
   simp [*, F141, ze, pob, toks]
 rw [if_neg (by rw [c1]; decide)] at h
 rw [c1] at t1
 have t2 := zA I [116, 114, 117, 101]
 rw [zR] at t2
 cases c2 : isF T [116, 114, 117, 101] p
 case true =>
  rw [if_pos c2] at h
  rw [c2] at t2
  cases h
  refine ⟨?_, I.adv _ c2⟩
  refine zc rfl rfl rfl (by simp) ?_
  clear o c1 c2
  simp [pob, toks, adv] at ho t1 t2
  simp [*, F141, zo, encEs, pob, toks, adv]
 rw [if_neg (by rw [c2]; decide)] at h
 rw [c2] at t2
 have t3 := zA I [102, 97, 108, 115, 101]
 rw [zR] at t3
 cases c3 : isF T [102, 97, 108, 115, 101] p
 case true =>
  rw [if_pos c3] at h
  rw [c3] at t3
  cases h
  refine ⟨?_, I.adv _ c3⟩
  refine zc rfl rfl rfl (by simp) ?_
  clear o c1 c2 c3
  simp [pob, toks, adv] at ho t1 t2 t3
  simp [*, F141, zo, encEs, pob, toks, adv]
 rw [if_neg (by rw [c3]; decide)] at h
 rw [c3] at t3
 have t4 := zA I [114, 101, 97, 100]
 rw [zR] at t4
 cases c4 : isF T [114, 101, 97, 100] p
 case true =>
  rw [if_pos c4] at h
  rw [c4] at t4
  cases h
  have IA := I.adv _ c4
  have m1 := zy IA [40]
  have m2 := zy (IA.must [40]) [41]
  refine ⟨?_, (IA.must _).must _⟩
  refine zc rfl rfl rfl (by simp) ?_
  clear o c1 c2 c3 c4
  simp [pob, toks, adv] at ho t1 t2 t3 t4 m1 m2
  simp [*, F141, zo, encEs, pob, toks, adv]
 rw [if_neg (by rw [c4]; decide)] at h
 rw [c4] at t4
 have hlt := I.lt
 have hg := tk_get hlt
 have hg' := tk_get' hlt
 by_cases c5 : (tk T p.at').kind = 0
 ·rw [if_pos c5] at h
  have tx := zGc I 0
  have hnum := I.num (tk T p.at') (by rw [<- hg']; exact List.getElem_mem hlt) c5
  have vv := value_spec' (tk T p.at').text [] hnum.1 (by omega)
  have htx : zaa T 0 p = ((tk T p.at').text, adv p) := by unfold zaa; rw [if_neg (by rw [o]; decide), if_pos c5]; rfl
  have IA : Inv1 T (adv p) := I.next (by rw [c5]; decide) _ _
  rw [htx] at tx
  cases h
  refine ⟨?_, IA⟩
  refine zc rfl rfl rfl (by simp) ?_
  clear o c1 c2 c3 c4 htx
  replace c5 := eqp c5
  simp [pob, toks, adv] at ho t1 t2 t3 t4 tx
  simp [*, F141, zo, encEs, pob, toks, adv, zw]
 rw [if_neg c5] at h
 replace c5 := eqn c5
 have tx := zGc I 1
 have I1 := I.text 1 (by decide)
 have t6 := zA I1 [40]
 rw [zR] at t6
 generalize htt : zaa T 1 p = tt at *
 obtain ⟨s, p1⟩ := tt
 simp only at h tx I1 t6
 clear htt
 cases c6 : isF T [40] p1
 case true =>
  rw [if_pos c6] at h
  rw [c6] at t6
  split at h
  ·cases h
  ·rename_i q hq
   obtain ⟨l, p2⟩ := q
   cases h
   have IA := I1.adv _ c6
   obtain ⟨x1, I3⟩ := S.args (d + 1) _ l p2 hq IA (by omega) (by omega)
   refine ⟨?_, I3⟩
   refine zc rfl rfl rfl (by simp) ?_
   clear hq o c1 c2 c3 c4 c6
   rw [za]
   simp [pob, toks, adv, ze] at ho t1 t2 t3 t4 tx t6 x1
   simp [*, F141, ze, pob, toks, zw]
 rw [if_neg (by rw [c6]; decide)] at h
 rw [c6] at t6
 have t7 := zA I1 [91]
 rw [zR] at t7
 cases c7 : isF T [91] p1
 case true =>
  rw [if_pos c7] at h
  rw [c7] at t7
  split at h
  ·cases h
  ·rename_i q hq
   obtain ⟨e, p2⟩ := q
   cases h
   have IA := I1.adv _ c7
   obtain ⟨x1, I3⟩ := S.expr 1 (d + 1) _ e p2 hq IA (by omega) (by omega) (by omega) (by omega)
   have m2 := zy I3 [93]
   refine ⟨?_, I3.must _⟩
   refine zc rfl rfl rfl (by simp) ?_
   clear hq o c1 c2 c3 c4 c6 c7
   rw [za] at x1
   rw [za]
   simp [pob, toks, adv, ze] at ho t1 t2 t3 t4 tx t6 t7 x1 m2
   simp [*, F141, ze, pob, toks, zw, za]
 rw [if_neg (by rw [c7]; decide)] at h
 rw [c7] at t7
 cases h
 refine ⟨?_, I1⟩
 refine zc rfl rfl rfl (by simp) ?_
 clear o c1 c2 c3 c4 c6 c7
 simp [pob, toks, adv] at ho t1 t2 t3 t4 tx t6 t7
 simp [*, F141, zo, encEs, pob, toks, zw]
end PE.U

namespace PE.U
open Go PE
structure LS where
 m : Nat
 a : Expr
 p : PS
theorem opF_pos {T : List Tok} {L : Int} {p : PS} (h : ¬ opF T L p = 0) : ∃ s, isF T s p = true := by
 unfold opF at h
 cases hf : (List.range 19).find? (opHere T L p) with
 | none => rw [hf] at h; exact absurd rfl h
 | some i =>
  have := List.find?_some hf
  simp only [opHere, Bool.and_eq_true] at this
  exact ⟨_, this.2⟩
set_option maxHeartbeats 2000000 in
theorem expr_of {T : List Tok} {n : Nat} (S : ∀ k, k <= n -> ESpec T k) : ∀ L d p v p', znc T (n + 1) L d p = some (v, p') -> Inv1 T p -> 1 <= L -> L <= 11 -> 0 <= d -> d + (n + 1 : Nat) <= 1000000000 -> zi E 112 [.ptr 0 0 0, .int .i64 L, .int .i64 d] (pob T p) = some (.ret (zo v), pob T p') /\ Inv1 T p' := by
 intro L d p v p' h I h1 h11 hd hn
 have hw : zN .i64 (L + 1) = L + 1 := zj (by omega) (by omega)
 simp only [znc] at h
 by_cases hL : 10 < L
 ·rw [if_pos hL] at h
  obtain ⟨e, I'⟩ := (S n (by omega)).unary d p v p' h I hd (by omega)
  refine ⟨?_, I'⟩
  refine zc rfl rfl rfl (by simp) ?_
  rw [za] at e ⊢
  (simp [*, F112]) <;> (repeat' (first | ((first | refine sP _ ?_ ?_ | refine gP _ ?_ ?_ | refine sN _ ?_ ?_ | refine gN _ ?_ ?_) <;> intro hc <;> (first | replace hc := eqn hc | replace hc := eqp hc) <;> simp [*, F112]) | ((first | refine sM _ ?_ ?_ | refine gM _ ?_ ?_ | refine sB _ ?_ ?_ | refine gB _ ?_ ?_) <;> intro hc <;> simp [*, F112])))
 rw [if_neg hL] at h
 cases hx : znc T n (L + 1) d p with
 | none => rw [hx] at h; cases h
 | some q =>
  obtain ⟨a, p1⟩ := q
  rw [hx] at h
  simp only at h
  obtain ⟨e1, I1⟩ := (S n (by omega)).expr (L + 1) d p a p1 hx I (by omega) (by omega) hd (by omega)
  have hI : ∀ m a p v p', m <= n -> zSa T m L d a p = some (v, p') -> Inv1 T p -> Inv1 T p' := by
   intro m
   induction m with
   | zero => intro a p v p' _ h; simp [zSa] at h
   | succ m ih =>
    intro a p v p' hm h I
    simp only [zSa] at h
    split at h
    ·cases h; exact I
    ·rename_i hne
     obtain ⟨s, hs⟩ := opF_pos hne
     split at h
     ·cases h
     ·rename_i q hq
      exact ih _ _ _ _ (by omega) h ((S m (by omega)).expr _ _ _ _ _ hq (I.adv s hs) (by omega) (by omega) hd (by omega)).2
  have I' := hI n a p1 v p' (by omega) h I1
  refine ⟨?_, I'⟩
  refine zc rfl rfl rfl (by simp) ?_
  rw [za] at e1 ⊢
  simp [F112, hL, hw, e1, ze]
  refine zza K112_0 B112_0 (fun c : LS => c.m) (fun c => []) (fun c => [(6, .cells [.int .i64 0, .int .i64 0, .int .i64 0, .str [], .slice .fit 5 []]), (7, .cells [.int .i64 c.a.kind, .int .i64 c.a.op, .int .i64 c.a.n, .str c.a.name, ze c.a.args])]) (fun c => pob T c.p) (fun c => c.m <= n /\ zSa T c.m L d c.a c.p = some (v, p') /\ Inv1 T c.p) ⟨n, a, p1⟩ ⟨by simp, by simp [ze], by simp, Nat.le_refl _, h, I1⟩ ?_
  rintro ⟨m, a, p⟩ s1 ⟨hm, hr, I⟩ g1 g2 g3 g4 g5
  simp at g1 g4 g5 hm hr I
  clear g2 g3 e1 hx h I1 I' hI
  cases m with
  | zero => simp [zSa] at hr
  | succ m =>
   simp only [zSa] at hr
   have ho := op_spec I L
   by_cases hne : opF T L p = 0
   ·rw [if_pos hne] at hr
    cases hr
    replace hne := eqp hne
    simp [pob, toks, ze] at ho g4 g5 ⊢
    (simp [*]) <;> (repeat' (first | ((first | refine sP _ ?_ ?_ | refine gP _ ?_ ?_ | refine sN _ ?_ ?_ | refine gN _ ?_ ?_) <;> intro hc <;> (first | replace hc := eqn hc | replace hc := eqp hc) <;> simp [*]) | ((first | refine sM _ ?_ ?_ | refine gM _ ?_ ?_ | refine sB _ ?_ ?_ | refine gB _ ?_ ?_) <;> intro hc <;> simp [*])))
   ·rw [if_neg hne] at hr
    obtain ⟨s, hs⟩ := opF_pos hne
    split at hr
    ·cases hr
    ·rename_i q hq
     obtain ⟨b, p2⟩ := q
     simp only at hr
     obtain ⟨e2, I2⟩ := (S m (by omega)).expr (L + 1) d _ b p2 hq (I.adv s hs) (by omega) (by omega) hd (by omega)
     have hwa : zN .i64 ((p.at' : Int) + 1) = (p.at' : Int) + 1 := zj (by omega) (by have := I.lt; have := I.sm; omega)
     replace hne := eqn hne
     rw [za] at e2
     simp [pob, toks, ze, adv] at ho g4 g5 e2 ⊢
     clear hq hs
     (simp [*]) <;> (repeat' (first | ((first | refine sP _ ?_ ?_ | refine gP _ ?_ ?_ | refine sN _ ?_ ?_ | refine gN _ ?_ ?_) <;> intro hc <;> (first | replace hc := eqn hc | replace hc := eqp hc) <;> simp [*]) | ((first | refine sM _ ?_ ?_ | refine gM _ ?_ ?_ | refine sB _ ?_ ?_ | refine gB _ ?_ ?_) <;> intro hc <;> simp [*])))
     refine ⟨⟨m, ⟨5, opF T L p, 0, [], [a, b]⟩, p2⟩, Nat.lt_succ_self m, ⟨rfl, rfl, rfl, rfl, ?_⟩, ⟨rfl, rfl, rfl⟩, by simp only; omega, hr, I2⟩
     simp [za, ze]
end PE.U

namespace PE.U
open Go PE
theorem unF_get {T : List Tok} {p : PS} {i : Nat} (h : unF T p = some i) : i < 9 /\ zDb T p i = true /\ ∀ j, j < i -> zDb T p j = false := by
 unfold unF at h
 refine ⟨List.mem_range.1 (List.mem_of_find?_eq_some h), List.find?_some h, ?_⟩
 intro j hj
 rw [List.find?_eq_some_iff_getElem] at h
 obtain ⟨_, k, hk, h1, h2⟩ := h
 simp at h1
 have := h2 j (by omega)
 simpa using this
set_option maxHeartbeats 2000000 in
theorem unary_of {T : List Tok} {n : Nat} (S : ESpec T n) : ∀ d p v p', unaryF T (n + 1) d p = some (v, p') -> Inv1 T p -> 0 <= d -> d + (n + 1 : Nat) <= 1000000000 -> zi E 125 [.ptr 0 0 0, .int .i64 d] (pob T p) = some (.ret (zo v), pob T p') /\ Inv1 T p' := by
 intro d p v p' h I hd hn
 have hw : zN .i64 (d + 1) = d + 1 := zj (by omega) (by omega)
 simp only [unaryF] at h
 -- what comes of it
 have key : ∀ q, Inv1 T q -> q = deepF d p -> ∃ Q : Prop, True := fun _ _ _ => ⟨True, trivial⟩
 clear key
 have I2 : Inv1 T (deepF d p) := I.deepF d
 have hI : Inv1 T p' := by
  cases hu : unF T (deepF d p) with
  | none => rw [hu] at h; exact (S.primary _ _ _ _ h I2 hd (by omega)).2
  | some i =>
   rw [hu] at h
   simp only at h
   have hi := (unF_get hu).2.1
   split at h
   ·split at h
    ·cases h
    ·rename_i q hq
     cases h
     exact (S.expr _ _ _ _ _ hq ((I2.adv _ hi).must _) (by omega) (by omega) (by omega) (by omega)).2.must _
   ·split at h
    ·cases h
    ·rename_i q hq
     cases h
     exact (S.unary _ _ _ _ hq (I2.adv _ hi) (by omega) (by omega)).2
 refine ⟨?_, hI⟩
 refine zc rfl rfl rfl (by simp) ?_
 rw [za]
 have hdp : deepF d p = if 100 < d then if p.bad then p else { p with deep := true } else p := rfl
 obtain ⟨pa, pb, pd⟩ := p
 by_cases h100 : 100 < d
 ·cases pb
  ·simp [h100] at hdp
   rw [hdp] at h I2
   clear hdp I
   replace h100 := eqp h100
   simp [F125, h100, hw, pob, toks]
   refine zfc (List.range 9) K125_0 B125_0 (fun c => [(5, .int .i64 ((c.length + 20 : Nat) : Int))]) (fun _ => [(4, .cells [.int .i64 0, .int .i64 0, .int .i64 0, .str [], .slice .fit 5 []])]) (fun _ => pob T ⟨pa, false, true⟩) (fun c => ∀ i ∈ c, zDb T ⟨pa, false, true⟩ i = false) (by simp) (by simp [pob, toks]) ?_ ?_
   ·intros c x r s1 hl' hlt hget hget' hw1 hp g1 g2 g3 g3' g4
    simp at g1 g3 g3' hlt
    have hx : x = c.length := by rw [<- hget', List.getElem_range]
    subst hx
    have e2 := rsign_spec ((c.length + 20 : Nat) : Int)
    have e3 := zA I2 (signR ((c.length + 20 : Nat) : Int))
    rw [zR] at e3
    have hle : (c.length : Int) + 20 <= 28 := by omega
    have hw2 : zN .i64 ((c.length : Int) + 20 + 1) = (c.length : Int) + 1 + 20 := by rw [zj (by omega) (by omega)]; omega
    have hf : zDb T ⟨pa, false, true⟩ c.length = true -> unF T ⟨pa, false, true⟩ = some c.length := by
     intro h
     unfold unF
     rw [hl'.eq, List.find?_append]
     have : c.find? (zDb T ⟨pa, false, true⟩) = none := by rw [List.find?_eq_none]; intro y hy; simp [hp y hy]
     rw [this]
     simp [List.find?_cons, h]
    have hu : zDb T ⟨pa, false, true⟩ c.length = isF T (signR ((c.length + 20 : Nat) : Int)) ⟨pa, false, true⟩ := rfl
    have hnx := fun (h : zDb T ⟨pa, false, true⟩ c.length = false) => (fun i (hi : i ∈ c ++ [c.length]) => by
     rcases List.mem_append.1 hi with h' | h'
     ·exact hp i h'
     ·rw [List.mem_singleton.1 h']; exact h : ∀ i ∈ c ++ [c.length], zDb T ⟨pa, false, true⟩ i = false)
    clear g2 hget hget' hl' hp
    cases hi : isF T (signR ((c.length + 20 : Nat) : Int)) ⟨pa, false, true⟩
    ·replace hnx := hnx (hu.trans hi)
     rw [hi] at e3
     clear hf hu h
     simp [pob, toks] at e2 e3 g4
     simp [*]
     exact ⟨rfl, fun i hi => hnx i (by simpa using hi)⟩
    ·replace hf := hf (hu.trans hi)
     have IA := I2.adv _ hi
     rw [hi] at e3
     rw [hf] at h
     simp only at h
     clear hnx hu hf
     by_cases h3 : 3 <= c.length
     ·rw [if_pos h3] at h
      have h23 : (23 : Int) <= (c.length : Int) + 20 := by omega
      have m1 := zy IA [40]
      split at h
      ·cases h
      ·rename_i x hq
       obtain ⟨e, p2⟩ := x
       cases h
       obtain ⟨x1, I3⟩ := S.expr 1 (d + 1) _ e p2 hq (IA.must _) (by omega) (by omega) (by omega) (by omega)
       have m2 := zy I3 [41]
       clear hi
       rw [za] at x1
       simp [pob, toks, ze, adv] at e2 e3 g4 m1 m2 x1
       clear hq
       simp [*, ze, pob, toks, za]
     ·rw [if_neg h3] at h
      have h23 : ¬ (23 : Int) <= (c.length : Int) + 20 := by omega
      split at h
      ·cases h
      ·rename_i x hq
       obtain ⟨e, p2⟩ := x
       cases h
       obtain ⟨x1, I3⟩ := S.unary (d + 1) _ e p2 hq IA (by omega) (by omega)
       clear hi
       rw [za] at x1
       simp [pob, toks, ze, adv] at e2 e3 g4 x1
       clear hq
       simp [*, ze, pob, toks, za]
   ·intros s1 hp g1 g2 g3 g3' g4
    simp at g1 g3 g3'
    have hf : unF T ⟨pa, false, true⟩ = none := by
     unfold unF
     rw [List.find?_eq_none]; intro y hy; simp [hp y hy]
    rw [hf] at h
    simp only at h
    obtain ⟨x1, I3⟩ := S.primary _ _ _ _ h I2 hd (by omega)
    rw [za] at x1
    clear g2 hp hf h
    simp [pob, toks, ze] at x1 g4
    simp [*, ze]
  ·simp [h100] at hdp
   rw [hdp] at h I2
   clear hdp I
   replace h100 := eqp h100
   simp [F125, h100, hw, pob, toks]
   refine zfc (List.range 9) K125_0 B125_0 (fun c => [(5, .int .i64 ((c.length + 20 : Nat) : Int))]) (fun _ => [(4, .cells [.int .i64 0, .int .i64 0, .int .i64 0, .str [], .slice .fit 5 []])]) (fun _ => pob T ⟨pa, true, pd⟩) (fun c => ∀ i ∈ c, zDb T ⟨pa, true, pd⟩ i = false) (by simp) (by simp [pob, toks]) ?_ ?_
   ·intros c x r s1 hl' hlt hget hget' hw1 hp g1 g2 g3 g3' g4
    simp at g1 g3 g3' hlt
    have hx : x = c.length := by rw [<- hget', List.getElem_range]
    subst hx
    have e2 := rsign_spec ((c.length + 20 : Nat) : Int)
    have e3 := zA I2 (signR ((c.length + 20 : Nat) : Int))
    rw [zR] at e3
    have hle : (c.length : Int) + 20 <= 28 := by omega
    have hw2 : zN .i64 ((c.length : Int) + 20 + 1) = (c.length : Int) + 1 + 20 := by rw [zj (by omega) (by omega)]; omega
    have hf : zDb T ⟨pa, true, pd⟩ c.length = true -> unF T ⟨pa, true, pd⟩ = some c.length := by
     intro h
     unfold unF
     rw [hl'.eq, List.find?_append]
     have : c.find? (zDb T ⟨pa, true, pd⟩) = none := by rw [List.find?_eq_none]; intro y hy; simp [hp y hy]
     rw [this]
     simp [List.find?_cons, h]
    have hu : zDb T ⟨pa, true, pd⟩ c.length = isF T (signR ((c.length + 20 : Nat) : Int)) ⟨pa, true, pd⟩ := rfl
    have hnx := fun (h : zDb T ⟨pa, true, pd⟩ c.length = false) => (fun i (hi : i ∈ c ++ [c.length]) => by
     rcases List.mem_append.1 hi with h' | h'
     ·exact hp i h'
     ·rw [List.mem_singleton.1 h']; exact h : ∀ i ∈ c ++ [c.length], zDb T ⟨pa, true, pd⟩ i = false)
    clear g2 hget hget' hl' hp
    cases hi : isF T (signR ((c.length + 20 : Nat) : Int)) ⟨pa, true, pd⟩
    ·replace hnx := hnx (hu.trans hi)
     rw [hi] at e3
     clear hf hu h
     simp [pob, toks] at e2 e3 g4
     simp [*]
     exact ⟨rfl, fun i hi => hnx i (by simpa using hi)⟩
    ·replace hf := hf (hu.trans hi)
     have IA := I2.adv _ hi
     rw [hi] at e3
     rw [hf] at h
     simp only at h
     clear hnx hu hf
     by_cases h3 : 3 <= c.length
     ·rw [if_pos h3] at h
      have h23 : (23 : Int) <= (c.length : Int) + 20 := by omega
      have m1 := zy IA [40]
      split at h
      ·cases h
      ·rename_i x hq
       obtain ⟨e, p2⟩ := x
       cases h
       obtain ⟨x1, I3⟩ := S.expr 1 (d + 1) _ e p2 hq (IA.must _) (by omega) (by omega) (by omega) (by omega)
       have m2 := zy I3 [41]
       clear hi
       rw [za] at x1
       simp [pob, toks, ze, adv] at e2 e3 g4 m1 m2 x1
       clear hq
       simp [*, ze, pob, toks, za]
     ·rw [if_neg h3] at h
      have h23 : ¬ (23 : Int) <= (c.length : Int) + 20 := by omega
      split at h
      ·cases h
      ·rename_i x hq
       obtain ⟨e, p2⟩ := x
       cases h
       obtain ⟨x1, I3⟩ := S.unary (d + 1) _ e p2 hq IA (by omega) (by omega)
       clear hi
       rw [za] at x1
       simp [pob, toks, ze, adv] at e2 e3 g4 x1
       clear hq
       simp [*, ze, pob, toks, za]
   ·intros s1 hp g1 g2 g3 g3' g4
    simp at g1 g3 g3'
    have hf : unF T ⟨pa, true, pd⟩ = none := by
     unfold unF
     rw [List.find?_eq_none]; intro y hy; simp [hp y hy]
    rw [hf] at h
    simp only at h
    obtain ⟨x1, I3⟩ := S.primary _ _ _ _ h I2 hd (by omega)
    rw [za] at x1
    clear g2 hp hf h
    simp [pob, toks, ze] at x1 g4
    simp [*, ze]
 ·simp [h100] at hdp
  rw [hdp] at h I2
  clear hdp I
  replace h100 := eqn h100
  simp [F125, h100, hw, pob, toks]
  refine zfc (List.range 9) K125_0 B125_0 (fun c => [(5, .int .i64 ((c.length + 20 : Nat) : Int))]) (fun _ => [(4, .cells [.int .i64 0, .int .i64 0, .int .i64 0, .str [], .slice .fit 5 []])]) (fun _ => pob T ⟨pa, pb, pd⟩) (fun c => ∀ i ∈ c, zDb T ⟨pa, pb, pd⟩ i = false) (by simp) (by simp [pob, toks]) ?_ ?_
  ·intros c x r s1 hl' hlt hget hget' hw1 hp g1 g2 g3 g3' g4
   simp at g1 g3 g3' hlt
   have hx : x = c.length := by rw [<- hget', List.getElem_range]
   subst hx
   have e2 := rsign_spec ((c.length + 20 : Nat) : Int)
   have e3 := zA I2 (signR ((c.length + 20 : Nat) : Int))
   rw [zR] at e3
   have hle : (c.length : Int) + 20 <= 28 := by omega
   have hw2 : zN .i64 ((c.length : Int) + 20 + 1) = (c.length : Int) + 1 + 20 := by rw [zj (by omega) (by omega)]; omega
   have hf : zDb T ⟨pa, pb, pd⟩ c.length = true -> unF T ⟨pa, pb, pd⟩ = some c.length := by
    intro h
    unfold unF
    rw [hl'.eq, List.find?_append]
    have : c.find? (zDb T ⟨pa, pb, pd⟩) = none := by rw [List.find?_eq_none]; intro y hy; simp [hp y hy]
    rw [this]
    simp [List.find?_cons, h]
   have hu : zDb T ⟨pa, pb, pd⟩ c.length = isF T (signR ((c.length + 20 : Nat) : Int)) ⟨pa, pb, pd⟩ := rfl
   have hnx := fun (h : zDb T ⟨pa, pb, pd⟩ c.length = false) => (fun i (hi : i ∈ c ++ [c.length]) => by
    rcases List.mem_append.1 hi with h' | h'
    ·exact hp i h'
    ·rw [List.mem_singleton.1 h']; exact h : ∀ i ∈ c ++ [c.length], zDb T ⟨pa, pb, pd⟩ i = false)
   clear g2 hget hget' hl' hp
   cases hi : isF T (signR ((c.length + 20 : Nat) : Int)) ⟨pa, pb, pd⟩
   ·replace hnx := hnx (hu.trans hi)
    rw [hi] at e3
    clear hf hu h
    simp [pob, toks] at e2 e3 g4
    simp [*]
    exact ⟨rfl, fun i hi => hnx i (by simpa using hi)⟩
   ·replace hf := hf (hu.trans hi)
    have IA := I2.adv _ hi
    rw [hi] at e3
    rw [hf] at h
    simp only at h
    clear hnx hu hf
    by_cases h3 : 3 <= c.length
    ·rw [if_pos h3] at h
     have h23 : (23 : Int) <= (c.length : Int) + 20 := by omega
     have m1 := zy IA [40]
     split at h
     ·cases h
     ·rename_i x hq
      obtain ⟨e, p2⟩ := x
      cases h
      obtain ⟨x1, I3⟩ := S.expr 1 (d + 1) _ e p2 hq (IA.must _) (by omega) (by omega) (by omega) (by omega)
      have m2 := zy I3 [41]
      clear hi
      rw [za] at x1
      simp [pob, toks, ze, adv] at e2 e3 g4 m1 m2 x1
      clear hq
      simp [*, ze, pob, toks, za]
    ·rw [if_neg h3] at h
     have h23 : ¬ (23 : Int) <= (c.length : Int) + 20 := by omega
     split at h
     ·cases h
     ·rename_i x hq
      obtain ⟨e, p2⟩ := x
      cases h
      obtain ⟨x1, I3⟩ := S.unary (d + 1) _ e p2 hq IA (by omega) (by omega)
      clear hi
      rw [za] at x1
      simp [pob, toks, ze, adv] at e2 e3 g4 x1
      clear hq
      simp [*, ze, pob, toks, za]
  ·intros s1 hp g1 g2 g3 g3' g4
   simp at g1 g3 g3'
   have hf : unF T ⟨pa, pb, pd⟩ = none := by
    unfold unF
    rw [List.find?_eq_none]; intro y hy; simp [hp y hy]
   rw [hf] at h
   simp only at h
   obtain ⟨x1, I3⟩ := S.primary _ _ _ _ h I2 hd (by omega)
   rw [za] at x1
   clear g2 hp hf h
   simp [pob, toks, ze] at x1 g4
   simp [*, ze]
end PE.U

namespace PE.U
open Go PE
structure AS where
 m : Nat
 l : List Expr
 f : Bool
 p : PS
set_option maxHeartbeats 2000000 in
theorem args_of {T : List Tok} {n : Nat} (S : ∀ k, k <= n -> ESpec T k) : ∀ d p v p', argsF T (n + 1) d p = some (v, p') -> Inv1 T p -> 0 <= d -> d + (n + 1 : Nat) <= 1000000000 -> zi E 127 [.ptr 0 0 0, .int .i64 d] (pob T p) = some (.ret (ze v), pob T p') /\ Inv1 T p' := by
 intro d p v p' h I hd hn
 simp only [argsF] at h
 have t1 := zA I [41]
 rw [zR] at t1
 cases c1 : isF T [41] p
 case true =>
  rw [if_pos c1] at h
  rw [c1] at t1
  cases h
  refine ⟨?_, I.adv _ c1⟩
  refine zc rfl rfl rfl (by simp) ?_
  clear c1
  simp [*, F127, ze]
 rw [if_neg (by rw [c1]; decide)] at h
 rw [c1] at t1
 split at h
 ·cases h
 rename_i q hq
 obtain ⟨l', p1⟩ := q
 cases h
 have hI : ∀ m l f p v p', m <= n -> zka T m d l f p = some (v, p') -> Inv1 T p -> Inv1 T p' := by
  intro m
  induction m with
  | zero => intro l f p v p' _ h; simp [zka] at h
  | succ m ih =>
   intro l f p v p' hm h I
   simp only [zka] at h
   have fin : ∀ q : PS, Inv1 T q -> (if zLa q then some (l, q) else match znc T m 1 d q with | none => none | some x => zka T m d (l ++ [x.1]) false x.2) = some (v, p') -> Inv1 T p' := by
    intro q Iq h
    cases ho : zLa q
    ·rw [if_neg (by rw [ho]; decide)] at h
     split at h
     ·cases h
     ·rename_i x hx
      exact ih _ _ _ _ _ (by omega) h ((S m (by omega)).expr _ _ _ _ _ hx Iq (by omega) (by omega) hd (by omega)).2
    ·rw [if_pos ho] at h
     cases h
     exact Iq
   cases f
   ·cases c2 : isF T [44] p
    ·rw [c2] at h
     simp at h
     exact h.2 ▸ I
    ·rw [c2] at h
     simp at h
     exact fin _ (I.adv _ c2) h
   ·simp at h
    exact fin _ I h
 have I' := hI n _ _ _ _ _ (Nat.le_refl _) hq I
 refine ⟨?_, I'.must _⟩
 refine zc rfl rfl rfl (by simp) ?_
 have m1 := zy I' [41]
 simp [*, F127, ze]
 refine zza K127_0 B127_0 (fun c : AS => c.m) (fun c => [(5, acc 5 (c.l.map zo)), (6, .bool c.f)]) (fun c => []) (fun c => pob T c.p) (fun c => c.m <= n /\ c.l.length + c.m <= n /\ zka T c.m d c.l c.f c.p = some (l', p1) /\ Inv1 T c.p) ⟨n, [], true, p⟩ ⟨by simp, by simp, by simp, Nat.le_refl _, by simp, hq, I⟩ ?_
 rintro ⟨m, l, f, p⟩ s1 ⟨hm, hlm, hr, I⟩ g1 g2 g3 g4 g5
 simp at g1 g3 g5 hm hlm hr I
 clear g2 g4 t1 hq I' hI
 cases m with
 | zero => simp [zka] at hr
 | succ m =>
  simp only [zka] at hr
  have hroom : (l.length + 1) * 64 <= zn := by simp only [zn]; omega
  have t2 := zA I [44]
  rw [zR] at t2
  have key : ∀ q : PS, Inv1 T q -> (if zLa q then some (l, q) else match znc T m 1 d q with | none => none | some x => zka T m d (l ++ [x.1]) false x.2) = some (l', p1) →
    (zLa q = true /\ l = l' /\ q = p1) \/ (zLa q = false /\ ∃ e p2, zi E 112 [.ptr 0 0 0, .int .i64 1, .int .i64 d] (pob T q) = some (.ret (zo e), pob T p2) /\ Inv1 T p2 /\ zka T m d (l ++ [e]) false p2 = some (l', p1)) := by
   intro q Iq h
   cases ho : zLa q
   ·right
    rw [if_neg (by rw [ho]; decide)] at h
    split at h
    ·cases h
    ·rename_i x hx
     obtain ⟨e, p2⟩ := x
     obtain ⟨x1, I3⟩ := (S m (by omega)).expr 1 d _ e p2 hx Iq (by omega) (by omega) hd (by omega)
     exact ⟨rfl, e, p2, x1, I3, h⟩
   ·left
    rw [if_pos ho] at h
    cases h
    exact ⟨rfl, rfl, rfl⟩
  cases f
  ·cases c2 : isF T [44] p
   ·rw [c2] at hr t2
    simp at hr
    obtain ⟨rfl, rfl⟩ := hr
    clear key c2
    simp [*]
   ·have IA := I.adv _ c2
    rw [c2] at hr t2
    simp at hr
    have ho := zjc IA
    rcases key _ IA hr with ⟨k1, rfl, rfl⟩ | ⟨k1, e, p2, x1, I3, hr2⟩
    ·rw [k1] at ho
     clear key c2 hr
     simp [*]
    ·rw [k1] at ho
     rw [za] at x1
     clear key c2 hr k1
     simp [*]
     exact ⟨⟨m, l ++ [e], false, p2⟩, Nat.lt_succ_self m, ⟨by simp [za], rfl⟩, rfl, by simp only; omega, by simp only [List.length_append, List.length_cons, List.length_nil]; omega, hr2, I3⟩
  ·simp at hr
   have ho := zjc I
   rcases key _ I hr with ⟨k1, rfl, rfl⟩ | ⟨k1, e, p2, x1, I3, hr2⟩
   ·rw [k1] at ho
    clear key hr t2
    simp [*]
   ·rw [k1] at ho
    rw [za] at x1
    clear key hr k1 t2
    simp [*]
    exact ⟨⟨m, l ++ [e], false, p2⟩, Nat.lt_succ_self m, ⟨by simp [za], rfl⟩, rfl, by simp only; omega, by simp only [List.length_append, List.length_cons, List.length_nil]; omega, hr2, I3⟩
end PE.U

namespace PE.U
open Go PE
theorem espec_all (T : List Tok) : ∀ n k, k <= n -> ESpec T k
 | 0, k, h => by
  have : k = 0 := by omega
  subst this
  exact ⟨fun _ _ _ _ h => by simp [zFc] at h, fun _ _ _ _ h => by simp [unaryF] at h, fun _ _ _ _ _ h => by simp [znc] at h, fun _ _ _ _ h => by simp [argsF] at h⟩
 | n + 1, k, h => by
  have ih := espec_all T n
  rcases Nat.lt_or_ge k (n + 1) with h1 | h1
  ·exact ih k (by omega)
  ·have : k = n + 1 := by omega
   subst this
   exact ⟨primary_of (ih n (Nat.le_refl n)), unary_of (ih n (Nat.le_refl n)), expr_of ih, args_of ih⟩
theorem espec (T : List Tok) (n : Nat) : ESpec T n := espec_all T n n (Nat.le_refl n)
theorem zZb {T : List Tok} {n : Nat} {p p' : PS} {v : Expr} (h : znc T n 1 1 p = some (v, p')) (I : Inv1 T p) (hn : n <= 999999990) : zi E 112 [.ptr 0 0 0, .int .i64 1, .int .i64 1] (pob T p) = some (.ret (zo v), pob T p') /\ Inv1 T p' :=
 (espec T n).expr 1 1 p v p' h I (by omega) (by omega) (by omega) (by omega)
def zhe (T : List Tok) (n : Nat) (p : PS) : Option (Expr × PS) :=
 match znc T n 1 1 (zxa T [40] p) with
 | none => none
 | some q => some (q.1, zxa T [41] q.2)
theorem zxc {T : List Tok} {n : Nat} {p p' : PS} {v : Expr} (h : zhe T n p = some (v, p')) (I : Inv1 T p) (hn : n <= 999999990) : zi E 113 [.ptr 0 0 0] (pob T p) = some (.ret (ze [v]), pob T p') /\ Inv1 T p' := by
 unfold zhe at h
 split at h
 ·cases h
 ·rename_i q hq
  obtain ⟨e, p1⟩ := q
  cases h
  have m1 := zy I [40]
  obtain ⟨x1, I1⟩ := zZb hq (I.must _) hn
  have m2 := zy I1 [41]
  refine ⟨?_, I1.must _⟩
  refine zc rfl rfl rfl (by simp) ?_
  clear hq
  rw [za] at x1
  simp [*, F113, ze, za]
def namedF (T : List Tok) (n : Nat) (p : PS) : Option (Stmt × PS) :=
 if isF T [40] (zaa T 1 p).2 then
  match argsF T n 2 (adv (zaa T 1 p).2) with
  | none => none
  | some q => some (⟨10, 0, [], [⟨7, 0, 0, (zaa T 1 p).1, q.1⟩], [], []⟩, q.2)
 else if isF T [91] (zaa T 1 p).2 then
  match znc T n 1 1 (adv (zaa T 1 p).2) with
  | none => none
  | some q => match znc T n 1 1 (zxa T [61] (zxa T [93] q.2)) with
   | none => none
   | some r => some (⟨3, 0, (zaa T 1 p).1, [q.1, r.1], [], []⟩, r.2)
 else match znc T n 1 1 (zxa T [61] (zaa T 1 p).2) with
  | none => none
  | some q => some (⟨2, 0, (zaa T 1 p).1, [q.1], [], []⟩, q.2)
theorem named_spec {T : List Tok} {n : Nat} {p p' : PS} {v : Stmt} (h : namedF T n p = some (v, p')) (I : Inv1 T p) (hn : n <= 999999990) : zi E 114 [.ptr 0 0 0] (pob T p) = some (.ret (zE v), pob T p') /\ Inv1 T p' := by
 unfold namedF at h
 have tx := zGc I 1
 have I1 := I.text 1 (by decide)
 have t6 := zA I1 [40]
 rw [zR] at t6
 generalize htt : zaa T 1 p = tt at *
 obtain ⟨s, p1⟩ := tt
 simp only at h tx I1 t6
 clear htt
 cases c6 : isF T [40] p1
 case true =>
  rw [if_pos c6] at h
  rw [c6] at t6
  split at h
  ·cases h
  ·rename_i q hq
   obtain ⟨l, p2⟩ := q
   cases h
   have IA := I1.adv _ c6
   obtain ⟨x1, I3⟩ := (espec T n).args 2 _ l p2 hq IA (by omega) (by omega)
   refine ⟨?_, I3⟩
   refine zc rfl rfl rfl (by simp) ?_
   clear hq c6
   rw [zb]
   simp [ze] at x1
   simp [*, F114, ze, zg, za]
 rw [if_neg (by rw [c6]; decide)] at h
 rw [c6] at t6
 have t7 := zA I1 [91]
 rw [zR] at t7
 cases c7 : isF T [91] p1
 case true =>
  rw [if_pos c7] at h
  rw [c7] at t7
  split at h
  ·cases h
  ·rename_i q hq
   obtain ⟨e, p2⟩ := q
   simp only at h
   have IA := I1.adv _ c7
   obtain ⟨x1, I3⟩ := zZb hq IA hn
   have m2 := zy I3 [93]
   have I4 := I3.must [93]
   have m3 := zy I4 [61]
   have I5 := I4.must [61]
   split at h
   ·cases h
   ·rename_i r hr
    obtain ⟨e2, p3⟩ := r
    cases h
    obtain ⟨x2, I6⟩ := zZb hr I5 hn
    refine ⟨?_, I6⟩
    refine zc rfl rfl rfl (by simp) ?_
    clear hq hr c6 c7
    rw [za] at x1 x2
    rw [zb]
    simp [*, F114, ze, zg, za]
 rw [if_neg (by rw [c7]; decide)] at h
 rw [c7] at t7
 split at h
 ·cases h
 ·rename_i q hq
  obtain ⟨e, p2⟩ := q
  cases h
  have m1 := zy I1 [61]
  obtain ⟨x1, I3⟩ := zZb hq (I1.must _) hn
  refine ⟨?_, I3⟩
  refine zc rfl rfl rfl (by simp) ?_
  clear hq c6 c7
  rw [za] at x1
  rw [zb]
  simp [*, F114, ze, zg, za]
end PE.U

namespace PE.U
open Go PE
def deepS (d : Int) (p : PS) : PS := if 100 < d then { p with deep := true } else p
theorem Inv1.deepS {T : List Tok} {p : PS} (I : Inv1 T p) (d : Int) : Inv1 T (deepS d p) := by
 unfold PE.U.deepS
 split
 ·exact I.deep'
 ·exact I
mutual
def stmtF (T : List Tok) : Nat -> Int -> PS -> Option (Stmt × PS)
 | 0, _, _ => none
 | n + 1, d, p =>
  if isF T [105, 110, 116] (deepS d p) || isF T [98, 111, 111, 108] (deepS d p) then
   match znc T n 1 1 (zxa T [61] (zaa T 1 (zca T (deepS d p)).2).2) with
   | none => none
   | some q => some (⟨1, (zca T (deepS d p)).1, (zaa T 1 (zca T (deepS d p)).2).1, [q.1], [], []⟩, zxa T [59] q.2)
  else if isF T [105, 102] (deepS d p) then
   match zhe T n (adv (deepS d p)) with
   | none => none
   | some q => match zBb T n (d + 1) [] (zxa T [123] q.2) with
    | none => none
    | some r =>
     if isF T [101, 108, 115, 101] r.2 then
      match zBb T n (d + 1) [] (zxa T [123] (adv r.2)) with
      | none => none
      | some t => some (⟨4, 0, [], [q.1], r.1, t.1⟩, t.2)
     else some (⟨4, 0, [], [q.1], r.1, []⟩, r.2)
  else if isF T [119, 104, 105, 108, 101] (deepS d p) then
   match zhe T n (adv (deepS d p)) with
   | none => none
   | some q => match zBb T n (d + 1) [] (zxa T [123] q.2) with
    | none => none
    | some r => some (⟨5, 0, [], [q.1], r.1, []⟩, r.2)
  else if isF T [98, 114, 101, 97, 107] (deepS d p) then some (⟨6, 0, [], [], [], []⟩, zxa T [59] (adv (deepS d p)))
  else if isF T [99, 111, 110, 116, 105, 110, 117, 101] (deepS d p) then some (⟨7, 0, [], [], [], []⟩, zxa T [59] (adv (deepS d p)))
  else if isF T [114, 101, 116, 117, 114, 110] (deepS d p) then
   match znc T n 1 1 (adv (deepS d p)) with
   | none => none
   | some q => some (⟨8, 0, [], [q.1], [], []⟩, zxa T [59] q.2)
  else if isF T [112, 114, 105, 110, 116] (deepS d p) then
   match zhe T n (adv (deepS d p)) with
   | none => none
   | some q => some (⟨9, 0, [], [q.1], [], []⟩, zxa T [59] q.2)
  else match namedF T n (deepS d p) with
   | none => none
   | some q => some (q.1, zxa T [59] q.2)
/-- Behind the brace. -/
def zBb (T : List Tok) : Nat -> Int -> List Stmt -> PS -> Option (List Stmt × PS)
 | 0, _, _, _ => none
 | n + 1, d, l, p =>
  if zLa p then some (l, p)
  else if isF T [125] p then some (l, adv p)
  else match stmtF T n d p with
   | none => none
   | some q => zBb T n d (l ++ [q.1]) q.2
end
structure SSpec (T : List Tok) (n : Nat) : Prop where
 stmt : ∀ d p v p', stmtF T n d p = some (v, p') -> Inv1 T p -> 0 <= d -> d + n <= 999999990 -> zi E 89 [.ptr 0 0 0, .int .i64 d] (pob T p) = some (.ret (zE v), pob T p') /\ Inv1 T p'
 block : ∀ d p v p', zBb T n d [] (zxa T [123] p) = some (v, p') -> Inv1 T p -> 0 <= d -> d + n <= 999999990 -> zi E 67 [.ptr 0 0 0, .int .i64 d] (pob T p) = some (.ret (zg v), pob T p') /\ Inv1 T p'
structure BS where
 m : Nat
 l : List Stmt
 p : PS
set_option maxHeartbeats 2000000 in
theorem block_of {T : List Tok} {n : Nat} (S : ∀ k, k < n -> SSpec T k) : ∀ d p v p', zBb T n d [] (zxa T [123] p) = some (v, p') -> Inv1 T p -> 0 <= d -> d + n <= 999999990 -> zi E 67 [.ptr 0 0 0, .int .i64 d] (pob T p) = some (.ret (zg v), pob T p') /\ Inv1 T p' := by
 intro d p v p' h I hd hn
 have hI : ∀ m l p v p', m <= n -> zBb T m d l p = some (v, p') -> Inv1 T p -> Inv1 T p' := by
  intro m
  induction m with
  | zero => intro l p v p' _ h; simp [zBb] at h
  | succ m ih =>
   intro l p v p' hm h I
   simp only [zBb] at h
   split at h
   ·cases h; exact I
   ·split at h
    ·rename_i hc
     cases h; exact I.adv _ hc
    ·split at h
     ·cases h
     ·rename_i x hx
      exact ih _ _ _ _ (by omega) h ((S m (by omega)).stmt _ _ _ _ hx I hd (by omega)).2
 have m1 := zy I [123]
 have I1 := I.must [123]
 have I' := hI n _ _ _ _ (Nat.le_refl _) h I1
 refine ⟨?_, I'⟩
 refine zc rfl rfl rfl (by simp) ?_
 simp [*, F67, zg]
 refine zza K67_0 B67_0 (fun c : BS => c.m) (fun c => [(5, acc 6 (c.l.map zE))]) (fun c => []) (fun c => pob T c.p) (fun c => c.m <= n /\ c.l.length + c.m <= n /\ zBb T c.m d c.l c.p = some (v, p') /\ Inv1 T c.p) ⟨n, [], zxa T [123] p⟩ ⟨by simp, by simp, by simp, Nat.le_refl _, by simp, h, I1⟩ ?_
 rintro ⟨m, l, p⟩ s1 ⟨hm, hlm, hr, I⟩ g1 g2 g3 g4 g5
 simp at g1 g3 g5 hm hlm hr I
 clear g2 g4 m1 h I' hI I1
 cases m with
 | zero => simp [zBb] at hr
 | succ m =>
  simp only [zBb] at hr
  have hroom : (l.length + 1) * 104 <= zn := by simp only [zn]; omega
  have ho := zjc I
  have t2 := zA I [125]
  rw [zR] at t2
  cases o : zLa p
  ·rw [if_neg (by rw [o]; decide)] at hr
   rw [o] at ho
   cases c2 : isF T [125] p
   ·rw [if_neg (by rw [c2]; decide)] at hr
    rw [c2] at t2
    split at hr
    ·cases hr
    ·rename_i x hx
     obtain ⟨e, p2⟩ := x
     simp only at hr
     obtain ⟨x1, I3⟩ := (S m (by omega)).stmt _ _ _ _ hx I hd (by omega)
     rw [zb] at x1
     clear hx o c2
     simp [*]
     exact ⟨⟨m, l ++ [e], p2⟩, Nat.lt_succ_self m, by simp [zb], rfl, by simp only; omega, by simp only [List.length_append, List.length_cons, List.length_nil]; omega, hr, I3⟩
   ·rw [if_pos c2] at hr
    rw [c2] at t2
    cases hr
    clear o c2
    simp [*]
  ·rw [if_pos o] at hr
   rw [o] at ho
   cases hr
   clear o t2
   simp [*]
end PE.U

namespace PE.U
open Go PE
set_option maxHeartbeats 8000000 in
theorem stmt_of {T : List Tok} {n : Nat} (S : SSpec T n) : ∀ d p v p', stmtF T (n + 1) d p = some (v, p') -> Inv1 T p -> 0 <= d -> d + (n + 1 : Nat) <= 999999990 -> zi E 89 [.ptr 0 0 0, .int .i64 d] (pob T p) = some (.ret (zE v), pob T p') /\ Inv1 T p' := by
 intro d p v p' h I0 hd hn
 have hw : zN .i64 (d + 1) = d + 1 := zj (by omega) (by omega)
 simp only [stmtF] at h
 have I := I0.deepS d
 have hn' : n <= 999999990 := by omega
 obtain ⟨pa, pb, pd⟩ := p
 by_cases h100 : 100 < d
 ·have hdp : deepS d ⟨pa, pb, pd⟩ = ⟨pa, pb, true⟩ := by unfold deepS; rw [if_pos h100]
  rw [hdp] at h I
  clear hdp I0
  replace h100 := eqp h100
  have i1 := is_spec I [105, 110, 116]
  have i2 := is_spec I [98, 111, 111, 108]
  cases c0 : (isF T [105, 110, 116] ⟨pa, pb, true⟩ || isF T [98, 111, 111, 108] ⟨pa, pb, true⟩)
  case true =>
   rw [if_pos c0] at h
   have ty := typed_spec I
   have I1 := I.typed
   generalize hty : zca T ⟨pa, pb, true⟩ = tt at *
   obtain ⟨t, p1⟩ := tt
   simp only at h ty I1
   have tx := zGc I1 1
   have I2 := I1.text 1 (by decide)
   generalize htx : zaa T 1 p1 = tt at *
   obtain ⟨s, p2⟩ := tt
   simp only at h tx I2
   have m1 := zy I2 [61]
   split at h
   ·cases h
   rename_i x hq
   obtain ⟨e, p3⟩ := x
   cases h
   obtain ⟨x1, I3⟩ := zZb hq (I2.must _) hn'
   have m2 := zy I3 [59]
   refine ⟨?_, I3.must _⟩
   clear htx hty hq
   rw [za] at x1
   simp [pob, toks, adv, ze] at i1 i2 ty tx m1 m2 x1
   refine zc rfl rfl rfl (by simp) ?_
   rw [zb]
   cases c1 : isF T [105, 110, 116] ⟨pa, pb, true⟩
   ·rw [c1] at c0 i1
    have c0 : isF T [98, 111, 111, 108] ⟨pa, pb, true⟩ = true := c0
    rw [c0] at i2
    clear c0 c1
    simp [*, F89, ze, zg, pob, toks, zb, za]
   ·rw [c1] at i1
    clear c0 c1
    simp [*, F89, ze, zg, pob, toks, zb, za]
  rw [if_neg (by rw [c0]; decide)] at h
  simp only [Bool.or_eq_false_iff] at c0
  rw [c0.1] at i1
  rw [c0.2] at i2
  clear c0
  have t1 := zA I [105, 102]
  rw [zR] at t1
  cases c_t1 : isF T [105, 102] ⟨pa, pb, true⟩
  case true =>
   rw [if_pos c_t1] at h
   rw [c_t1] at t1
   have IA := I.adv _ c_t1
   clear c_t1
   split at h
   ·cases h
   rename_i x hq
   obtain ⟨e, p1⟩ := x
   simp only at h
   obtain ⟨x1, I1⟩ := zxc hq IA hn'
   split at h
   ·cases h
   rename_i x hr
   obtain ⟨l1, p2⟩ := x
   simp only at h
   obtain ⟨x2, I2⟩ := S.block (d + 1) _ l1 p2 hr I1 (by omega) (by omega)
   have te := zA I2 [101, 108, 115, 101]
   rw [zR] at te
   cases ce : isF T [101, 108, 115, 101] p2
   case true =>
    rw [if_pos ce] at h
    rw [ce] at te
    split at h
    ·cases h
    rename_i x hs
    obtain ⟨l2, p3⟩ := x
    cases h
    obtain ⟨x3, I3⟩ := S.block (d + 1) _ l2 p3 hs (I2.adv _ ce) (by omega) (by omega)
    refine ⟨?_, I3⟩
    clear hq hr hs ce
    simp [pob, toks, adv, ze, zg] at i1 i2 t1 x1 x2 x3 te
    refine zc rfl rfl rfl (by simp) ?_
    rw [zb]
    simp [*, F89, ze, zg, pob, toks, zb, za]
   rw [if_neg (by rw [ce]; decide)] at h
   rw [ce] at te
   cases h
   refine ⟨?_, I2⟩
   clear hq hr ce
   simp [pob, toks, adv, ze, zg] at i1 i2 t1 x1 x2 te
   refine zc rfl rfl rfl (by simp) ?_
   rw [zb]
   simp [*, F89, ze, zg, pob, toks, zb, za]
  rw [if_neg (by rw [c_t1]; decide)] at h
  rw [c_t1] at t1
  clear c_t1
  have t2 := zA I [119, 104, 105, 108, 101]
  rw [zR] at t2
  cases c_t2 : isF T [119, 104, 105, 108, 101] ⟨pa, pb, true⟩
  case true =>
   rw [if_pos c_t2] at h
   rw [c_t2] at t2
   have IA := I.adv _ c_t2
   clear c_t2
   split at h
   ·cases h
   rename_i x hq
   obtain ⟨e, p1⟩ := x
   simp only at h
   obtain ⟨x1, I1⟩ := zxc hq IA hn'
   split at h
   ·cases h
   rename_i x hr
   obtain ⟨l1, p2⟩ := x
   cases h
   obtain ⟨x2, I2⟩ := S.block (d + 1) _ l1 p2 hr I1 (by omega) (by omega)
   refine ⟨?_, I2⟩
   clear hq hr
   simp [pob, toks, adv, ze, zg] at i1 i2 t1 t2 x1 x2
   refine zc rfl rfl rfl (by simp) ?_
   rw [zb]
   simp [*, F89, ze, zg, pob, toks, zb, za]
  rw [if_neg (by rw [c_t2]; decide)] at h
  rw [c_t2] at t2
  clear c_t2
  have t3 := zA I [98, 114, 101, 97, 107]
  rw [zR] at t3
  cases c_t3 : isF T [98, 114, 101, 97, 107] ⟨pa, pb, true⟩
  case true =>
   rw [if_pos c_t3] at h
   rw [c_t3] at t3
   have IA := I.adv _ c_t3
   clear c_t3
   cases h
   have m1 := zy IA [59]
   refine ⟨?_, IA.must _⟩
   simp [pob, toks, adv, ze, zg] at i1 i2 t1 t2 t3 m1
   refine zc rfl rfl rfl (by simp) ?_
   rw [zb]
   simp [*, F89, ze, zg, pob, toks, zb, za]
   exact ⟨rfl, rfl, rfl⟩
  rw [if_neg (by rw [c_t3]; decide)] at h
  rw [c_t3] at t3
  clear c_t3
  have t4 := zA I [99, 111, 110, 116, 105, 110, 117, 101]
  rw [zR] at t4
  cases c_t4 : isF T [99, 111, 110, 116, 105, 110, 117, 101] ⟨pa, pb, true⟩
  case true =>
   rw [if_pos c_t4] at h
   rw [c_t4] at t4
   have IA := I.adv _ c_t4
   clear c_t4
   cases h
   have m1 := zy IA [59]
   refine ⟨?_, IA.must _⟩
   simp [pob, toks, adv, ze, zg] at i1 i2 t1 t2 t3 t4 m1
   refine zc rfl rfl rfl (by simp) ?_
   rw [zb]
   simp [*, F89, ze, zg, pob, toks, zb, za]
   exact ⟨rfl, rfl, rfl⟩
  rw [if_neg (by rw [c_t4]; decide)] at h
  rw [c_t4] at t4
  clear c_t4
  have t5 := zA I [114, 101, 116, 117, 114, 110]
  rw [zR] at t5
  cases c_t5 : isF T [114, 101, 116, 117, 114, 110] ⟨pa, pb, true⟩
  case true =>
   rw [if_pos c_t5] at h
   rw [c_t5] at t5
   have IA := I.adv _ c_t5
   clear c_t5
   split at h
   ·cases h
   rename_i x hq
   obtain ⟨e, p1⟩ := x
   cases h
   obtain ⟨x1, I1⟩ := zZb hq IA hn'
   have m1 := zy I1 [59]
   refine ⟨?_, I1.must _⟩
   clear hq
   rw [za] at x1
   simp [pob, toks, adv, ze, zg] at i1 i2 t1 t2 t3 t4 t5 x1 m1
   refine zc rfl rfl rfl (by simp) ?_
   rw [zb]
   simp [*, F89, ze, zg, pob, toks, zb, za]
  rw [if_neg (by rw [c_t5]; decide)] at h
  rw [c_t5] at t5
  clear c_t5
  have t6 := zA I [112, 114, 105, 110, 116]
  rw [zR] at t6
  cases c_t6 : isF T [112, 114, 105, 110, 116] ⟨pa, pb, true⟩
  case true =>
   rw [if_pos c_t6] at h
   rw [c_t6] at t6
   have IA := I.adv _ c_t6
   clear c_t6
   split at h
   ·cases h
   rename_i x hq
   obtain ⟨e, p1⟩ := x
   cases h
   obtain ⟨x1, I1⟩ := zxc hq IA hn'
   have m1 := zy I1 [59]
   refine ⟨?_, I1.must _⟩
   clear hq
   simp [pob, toks, adv, ze, zg] at i1 i2 t1 t2 t3 t4 t5 t6 x1 m1
   refine zc rfl rfl rfl (by simp) ?_
   rw [zb]
   simp [*, F89, ze, zg, pob, toks, zb, za]
  rw [if_neg (by rw [c_t6]; decide)] at h
  rw [c_t6] at t6
  clear c_t6
  split at h
  ·cases h
  rename_i x hq
  obtain ⟨w, p1⟩ := x
  cases h
  obtain ⟨x1, I1⟩ := named_spec hq I hn'
  have m1 := zy I1 [59]
  refine ⟨?_, I1.must _⟩
  clear hq
  rw [zb] at x1
  simp [pob, toks, adv, ze, zg] at i1 i2 t1 t2 t3 t4 t5 t6 x1 m1
  refine zc rfl rfl rfl (by simp) ?_
  rw [zb]
  simp [*, F89, ze, zg, pob, toks, zb, za]
 ·have hdp : deepS d ⟨pa, pb, pd⟩ = ⟨pa, pb, pd⟩ := by unfold deepS; rw [if_neg h100]
  rw [hdp] at h I
  clear hdp I0
  replace h100 := eqn h100
  have i1 := is_spec I [105, 110, 116]
  have i2 := is_spec I [98, 111, 111, 108]
  cases c0 : (isF T [105, 110, 116] ⟨pa, pb, pd⟩ || isF T [98, 111, 111, 108] ⟨pa, pb, pd⟩)
  case true =>
   rw [if_pos c0] at h
   have ty := typed_spec I
   have I1 := I.typed
   generalize hty : zca T ⟨pa, pb, pd⟩ = tt at *
   obtain ⟨t, p1⟩ := tt
   simp only at h ty I1
   have tx := zGc I1 1
   have I2 := I1.text 1 (by decide)
   generalize htx : zaa T 1 p1 = tt at *
   obtain ⟨s, p2⟩ := tt
   simp only at h tx I2
   have m1 := zy I2 [61]
   split at h
   ·cases h
   rename_i x hq
   obtain ⟨e, p3⟩ := x
   cases h
   obtain ⟨x1, I3⟩ := zZb hq (I2.must _) hn'
   have m2 := zy I3 [59]
   refine ⟨?_, I3.must _⟩
   clear htx hty hq
   rw [za] at x1
   simp [pob, toks, adv, ze] at i1 i2 ty tx m1 m2 x1
   refine zc rfl rfl rfl (by simp) ?_
   rw [zb]
   cases c1 : isF T [105, 110, 116] ⟨pa, pb, pd⟩
   ·rw [c1] at c0 i1
    have c0 : isF T [98, 111, 111, 108] ⟨pa, pb, pd⟩ = true := c0
    rw [c0] at i2
    clear c0 c1
    simp [*, F89, ze, zg, pob, toks, zb, za]
   ·rw [c1] at i1
    clear c0 c1
    simp [*, F89, ze, zg, pob, toks, zb, za]
  rw [if_neg (by rw [c0]; decide)] at h
  simp only [Bool.or_eq_false_iff] at c0
  rw [c0.1] at i1
  rw [c0.2] at i2
  clear c0
  have t1 := zA I [105, 102]
  rw [zR] at t1
  cases c_t1 : isF T [105, 102] ⟨pa, pb, pd⟩
  case true =>
   rw [if_pos c_t1] at h
   rw [c_t1] at t1
   have IA := I.adv _ c_t1
   clear c_t1
   split at h
   ·cases h
   rename_i x hq
   obtain ⟨e, p1⟩ := x
   simp only at h
   obtain ⟨x1, I1⟩ := zxc hq IA hn'
   split at h
   ·cases h
   rename_i x hr
   obtain ⟨l1, p2⟩ := x
   simp only at h
   obtain ⟨x2, I2⟩ := S.block (d + 1) _ l1 p2 hr I1 (by omega) (by omega)
   have te := zA I2 [101, 108, 115, 101]
   rw [zR] at te
   cases ce : isF T [101, 108, 115, 101] p2
   case true =>
    rw [if_pos ce] at h
    rw [ce] at te
    split at h
    ·cases h
    rename_i x hs
    obtain ⟨l2, p3⟩ := x
    cases h
    obtain ⟨x3, I3⟩ := S.block (d + 1) _ l2 p3 hs (I2.adv _ ce) (by omega) (by omega)
    refine ⟨?_, I3⟩
    clear hq hr hs ce
    simp [pob, toks, adv, ze, zg] at i1 i2 t1 x1 x2 x3 te
    refine zc rfl rfl rfl (by simp) ?_
    rw [zb]
    simp [*, F89, ze, zg, pob, toks, zb, za]
   rw [if_neg (by rw [ce]; decide)] at h
   rw [ce] at te
   cases h
   refine ⟨?_, I2⟩
   clear hq hr ce
   simp [pob, toks, adv, ze, zg] at i1 i2 t1 x1 x2 te
   refine zc rfl rfl rfl (by simp) ?_
   rw [zb]
   simp [*, F89, ze, zg, pob, toks, zb, za]
  rw [if_neg (by rw [c_t1]; decide)] at h
  rw [c_t1] at t1
  clear c_t1
  have t2 := zA I [119, 104, 105, 108, 101]
  rw [zR] at t2
  cases c_t2 : isF T [119, 104, 105, 108, 101] ⟨pa, pb, pd⟩
  case true =>
   rw [if_pos c_t2] at h
   rw [c_t2] at t2
   have IA := I.adv _ c_t2
   clear c_t2
   split at h
   ·cases h
   rename_i x hq
   obtain ⟨e, p1⟩ := x
   simp only at h
   obtain ⟨x1, I1⟩ := zxc hq IA hn'
   split at h
   ·cases h
   rename_i x hr
   obtain ⟨l1, p2⟩ := x
   cases h
   obtain ⟨x2, I2⟩ := S.block (d + 1) _ l1 p2 hr I1 (by omega) (by omega)
   refine ⟨?_, I2⟩
   clear hq hr
   simp [pob, toks, adv, ze, zg] at i1 i2 t1 t2 x1 x2
   refine zc rfl rfl rfl (by simp) ?_
   rw [zb]
   simp [*, F89, ze, zg, pob, toks, zb, za]
  rw [if_neg (by rw [c_t2]; decide)] at h
  rw [c_t2] at t2
  clear c_t2
  have t3 := zA I [98, 114, 101, 97, 107]
  rw [zR] at t3
  cases c_t3 : isF T [98, 114, 101, 97, 107] ⟨pa, pb, pd⟩
  case true =>
   rw [if_pos c_t3] at h
   rw [c_t3] at t3
   have IA := I.adv _ c_t3
   clear c_t3
   cases h
   have m1 := zy IA [59]
   refine ⟨?_, IA.must _⟩
   simp [pob, toks, adv, ze, zg] at i1 i2 t1 t2 t3 m1
   refine zc rfl rfl rfl (by simp) ?_
   rw [zb]
   simp [*, F89, ze, zg, pob, toks, zb, za]
   exact ⟨rfl, rfl, rfl⟩
  rw [if_neg (by rw [c_t3]; decide)] at h
  rw [c_t3] at t3
  clear c_t3
  have t4 := zA I [99, 111, 110, 116, 105, 110, 117, 101]
  rw [zR] at t4
  cases c_t4 : isF T [99, 111, 110, 116, 105, 110, 117, 101] ⟨pa, pb, pd⟩
  case true =>
   rw [if_pos c_t4] at h
   rw [c_t4] at t4
   have IA := I.adv _ c_t4
   clear c_t4
   cases h
   have m1 := zy IA [59]
   refine ⟨?_, IA.must _⟩
   simp [pob, toks, adv, ze, zg] at i1 i2 t1 t2 t3 t4 m1
   refine zc rfl rfl rfl (by simp) ?_
   rw [zb]
   simp [*, F89, ze, zg, pob, toks, zb, za]
   exact ⟨rfl, rfl, rfl⟩
  rw [if_neg (by rw [c_t4]; decide)] at h
  rw [c_t4] at t4
  clear c_t4
  have t5 := zA I [114, 101, 116, 117, 114, 110]
  rw [zR] at t5
  cases c_t5 : isF T [114, 101, 116, 117, 114, 110] ⟨pa, pb, pd⟩
  case true =>
   rw [if_pos c_t5] at h
   rw [c_t5] at t5
   have IA := I.adv _ c_t5
   clear c_t5
   split at h
   ·cases h
   rename_i x hq
   obtain ⟨e, p1⟩ := x
   cases h
   obtain ⟨x1, I1⟩ := zZb hq IA hn'
   have m1 := zy I1 [59]
   refine ⟨?_, I1.must _⟩
   clear hq
   rw [za] at x1
   simp [pob, toks, adv, ze, zg] at i1 i2 t1 t2 t3 t4 t5 x1 m1
   refine zc rfl rfl rfl (by simp) ?_
   rw [zb]
   simp [*, F89, ze, zg, pob, toks, zb, za]
  rw [if_neg (by rw [c_t5]; decide)] at h
  rw [c_t5] at t5
  clear c_t5
  have t6 := zA I [112, 114, 105, 110, 116]
  rw [zR] at t6
  cases c_t6 : isF T [112, 114, 105, 110, 116] ⟨pa, pb, pd⟩
  case true =>
   rw [if_pos c_t6] at h
   rw [c_t6] at t6
   have IA := I.adv _ c_t6
   clear c_t6
   split at h
   ·cases h
   rename_i x hq
   obtain ⟨e, p1⟩ := x
   cases h
   obtain ⟨x1, I1⟩ := zxc hq IA hn'
   have m1 := zy I1 [59]
   refine ⟨?_, I1.must _⟩
   clear hq
   simp [pob, toks, adv, ze, zg] at i1 i2 t1 t2 t3 t4 t5 t6 x1 m1
   refine zc rfl rfl rfl (by simp) ?_
   rw [zb]
   simp [*, F89, ze, zg, pob, toks, zb, za]
  rw [if_neg (by rw [c_t6]; decide)] at h
  rw [c_t6] at t6
  clear c_t6
  split at h
  ·cases h
  rename_i x hq
  obtain ⟨w, p1⟩ := x
  cases h
  obtain ⟨x1, I1⟩ := named_spec hq I hn'
  have m1 := zy I1 [59]
  refine ⟨?_, I1.must _⟩
  clear hq
  rw [zb] at x1
  simp [pob, toks, adv, ze, zg] at i1 i2 t1 t2 t3 t4 t5 t6 x1 m1
  refine zc rfl rfl rfl (by simp) ?_
  rw [zb]
  simp [*, F89, ze, zg, pob, toks, zb, za]
theorem sspec_all (T : List Tok) : ∀ n k, k <= n -> SSpec T k
 | 0, k, h => by
  have : k = 0 := by omega
  subst this
  exact ⟨fun _ _ _ _ h => by simp [stmtF] at h, block_of (fun k hk => absurd hk (by omega))⟩
 | n + 1, k, h => by
  have ih := sspec_all T n
  rcases Nat.lt_or_ge k (n + 1) with h1 | h1
  ·exact ih k (by omega)
  ·have : k = n + 1 := by omega
   subst this
   exact ⟨stmt_of (ih n (Nat.le_refl n)), block_of (fun k hk => ih k (by omega))⟩
theorem sspec (T : List Tok) (n : Nat) : SSpec T n := sspec_all T n n (Nat.le_refl n)
end PE.U

namespace PE.U
open Go PE
theorem acc_snoc (sz : Nat) (l : List PV) (x : PV) : acc sz (l ++ [x]) = .slice .own sz (l ++ [x]) := acc_ne (by simp)
@[simp] theorem isOwn_acc_snoc (sz : Nat) (l : List PV) (x : PV) : isOwn (acc sz (l ++ [x])) = some (sz, l ++ [x]) := by rw [acc_snoc]; rfl
def zYa (T : List Tok) : Nat -> List Par -> Bool -> PS -> Option (List Par × PS)
 | 0, _, _, _ => none
 | n + 1, l, first, p =>
  if first || isF T [44] p then
   if zLa (if first then p else adv p) then some (l, if first then p else adv p)
   else zYa T n (l ++ [⟨(zaa T 1 (zca T (if first then p else adv p)).2).1, (zca T (if first then p else adv p)).1⟩]) false (zaa T 1 (zca T (if first then p else adv p)).2).2
  else some (l, p)
def zjd (T : List Tok) (n : Nat) (t : Int) (s : List UInt8) (p : PS) : Option (Func × PS) :=
 if isF T [41] (zxa T [40] p) then
  match zBb T n 1 [] (zxa T [123] (adv (zxa T [40] p))) with
  | none => none
  | some q => some (⟨s, t, [], q.1⟩, q.2)
 else match zYa T n [] true (zxa T [40] p) with
  | none => none
  | some r => match zBb T n 1 [] (zxa T [123] (zxa T [41] r.2)) with
   | none => none
   | some q => some (⟨s, t, r.1, q.1⟩, q.2)
structure FS where
 m : Nat
 l : List Par
 f : Bool
 p : PS
theorem paramsF_inv {T : List Tok} : ∀ m l f p v p', zYa T m l f p = some (v, p') -> Inv1 T p -> Inv1 T p' := by
 intro m
 induction m with
 | zero => intro l f p v p' h; simp [zYa] at h
 | succ m ih =>
  intro l f p v p' h I
  simp only [zYa] at h
  have fin : ∀ q : PS, Inv1 T q -> (if zLa q then some (l, q) else zYa T m (l ++ [⟨(zaa T 1 (zca T q).2).1, (zca T q).1⟩]) false (zaa T 1 (zca T q).2).2) = some (v, p') -> Inv1 T p' := by
   intro q Iq h
   split at h
   ·cases h; exact Iq
   ·exact ih _ _ _ _ _ h (Iq.typed.text 1 (by decide))
  cases f
  ·cases c2 : isF T [44] p
   ·rw [c2] at h
    simp at h
    exact h.2 ▸ I
   ·rw [c2] at h
    simp at h
    exact fin _ (I.adv _ c2) h
  ·simp at h
   exact fin _ I h
set_option maxHeartbeats 4000000 in
theorem zie {T : List Tok} {n : Nat} {t : Int} {s : List UInt8} {p p' : PS} {v : Func} (h : zjd T n t s p = some (v, p')) (I : Inv1 T p) (hn : n <= 999999980) : zi E 44 [.ptr 0 0 0, .int .i64 t, .str s] (pob T p) = some (.ret (zm v), pob T p') /\ Inv1 T p' := by
 unfold zjd at h
 have m1 := zy I [40]
 have I1 := I.must [40]
 have t1 := zA I1 [41]
 rw [zR] at t1
 cases c1 : isF T [41] (zxa T [40] p)
 case true =>
  rw [if_pos c1] at h
  rw [c1] at t1
  split at h
  ·cases h
  rename_i q hq
  obtain ⟨l, p2⟩ := q
  cases h
  obtain ⟨x1, I3⟩ := (sspec T n).block 1 _ l p2 hq (I1.adv _ c1) (by omega) (by omega)
  refine ⟨?_, I3⟩
  refine zc rfl rfl rfl (by simp) ?_
  clear hq c1
  simp [zg] at x1
  simp [*, F44, zm, parsV, zg]
 rw [if_neg (by rw [c1]; decide)] at h
 rw [c1] at t1
 split at h
 ·cases h
 rename_i r hr
 obtain ⟨ps, p1⟩ := r
 simp only at h
 split at h
 ·cases h
 rename_i q hq
 obtain ⟨l, p2⟩ := q
 cases h
 have Ip := paramsF_inv _ _ _ _ _ _ hr I1
 have m2 := zy Ip [41]
 obtain ⟨x1, I3⟩ := (sspec T n).block 1 _ l p2 hq (Ip.must [41]) (by omega) (by omega)
 refine ⟨?_, I3⟩
 refine zc rfl rfl rfl (by simp) ?_
 clear hq c1
 simp [zg] at x1
 simp [*, F44, zm, parsV, zg]
 refine zza K44_0 B44_0 (fun c : FS => c.m) (fun c => [(8, .bool c.f)]) (fun c => [(7, .cells [.str s, .int .i64 t, acc 2 (c.l.map encPar), .slice .fit 6 []])]) (fun c => pob T c.p) (fun c => c.m <= n /\ c.l.length + c.m <= n /\ zYa T c.m c.l c.f c.p = some (ps, p1) /\ Inv1 T c.p) ⟨n, [], true, zxa T [40] p⟩ ⟨by simp, by simp, by simp, Nat.le_refl _, by simp, hr, I1⟩ ?_
 rintro ⟨m, l2, f, p⟩ s1 ⟨hm, hlm, hr, I⟩ g1 g2 g3 g4 g5
 simp at g1 g2 g3 g4 g5 hm hlm hr I
 clear t1 I1 I3 Ip
 cases m with
 | zero => simp [zYa] at hr
 | succ m =>
  simp only [zYa] at hr
  have hroom : (l2.length + 1) * 24 <= zn := by simp only [zn]; omega
  have t2 := zA I [44]
  rw [zR] at t2
  have key : ∀ q : PS, Inv1 T q -> (if zLa q then some (l2, q) else zYa T m (l2 ++ [⟨(zaa T 1 (zca T q).2).1, (zca T q).1⟩]) false (zaa T 1 (zca T q).2).2) = some (ps, p1) →
    (zLa q = true /\ l2 = ps /\ q = p1) \/ (zLa q = false /\ ∃ ty pt tx p3, zi E 39 [.ptr 0 0 0] (pob T q) = some (.ret (.int .i64 ty), pob T pt) /\ zi E 40 [.ptr 0 0 0, .int .i64 1] (pob T pt) = some (.ret (.str tx), pob T p3) /\ Inv1 T p3 /\ zYa T m (l2 ++ [⟨tx, ty⟩]) false p3 = some (ps, p1)) := by
   intro q Iq h
   cases ho : zLa q
   ·right
    rw [if_neg (by rw [ho]; decide)] at h
    exact ⟨rfl, _, _, _, _, typed_spec Iq, zGc Iq.typed 1, Iq.typed.text 1 (by decide), h⟩
   ·left
    rw [if_pos ho] at h
    cases h
    exact ⟨rfl, rfl, rfl⟩
  cases f
  ·cases c2 : isF T [44] p
   ·rw [c2] at hr t2
    simp at hr
    obtain ⟨rfl, rfl⟩ := hr
    clear key c2
    simp [*]
   ·have IA := I.adv _ c2
    rw [c2] at hr t2
    simp at hr
    have ho := zjc IA
    rcases key _ IA hr with ⟨k1, rfl, rfl⟩ | ⟨k1, ty, pt, tx, p3, x2, x3, I3, hr2⟩
    ·rw [k1] at ho
     clear key c2 hr
     simp [*]
    ·rw [k1] at ho
     clear key c2 hr k1
     simp [*]
     exact ⟨⟨m, l2 ++ [⟨tx, ty⟩], false, p3⟩, Nat.lt_succ_self m, rfl, by simp [encPar, acc_snoc], rfl, by simp only; omega, by simp only [List.length_append, List.length_cons, List.length_nil]; omega, hr2, I3⟩
  ·simp at hr
   have ho := zjc I
   rcases key _ I hr with ⟨k1, rfl, rfl⟩ | ⟨k1, ty, pt, tx, p3, x2, x3, I3, hr2⟩
   ·rw [k1] at ho
    clear key hr t2
    simp [*]
   ·rw [k1] at ho
    clear key hr k1 t2
    simp [*]
    exact ⟨⟨m, l2 ++ [⟨tx, ty⟩], false, p3⟩, Nat.lt_succ_self m, rfl, by simp [encPar, acc_snoc], rfl, by simp only; omega, by simp only [List.length_append, List.length_cons, List.length_nil]; omega, hr2, I3⟩
end PE.U

namespace PE.U
open Go PE
def progF (T : List Tok) : Nat -> List PArr -> List Func -> PS -> Option (Prog × PS)
 | 0, _, _, _ => none
 | n + 1, ars, fs, p =>
  if zLa p then some (⟨ars, fs⟩, p)
  else if (tk T p.at').kind = 3 then some (⟨ars, fs⟩, p)
  else if (zca T p).1 = 1 /\ fs = [] /\ isF T [91] (zaa T 1 (zca T p).2).2 = true then
   progF T n (ars ++ [⟨(zaa T 1 (zca T p).2).1, valueM (zaa T 0 (adv (zaa T 1 (zca T p).2).2)).1⟩]) fs (zxa T [59] (zxa T [93] (zaa T 0 (adv (zaa T 1 (zca T p).2).2)).2))
  else match zjd T n (zca T p).1 (zaa T 1 (zca T p).2).1 (zaa T 1 (zca T p).2).2 with
   | none => none
   | some q => progF T n ars (fs ++ [q.1]) q.2
structure GS where
 m : Nat
 ars : List PArr
 fs : List Func
 p : PS
theorem text0_num {T : List Tok} {p : PS} (I : Inv1 T p) : digs (zaa T 0 p).1 = true /\ (zaa T 0 p).1.length < 1000000 := by
 unfold zaa
 split
 ·exact ⟨rfl, by simp⟩
 ·split
  ·rename_i h
   refine I.num _ ?_ h
   rw [<- tk_get' I.lt]; exact List.getElem_mem I.lt
  ·exact ⟨rfl, by simp⟩
theorem progF_inv {T : List Tok} : ∀ m ars fs p v p', m <= 999999980 -> progF T m ars fs p = some (v, p') -> Inv1 T p -> Inv1 T p' := by
 intro m
 induction m with
 | zero => intro ars fs p v p' _ h; simp [progF] at h
 | succ m ih =>
  intro ars fs p v p' hm h I
  simp only [progF] at h
  have I2 := I.typed.text 1 (by decide)
  split at h
  ·cases h; exact I
  ·split at h
   ·cases h; exact I
   ·split at h
    ·rename_i hc
     exact ih _ _ _ _ _ (by omega) h ((((I2.adv _ hc.2.2).text 0 (by decide)).must _).must _)
    ·split at h
     ·cases h
     ·rename_i q hq
      exact ih _ _ _ _ _ (by omega) h (zie hq I2 (by omega)).2
set_option maxHeartbeats 4000000 in
theorem prog_spec {T : List Tok} {n : Nat} {p p' : PS} {v : Prog} (h : progF T n [] [] p = some (v, p')) (I : Inv1 T p) (hn : n <= 999999980) : zi E 16 [.ptr 0 0 0] (pob T p) = some (.ret (zd v), pob T p') /\ Inv1 T p' := by
 refine ⟨?_, progF_inv _ _ _ _ _ _ hn h I⟩
 refine zc rfl rfl rfl (by simp) ?_
 simp [F16, zd, zva, funcs]
 refine zza K16_0 B16_0 (fun c : GS => c.m) (fun c => []) (fun c => [(3, .cells [acc 2 (c.ars.map zK), acc 4 (c.fs.map zm)])]) (fun c => pob T c.p) (fun c => c.m <= n /\ c.ars.length + c.m <= n /\ c.fs.length + c.m <= n /\ progF T c.m c.ars c.fs c.p = some (v, p') /\ Inv1 T c.p) ⟨n, [], [], p⟩ ⟨by simp, by simp, by simp, Nat.le_refl _, by simp, by simp, h, I⟩ ?_
 clear h I
 rintro ⟨m, ars, fs, p⟩ s1 ⟨hm, hla, hlf, hr, I⟩ g1 g2 g3 g4 g5
 simp at g1 g2 g4 g5 hm hla hlf hr I
 clear g3
 cases m with
 | zero => simp [progF] at hr
 | succ m =>
  simp only [progF] at hr
  have hrm1 : (ars.length + 1) * 24 <= zn := by simp only [zn]; omega
  have hrm2 : (fs.length + 1) * 72 <= zn := by simp only [zn]; omega
  have ho := zjc I
  have hlt := I.lt
  have hg := tk_get hlt
  have hg' := tk_get' hlt
  cases o : zLa p
  case true =>
   rw [if_pos o] at hr
   rw [o] at ho
   cases hr
   clear o
   simp [*]
  rw [if_neg (by rw [o]; decide)] at hr
  rw [o] at ho
  clear o
  by_cases hk : (tk T p.at').kind = 3
  ·rw [if_pos hk] at hr
   replace hk := eqp hk
   cases hr
   simp [pob, toks] at ho g5
   simp [*, pob, toks, zw]
  rw [if_neg hk] at hr
  replace hk := eqn hk
  have ty := typed_spec I
  have I1 := I.typed
  generalize zca T p = tt at *
  obtain ⟨t, p1⟩ := tt
  simp only at ty I1 hr
  have tx := zGc I1 1
  have I2 := I1.text 1 (by decide)
  generalize zaa T 1 p1 = tt at *
  obtain ⟨s, p2⟩ := tt
  simp only at tx I2 hr
  have t2 := zA I2 [91]
  rw [zR] at t2
  by_cases hc : t = 1 /\ fs = [] /\ isF T [91] p2 = true
  ·rw [if_pos hc] at hr
   obtain ⟨rfl, rfl, hc⟩ := hc
   have IA := I2.adv _ hc
   rw [hc] at t2
   have x1 := zGc IA 0
   obtain ⟨n1, n2⟩ := text0_num IA
   have I3 := IA.text 0 (by decide)
   generalize zaa T 0 (adv p2) = tt at *
   obtain ⟨x, p3⟩ := tt
   simp only at x1 I3 hr n1 n2
   have vv := value_spec' x [] n1 (by omega)
   have m1 := zy I3 [93]
   have m2 := zy (I3.must [93]) [59]
   have I4 := (I3.must [93]).must [59]
   clear hc
   simp [pob, toks] at ho g5 ty tx t2 x1 m1 m2
   simp [*, pob, toks, zw]
   exact ⟨⟨m, ars ++ [⟨s, valueM x⟩], [], _⟩, Nat.lt_succ_self m, by simp [zK, acc_snoc], ⟨rfl, rfl, rfl⟩, by simp only; omega, by simp only [List.length_append, List.length_cons, List.length_nil]; omega, by simp only [List.length_nil]; omega, hr, I4⟩
  ·rw [if_neg hc] at hr
   split at hr
   ·cases hr
   rename_i q hq
   obtain ⟨fn, p3⟩ := q
   simp only at hr
   obtain ⟨x1, I3⟩ := zie hq I2 (by omega)
   clear hq
   have hs := is_spec I2 [91]
   simp [zm, parsV, zg] at x1
   simp [pob, toks] at ho g5 ty tx t2 x1
   by_cases h1 : t = 1
   ·by_cases h2 : fs = []
    ·have h3 : isF T [91] p2 = false := by
      cases h3 : isF T [91] p2
      ·rfl
      ·exact absurd ⟨h1, h2, h3⟩ hc
     rw [h3] at t2
     subst h1 h2
     clear hc h3 hs hrm2
     have hrm2 : 72 <= zn := by simp only [zn]; omega
     simp at g4 hr
     simp [*, pob, toks, zw]
     exact ⟨⟨m, ars, [fn], p3⟩, Nat.lt_succ_self m, ⟨rfl, by simp [zm, parsV, zg]⟩, ⟨rfl, rfl, rfl⟩, by simp only; omega, by simp only; omega, by simp only [List.length_cons, List.length_nil] at hlf ⊢; omega, hr, I3⟩
    ·have h2' : ¬ fs.length = 0 := by simpa using h2
     clear hc h2 t2 hs
     subst h1
     simp [*, pob, toks, zw]
     exact ⟨⟨m, ars, fs ++ [fn], p3⟩, Nat.lt_succ_self m, ⟨rfl, by simp [zm, parsV, zg, acc_snoc]⟩, ⟨rfl, rfl, rfl⟩, by simp only; omega, by simp only; omega, by simp only [List.length_append, List.length_cons, List.length_nil]; omega, hr, I3⟩
   ·clear hc t2 hs
    replace h1 := eqn h1
    simp [*, pob, toks, zw]
    exact ⟨⟨m, ars, fs ++ [fn], p3⟩, Nat.lt_succ_self m, ⟨rfl, by simp [zm, parsV, zg, acc_snoc]⟩, ⟨rfl, rfl, rfl⟩, by simp only; omega, by simp only; omega, by simp only [List.length_append, List.length_cons, List.length_nil]; omega, hr, I3⟩
end PE.U

namespace PE.U
open Go PE
def kindR (k o n : Int) (s : List UInt8) (a : Nat) : Bool :=
 if k = 1 then decide (o = 0) && (decide (0 <= n) && (decide (s = []) && decide (a = 0)))
 else if k = 2 then decide (o = 0) && ((decide (n = 0) || decide (n = 1)) && (decide (s = []) && decide (a = 0)))
 else if k = 3 then (decide (o = 0) && decide (n = 0)) && (zcb s && decide (a = 0))
 else if k = 4 then oneR o && (decide (n = 0) && (decide (s = []) && decide (a = 1)))
 else if k = 5 then decide (0 < zQd o) && (decide (n = 0) && (decide (s = []) && decide (a = 2)))
 else if k = 6 then (decide (o = 0) && decide (n = 0)) && (zcb s && decide (a = 1))
 else if k = 7 then (decide (o = 0) && decide (n = 0)) && (zcb s && decide (a <= 8))
 else if k = 8 then (decide (o = 0) && decide (n = 0)) && (decide (s = []) && decide (a = 0))
 else false
mutual
def zdb : Expr -> Int -> Bool
 | ⟨k, o, n, s, a⟩, m => zkb a m && kindR k o n s a.length
def zkb : List Expr -> Int -> Bool
 | [], _ => true
 | x :: r, m => (decide (2 <= m) && zdb x (m - 1)) && zkb r m
end
theorem exprR_eq (e : Expr) (m : Int) : zdb e m = (zkb e.args m && kindR e.kind e.op e.n e.name e.args.length) := by cases e; rw [zdb]
theorem zle (a b : List Expr) (m : Int) : zkb (a ++ b) m = (zkb a m && zkb b m) := by
 induction a with
 | nil => simp [zkb]
 | cons x r ih => simp [zkb, ih, Bool.and_assoc]
set_option maxHeartbeats 4000000 in
theorem exprR_spec' : ∀ w (e : Expr) (m : Int), wtE e <= w -> w < 1099511000000 -> m <= 1000000 -> zi E 69 [zo e, .int .i64 m] [] = some (.ret (.bool (zdb e m)), [])
 | 0, e, m, h, _, _ => by rw [zsd] at h; omega
 | w + 1, e, m, h, hw, hm => by
  refine zc rfl rfl rfl (by simp [za]) ?_
  have hlen := zPb e.args
  rw [zsd] at h
  simp [F69, za, ze]
  refine zz e.args K69_0 B69_0 (fun d => [(5, .int .i64 d.length)]) (fun _ => []) (fun d => zkb d m = true) (by omega) (by simp [zkb]) ?_ ?_
  ·intros d x r s1 hl' hlt hget hget' hw1 hp h1 h2 h3 h4
   simp at h1 h2 h3
   have hwx := zSb hl'.mem
   have hf : zdb e m = false \/ (2 <= m /\ zdb x (m - 1) = true) := by
    by_cases h2m : 2 <= m
    ·cases hx : zdb x (m - 1)
     ·left
      rw [exprR_eq, hl'.eq, zle]
      simp [zkb, hx]
     ·exact Or.inr ⟨h2m, rfl⟩
    ·left
     rw [exprR_eq, hl'.eq, zle]
     simp [zkb, h2m]
   have hnx : 2 <= m -> zdb x (m - 1) = true -> zkb (d ++ [x]) m = true := by
    intro a b
    rw [zle, hp]
    simp [zkb, a, b]
   by_cases h2m : m < 2
   ·rcases hf with hf | hf
    ·clear hnx hl' hp
     (simp [*]) <;> (repeat' (first | ((first | refine sP _ ?_ ?_ | refine gP _ ?_ ?_ | refine sN _ ?_ ?_ | refine gN _ ?_ ?_) <;> intro hc <;> (first | replace hc := eqn hc | replace hc := eqp hc) <;> simp [*]) | ((first | refine sM _ ?_ ?_ | refine gM _ ?_ ?_ | refine sB _ ?_ ?_ | refine gB _ ?_ ?_) <;> intro hc <;> simp [*])))
    ·omega
   ·have ih := exprR_spec' w x (m - 1) (by omega) (by omega) (by omega)
    have hwm : zN .i64 (m - 1) = m - 1 := zj (by omega) (by omega)
    rw [za] at ih
    cases hx : zdb x (m - 1)
    ·rcases hf with hf | hf
     ·rw [hx] at ih
      clear hnx hl' hp
      simp [ze] at ih
      (simp [*, za, ze]) <;> (repeat' (first | ((first | refine sP _ ?_ ?_ | refine gP _ ?_ ?_ | refine sN _ ?_ ?_ | refine gN _ ?_ ?_) <;> intro hc <;> (first | replace hc := eqn hc | replace hc := eqp hc) <;> simp [*, za, ze]) | ((first | refine sM _ ?_ ?_ | refine gM _ ?_ ?_ | refine sB _ ?_ ?_ | refine gB _ ?_ ?_) <;> intro hc <;> simp [*, za, ze])))
     ·rw [hx] at hf; exact absurd hf.2 (by decide)
    ·replace hnx := hnx (by omega) hx
     rw [hx] at ih
     clear hf hl' hp
     simp [ze] at ih
     (simp [*, za, ze]) <;> (repeat' (first | ((first | refine sP _ ?_ ?_ | refine gP _ ?_ ?_ | refine sN _ ?_ ?_ | refine gN _ ?_ ?_) <;> intro hc <;> (first | replace hc := eqn hc | replace hc := eqp hc) <;> simp [*, za, ze]) | ((first | refine sM _ ?_ ?_ | refine gM _ ?_ ?_ | refine sB _ ?_ ?_ | refine gB _ ?_ ?_) <;> intro hc <;> simp [*, za, ze])))
  ·intros s1 hp h1 h2 h3 h4
   simp at h1 h2 h3
   rw [exprR_eq, hp, Bool.true_and]
   have hn := zTc e.name []
   have h5 := rlevel_spec e.op
   have h6 := roneR_spec e.op
   clear h hlen hp
   generalize hal : e.args.length = al at *
   unfold kindR
   by_cases k1 : e.kind = 1
   ·replace k1 := eqp k1
    (simp [*]) <;> (repeat' (first | ((first | refine sP _ ?_ ?_ | refine gP _ ?_ ?_ | refine sN _ ?_ ?_ | refine gN _ ?_ ?_) <;> intro hc <;> (first | replace hc := eqn hc | replace hc := eqp hc) <;> simp [*]) | ((first | refine sM _ ?_ ?_ | refine gM _ ?_ ?_ | refine sB _ ?_ ?_ | refine gB _ ?_ ?_) <;> intro hc <;> simp [*])))
    all_goals (try omega)
   by_cases k2 : e.kind = 2
   ·replace k1 := eqn k1
    replace k2 := eqp k2
    (simp [*]) <;> (repeat' (first | ((first | refine sP _ ?_ ?_ | refine gP _ ?_ ?_ | refine sN _ ?_ ?_ | refine gN _ ?_ ?_) <;> intro hc <;> (first | replace hc := eqn hc | replace hc := eqp hc) <;> simp [*]) | ((first | refine sM _ ?_ ?_ | refine gM _ ?_ ?_ | refine sB _ ?_ ?_ | refine gB _ ?_ ?_) <;> intro hc <;> simp [*])))
    all_goals (try omega)
   by_cases k3 : e.kind = 3
   ·replace k1 := eqn k1
    replace k2 := eqn k2
    replace k3 := eqp k3
    (simp [*]) <;> (repeat' (first | ((first | refine sP _ ?_ ?_ | refine gP _ ?_ ?_ | refine sN _ ?_ ?_ | refine gN _ ?_ ?_) <;> intro hc <;> (first | replace hc := eqn hc | replace hc := eqp hc) <;> simp [*]) | ((first | refine sM _ ?_ ?_ | refine gM _ ?_ ?_ | refine sB _ ?_ ?_ | refine gB _ ?_ ?_) <;> intro hc <;> simp [*])))
    all_goals (try omega)
   by_cases k4 : e.kind = 4
   ·replace k1 := eqn k1
    replace k2 := eqn k2
    replace k3 := eqn k3
    replace k4 := eqp k4
    (simp [*]) <;> (repeat' (first | ((first | refine sP _ ?_ ?_ | refine gP _ ?_ ?_ | refine sN _ ?_ ?_ | refine gN _ ?_ ?_) <;> intro hc <;> (first | replace hc := eqn hc | replace hc := eqp hc) <;> simp [*]) | ((first | refine sM _ ?_ ?_ | refine gM _ ?_ ?_ | refine sB _ ?_ ?_ | refine gB _ ?_ ?_) <;> intro hc <;> simp [*])))
    all_goals (try omega)
   by_cases k5 : e.kind = 5
   ·replace k1 := eqn k1
    replace k2 := eqn k2
    replace k3 := eqn k3
    replace k4 := eqn k4
    replace k5 := eqp k5
    (simp [*]) <;> (repeat' (first | ((first | refine sP _ ?_ ?_ | refine gP _ ?_ ?_ | refine sN _ ?_ ?_ | refine gN _ ?_ ?_) <;> intro hc <;> (first | replace hc := eqn hc | replace hc := eqp hc) <;> simp [*]) | ((first | refine sM _ ?_ ?_ | refine gM _ ?_ ?_ | refine sB _ ?_ ?_ | refine gB _ ?_ ?_) <;> intro hc <;> simp [*])))
    all_goals (try omega)
   replace k1 := eqn k1
   replace k2 := eqn k2
   replace k3 := eqn k3
   replace k4 := eqn k4
   replace k5 := eqn k5
   by_cases k6 : e.kind = 6
   ·replace k6 := eqp k6
    (simp [*]) <;> (repeat' (first | ((first | refine sP _ ?_ ?_ | refine gP _ ?_ ?_ | refine sN _ ?_ ?_ | refine gN _ ?_ ?_) <;> intro hc <;> (first | replace hc := eqn hc | replace hc := eqp hc) <;> simp [*]) | ((first | refine sM _ ?_ ?_ | refine gM _ ?_ ?_ | refine sB _ ?_ ?_ | refine gB _ ?_ ?_) <;> intro hc <;> simp [*])))
    all_goals (try omega)
   replace k6 := eqn k6
   by_cases k7 : e.kind = 7
   ·replace k7 := eqp k7
    (simp [*]) <;> (repeat' (first | ((first | refine sP _ ?_ ?_ | refine gP _ ?_ ?_ | refine sN _ ?_ ?_ | refine gN _ ?_ ?_) <;> intro hc <;> (first | replace hc := eqn hc | replace hc := eqp hc) <;> simp [*]) | ((first | refine sM _ ?_ ?_ | refine gM _ ?_ ?_ | refine sB _ ?_ ?_ | refine gB _ ?_ ?_) <;> intro hc <;> simp [*])))
    all_goals (try omega)
   replace k7 := eqn k7
   by_cases k8 : e.kind = 8
   ·replace k8 := eqp k8
    (simp [*]) <;> (repeat' (first | ((first | refine sP _ ?_ ?_ | refine gP _ ?_ ?_ | refine sN _ ?_ ?_ | refine gN _ ?_ ?_) <;> intro hc <;> (first | replace hc := eqn hc | replace hc := eqp hc) <;> simp [*]) | ((first | refine sM _ ?_ ?_ | refine gM _ ?_ ?_ | refine sB _ ?_ ?_ | refine gB _ ?_ ?_) <;> intro hc <;> simp [*])))
    all_goals (try omega)
   replace k8 := eqn k8
   (simp [*]) <;> (repeat' (first | ((first | refine sP _ ?_ ?_ | refine gP _ ?_ ?_ | refine sN _ ?_ ?_ | refine gN _ ?_ ?_) <;> intro hc <;> (first | replace hc := eqn hc | replace hc := eqp hc) <;> simp [*]) | ((first | refine sM _ ?_ ?_ | refine gM _ ?_ ?_ | refine sB _ ?_ ?_ | refine gB _ ?_ ?_) <;> intro hc <;> simp [*])))
   all_goals (try omega)
theorem exprR_spec (e : Expr) (m : Int) (h : wtE e < 1099510000000) (hm : m <= 1000000) : zi E 69 [zo e, .int .i64 m] [] = some (.ret (.bool (zdb e m)), []) := exprR_spec' (wtE e) e m (Nat.le_refl _) (by omega) hm
end PE.U

namespace PE.U
open Go PE
def digF : Nat -> Nat -> List UInt8
 | 0, _ => []
 | k + 1, n => if n < 10 then [UInt8.ofNat (48 + n)] else digF k (n / 10) ++ [UInt8.ofNat (48 + n % 10)]
def zBc (n : Nat) : List UInt8 := digF 20 n
theorem digF_len : ∀ k n, (digF k n).length <= k
 | 0, _ => Nat.le_refl _
 | k + 1, n => by
  unfold digF
  split
  ·simp
  ·have := digF_len k (n / 10); simp; omega
theorem digits_spec' : ∀ (k n : Nat), n < 10 ^ (k + 1) -> n <= 9223372036854775807 -> k <= 100 -> zi E 56 [.int .i64 n] [] = some (.ret (.str (digF (k + 1) n)), [])
 | k, n, h, hn, hk => by
  refine zc rfl rfl rfl (by simp) ?_
  have hm : n % 10 < 10 := Nat.mod_lt _ (by omega)
  obtain ⟨z, hz, z0, z9⟩ : ∃ z : Int, z = ((n % 10 : Nat) : Int) /\ 0 <= z /\ z < 10 := ⟨_, rfl, by omega, by omega⟩
  have hr : remK (n : Int) 10 = z := by rw [hz, remK_eq]; rfl
  have hw : zN .i64 (48 + z) = 48 + z := by rw [zj] <;> omega
  have hw8 : zN .u8 (48 + z) = 48 + z := by rw [zXd, IntKind.wrap_u8]; omega
  have hu : UInt8.ofNat (48 + z).toNat = UInt8.ofNat (48 + n % 10) := by congr 1; omega
  by_cases h10 : n < 10
  ·have c1 : ((n : Int) < 10) = True := eqp (by omega)
   have hd : digF (k + 1) n = [UInt8.ofNat (48 + n % 10)] := by rw [digF, if_pos h10, Nat.mod_eq_of_lt h10]
   rw [hd]
   generalize UInt8.ofNat (48 + n % 10) = y at *
   clear hz hd h h10 hm
   simp [*, F56]
  ·cases k with
   | zero => simp at h; omega
   | succ k =>
    have c1 : ((n : Int) < 10) = False := eqn (by omega)
    have hd : digF (k + 1 + 1) n = digF (k + 1) (n / 10) ++ [UInt8.ofNat (48 + n % 10)] := by rw [digF, if_neg h10]
    rw [hd]
    have ih := digits_spec' k (n / 10) (by rw [Nat.pow_succ] at h; omega) (by omega) (by omega)
    have hl := digF_len (k + 1) (n / 10)
    have hl2 : (digF (k + 1) (n / 10)).length + 1 <= 9223372036854775807 := by omega
    have hl3 : (digF (k + 1) (n / 10)).length <= 9223372036854775806 := by omega
    have hq : (n : Int).tdiv 10 = ((n / 10 : Nat) : Int) := rfl
    have hwq : zN .i64 ((n / 10 : Nat) : Int) = ((n / 10 : Nat) : Int) := by rw [zj] <;> omega
    obtain ⟨q, hq2⟩ : ∃ q : Int, q = ((n / 10 : Nat) : Int) := ⟨_, rfl⟩
    rw [<- hq2] at ih hq hwq
    generalize UInt8.ofNat (48 + n % 10) = y at *
    generalize digF (k + 1) (n / 10) = dg at *
    clear hz hd h h10 hm hl hq2
    simp [*, F56]
theorem digits_spec (n : Nat) (hn : n <= 9223372036854775807) : zi E 56 [.int .i64 n] [] = some (.ret (.str (zBc n)), []) :=
 digits_spec' 19 n (Nat.lt_of_le_of_lt hn (by decide)) hn (by omega)
end PE.U

namespace PE.U
open Go PE
abbrev Nm := List (List UInt8 × List UInt8)
def zfa (nm : List UInt8) : Nm -> List UInt8
 | [] => nm
 | x :: r => if x.1 = nm then x.2 else zfa nm r
def encPr (x : List UInt8 × List UInt8) : PV := .agg [.str x.1, .str x.2]
@[simp] theorem below_prs (k : Nat) (N : Nm) : zZ k (N.map encPr).reverse = true := by
 rw [belowL_iff]
 intro x hx
 simp only [List.mem_reverse, List.mem_map] at hx
 obtain ⟨y, _, rfl⟩ := hx
 rfl
def prs (N : Nm) : PV := .slice .plain 2 (N.reverse.map encPr)
set_option maxHeartbeats 1000000 in
theorem findN_spec (N : Nm) (nm : List UInt8) (hN : N.length < 9000000000000) : zi E 58 [prs N, .str nm] [] = some (.ret (.str (zfa nm N)), []) := by
 refine zc rfl rfl rfl (by simp [prs]) ?_
 have hw : zN .i64 ((N.length : Int) - 1) = (N.length : Int) - 1 := by rw [zj] <;> omega
 simp [*, F58, prs]
 refine zza K58_0 B58_0 (fun c : Nm => c.length) (fun c => [(5, .int .i64 ((c.length : Int) - 1))]) (fun c => []) (fun c => []) (fun c => ∃ a, N = a ++ c /\ zfa nm N = zfa nm c) N ⟨by simp, by simp, by simp, [], rfl, rfl⟩ ?_
 rintro c s1 ⟨a, rfl, hf⟩ q1 q2 q3 q4 q5
 simp at q1 q3 q5
 cases c with
 | nil =>
  have e0 : ((0 : Int) <= ((0 : Nat) : Int) - 1) = False := eqn (by omega)
  simp at q3
  rw [hf]
  clear hf q2 hw
  simp [*, zfa]
 | cons x r =>
  have hr : ((a ++ x :: r).reverse.map encPr)[r.length]? = some (encPr x) := by
   rw [List.getElem?_map, List.reverse_append, List.reverse_cons]
   simp
  have hlt : r.length < (a ++ x :: r).length := by simp; omega
  have hd : decide (r.length < (a ++ x :: r).length) = true := decide_eq_true hlt
  have e0 : ((0 : Int) <= (r.length : Int)) = True := eqp (by omega)
  have hw2 : zN .i64 ((r.length : Int) - 1) = (r.length : Int) - 1 := by rw [zj] <;> omega
  obtain ⟨o, nw⟩ := x
  by_cases hx : o = nm
  ·subst hx
   have hv : zfa o (a ++ (o, nw) :: r) = nw := by rw [hf]; simp [zfa]
   rw [hv]
   clear hf hw q2 hN
   generalize hL : a ++ (o, nw) :: r = L at *
   simp [encPr] at hr q1 q3 hd
   simp [*]
  ·have hv : zfa nm ((o, nw) :: r) = zfa nm r := by simp [zfa, hx]
   rw [hv] at hf
   replace hx := eqn hx
   have hsplit : a ++ (o, nw) :: r = (a ++ [(o, nw)]) ++ r := by simp
   clear hw q2 hN hv
   generalize hL : a ++ (o, nw) :: r = L at *
   simp [encPr] at hr q1 q3 hd
   replace hL : Nonempty (PLift (a ++ (o, nw) :: r = L)) := ⟨⟨hL⟩⟩
   simp [*]
   obtain ⟨⟨hL⟩⟩ := hL
   exact ⟨r, by simp, rfl, rfl, ⟨a ++ [(o, nw)], by simp⟩, by rw [hL]; exact hf⟩
mutual
def renE (N : Nm) : Expr -> Expr
 | ⟨k, op, n, nm, ar⟩ => ⟨k, op, n, if k = 3 then zfa nm N else nm, zX N ar⟩
def zX (N : Nm) : List Expr -> List Expr
 | [] => []
 | x :: r => renE N x :: zX N r
end
theorem renEs_append (N : Nm) (a b : List Expr) : zX N (a ++ b) = zX N a ++ zX N b := by
 induction a with
 | nil => simp [zX]
 | cons x r ih => simp [zX, ih]
theorem zZc (N : Nm) (a : List Expr) : (zX N a).length = a.length := by
 induction a with
 | nil => simp [zX]
 | cons x r ih => simp [zX, ih]
theorem renE_eq (N : Nm) (e : Expr) : renE N e = ⟨e.kind, e.op, e.n, if e.kind = 3 then zfa e.name N else e.name, zX N e.args⟩ := by
 obtain ⟨k, op, n, nm, ar⟩ := e
 simp [renE]
set_option maxHeartbeats 2000000 in
theorem rexprs_spec' : ∀ (w : Nat) (l : List Expr) (N : Nm), wtEs l <= w -> w < 1099511000000 -> N.length < 9000000000000 -> zi E 57 [ze l, prs N] [] = some (.ret (ze (zX N l)), [])
 | w, l, N, h, hw, hN => by
  refine zc rfl rfl rfl (by simp [ze, prs]) ?_
  have hlen := zPb l
  simp [F57, ze, prs]
  refine zz l K57_0 B57_0 (fun d => [(5, acc 5 ((zX N d).map zo)), (6, .int .i64 d.length)]) (fun _ => []) (fun d => True) (by omega) (by simp [zX]) ?_ ?_
  ·intros d x r s1 hl' hlt hget hget' hw1 hp h1 h2 h3 h4
   simp at h1 h2 h3
   have hwx := zSb hl'.mem
   have hroom : ((zX N d).length + 1) * 64 <= zn := by rw [zZc]; simp only [zn]; omega
   have hfi := findN_spec N x.name hN
   have ih : zi E 57 [ze x.args, prs N] [] = some (.ret (ze (zX N x.args)), []) := by
    have hx : wtEs x.args < wtEs l := by have := zsd x; omega
    exact rexprs_spec' (wtEs x.args) x.args N (Nat.le_refl _) (by omega) hN
   have hap : zX N (d ++ [x]) = zX N d ++ [renE N x] := by rw [renEs_append]; simp [zX]
   have hdec : decide (d.length < l.length) = true := decide_eq_true hlt
   rw [hap]
   obtain ⟨k, op, n, nm, ar⟩ := x
   simp only at ih hfi hwx
   by_cases hk : k = 3
   ·subst hk
    clear hl' hwx hap h2
    simp [prs] at ih hfi
    simp [*, za, renE]
   ·replace hk := eqn hk
    clear hl' hwx hap h2 hfi
    simp [prs] at ih
    simp [*, za, renE]
  ·intros s1 hp h1 h2 h3 h4
   simp at h1 h2 h3
   simp [*, ze]
 termination_by w l N => wtEs l
end PE.U

namespace PE.U
open Go PE
def newN (c : Nat) : List UInt8 := 118 :: zBc c
def cobj (c : Nat) : Obj := .arr 1 [.agg [.int .i64 c]]
def cst (σ : zf) (j c : Nat) : zf := σ.set j (cobj c)
theorem cst_get {σ : zf} {j : Nat} (h : j < σ.length) (c : Nat) : (cst σ j c)[j]? = some (.arr 1 [.agg [.int .i64 c]]) := by
 unfold cst; rw [List.getElem?_set_self (by simpa using h)]; rfl
theorem cst_set (σ : zf) (j c d : Nat) : (cst σ j c).set j (.arr 1 [.agg [.int .i64 d]]) = cst σ j d := by
 unfold cst; rw [List.set_set]; rfl
theorem next_spec {σ : zf} {j : Nat} (h : j < σ.length) (c : Nat) (hc : c <= 9000000000000) : zi E 22 [.ptr j 0 0] (cst σ j c) = some (.ret (.str (newN c)), cst σ j (c + 1)) := by
 refine zc rfl rfl rfl (by simp) ?_
 have g := cst_get h c
 have g1 := cst_get h (c + 1)
 have s1 := cst_set σ j c (c + 1)
 have hw : zN .i64 ((c : Int) + 1) = (c : Int) + 1 := by rw [zj] <;> omega
 have hw0 : zN .i64 (c : Int) = (c : Int) := by rw [zj] <;> omega
 have hd := digits_spec c (by omega)
 have hl := digF_len 20 c
 have hl1 : 1 + (zBc c).length <= 9223372036854775807 := by unfold zBc; omega
 have e1 : (((c + 1 : Nat) : Int)) = (c : Int) + 1 := by omega
 rw [e1] at g1 s1
 generalize cst σ j (c + 1) = σ1 at *
 generalize cst σ j c = σ0 at *
 clear hl h e1
 simp [*, F22, newN]
mutual
def renS : Stmt -> Nm -> Nat -> Stmt × Nm × Nat
 | ⟨k, ty, nm, ar, th, el⟩, N, c =>
  let N1 := if k = 1 then (nm, newN c) :: N else N
  let c1 := if k = 1 then c + 1 else c
  let t := renB th N1 c1
  let e := renB el N1 t.2.2
  (⟨k, ty, if k = 1 \/ k = 2 then zfa nm N1 else nm, zX N ar, t.1, e.1⟩, N1, e.2.2)
def renB : List Stmt -> Nm -> Nat -> List Stmt × Nm × Nat
 | [], N, c => ([], N, c)
 | x :: r, N, c =>
  let y := renS x N c
  let z := renB r y.2.1 y.2.2
  (y.1 :: z.1, z.2)
end
theorem renB_append : ∀ (a b : List Stmt) (N : Nm) (c : Nat), renB (a ++ b) N c = ((renB a N c).1 ++ (renB b (renB a N c).2.1 (renB a N c).2.2).1, (renB b (renB a N c).2.1 (renB a N c).2.2).2)
 | [], b, N, c => by simp [renB]
 | x :: r, b, N, c => by simp [renB, renB_append r b]
theorem renB_len : ∀ (a : List Stmt) (N : Nm) (c : Nat), (renB a N c).1.length = a.length
 | [], N, c => by simp [renB]
 | x :: r, N, c => by simp [renB, renB_len r]
mutual
theorem renS_bd : ∀ (s : Stmt) (N : Nm) (c : Nat), (renS s N c).2.1.length <= N.length + 1 /\ c <= (renS s N c).2.2 /\ (renS s N c).2.2 <= c + wtS s
 | ⟨k, ty, nm, ar, th, el⟩, N, c => by
  have h1 := zTb th (if k = 1 then (nm, newN c) :: N else N) (if k = 1 then c + 1 else c)
  have h2 := zTb el (if k = 1 then (nm, newN c) :: N else N) (renB th (if k = 1 then (nm, newN c) :: N else N) (if k = 1 then c + 1 else c)).2.2
  have hw := zOa ⟨k, ty, nm, ar, th, el⟩
  simp only [renS]
  simp only at hw
  refine ⟨by split <;> simp, ?_, ?_⟩
  ·split at h1 <;> split at h2 <;> simp_all <;> omega
  ·split at h1 <;> split at h2 <;> simp_all <;> omega
theorem zTb : ∀ (l : List Stmt) (N : Nm) (c : Nat), (renB l N c).2.1.length <= N.length + l.length /\ c <= (renB l N c).2.2 /\ (renB l N c).2.2 <= c + wtSs l
 | [], N, c => by simp [renB, wtSs]
 | x :: r, N, c => by
  have h1 := renS_bd x N c
  have h2 := zTb r (renS x N c).2.1 (renS x N c).2.2
  have hw : wtSs (x :: r) = wtS x + 1 + wtSs r := by simp [wtSs]; omega
  simp only [renB, List.length_cons]
  omega
end
set_option maxHeartbeats 4000000 in
theorem rblock_spec : ∀ (w : Nat) (l : List Stmt) (N : Nm) (c : Nat) (σ : zf) (j : Nat), wtSs l <= w -> w <= 1099510000000 -> N.length + wtSs l <= 4000000000000 -> c + wtSs l <= 4000000000000 -> j < σ.length →
  zi E 23 [.ptr j 0 0, zg l, prs N] (cst σ j c) = some (.ret (zg (renB l N c).1), cst σ j (renB l N c).2.2) := by
  intro w
  induction w using Nat.strongRecOn with
  | _ w IH =>
  intro l N c σ j hw hw0 hN hc hj
  refine zc rfl rfl rfl (by simp [zg, prs]) ?_
  have hlen := zha l
  have hrN : N.length * 32 <= zn := by simp only [zn]; omega
  simp [*, F23, zg, prs]
  refine zz l K23_0 B23_0 (fun d => [(7, acc 6 ((renB d N c).1.map zE)), (8, acc 2 ((renB d N c).2.1.map encPr).reverse), (9, .int .i64 d.length)]) (fun d => cst σ j (renB d N c).2.2) (fun d => True) (by omega) (by simp [renB]) ?_ ?_
  ·intros d x r s1 hl' hlt hget hget' hw1 hp h1 h2 h3 h4
   simp at h1 h2 h3
   have hwx := zLc hl'.mem
   have hwe := zOa x
   have hbd := zTb d N c
   have hsum : wtSs l = wtSs d + (1 + wtS x) + wtSs r := by rw [hl'.eq, zrc]; simp [wtSs]; omega
   have hdl := zha d
   have hap := renB_append d [x] N c
   have hol := renB_len d N c
   generalize renB d N c = q at *
   obtain ⟨out, N0, c0⟩ := q
   simp only at hbd hap hol
   have hroom : (out.length + 1) * 104 <= zn := by rw [hol]; simp only [zn]; omega
   have hroom2 : (N0.length + 1) * 32 <= zn := by simp only [zn]; omega
   have hex := rexprs_spec' (wtEs x.args) x.args N0 (Nat.le_refl _) (by omega) (by omega)
   have hnx := next_spec hj c0 (by omega)
   have hbd1 := renS_bd x N0 c0
   have hdec : decide (d.length < l.length) = true := decide_eq_true hlt
   rw [hap]
   obtain ⟨k, ty, nm, ar, th, el⟩ := x
   simp only at hwe hex
   simp only [renB, renS] at hbd1 ⊢
   by_cases hk : k = 1
   ·subst hk
    simp only [if_true, true_or] at hbd1 ⊢
    have hfi := findN_spec ((nm, newN c0) :: N0) nm (by simp; omega)
    have hb1 := zTb th ((nm, newN c0) :: N0) (c0 + 1)
    have ih1 := IH (wtSs th) (by omega) th ((nm, newN c0) :: N0) (c0 + 1) σ j (Nat.le_refl _) (by omega) (by simp; omega) (by omega) hj
    have ih2 := IH (wtSs el) (by omega) el ((nm, newN c0) :: N0) (renB th ((nm, newN c0) :: N0) (c0 + 1)).2.2 σ j (Nat.le_refl _) (by omega) (by simp; omega) (by omega) hj
    generalize renB th ((nm, newN c0) :: N0) (c0 + 1) = q1 at *
    obtain ⟨o1, N1, c1⟩ := q1
    simp only at ih1 ih2 hb1 ⊢
    generalize renB el ((nm, newN c0) :: N0) c1 = q2 at *
    obtain ⟨o2, N2, c2⟩ := q2
    simp only at ih2 ⊢
    generalize zfa nm ((nm, newN c0) :: N0) = fn at *
    generalize newN c0 = nw at *
    clear IH hl' hwx hap h2 hw hw0 hc hN hbd hbd1 hwe hb1 hsum hol
    simp [prs, encPr] at hex hfi ih1 ih2
    simp [*, zb, encPr]
   ·simp only [hk, if_false, false_or] at hbd1 ⊢
    have hfi := findN_spec N0 nm (by omega)
    have hb1 := zTb th N0 c0
    have ih1 := IH (wtSs th) (by omega) th N0 c0 σ j (Nat.le_refl _) (by omega) (by omega) (by omega) hj
    have ih2 := IH (wtSs el) (by omega) el N0 (renB th N0 c0).2.2 σ j (Nat.le_refl _) (by omega) (by omega) (by omega) hj
    generalize renB th N0 c0 = q1 at *
    obtain ⟨o1, N1, c1⟩ := q1
    simp only at ih1 ih2 hb1 ⊢
    generalize renB el N0 c1 = q2 at *
    obtain ⟨o2, N2, c2⟩ := q2
    simp only at ih2 ⊢
    generalize zfa nm N0 = fn at *
    replace hk := eqn hk
    by_cases hk2 : k = 2
    ·subst hk2
     clear IH hl' hwx hap h2 hw hw0 hc hN hbd hbd1 hwe hb1 hsum hol hnx hk
     simp [prs] at hex hfi ih1 ih2
     simp [*, zb]
    ·replace hk2 := eqn hk2
     simp only [hk2, if_false]
     clear IH hl' hwx hap h2 hw hw0 hc hN hbd hbd1 hwe hb1 hsum hol hnx hfi
     simp [prs] at hex ih1 ih2
     simp [*, zb]
  ·intros s1 hp h1 h2 h3 h4
   simp at h1 h2 h3
   simp [*, zg]
end PE.U

namespace PE.U
open Go PE
theorem dec_dig : ∀ (k n : Nat), n < 10 ^ (k + 1) -> Lib.decDigits n = digF (k + 1) n
 | 0, n, h => by rw [Lib.decDigits, digF]; simp at h; simp [h]
 | k + 1, n, h => by
  rw [Lib.decDigits, digF]
  split
  ·rfl
  ·rw [dec_dig k (n / 10) (by rw [Nat.pow_succ] at h; omega)]
theorem itoa_dig (c : Nat) (h : c < 10 ^ 20) : Lib.itoa c = zBc c := by
 have h0 : ¬ ((c : Int) < 0) := by omega
 unfold Lib.itoa zBc
 rw [if_neg h0, Int.toNat_natCast, dec_dig 19 c h]
theorem itoa_spec (c : Nat) (h : c <= 9223372036854775807) : zi E 83 [.int .i64 c] [] = some (.ret (.str (zBc c)), []) := by
 rw [zGb (E := E) (f := 83) (g := itoaX) rfl]
 unfold itoaX
 simp only
 rw [if_pos (by omega), itoa_dig c (by omega)]
theorem mclone_spec {σ : zf} {r : Nat} {es : List (PV × PV)} (h : σ[r]? = some (.mp es)) : zi E 84 [.mp r] σ = some (.ret (.mp σ.length), σ ++ [.mp es]) := by
 rw [zGb (E := E) (f := 84) (g := cloneX) rfl]
 simp [cloneX, h]
theorem sclX_nil (sz by_ : Nat) (k : SK) (σ : zf) : sclX sz by_ [.slice k sz []] σ = some (.ret (.slice .plain sz []), σ) := by simp [sclX]
theorem sclX_cons (sz by_ : Nat) (k : SK) (σ : zf) {l : List PV} (hne : l ≠ []) (hb : l.length * by_ <= zn) : sclX sz by_ [.slice k sz l] σ = some (.ret (.mslice σ.length 0 l.length sz), σ ++ [.arr sz l]) := by
 simp [sclX, hne, hb]
theorem eclone_nil (σ : zf) : zi E 110 [.slice .plain 5 []] σ = some (.ret (.slice .plain 5 []), σ) := by
 rw [zGb (E := E) (f := 110) (g := sclX 5 64) rfl]; exact sclX_nil ..
theorem eclone (σ : zf) {l : List PV} (hne : l ≠ []) (hb : l.length * 64 <= zn) : zi E 110 [.slice .plain 5 l] σ = some (.ret (.mslice σ.length 0 l.length 5), σ ++ [.arr 5 l]) := by
 rw [zGb (E := E) (f := 110) (g := sclX 5 64) rfl]; exact sclX_cons _ _ _ _ hne hb
theorem tclone_nil (σ : zf) : zi E 85 [.slice .plain 6 []] σ = some (.ret (.slice .plain 6 []), σ) := by
 rw [zGb (E := E) (f := 85) (g := sclX 6 104) rfl]; exact sclX_nil ..
theorem tclone (σ : zf) {l : List PV} (hne : l ≠ []) (hb : l.length * 104 <= zn) : zi E 85 [.slice .plain 6 l] σ = some (.ret (.mslice σ.length 0 l.length 6), σ ++ [.arr 6 l]) := by
 rw [zGb (E := E) (f := 85) (g := sclX 6 104) rfl]; exact sclX_cons _ _ _ _ hne hb
theorem pclone_nil (σ : zf) : zi E 54 [.slice .plain 2 []] σ = some (.ret (.slice .plain 2 []), σ) := by
 rw [zGb (E := E) (f := 54) (g := sclX 2 24) rfl]; exact sclX_nil ..
theorem pclone (σ : zf) {l : List PV} (hne : l ≠ []) (hb : l.length * 24 <= zn) : zi E 54 [.slice .plain 2 l] σ = some (.ret (.mslice σ.length 0 l.length 2), σ ++ [.arr 2 l]) := by
 rw [zGb (E := E) (f := 54) (g := sclX 2 24) rfl]; exact sclX_cons _ _ _ _ hne hb
theorem aclone_nil (σ : zf) : zi E 20 [.slice .plain 2 []] σ = some (.ret (.slice .plain 2 []), σ) := by
 rw [zGb (E := E) (f := 20) (g := sclX 2 24) rfl]; exact sclX_nil ..
theorem aclone (σ : zf) {l : List PV} (hne : l ≠ []) (hb : l.length * 24 <= zn) : zi E 20 [.slice .plain 2 l] σ = some (.ret (.mslice σ.length 0 l.length 2), σ ++ [.arr 2 l]) := by
 rw [zGb (E := E) (f := 20) (g := sclX 2 24) rfl]; exact sclX_cons _ _ _ _ hne hb
def kobj (c : Nat) : Obj := .arr 1 [.int .i64 ((c : Int) - 1)]
def kst (σ : zf) (j c : Nat) : zf := σ.set j (kobj c)
theorem kst_get {σ : zf} {j : Nat} (h : j < σ.length) (c : Nat) : (kst σ j c)[j]? = some (.arr 1 [.int .i64 ((c : Int) - 1)]) := by
 unfold kst; rw [List.getElem?_set_self (by simpa using h)]; rfl
theorem kst_set (σ : zf) (j c d : Nat) : (kst σ j c).set j (kobj d) = kst σ j d := by
 unfold kst; rw [List.set_set]
theorem zya (σ : zf) (j c : Nat) : (kst σ j c).length = σ.length := by unfold kst; simp
theorem kst_append {σ : zf} {j : Nat} (h : j < σ.length) (c : Nat) (τ : zf) : kst (σ ++ τ) j c = kst σ j c ++ τ := by
 unfold kst; rw [List.set_append_left _ _ h]
theorem kst_other {σ : zf} {j r : Nat} (h : r ≠ j) (c d : Nat) : (kst σ j c)[r]? = (kst σ j d)[r]? := by
 unfold kst; rw [List.getElem?_set_ne (Ne.symm h), List.getElem?_set_ne (Ne.symm h)]
theorem sameBig_kst (σ τ : zf) (j c d : Nat) : sameBig (kst σ j c ++ τ) (kst σ j d ++ τ) = true := by
 rw [sameBig_iff]
 intro l
 unfold bigAt
 by_cases hl : l < σ.length
 ·rw [List.getElem?_append_left (by rw [zya]; exact hl), List.getElem?_append_left (by rw [zya]; exact hl)]
  by_cases e : l = j
  ·subst e
   rw [kst_get hl, kst_get hl]
   rfl
  ·rw [kst_other e c d]
 ·rw [List.getElem?_append_right (by rw [zya]; omega), List.getElem?_append_right (by rw [zya]; omega), zya, zya]
@[simp] theorem rebuild_int (k : IntKind) (n : Int) (v : PV) : zKa (.int k n) [v] = v := Eq.trans rfl rfl
theorem fresh_spec {σ : zf} {j : Nat} (h : j < σ.length) (c : Nat) (hc : c <= 9000000000000) : zi E 82 [.ptr j 0 0] (kst σ j c) = some (.ret (.str (newN c)), kst σ j (c + 1)) := by
 refine zc rfl rfl rfl (by simp) ?_
 have g := kst_get h c
 have g1 := kst_get h (c + 1)
 have s1 := kst_set σ j c (c + 1)
 have hw : zN .i64 (c : Int) = (c : Int) := by rw [zj] <;> omega
 have hd := itoa_spec c (by omega)
 have hl := digF_len 20 c
 have hl1 : 1 + (zBc c).length <= 9223372036854775807 := by unfold zBc; omega
 have e1 : (((c + 1 : Nat) : Int)) - 1 = (c : Int) := by omega
 unfold kobj at s1
 rw [e1] at g1 s1
 generalize kst σ j (c + 1) = σ1 at *
 generalize kst σ j c = σ0 at *
 clear hl h e1
 simp [*, F82, newN]
def strK (es : List (PV × PV)) : Prop := ∀ q ∈ es, ∃ s, q.1 = .str s
theorem zdd (nm : List UInt8) (u : PV) : ∀ (es : List (PV × PV)), strK es -> ∃ es', zpc true (.str nm) u es = some es' /\ strK es' /\ (∀ n, belowP n es = true -> zI n u = true -> belowP n es' = true) /\ ∀ x, zda true (.str x) es' = if nm = x then some (some u) else zda true (.str x) es
 | [], _ => ⟨_, rfl, fun q h => by simp at h; exact ⟨nm, by rw [h]⟩, fun n _ h => by simp [belowP, h], fun x => by by_cases h : nm = x <;> simp [zda, zqd, h, eq_comm]⟩
 | (k, u0) :: r, hk => by
  obtain ⟨s, hs⟩ := hk (k, u0) (by simp)
  simp only at hs
  subst hs
  by_cases hs : nm = s
  ·subst hs
   refine ⟨(.str nm, u) :: r, by simp [zpc, zqd], ?_, ?_, fun x => ?_⟩
   ·intro q hq
    rcases List.mem_cons.1 hq with rfl | hq
    ·exact ⟨nm, rfl⟩
    ·exact hk q (by simp [hq])
   ·intro n h1 h2
    simp [belowP] at h1 ⊢
    exact ⟨h2, h1.2⟩
   ·by_cases hx : nm = x
    ·subst hx; simp [zda, zqd]
    ·have hx' : ¬ x = nm := fun e => hx e.symm
     rw [if_neg hx]
     simp [zda, zqd, hx']
  ·obtain ⟨es', e1, e2, e3, e4⟩ := zdd nm u r (fun q hq => hk q (by simp [hq]))
   refine ⟨(.str s, u0) :: es', by simp [zpc, zqd, hs, e1], ?_, ?_, fun x => ?_⟩
   ·intro q hq
    rcases List.mem_cons.1 hq with rfl | hq
    ·exact ⟨s, rfl⟩
    ·exact e2 q hq
   ·intro n h1 h2
    simp [belowP] at h1 ⊢
    exact ⟨h1.1, e3 n h1.2 h2⟩
   ·by_cases hx : x = s
    ·subst hx
     rw [if_neg hs]
     simp [zda, zqd]
    ·simp [zda, zqd, hx, e4]
structure MapN (es : List (PV × PV)) (N : Nm) : Prop where
 keys : strK es
 flat : ∀ n, belowP n es = true
 find : ∀ x, zda true (.str x) es = some (if x ∈ N.map (·.1) then some (.str (zfa x N)) else none)
theorem MapN.nil : MapN [] [] := ⟨fun q h => by simp at h, fun n => rfl, fun x => rfl⟩
theorem MapN.get {es : List (PV × PV)} {N : Nm} (h : MapN es N) {x : List UInt8} (hx : x ∈ N.map (·.1)) : zda true (.str x) es = some (some (.str (zfa x N))) := by
 rw [h.find, if_pos hx]
theorem MapN.set {es : List (PV × PV)} {N : Nm} (h : MapN es N) (nm v : List UInt8) : ∃ es', zpc true (.str nm) (.str v) es = some es' /\ MapN es' ((nm, v) :: N) := by
 obtain ⟨es', e1, e2, e3, e4⟩ := zdd nm (.str v) es h.keys
 refine ⟨es', e1, e2, fun n => e3 n (h.flat n) rfl, fun x => ?_⟩
 rw [e4]
 by_cases hx : nm = x
 ·subst hx; simp [zfa]
 ·rw [if_neg hx, h.find]
  have hx' : ¬ x = nm := fun e => hx e.symm
  have hf : zfa x ((nm, v) :: N) = zfa x N := by simp [zfa, hx]
  rw [hf]
  simp only [List.map_cons, List.mem_cons, hx', false_or]
def WfS (σ : zf) : Prop := ∀ n, σ.length <= n -> zf.wf n σ = true
theorem WfS.add {σ : zf} (h : WfS σ) {τ : zf} (hτ : ∀ n, zf.wf n τ = true) : WfS (σ ++ τ) := by
 intro n hn
 have := h n (by simp at hn; omega)
 have h2 := hτ n
 unfold zf.wf at *
 rw [List.all_append, this, h2]; rfl
theorem WfS.count {σ : zf} (h : WfS σ) (j c : Nat) : WfS (kst σ j c) := by
 intro n hn
 have := h n (by rw [zya] at hn; exact hn)
 unfold zf.wf at *
 rw [List.all_eq_true] at this ⊢
 intro o ho
 unfold kst at ho
 rcases List.mem_or_eq_of_mem_set ho with ho | rfl
 ·exact this o ho
 ·rfl
theorem WfS.at {σ : zf} (h : WfS σ) : zf.wf σ.length σ = true := h _ (Nat.le_refl _)
theorem wf_mp {es : List (PV × PV)} (h : ∀ n, belowP n es = true) (n : Nat) : zf.wf n [.mp es] = true := by simp [zf.wf, Obj.below, h n]
theorem wf_arr {sz : Nat} {l : List PV} (h : ∀ n, zZ n l = true) (n : Nat) : zf.wf n [.arr sz l] = true := by simp [zf.wf, Obj.below, h n]
theorem strip_exprF : stripA ∘ zo = zo := funext fun e => by show stripA (zo e) = _; rw [za]; simp
theorem strip_stmtF : stripA ∘ zE = zE := funext fun e => by show stripA (zE e) = _; rw [zb]; simp
theorem strip_parF : stripA ∘ encPar = encPar := funext fun e => by show stripA (encPar e) = _; unfold encPar; rfl
theorem strip_arrF : stripA ∘ zK = zK := funext fun e => by show stripA (zK e) = _; unfold zK; rfl
theorem mid_get {α : Type} (A R : List α) (e : α) : (A ++ e :: R)[A.length]? = some e := by simp
theorem mid_set {α : Type} (A R : List α) (e e' : α) : (A ++ e :: R).set A.length e' = A ++ e' :: R := by simp
end PE.U

namespace PE.U
open Go PE
mutual
/-- All its variables are among these. -/
def scE (A : List (List UInt8)) : Expr -> Prop
 | ⟨k, _, _, nm, ar⟩ => (k = 3 -> nm ∈ A) /\ scEs A ar
def scEs (A : List (List UInt8)) : List Expr -> Prop
 | [] => True
 | x :: r => scE A x /\ scEs A r
end
theorem scEs_mem {A : List (List UInt8)} : ∀ {l : List Expr}, scEs A l -> ∀ x ∈ l, scE A x
 | [], _, x, hx => by simp at hx
 | y :: r, h, x, hx => by
  simp only [scEs] at h
  rcases List.mem_cons.1 hx with rfl | hx
  ·exact h.1
  ·exact scEs_mem h.2 x hx
theorem scE_iff {A : List (List UInt8)} (e : Expr) : scE A e <-> (e.kind = 3 -> e.name ∈ A) /\ scEs A e.args := by
 obtain ⟨k, op, n, nm, ar⟩ := e
 simp [scE]
mutual
/-- All its variables are among these, or declared ahead. -/
def scS : List (List UInt8) -> Stmt -> Prop
 | A, ⟨k, _, nm, ar, th, el⟩ => scEs A ar /\ (k = 2 -> nm ∈ A) /\ scSs (if k = 1 then nm :: A else A) th /\ scSs (if k = 1 then nm :: A else A) el
def scSs : List (List UInt8) -> List Stmt -> Prop
 | _, [] => True
 | A, x :: r => scS A x /\ scSs (if x.kind = 1 then x.name :: A else A) r
end
end PE.U

namespace PE.U
open Go PE
set_option maxHeartbeats 4000000 in
theorem pexprs_spec : ∀ (w : Nat) (l : List Expr) (N : Nm) (es : List (PV × PV)) (σ : zf) (r : Nat), wtEs l <= w -> w < 1099511000000 -> MapN es N -> scEs (N.map (·.1)) l -> σ[r]? = some (.mp es) -> WfS σ →
  zi E 86 [.mp r, ze l] σ = some (.ret (ze (zX N l)), σ) := by
 intro w
 induction w using Nat.strongRecOn with
 | _ w IH =>
 intro l N es σ r h hw hM hsc hr hwf
 refine zc rfl rfl rfl (by simp [ze]) ?_
 have hlen := zPb l
 by_cases hl : l = []
 ·subst hl
  have hc := eclone_nil σ
  have hwa := hwf.at
  clear IH hM hsc h hw hlen hwf
  simp [*, F86, ze]
  refine zza K86_0 B86_0 (fun _ : Unit => 0) (fun _ => [(10, .int .i64 0)]) (fun _ => []) (fun _ => σ) (fun _ => True) () ⟨by simp, by simp, by simp, trivial⟩ ?_
  rintro ⟨⟩ s1 - q1 q2 q3 q4 q5
  simp at q1 q3 q5
  simp [*, zX, fin]
 ·have hne : l.map zo ≠ [] := by simpa using hl
  have hroom : (l.map zo).length * 64 <= zn := by simp only [zn, List.length_map]; omega
  have hc := eclone σ hne hroom
  have hrl : r < σ.length := (List.getElem?_eq_some_iff.1 hr).1
  simp only [List.length_map] at hc
  have hwa := hwf.at
  simp [*, F86, ze]
  refine zz l K86_0 B86_0 (fun d => [(10, .int .i64 d.length)]) (fun d => σ ++ [.arr 5 ((zX N d).map zo ++ (l.drop d.length).map zo)]) (fun d => True) (by omega) (by simp [zX]) ?_ ?_
  ·intros d q rr s1 hl' hlt hget hget' hw1 hp h1 h2 h3 h4
   simp at h1 h2 h3
   have hwx := zSb hl'.mem
   have hwe := zsd q
   have hsq := scEs_mem hsc q hl'.mem
   rw [scE_iff] at hsq
   have hap : zX N (d ++ [q]) = zX N d ++ [renE N q] := by rw [renEs_append]; simp [zX]
   have hd1 : l.drop d.length = q :: rr := by rw [hl'.eq]; simp
   have hd2 : l.drop (d.length + 1) = rr := by rw [<- List.drop_drop, hd1]; rfl
   have hdec : decide (d.length < l.length) = true := decide_eq_true hlt
   have ih : ∀ e : Expr, zi E 86 [.mp r, ze q.args] (σ ++ [.arr 5 ((zX N d).map zo ++ zo e :: rr.map zo)]) = some (.ret (ze (zX N q.args)), σ ++ [.arr 5 ((zX N d).map zo ++ zo e :: rr.map zo)]) := by
    intro e
    refine IH (wtEs q.args) (by omega) q.args N es _ r (Nat.le_refl _) (by omega) hM hsq.2 (by rw [List.getElem?_append_left hrl]; exact hr) (hwf.add (wf_arr fun n => ?_))
    have : (zX N d).map zo ++ zo e :: rr.map zo = (zX N d ++ e :: rr).map zo := by simp
    rw [this]
    exact pl_expr n _
   have hr1 : ∀ x, (σ ++ [x])[r]? = some (.mp es) := fun x => by rw [List.getElem?_append_left hrl]; exact hr
   have hA : ((zX N d).map zo).length = d.length := by rw [List.length_map, zZc]
   have h4' : s1.st = σ ++ [.arr 5 ((zX N d).map zo ++ zo q :: rr.map zo)] := by rw [h4]; simp only [hd1, List.map_cons]
   clear h4
   rw [hap, List.map_append]
   simp only [List.length_append, List.length_singleton, hd2, List.map_cons, List.map_nil, List.append_assoc, List.singleton_append]
   generalize (zX N d).map zo = A at *
   generalize rr.map zo = R at *
   have hg : ∀ e, (A ++ e :: R)[d.length]? = some e := fun e => by rw [<- hA]; exact mid_get A R e
   have hs : ∀ e e', (A ++ e :: R).set d.length e' = A ++ e' :: R := fun e e' => by rw [<- hA]; exact mid_set A R e e'
   obtain ⟨k, op, n, nm, ar⟩ := q
   simp only at ih hsq
   by_cases hk : k = 3
   ·subst hk
    have hfi := hM.get (hsq.1 rfl)
    have ih1 := ih ⟨3, op, n, zfa nm N, ar⟩
    clear IH hl' hwx hwe h2 hM hsc hsq hp ih hd1 hd2 hap hwf hget hget' h hw
    simp [za, ze] at ih1
    simp [*, za, renE, ze]
   ·have ih1 := ih ⟨k, op, n, nm, ar⟩
    replace hk := eqn hk
    clear IH hl' hwx hwe h2 hM hsc hsq hp ih hd1 hd2 hap hwf hget hget' h hw
    simp [za, ze] at ih1
    simp [*, za, renE, ze]
  ·intros s1 hp h1 h2 h3 h4
   simp at h1 h2 h3
   clear IH hM hsc h hwf
   have htk : ((zX N l).map zo).take l.length = (zX N l).map zo := List.take_of_length_le (by rw [List.length_map, zZc]; omega)
   simp [*, ze, fin, frA_mslice, fr1_mslice, zZc, strip_exprF]
end PE.U

namespace PE.U
open Go PE
def bst (σ : zf) (j c : Nat) (es : List (PV × PV)) (row : List PV) : zf := kst σ j c ++ [.mp es, .arr 6 row]
section
variable (σ : zf) (j c c' : Nat) (es es' : List (PV × PV)) (row row' : List PV)
@[simp] theorem bst_len : (bst σ j c es row).length = σ.length + 2 := by simp [bst, zya]
@[simp high] theorem bst_mp : (bst σ j c es row)[σ.length]? = some (.mp es) := by
 unfold bst; rw [List.getElem?_append_right (by rw [zya]; exact Nat.le_refl _), zya]; simp
@[simp high] theorem bst_row : (bst σ j c es row)[σ.length + 1]? = some (.arr 6 row) := by
 unfold bst; rw [List.getElem?_append_right (by rw [zya]; omega), zya]; simp
@[simp high] theorem bst_big : bigAt (bst σ j c es row) (σ.length + 1) = some row := by
 unfold bigAt; rw [bst_row]; rfl
@[simp high] theorem bst_setmp : (bst σ j c es row).set σ.length (.mp es') = bst σ j c es' row := by
 unfold bst; rw [List.set_append_right _ _ (by rw [zya]; exact Nat.le_refl _), zya]; simp
@[simp high] theorem bst_setrow : (bst σ j c es row).set (σ.length + 1) (.arr 6 row') = bst σ j c es row' := by
 unfold bst; rw [List.set_append_right _ _ (by rw [zya]; omega), zya]; simp
@[simp] theorem bst_same : sameBig (bst σ j c es row) (bst σ j c' es row) = true := sameBig_kst σ _ j c c'
theorem bst_take : (bst σ j c es row).take σ.length = kst σ j c := by
 unfold bst; rw [List.take_append_of_le_length (by rw [zya]; exact Nat.le_refl _)]
 exact List.take_of_length_le (by rw [zya]; exact Nat.le_refl _)
theorem bst_eq (h : j < σ.length) : bst σ j c es row = kst (σ ++ [.mp es, .arr 6 row]) j c := (kst_append h c _).symm
end
theorem bst_wf {σ : zf} (h : WfS σ) {es : List (PV × PV)} {N : Nm} (hM : MapN es N) (l : List Stmt) : WfS (σ ++ [.mp es, .arr 6 (l.map zE)]) := by
 refine h.add fun n => ?_
 have h1 := wf_mp hM.flat n
 have h2 := wf_arr (sz := 6) (l := l.map zE) (fun n => pl_stmt n l) n
 unfold zf.wf at *
 simp only [List.all_cons, List.all_nil, Bool.and_true, Bool.and_eq_true] at *
 exact ⟨h1, h2⟩
set_option maxHeartbeats 8000000 in
theorem pblock_spec : ∀ (w : Nat) (l : List Stmt) (N : Nm) (c : Nat) (es : List (PV × PV)) (σ : zf) (r j : Nat), wtSs l <= w -> w <= 1099510000000 -> N.length + wtSs l <= 4000000000000 -> c + wtSs l <= 4000000000000 →
  MapN es N -> scSs (N.map (·.1)) l -> j < σ.length -> r ≠ j -> σ[r]? = some (.mp es) -> WfS σ →
  zi E 55 [.mp r, zg l, .fn 82 [] [.ptr j 0 0]] (kst σ j c) = some (.ret (zg (renB l N c).1), kst σ j (renB l N c).2.2) := by
 intro w
 induction w using Nat.strongRecOn with
 | _ w IH =>
 intro l N c es σ r j hw hw0 hN hc hM hsc hj hrj hr hwf
 refine zc rfl rfl rfl (by simp [zg]) ?_
 rw [zya]
 have hlen := zha l
 have hrk : ∀ c, (kst σ j c)[r]? = some (.mp es) := fun c => by
  unfold kst; rw [List.getElem?_set_ne (Ne.symm hrj)]; exact hr
 have hmc := mclone_spec (hrk c)
 have hwk : ∀ c, zf.wf σ.length (kst σ j c) = true := fun c => (hwf.count j c) _ (by rw [zya]; exact Nat.le_refl _)
 have htk : ∀ c, (kst σ j c).take σ.length = kst σ j c := fun c => List.take_of_length_le (by rw [zya]; exact Nat.le_refl _)
 rw [zya] at hmc
 by_cases hl : l = []
 ·subst hl
  have htc := tclone_nil (kst σ j c ++ [.mp es])
  have hwa := hwk c
  have hta := htk c
  have hkl := zya σ j c
  clear IH hM hsc hw hlen hwf hw0 hN hc hwk htk hr
  simp [*, F55, zg]
  refine zza K55_0 B55_0 (fun _ : Unit => 0) (fun _ => [(15, .int .i64 0)]) (fun _ => []) (fun _ => kst σ j c ++ [.mp es]) (fun _ => True) () ⟨by simp, by simp, by simp, trivial⟩ ?_
  rintro ⟨⟩ s1 - q1 q2 q3 q4 q5
  simp at q1 q3 q5
  simp [*, renB, fin]
 ·have hne : l.map zE ≠ [] := by simpa using hl
  have hroom : (l.map zE).length * 104 <= zn := by simp only [zn, List.length_map]; omega
  have htc := tclone (kst σ j c ++ [.mp es]) hne hroom
  simp only [List.length_map, List.length_append, zya, List.length_singleton, List.append_assoc, List.singleton_append] at htc
  simp [*, F55, zg]
  refine zza K55_0 B55_0 (fun q : List Stmt × List (PV × PV) => l.length - q.1.length) (fun q => [(15, .int .i64 q.1.length)]) (fun _ => [])
   (fun q => bst σ j (renB q.1 N c).2.2 q.2 ((renB q.1 N c).1.map zE ++ (l.drop q.1.length).map zE))
   (fun q => q.1.length <= l.length /\ q.1 = l.take q.1.length /\ MapN q.2 (renB q.1 N c).2.1 /\ scSs ((renB q.1 N c).2.1.map (·.1)) (l.drop q.1.length)) ([], es) ⟨by simp, by simp, by simp [renB, bst], by simp, by simp, by simpa [renB] using hM, by simpa [renB] using hsc⟩ ?_
  rintro ⟨d, es0⟩ s1 ⟨hdl, hdt, hM0, hs0⟩ h1 h2 h3 h2b h4
  simp only at hdl hdt hM0 hs0
  simp at h1 h3
  clear hmc htc hrk h2 h2b
  by_cases hend : d.length = l.length
  ·have hdd : d = l := by rw [hdt, hend, List.take_length]
   subst hdd
   have hdec : decide (d.length < d.length) = false := by simp
   clear IH hw hw0 hN hc hM hsc hdt hs0
   simp only [List.drop_length, List.map_nil, List.append_nil] at h4
   have hol := renB_len d N c
   have htk2 : ((renB d N c).1.map zE).take d.length = (renB d N c).1.map zE := List.take_of_length_le (by rw [List.length_map, hol]; exact Nat.le_refl _)
   have hwa := hwk (renB d N c).2.2
   have hbt := bst_take σ j (renB d N c).2.2 es0 ((renB d N c).1.map zE)
   simp [*, zg, fin, frA_mslice, fr1_mslice, strip_stmtF, zya]
  ·obtain ⟨x, rr, hd1⟩ : ∃ x rr, l.drop d.length = x :: rr := by
    cases hq : l.drop d.length with
    | nil => have := congrArg List.length hq; simp at this; omega
    | cons x rr => exact ⟨x, rr, rfl⟩
   have hlt : d.length < l.length := by omega
   have hdec : decide (d.length < l.length) = true := decide_eq_true hlt
   have hd2 : l.drop (d.length + 1) = rr := by rw [<- List.drop_drop, hd1]; rfl
   have heq : l = d ++ x :: rr := by
    have := List.take_append_drop d.length l
    rw [hd1, <- hdt] at this; exact this.symm
   have hdt2 : d ++ [x] = l.take (d ++ [x]).length := by
    have hg0 : l[d.length]? = some x := by rw [heq]; simp
    rw [List.length_append, List.length_singleton, List.take_add_one, <- hdt, hg0]; rfl
   have hmem : x ∈ l := by rw [heq]; simp
   have hwx := zLc hmem
   have hwe := zOa x
   have hbd := zTb d N c
   have hsum : wtSs l = wtSs d + (1 + wtS x) + wtSs rr := by rw [heq, zrc]; simp [wtSs]; omega
   have hdl2 := zha d
   have hw1 : zN .i64 ((d.length : Int) + 1) = (d.length : Int) + 1 := by rw [zj] <;> omega
   have hap := renB_append d [x] N c
   have hol := renB_len d N c
   rw [hd1] at hs0
   simp only [hd1, List.map_cons] at h4
   have hbd1 := fun N0 c0 => renS_bd x N0 c0
   generalize hq : renB d N c = q at *
   obtain ⟨out, N0, c0⟩ := q
   simp only at hbd hap hol hM0 hs0 h4
   have hA : (out.map zE).length = d.length := by rw [List.length_map]; exact hol
   have hwfr := fun (e : List (PV × PV)) (N : Nm) (h : MapN e N) (s : Stmt) => bst_wf hwf h (out ++ s :: rr)
   simp only [List.map_append, List.map_cons] at hwfr
   have hjl : ∀ τ : zf, j < (σ ++ τ).length := fun τ => by rw [List.length_append]; omega
   rw [scSs] at hs0
   obtain ⟨hsx, hsr⟩ := hs0
   generalize hAe : out.map zE = A at *
   generalize hR : rr.map zE = R at *
   have hg : ∀ e, (A ++ e :: R)[d.length]? = some e := fun e => by rw [<- hA]; exact mid_get A R e
   have hs : ∀ e e', (A ++ e :: R).set d.length e' = A ++ e' :: R := fun e e' => by rw [<- hA]; exact mid_set A R e e'
   obtain ⟨k, ty, nm, ar, th, el⟩ := x
   rw [scS] at hsx
   obtain ⟨sx1, sx2, sx3, sx4⟩ := hsx
   simp only at hwe hsr
   -- the expressions
   have hex : ∀ s : Stmt, zi E 86 [.mp σ.length, ze ar] (bst σ j c0 es0 (A ++ zE s :: R)) = some (.ret (ze (zX N0 ar)), bst σ j c0 es0 (A ++ zE s :: R)) := by
    intro s
    refine pexprs_spec (wtEs ar) ar N0 es0 _ σ.length (Nat.le_refl _) (by omega) hM0 sx1 (bst_mp ..) ?_
    rw [bst_eq σ j c0 es0 _ hj]
    exact (hwfr es0 N0 hM0 s).count j c0
   have hnx : ∀ e row, zi E 82 [.ptr j 0 0] (bst σ j c0 e row) = some (.ret (.str (newN c0)), bst σ j (c0 + 1) e row) := by
    intro e row
    rw [bst_eq σ j c0 e row hj, bst_eq σ j (c0 + 1) e row hj]
    exact fresh_spec (hjl _) c0 (by omega)
   have hbl : ∀ (y : List Stmt) (e1 : List (PV × PV)) (N1 : Nm) (c1 : Nat) (s : Stmt), wtSs y < wtSs l -> N1.length + wtSs y <= 4000000000000 -> c1 + wtSs y <= 4000000000000 -> MapN e1 N1 -> scSs (N1.map (·.1)) y →
     zi E 55 [.mp σ.length, zg y, .fn 82 [] [.ptr j 0 0]] (bst σ j c1 e1 (A ++ zE s :: R)) = some (.ret (zg (renB y N1 c1).1), bst σ j (renB y N1 c1).2.2 e1 (A ++ zE s :: R)) := by
    intro y e1 N1 c1 s k1 k2 k3 k4 k5
    rw [bst_eq σ j c1 e1 _ hj, bst_eq σ j _ e1 _ hj]
    exact IH (wtSs y) (by omega) y N1 c1 e1 _ σ.length j (Nat.le_refl _) (by omega) k2 k3 k4 k5 (hjl _) (by omega) (by rw [List.getElem?_append_right (Nat.le_refl _)]; simp) (hwfr e1 N1 k4 s)
   clear IH hwfr hjl hA hwk htk hrj hr hwf heq hmem hdt
   by_cases hk : k = 1
   ·subst hk
    obtain ⟨es1, hms, hM1⟩ := hM0.set nm (newN c0)
    have hfi : zda true (.str nm) es1 = some (some (.str (newN c0))) := by
     have := hM1.get (x := nm) (by simp)
     rw [this]; simp [zfa]
    have hfn : zfa nm ((nm, newN c0) :: N0) = newN c0 := by simp [zfa]
    have hb1 := zTb th ((nm, newN c0) :: N0) (c0 + 1)
    have e0 := hex ⟨1, ty, nm, ar, th, el⟩
    have e1 := hbl th es1 ((nm, newN c0) :: N0) (c0 + 1) ⟨1, ty, newN c0, zX N0 ar, th, el⟩ (by omega) (by simp; omega) (by omega) hM1 (by simpa using sx3)
    have e2 := hbl el es1 ((nm, newN c0) :: N0) (renB th ((nm, newN c0) :: N0) (c0 + 1)).2.2 ⟨1, ty, newN c0, zX N0 ar, th, el⟩ (by omega) (by simp; omega) (by omega) hM1 (by simpa using sx4)
    have hren : renB [⟨1, ty, nm, ar, th, el⟩] N0 c0 = ([⟨1, ty, newN c0, zX N0 ar, (renB th ((nm, newN c0) :: N0) (c0 + 1)).1, (renB el ((nm, newN c0) :: N0) (renB th ((nm, newN c0) :: N0) (c0 + 1)).2.2).1⟩], (nm, newN c0) :: N0, (renB el ((nm, newN c0) :: N0) (renB th ((nm, newN c0) :: N0) (c0 + 1)).2.2).2.2) := by
     simp [renB, renS, zfa]
    rw [hren] at hap
    clear hex hbl hbd1 hfn hbd hb1 hren hw hw0 hc hN hwe hsum hdl2 hwx sx1 sx2 sx3 sx4 hM0
    generalize renB th ((nm, newN c0) :: N0) (c0 + 1) = q1 at *
    obtain ⟨o1, N1, c1⟩ := q1
    simp only at e1 e2 hap
    generalize renB el ((nm, newN c0) :: N0) c1 = q2 at *
    obtain ⟨o2, N2, c2⟩ := q2
    simp only at e2 hap
    simp [zb, ze, zg] at e0 e1 e2 h4
    generalize newN c0 = nw at *
    replace hq : Nonempty (PLift (renB d N c = (out, N0, c0))) := ⟨⟨hq⟩⟩
    replace hap := PLift.up hap
    replace hap := Nonempty.intro hap
    replace hdt2 := Nonempty.intro (PLift.up hdt2)
    replace hsr := Nonempty.intro (PLift.up hsr)
    replace hAe := Nonempty.intro (PLift.up hAe)
    replace hR := Nonempty.intro (PLift.up hR)
    simp [*]
    obtain ⟨⟨hap⟩⟩ := hap
    obtain ⟨⟨hdt2⟩⟩ := hdt2
    obtain ⟨⟨hsr⟩⟩ := hsr
    obtain ⟨⟨hAe⟩⟩ := hAe
    obtain ⟨⟨hR⟩⟩ := hR
    refine ⟨d ++ [⟨1, ty, nm, ar, th, el⟩], by simp; omega, by simp, es1, ?_, by simp; omega, hdt2, by rw [hap]; exact hM1, ?_⟩
    ·rw [hap]
     simp [<- List.map_drop, hd2, hAe, hR, zb, ze, zg]
    ·rw [hap, List.length_append, List.length_singleton, hd2]
     simpa using hsr
   ·have hb1 := zTb th N0 c0
    have e0 := hex ⟨k, ty, nm, ar, th, el⟩
    simp only [hk, if_false] at sx3 sx4 hsr
    have e1 := hbl th es0 N0 c0 ⟨k, ty, if k = 2 then zfa nm N0 else nm, zX N0 ar, th, el⟩ (by omega) (by omega) (by omega) hM0 sx3
    have e2 := hbl el es0 N0 (renB th N0 c0).2.2 ⟨k, ty, if k = 2 then zfa nm N0 else nm, zX N0 ar, th, el⟩ (by omega) (by omega) (by omega) hM0 sx4
    have hren : renB [⟨k, ty, nm, ar, th, el⟩] N0 c0 = ([⟨k, ty, if k = 2 then zfa nm N0 else nm, zX N0 ar, (renB th N0 c0).1, (renB el N0 (renB th N0 c0).2.2).1⟩], N0, (renB el N0 (renB th N0 c0).2.2).2.2) := by
     simp [renB, renS, hk]
    rw [hren] at hap
    have hk0 := hk
    by_cases hk2 : k = 2
    ·subst hk2
     have hfi := hM0.get (sx2 rfl)
     simp only [if_true] at e1 e2 hap
     clear hex hbl hbd1 hbd hb1 hren hw hw0 hc hN hwe hsum hdl2 hwx sx1 sx2 sx3 sx4 hk
     generalize renB th N0 c0 = q1 at *
     obtain ⟨o1, N1, c1⟩ := q1
     simp only at e1 e2 hap
     generalize renB el N0 c1 = q2 at *
     obtain ⟨o2, N2, c2⟩ := q2
     simp only at e2 hap
     simp [zb, ze, zg] at e0 e1 e2 h4
     generalize zfa nm N0 = nw at *
     replace hM0 := Nonempty.intro (PLift.up hM0)
     replace hq : Nonempty (PLift (renB d N c = (out, N0, c0))) := ⟨⟨hq⟩⟩
     replace hap := PLift.up hap
     replace hap := Nonempty.intro hap
     replace hdt2 := Nonempty.intro (PLift.up hdt2)
     replace hsr := Nonempty.intro (PLift.up hsr)
     replace hAe := Nonempty.intro (PLift.up hAe)
     replace hR := Nonempty.intro (PLift.up hR)
     simp [*]
     obtain ⟨⟨hM0⟩⟩ := hM0
     obtain ⟨⟨hap⟩⟩ := hap
     obtain ⟨⟨hdt2⟩⟩ := hdt2
     obtain ⟨⟨hsr⟩⟩ := hsr
     obtain ⟨⟨hAe⟩⟩ := hAe
     obtain ⟨⟨hR⟩⟩ := hR
     refine ⟨d ++ [⟨2, ty, nm, ar, th, el⟩], by simp; omega, by simp, es0, ?_, by simp; omega, hdt2, by rw [hap]; exact hM0, ?_⟩
     ·rw [hap]
      simp [<- List.map_drop, hd2, hAe, hR, zb, ze, zg]
     ·rw [hap, List.length_append, List.length_singleton, hd2]
      simpa using hsr
    ·simp only [hk2, if_false] at e1 e2 hap
     replace hk := eqn hk
     replace hk2 := eqn hk2
     clear hex hbl hbd1 hbd hb1 hren hw hw0 hc hN hwe hsum hdl2 hwx sx1 sx2 sx3 sx4 hnx hk0
     generalize renB th N0 c0 = q1 at *
     obtain ⟨o1, N1, c1⟩ := q1
     simp only at e1 e2 hap
     generalize renB el N0 c1 = q2 at *
     obtain ⟨o2, N2, c2⟩ := q2
     simp only at e2 hap
     simp [zb, ze, zg] at e0 e1 e2 h4
     replace hM0 := Nonempty.intro (PLift.up hM0)
     replace hq : Nonempty (PLift (renB d N c = (out, N0, c0))) := ⟨⟨hq⟩⟩
     replace hap := PLift.up hap
     replace hap := Nonempty.intro hap
     replace hdt2 := Nonempty.intro (PLift.up hdt2)
     replace hsr := Nonempty.intro (PLift.up hsr)
     replace hAe := Nonempty.intro (PLift.up hAe)
     replace hR := Nonempty.intro (PLift.up hR)
     simp [*]
     obtain ⟨⟨hM0⟩⟩ := hM0
     obtain ⟨⟨hap⟩⟩ := hap
     obtain ⟨⟨hdt2⟩⟩ := hdt2
     obtain ⟨⟨hsr⟩⟩ := hsr
     obtain ⟨⟨hAe⟩⟩ := hAe
     obtain ⟨⟨hR⟩⟩ := hR
     refine ⟨d ++ [⟨k, ty, nm, ar, th, el⟩], by simp; omega, by simp, es0, ?_, by simp; omega, hdt2, by rw [hap]; exact hM0, ?_⟩
     ·rw [hap]
      simp [<- List.map_drop, hd2, hAe, hR, zb, ze, zg]
     ·rw [hap, List.length_append, List.length_singleton, hd2]
      simpa using hsr
end PE.U

namespace PE.U
open Go PE
def idx {α : Type} (p : α -> Bool) (l : List α) : Int := match l.findIdx? p with
 | some i => (i : Int)
 | none => -1
theorem idx_hit {α : Type} {p : α -> Bool} {l d : List α} {x : α} {r : List α} (h : Split l d x r) (hd : ∀ y ∈ d, p y = false) (hx : p x = true) : idx p l = d.length := by
 have : l.findIdx? p = some d.length := by
  rw [h.eq, List.findIdx?_append]
  have : d.findIdx? p = none := by rw [List.findIdx?_eq_none_iff]; exact hd
  rw [this]
  simp [List.findIdx?_cons, hx]
 simp [idx, this]
theorem zBd {α : Type} {p : α -> Bool} {l : List α} (hd : ∀ y ∈ l, p y = false) : idx p l = -1 := by
 have : l.findIdx? p = none := by rw [List.findIdx?_eq_none_iff]; exact hd
 simp [idx, this]
theorem idx_ge {α : Type} (p : α -> Bool) (l : List α) : decide (0 <= idx p l) = l.any p := by
 unfold idx
 cases h : l.findIdx? p with
 | none =>
  rw [List.findIdx?_eq_none_iff] at h
  simp; exact h
 | some i =>
  have : (l.findIdx? p).isSome = true := by rw [h]; rfl
  rw [List.findIdx?_isSome] at this
  simp [this]
theorem indexFuncFunc (l : List (Func)) (p : Func -> Bool) (k : Nat) (first caps : List PV) (σ : zf) (hl : l.length < 1099511627776) (hf : ∀ x ∈ l, zi E k (first ++ [zm x] ++ caps) σ = some (.ret (.bool (p x)), σ)) :
  zi E 96 [.slice .plain 4 (l.map (zm)), .fn k first caps] σ = some (.ret (.int .i64 (idx p l)), σ) := by
 refine zc rfl rfl rfl (by simp) ?_
 simp [F96]
 refine zz l K96_0 B96_0 (fun d => [(8, .int .i64 d.length)]) (fun _ => σ) (fun d => ∀ y ∈ d, p y = false) (by omega) (by simp) ?_ ?_
 ·intros d x r s hl' hlt hget hget' hw hp h1 h2 h3 h4
  have hfx := hf x hl'.mem
  simp [zm] at h1 h3 hfx
  clear h2 hf
  cases hx : p x
  ·(simp [*, zm]) <;> (repeat' ((first | refine sP _ ?_ ?_ | refine gP _ ?_ ?_ | refine sN _ ?_ ?_ | refine gN _ ?_ ?_ | refine sM _ ?_ ?_ | refine gM _ ?_ ?_ | refine sB _ ?_ ?_ | refine gB _ ?_ ?_) <;> intro hc <;> simp [*, zm]))
   all_goals grind
  ·have := idx_hit hl' hp hx
   (simp [*, zm]) <;> (repeat' ((first | refine sP _ ?_ ?_ | refine gP _ ?_ ?_ | refine sN _ ?_ ?_ | refine gN _ ?_ ?_ | refine sM _ ?_ ?_ | refine gM _ ?_ ?_ | refine sB _ ?_ ?_ | refine gB _ ?_ ?_) <;> intro hc <;> simp [*, zm]))
 ·intros s hp h1 h2 h3 h4
  have := zBd hp
  simp at h1 h3
  (simp [*, zm]) <;> (repeat' ((first | refine sP _ ?_ ?_ | refine gP _ ?_ ?_ | refine sN _ ?_ ?_ | refine gN _ ?_ ?_ | refine sM _ ?_ ?_ | refine gM _ ?_ ?_ | refine sB _ ?_ ?_ | refine gB _ ?_ ?_) <;> intro hc <;> simp [*, zm]))
theorem containsFuncFunc (l : List (Func)) (p : Func -> Bool) (k : Nat) (first caps : List PV) (σ : zf) (hl : l.length < 1099511627776) (hc : (first.map stripA) = first /\ (caps.map stripA) = caps) (hf : ∀ x ∈ l, zi E k (first ++ [zm x] ++ caps) σ = some (.ret (.bool (p x)), σ)) :
  zi E 73 [.slice .plain 4 (l.map (zm)), .fn k first caps] σ = some (.ret (.bool (l.any p)), σ) := by
 refine zc rfl rfl rfl (by simp) ?_
 have h := indexFuncFunc l p k first caps σ hl hf
 have h2 := idx_ge p l
 clear hf
 (simp [*, F73]) <;> (repeat' ((first | refine sP _ ?_ ?_ | refine gP _ ?_ ?_ | refine sN _ ?_ ?_ | refine gN _ ?_ ?_ | refine sM _ ?_ ?_ | refine gM _ ?_ ?_ | refine sB _ ?_ ?_ | refine gB _ ?_ ?_) <;> intro hc <;> simp [*, F73]))
theorem indexFuncPArr (l : List (PArr)) (p : PArr -> Bool) (k : Nat) (first caps : List PV) (σ : zf) (hl : l.length < 1099511627776) (hf : ∀ x ∈ l, zi E k (first ++ [zK x] ++ caps) σ = some (.ret (.bool (p x)), σ)) :
  zi E 95 [.slice .plain 2 (l.map (zK)), .fn k first caps] σ = some (.ret (.int .i64 (idx p l)), σ) := by
 refine zc rfl rfl rfl (by simp) ?_
 simp [F95]
 refine zz l K95_0 B95_0 (fun d => [(8, .int .i64 d.length)]) (fun _ => σ) (fun d => ∀ y ∈ d, p y = false) (by omega) (by simp) ?_ ?_
 ·intros d x r s hl' hlt hget hget' hw hp h1 h2 h3 h4
  have hfx := hf x hl'.mem
  simp [zK] at h1 h3 hfx
  clear h2 hf
  cases hx : p x
  ·(simp [*, zK]) <;> (repeat' ((first | refine sP _ ?_ ?_ | refine gP _ ?_ ?_ | refine sN _ ?_ ?_ | refine gN _ ?_ ?_ | refine sM _ ?_ ?_ | refine gM _ ?_ ?_ | refine sB _ ?_ ?_ | refine gB _ ?_ ?_) <;> intro hc <;> simp [*, zK]))
   all_goals grind
  ·have := idx_hit hl' hp hx
   (simp [*, zK]) <;> (repeat' ((first | refine sP _ ?_ ?_ | refine gP _ ?_ ?_ | refine sN _ ?_ ?_ | refine gN _ ?_ ?_ | refine sM _ ?_ ?_ | refine gM _ ?_ ?_ | refine sB _ ?_ ?_ | refine gB _ ?_ ?_) <;> intro hc <;> simp [*, zK]))
 ·intros s hp h1 h2 h3 h4
  have := zBd hp
  simp at h1 h3
  (simp [*, zK]) <;> (repeat' ((first | refine sP _ ?_ ?_ | refine gP _ ?_ ?_ | refine sN _ ?_ ?_ | refine gN _ ?_ ?_ | refine sM _ ?_ ?_ | refine gM _ ?_ ?_ | refine sB _ ?_ ?_ | refine gB _ ?_ ?_) <;> intro hc <;> simp [*, zK]))
theorem containsFuncPArr (l : List (PArr)) (p : PArr -> Bool) (k : Nat) (first caps : List PV) (σ : zf) (hl : l.length < 1099511627776) (hc : (first.map stripA) = first /\ (caps.map stripA) = caps) (hf : ∀ x ∈ l, zi E k (first ++ [zK x] ++ caps) σ = some (.ret (.bool (p x)), σ)) :
  zi E 72 [.slice .plain 2 (l.map (zK)), .fn k first caps] σ = some (.ret (.bool (l.any p)), σ) := by
 refine zc rfl rfl rfl (by simp) ?_
 have h := indexFuncPArr l p k first caps σ hl hf
 have h2 := idx_ge p l
 clear hf
 (simp [*, F72]) <;> (repeat' ((first | refine sP _ ?_ ?_ | refine gP _ ?_ ?_ | refine sN _ ?_ ?_ | refine gN _ ?_ ?_ | refine sM _ ?_ ?_ | refine gM _ ?_ ?_ | refine sB _ ?_ ?_ | refine gB _ ?_ ?_) <;> intro hc <;> simp [*, F72]))
theorem indexFuncExpr (l : List (Expr)) (p : Expr -> Bool) (k : Nat) (first caps : List PV) (σ : zf) (hl : l.length < 1099511627776) (hf : ∀ x ∈ l, zi E k (first ++ [zo x] ++ caps) σ = some (.ret (.bool (p x)), σ)) :
  zi E 142 [.slice .plain 5 (l.map (zo)), .fn k first caps] σ = some (.ret (.int .i64 (idx p l)), σ) := by
 refine zc rfl rfl rfl (by simp) ?_
 simp [F142]
 refine zz l K142_0 B142_0 (fun d => [(8, .int .i64 d.length)]) (fun _ => σ) (fun d => ∀ y ∈ d, p y = false) (by omega) (by simp) ?_ ?_
 ·intros d x r s hl' hlt hget hget' hw hp h1 h2 h3 h4
  have hfx := hf x hl'.mem
  simp [za] at h1 h3 hfx
  clear h2 hf
  cases hx : p x
  ·(simp [*, za]) <;> (repeat' ((first | refine sP _ ?_ ?_ | refine gP _ ?_ ?_ | refine sN _ ?_ ?_ | refine gN _ ?_ ?_ | refine sM _ ?_ ?_ | refine gM _ ?_ ?_ | refine sB _ ?_ ?_ | refine gB _ ?_ ?_) <;> intro hc <;> simp [*, za]))
   all_goals grind
  ·have := idx_hit hl' hp hx
   (simp [*, za]) <;> (repeat' ((first | refine sP _ ?_ ?_ | refine gP _ ?_ ?_ | refine sN _ ?_ ?_ | refine gN _ ?_ ?_ | refine sM _ ?_ ?_ | refine gM _ ?_ ?_ | refine sB _ ?_ ?_ | refine gB _ ?_ ?_) <;> intro hc <;> simp [*, za]))
 ·intros s hp h1 h2 h3 h4
  have := zBd hp
  simp at h1 h3
  (simp [*, za]) <;> (repeat' ((first | refine sP _ ?_ ?_ | refine gP _ ?_ ?_ | refine sN _ ?_ ?_ | refine gN _ ?_ ?_ | refine sM _ ?_ ?_ | refine gM _ ?_ ?_ | refine sB _ ?_ ?_ | refine gB _ ?_ ?_) <;> intro hc <;> simp [*, za]))
theorem containsFuncExpr (l : List (Expr)) (p : Expr -> Bool) (k : Nat) (first caps : List PV) (σ : zf) (hl : l.length < 1099511627776) (hc : (first.map stripA) = first /\ (caps.map stripA) = caps) (hf : ∀ x ∈ l, zi E k (first ++ [zo x] ++ caps) σ = some (.ret (.bool (p x)), σ)) :
  zi E 129 [.slice .plain 5 (l.map (zo)), .fn k first caps] σ = some (.ret (.bool (l.any p)), σ) := by
 refine zc rfl rfl rfl (by simp) ?_
 have h := indexFuncExpr l p k first caps σ hl hf
 have h2 := idx_ge p l
 clear hf
 (simp [*, F129]) <;> (repeat' ((first | refine sP _ ?_ ?_ | refine gP _ ?_ ?_ | refine sN _ ?_ ?_ | refine gN _ ?_ ?_ | refine sM _ ?_ ?_ | refine gM _ ?_ ?_ | refine sB _ ?_ ?_ | refine gB _ ?_ ?_) <;> intro hc <;> simp [*, F129]))
theorem indexFuncStmt (l : List (Stmt)) (p : Stmt -> Bool) (k : Nat) (first caps : List PV) (σ : zf) (hl : l.length < 1099511627776) (hf : ∀ x ∈ l, zi E k (first ++ [zE x] ++ caps) σ = some (.ret (.bool (p x)), σ)) :
  zi E 106 [.slice .plain 6 (l.map (zE)), .fn k first caps] σ = some (.ret (.int .i64 (idx p l)), σ) := by
 refine zc rfl rfl rfl (by simp) ?_
 simp [F106]
 refine zz l K106_0 B106_0 (fun d => [(8, .int .i64 d.length)]) (fun _ => σ) (fun d => ∀ y ∈ d, p y = false) (by omega) (by simp) ?_ ?_
 ·intros d x r s hl' hlt hget hget' hw hp h1 h2 h3 h4
  have hfx := hf x hl'.mem
  simp [zb] at h1 h3 hfx
  clear h2 hf
  cases hx : p x
  ·(simp [*, zb]) <;> (repeat' ((first | refine sP _ ?_ ?_ | refine gP _ ?_ ?_ | refine sN _ ?_ ?_ | refine gN _ ?_ ?_ | refine sM _ ?_ ?_ | refine gM _ ?_ ?_ | refine sB _ ?_ ?_ | refine gB _ ?_ ?_) <;> intro hc <;> simp [*, zb]))
   all_goals grind
  ·have := idx_hit hl' hp hx
   (simp [*, zb]) <;> (repeat' ((first | refine sP _ ?_ ?_ | refine gP _ ?_ ?_ | refine sN _ ?_ ?_ | refine gN _ ?_ ?_ | refine sM _ ?_ ?_ | refine gM _ ?_ ?_ | refine sB _ ?_ ?_ | refine gB _ ?_ ?_) <;> intro hc <;> simp [*, zb]))
 ·intros s hp h1 h2 h3 h4
  have := zBd hp
  simp at h1 h3
  (simp [*, zb]) <;> (repeat' ((first | refine sP _ ?_ ?_ | refine gP _ ?_ ?_ | refine sN _ ?_ ?_ | refine gN _ ?_ ?_ | refine sM _ ?_ ?_ | refine gM _ ?_ ?_ | refine sB _ ?_ ?_ | refine gB _ ?_ ?_) <;> intro hc <;> simp [*, zb]))
theorem zEa (l : List (Stmt)) (p : Stmt -> Bool) (k : Nat) (first caps : List PV) (σ : zf) (hl : l.length < 1099511627776) (hc : (first.map stripA) = first /\ (caps.map stripA) = caps) (hf : ∀ x ∈ l, zi E k (first ++ [zE x] ++ caps) σ = some (.ret (.bool (p x)), σ)) :
  zi E 79 [.slice .plain 6 (l.map (zE)), .fn k first caps] σ = some (.ret (.bool (l.any p)), σ) := by
 refine zc rfl rfl rfl (by simp) ?_
 have h := indexFuncStmt l p k first caps σ hl hf
 have h2 := idx_ge p l
 clear hf
 (simp [*, F79]) <;> (repeat' ((first | refine sP _ ?_ ?_ | refine gP _ ?_ ?_ | refine sN _ ?_ ?_ | refine gN _ ?_ ?_ | refine sM _ ?_ ?_ | refine gM _ ?_ ?_ | refine sB _ ?_ ?_ | refine gB _ ?_ ?_) <;> intro hc <;> simp [*, F79]))
theorem indexFuncPar (l : List (Par)) (p : Par -> Bool) (k : Nat) (first caps : List PV) (σ : zf) (hl : l.length < 1099511627776) (hf : ∀ x ∈ l, zi E k (first ++ [encPar x] ++ caps) σ = some (.ret (.bool (p x)), σ)) :
  zi E 116 [.slice .plain 2 (l.map (encPar)), .fn k first caps] σ = some (.ret (.int .i64 (idx p l)), σ) := by
 refine zc rfl rfl rfl (by simp) ?_
 simp [F116]
 refine zz l K116_0 B116_0 (fun d => [(8, .int .i64 d.length)]) (fun _ => σ) (fun d => ∀ y ∈ d, p y = false) (by omega) (by simp) ?_ ?_
 ·intros d x r s hl' hlt hget hget' hw hp h1 h2 h3 h4
  have hfx := hf x hl'.mem
  simp [encPar] at h1 h3 hfx
  clear h2 hf
  cases hx : p x
  ·(simp [*, encPar]) <;> (repeat' ((first | refine sP _ ?_ ?_ | refine gP _ ?_ ?_ | refine sN _ ?_ ?_ | refine gN _ ?_ ?_ | refine sM _ ?_ ?_ | refine gM _ ?_ ?_ | refine sB _ ?_ ?_ | refine gB _ ?_ ?_) <;> intro hc <;> simp [*, encPar]))
   all_goals grind
  ·have := idx_hit hl' hp hx
   (simp [*, encPar]) <;> (repeat' ((first | refine sP _ ?_ ?_ | refine gP _ ?_ ?_ | refine sN _ ?_ ?_ | refine gN _ ?_ ?_ | refine sM _ ?_ ?_ | refine gM _ ?_ ?_ | refine sB _ ?_ ?_ | refine gB _ ?_ ?_) <;> intro hc <;> simp [*, encPar]))
 ·intros s hp h1 h2 h3 h4
  have := zBd hp
  simp at h1 h3
  (simp [*, encPar]) <;> (repeat' ((first | refine sP _ ?_ ?_ | refine gP _ ?_ ?_ | refine sN _ ?_ ?_ | refine gN _ ?_ ?_ | refine sM _ ?_ ?_ | refine gM _ ?_ ?_ | refine sB _ ?_ ?_ | refine gB _ ?_ ?_) <;> intro hc <;> simp [*, encPar]))
theorem containsFuncPar (l : List (Par)) (p : Par -> Bool) (k : Nat) (first caps : List PV) (σ : zf) (hl : l.length < 1099511627776) (hc : (first.map stripA) = first /\ (caps.map stripA) = caps) (hf : ∀ x ∈ l, zi E k (first ++ [encPar x] ++ caps) σ = some (.ret (.bool (p x)), σ)) :
  zi E 99 [.slice .plain 2 (l.map (encPar)), .fn k first caps] σ = some (.ret (.bool (l.any p)), σ) := by
 refine zc rfl rfl rfl (by simp) ?_
 have h := indexFuncPar l p k first caps σ hl hf
 have h2 := idx_ge p l
 clear hf
 (simp [*, F99]) <;> (repeat' ((first | refine sP _ ?_ ?_ | refine gP _ ?_ ?_ | refine sN _ ?_ ?_ | refine gN _ ?_ ?_ | refine sM _ ?_ ?_ | refine gM _ ?_ ?_ | refine sB _ ?_ ?_ | refine gB _ ?_ ?_) <;> intro hc <;> simp [*, F99]))
end PE.U

namespace PE.U
open Go PE
def signList : List (List UInt8) := [[], [43], [45], [42], [47], [37], [38], [124], [94], [60, 60], [62, 62], [62, 62, 62], [60], [60, 61], [62], [62, 61], [61, 61], [33, 61], [38, 38], [124, 124], [45], [126], [33], [105, 56], [105, 49, 54], [105, 51, 50], [117, 56], [117, 49, 54], [117, 51, 50]]
def zfd : List Int := [0, 9, 9, 10, 10, 10, 5, 3, 4, 8, 8, 8, 7, 7, 7, 7, 6, 6, 2, 1, 0, 0, 0, 0, 0, 0, 0, 0, 0]
def sgn (op : Int) : List UInt8 := if op < 0 then [] else (signList[op.toNat]?).getD []
def lvl (op : Int) : Int := if op < 0 then 0 else (zfd[op.toNat]?).getD 0
theorem rowCells : ∀ n : Nat, n < 29 -> List.take 2 (List.drop (n * 2) [.str [], .int .i64 0, .str [43], .int .i64 9, .str [45], .int .i64 9, .str [42], .int .i64 10, .str [47], .int .i64 10, .str [37], .int .i64 10, .str [38], .int .i64 5, .str [124], .int .i64 3, .str [94], .int .i64 4, .str [60, 60], .int .i64 8, .str [62, 62], .int .i64 8, .str [62, 62, 62], .int .i64 8, .str [60], .int .i64 7, .str [60, 61], .int .i64 7, .str [62], .int .i64 7, .str [62, 61], .int .i64 7, .str [61, 61], .int .i64 6, .str [33, 61], .int .i64 6, .str [38, 38], .int .i64 2, .str [124, 124], .int .i64 1, .str [45], .int .i64 0, .str [126], .int .i64 0, .str [33], .int .i64 0, .str [105, 56], .int .i64 0, .str [105, 49, 54], .int .i64 0, .str [105, 51, 50], .int .i64 0, .str [117, 56], .int .i64 0, .str [117, 49, 54], .int .i64 0, .str [117, 51, 50], .int .i64 0]) = [PV.str ((signList[n]?).getD []), PV.int .i64 ((zfd[n]?).getD 0)]
 | 0, _ => rfl
 | 1, _ => rfl
 | 2, _ => rfl
 | 3, _ => rfl
 | 4, _ => rfl
 | 5, _ => rfl
 | 6, _ => rfl
 | 7, _ => rfl
 | 8, _ => rfl
 | 9, _ => rfl
 | 10, _ => rfl
 | 11, _ => rfl
 | 12, _ => rfl
 | 13, _ => rfl
 | 14, _ => rfl
 | 15, _ => rfl
 | 16, _ => rfl
 | 17, _ => rfl
 | 18, _ => rfl
 | 19, _ => rfl
 | 20, _ => rfl
 | 21, _ => rfl
 | 22, _ => rfl
 | 23, _ => rfl
 | 24, _ => rfl
 | 25, _ => rfl
 | 26, _ => rfl
 | 27, _ => rfl
 | 28, _ => rfl
 | n + 29, h => by omega
set_option maxHeartbeats 4000000 in
theorem rowOf_spec (op : Int) (σ : zf) : zi E 155 [.int .i64 op] σ = some (.ret (.agg [.str (sgn op), .int .i64 (lvl op)]), σ) := by
 refine zc rfl rfl rfl (by simp) ?_
 by_cases h0 : op < 0
 ·simp [F155, h0, sgn, lvl]
 by_cases h1 : 29 <= op
 ·have : 29 <= op.toNat := by omega
  simp [F155, h0, h1, sgn, lvl, signList, zfd, List.getElem?_eq_none, this]
 have h2 : op.toNat < 29 := by omega
 have h3 : 0 <= op := by omega
 have h4 : op.toNat * 2 <= 56 := by omega
 have e1 : sgn op = ((signList[op.toNat]?).getD []) := by simp [sgn, h0]
 have e2 : lvl op = ((zfd[op.toNat]?).getD 0) := by simp [lvl, h0]
 rw [e1, e2]
 have e3 := rowCells op.toNat h2
 generalize ((signList[op.toNat]?).getD []) = s at *
 generalize ((zfd[op.toNat]?).getD 0) = l at *
 simp [F155, h0, h1, h2, h3, h4, e3]
theorem level_spec (op : Int) (σ : zf) : zi E 152 [.int .i64 op] σ = some (.ret (.int .i64 (lvl op)), σ) := by
 refine zc rfl rfl rfl (by simp) ?_
 (simp [*, F152, rowOf_spec]) <;> (repeat' ((first | refine sP _ ?_ ?_ | refine gP _ ?_ ?_ | refine sN _ ?_ ?_ | refine gN _ ?_ ?_ | refine sM _ ?_ ?_ | refine gM _ ?_ ?_ | refine sB _ ?_ ?_ | refine gB _ ?_ ?_) <;> intro hc <;> simp [*, F152, rowOf_spec]))
theorem lvl_eq (op : Int) : lvl op = zQd op := by
 unfold lvl zQd
 by_cases h0 : op < 0
 ·rw [if_pos h0]
  repeat (rw [if_neg (by omega)])
 ·rw [if_neg h0]
  by_cases h1 : 29 <= op
  ·have : 29 <= op.toNat := by omega
   rw [List.getElem?_eq_none (by simpa [zfd] using this)]
   repeat (rw [if_neg (by omega)])
   rfl
  ·obtain ⟨n, rfl⟩ : ∃ n : Nat, op = n := ⟨op.toNat, by omega⟩
   have hn : n < 29 := by omega
   have key : ∀ n : Nat, n < 29 -> (zfd[((n : Int)).toNat]?).getD 0 = zQd (n : Int) := by decide
   have := key n hn
   unfold zQd at this
   exact this
end PE.U

namespace PE.U
open Go PE
def zP (k : Int) : Bool × Bool × Int × Bool × Bool :=
 if k = 1 then (true, true, 1, false, false)
 else if k = 2 then (false, true, 1, false, false)
 else if k = 3 then (false, true, 2, false, false)
 else if k = 4 then (false, false, 1, true, true)
 else if k = 5 then (false, false, 1, true, false)
 else if k = 6 \/ k = 7 then (false, false, 0, false, false)
 else if k = 8 \/ k = 9 \/ k = 10 then (false, false, 1, false, false)
 else (false, false, -1, false, false)
theorem shape_spec (k : Int) : zi E 68 [.int .i64 k] [] = some (.ret (.tup [.bool (zP k).1, .bool (zP k).2.1, .int .i64 (zP k).2.2.1, .bool (zP k).2.2.2.1, .bool (zP k).2.2.2.2]), []) := by
 refine zc rfl rfl rfl (by simp) ?_
 unfold zP
 (simp [*, F68]) <;> (repeat' ((first | refine sP _ ?_ ?_ | refine gP _ ?_ ?_ | refine sN _ ?_ ?_ | refine gN _ ?_ ?_ | refine sM _ ?_ ?_ | refine gM _ ?_ ?_ | refine sB _ ?_ ?_ | refine gB _ ?_ ?_) <;> intro hc <;> simp [*, F68]))
def headR (s : Stmt) (m : Int) : Bool :=
 !(decide (m < 1) || (decide (¬ (s.args.length : Int) = (zP s.kind).2.2.1) || ((zP s.kind).1 != (decide (s.type = 1) || decide (s.type = 2)) || ((!(zP s.kind).1 && decide (¬ s.type = 0)) || ((zP s.kind).2.1 != zcb s.name || (!(zP s.kind).2.1 && decide (¬ s.name = [])))))))
def zKd (l : List Expr) : Bool := l.all fun e => zdb e 100
def doR (k : Int) (l : List Expr) : Bool := !(decide (k = 10) && (match l with | [] => false | e :: _ => decide (¬ e.kind = 7)))
mutual
def znb : Stmt -> Int -> Bool
 | ⟨k, t, s, a, th, el⟩, m => headR ⟨k, t, s, a, th, el⟩ m && (zKd a && (doR k a && ((((zP k).2.2.2.1 || th.isEmpty) && ((zP k).2.2.2.2 || el.isEmpty)) && (zL th (m - 1) && zL el (m - 1)))))
def zL : List Stmt -> Int -> Bool
 | [], _ => true
 | x :: r, m => znb x m && zL r m
end
theorem stmtR_eq (s : Stmt) (m : Int) : znb s m = (headR s m && (zKd s.args && (doR s.kind s.args && ((((zP s.kind).2.2.2.1 || s.thn.isEmpty) && ((zP s.kind).2.2.2.2 || s.els.isEmpty)) && (zL s.thn (m - 1) && zL s.els (m - 1)))))) := by cases s; rw [znb]
theorem stmtsR_append (a b : List Stmt) (m : Int) : zL (a ++ b) m = (zL a m && zL b m) := by
 induction a with
 | nil => simp [zL]
 | cons x r ih => simp [zL, ih, Bool.and_assoc]
theorem rtype_spec (t : Int) : zi E 45 [.int .i64 t] [] = some (.ret (.bool (decide (t = 1) || decide (t = 2))), []) := by
 refine zc rfl rfl rfl (by simp) ?_
 (simp [*, F45]) <;> (repeat' ((first | refine sP _ ?_ ?_ | refine gP _ ?_ ?_ | refine sN _ ?_ ?_ | refine gN _ ?_ ?_ | refine sM _ ?_ ?_ | refine gM _ ?_ ?_ | refine sB _ ?_ ?_ | refine gB _ ?_ ?_) <;> intro hc <;> simp [*, F45]))
end PE.U

namespace PE.U
open Go PE
set_option maxHeartbeats 8000000 in
theorem stmtsR_spec' : ∀ w (l : List Stmt) (m : Int), wtSs l <= w -> w < 1099509000000 -> m <= 1000000 -> zi E 46 [zg l, .int .i64 m] [] = some (.ret (.bool (zL l m)), []) := by
 intro w
 induction w with
 | zero =>
  intro l m h hw hm
  have : l = [] := by
   cases l with
   | nil => rfl
   | cons x r => simp [wtSs] at h
  subst this
  refine zc rfl rfl rfl (by simp) ?_
  simp [F46, zg, zL]
  refine zz ([] : List Stmt) K46_1 B46_1 (fun d => [(5, .int .i64 d.length)]) (fun _ => []) (fun _ => True) (by simp) (by simp) ?_ ?_
  ·intros d x r s1 hl' hlt; simp at hlt
  ·intros s1 hp h1 h2 h3 h4
   simp at h1 h3
   clear h2
   simp [*]
 | succ w ih =>
  intro l m h hw hm
  refine zc rfl rfl rfl (by simp) ?_
  have hlen := zha l
  simp [F46, zg]
  refine zz l K46_1 B46_1 (fun d => [(5, .int .i64 d.length)]) (fun _ => []) (fun d => zL d m = true) (by omega) (by simp [zL]) ?_ ?_
  ·intros d x r s1 hl' hlt hget hget' hw1 hp h1 h2 h3 h4
   simp at h1 h3
   clear h2
   have hwx := zLc hl'.mem
   have hwe := zOa x
   have hf : znb x m = false -> zL l m = false := fun hx => by
    rw [hl'.eq, stmtsR_append]; simp [zL, hx]
   have hnx : znb x m = true -> zL (d ++ [x]) m = true := fun hx => by
    rw [stmtsR_append, hp]; simp [zL, hx]
   clear hl' hp
   have e1 := shape_spec x.kind
   have e2 := zTc x.name []
   have hlw := zPb x.args
   cases hh : headR x m
   ·-- the head is wrong
    replace hf := hf (by rw [stmtR_eq, hh]; rfl)
    clear hnx
    simp only [headR, Bool.not_eq_false', Bool.or_eq_true, decide_eq_true_eq, Bool.and_eq_true, Bool.not_eq_true', bne_iff_ne] at hh
    generalize zP x.kind = sh at *
    obtain ⟨t, nm, n, th, ot⟩ := sh
    simp only at hh e1
    have hh2 := hh
    clear hh
    cases hnn : zcb x.name <;> rw [hnn] at e2 hh2 <;> cases t <;> cases nm <;>
    ·simp at e1 hh2
     (simp [*, zb, ze, zg]) <;> (repeat' (first | ((first | refine sP _ ?_ ?_ | refine gP _ ?_ ?_ | refine sN _ ?_ ?_ | refine gN _ ?_ ?_) <;> intro hc <;> (first | replace hc := eqn hc | replace hc := eqp hc) <;> simp [*, zb, ze, zg]) | ((first | refine sM _ ?_ ?_ | refine gM _ ?_ ?_ | refine sB _ ?_ ?_ | refine gB _ ?_ ?_) <;> intro hc <;> simp [*, zb, ze, zg])))
     all_goals (exfalso; grind)
   ·-- the head is right
    have hs := stmtR_eq x m
    rw [hh, Bool.true_and] at hs
    simp only [headR, Bool.not_eq_true', Bool.not_eq_false', Bool.or_eq_false_iff, decide_eq_false_iff_not, Bool.and_eq_false_iff, bne_eq_false_iff_eq, Decidable.not_not, Bool.not_eq_true] at hh
    generalize hsh : zP x.kind = sh at *
    obtain ⟨t, nm, n, th, ot⟩ := sh
    simp only at hh hs e1
    obtain ⟨a1, a2, a3, a4, a5, a6⟩ := hh
    subst a2
    rw [<- a5] at e2
    have hm1 : zN .i64 (m - 1) = m - 1 := zj (by omega) (by omega)
    rcases (show (t = true /\ x.type = 1) \/ (t = true /\ x.type = 2) \/ (t = false /\ x.type = 0) by
     cases t
     ·right; right; exact ⟨rfl, by simpa using a4⟩
     ·have := a3.symm
      simp only [Bool.or_eq_true, decide_eq_true_eq] at this
      rcases this with h | h
      ·exact Or.inl ⟨rfl, h⟩
      ·exact Or.inr (Or.inl ⟨rfl, h⟩)) with ⟨rfl, ht⟩ | ⟨rfl, ht⟩ | ⟨rfl, ht⟩
    all_goals
     clear a3 a4 a5
     cases nm
     ·replace a6 : x.name = [] := by simpa using a6
      rw [a6] at e2
      simp [*, zb, ze, zg]
      have hlt0 : x.args.length < 2 ^ 62 := by omega
      refine zz x.args K46_0 B46_0 (fun d => [(12, .int .i64 d.length)]) (fun _ => []) (fun d => zKd d = true) hlt0 (by simp [zKd]) ?_ ?_
      ·intros d2 y r2 s2 hl2 hlt2 hget2 hget2' hw2 hp2 g1 g2 g3 g4
       simp at g1 g2 g3
       have hwy := zSb hl2.mem
       have ey := exprR_spec y 100 (by omega) (by omega)
       rw [za] at ey
       simp [ze] at ey
       have hlt2' : (d2.length : Int) < x.args.length := by omega
       cases hy : zdb y 100
       ·have ha : zKd x.args = false := by
         rw [hl2.eq]; simp [zKd, hy]
        replace hf := hf (by rw [hs, ha]; rfl)
        rw [hy] at ey
        clear hnx hs hp2 hl2 e1 e2 ht
        simp [*, za, ze]
       ·have ha : zKd (d2 ++ [y]) = true := by
         simp only [zKd] at hp2 ⊢
         rw [List.all_append, hp2]; simp [hy]
        rw [hy] at ey
        clear hnx hs hf hp2 hl2 e1 e2 ht
        simp [*, za, ze]
      ·intros s2 hp2 g1 g2 g3 g4
       simp at g1 g2 g3
       rw [hp2, Bool.true_and] at hs
       have i1 := ih x.thn (m - 1) (by omega) (by omega) (by omega)
       have i2 := ih x.els (m - 1) (by omega) (by omega) (by omega)
       simp [zg] at i1 i2
       have k1 : (x.kind = 10 /\ ∃ e, x.args = [e]) \/ ¬ x.kind = 10 := by
        by_cases hk : x.kind = 10
        ·refine Or.inl ⟨hk, ?_⟩
         have hn1 : (x.args.length : Int) = 1 := by
          have := congrArg (fun p => p.2.2.1) hsh
          rw [hk] at this
          exact this.symm
         have : x.args.length = 1 := by omega
         exact List.length_eq_one_iff.1 this
        ·exact Or.inr hk
       clear hp2 hsh
       clear e1 e2 a6
       rcases k1 with ⟨hk, e, hae⟩ | hk
       ·have hdo : doR x.kind x.args = decide (e.kind = 7) := by
         rw [hk, hae]; simp [doR]
        rw [hdo] at hs
        by_cases h7 : e.kind = 7
        ·have hd7 : decide (e.kind = 7) = true := decide_eq_true h7
         rw [hd7, Bool.true_and] at hs
         replace hk := eqp hk
         replace h7 := eqp h7
         clear hdo hd7 ht a1
         have e3 : (x.thn.isEmpty = true <-> x.thn.length = 0) := by cases x.thn <;> simp
         have e4 : (x.els.isEmpty = true <-> x.els.length = 0) := by cases x.els <;> simp
         have tree : znb x m = true \/ znb x m = false := by cases znb x m <;> simp
         by_cases b1 : th = false /\ 0 < x.thn.length
         ·have hb : (th || x.thn.isEmpty) = false := by
           rw [b1.1, Bool.false_or]; cases hx : x.thn.isEmpty
           ·rfl
           ·have := e3.1 hx; omega
          rw [hb] at hs
          replace hf := hf (by rw [hs]; rfl)
          obtain ⟨rfl, b1⟩ := b1
          clear hs hnx tree e3 e4 i1 i2 hb
          simp [*, zg, za]
         by_cases b2 : ot = false /\ 0 < x.els.length
         ·have hb : (ot || x.els.isEmpty) = false := by
           rw [b2.1, Bool.false_or]; cases hx : x.els.isEmpty
           ·rfl
           ·have := e4.1 hx; omega
          rw [hb] at hs
          replace hf := hf (by rw [hs]; simp)
          obtain ⟨rfl, b2⟩ := b2
          clear hs hnx tree e3 e4 i1 i2 hb
          cases th
          ·have b1' : ¬ 0 < x.thn.length := fun h => b1 ⟨rfl, h⟩
           clear b1
           simp [*, zg, za]
          ·clear b1
           simp [*, zg, za]
         have hb1 : (th || x.thn.isEmpty) = true := by
          cases th
          ·rw [Bool.false_or]; exact e3.2 (by by_cases h : 0 < x.thn.length; exact absurd ⟨rfl, h⟩ b1; omega)
          ·rfl
         have hb2 : (ot || x.els.isEmpty) = true := by
          cases ot
          ·rw [Bool.false_or]; exact e4.2 (by by_cases h : 0 < x.els.length; exact absurd ⟨rfl, h⟩ b2; omega)
          ·rfl
         rw [hb1, hb2] at hs
         clear e3 e4 tree hb1 hb2
         have b1' : th = true \/ (th = false /\ ¬ 0 < x.thn.length) := by
          cases th
          ·exact Or.inr ⟨rfl, fun h => b1 ⟨rfl, h⟩⟩
          ·exact Or.inl rfl
         have b2' : ot = true \/ (ot = false /\ ¬ 0 < x.els.length) := by
          cases ot
          ·exact Or.inr ⟨rfl, fun h => b2 ⟨rfl, h⟩⟩
          ·exact Or.inl rfl
         clear b1 b2
         cases q1 : zL x.thn (m - 1)
         ·rw [q1] at i1 hs
          replace hf := hf (by rw [hs]; rfl)
          clear hs hnx i2 q1
          rcases b1' with rfl | ⟨rfl, b1⟩ <;> rcases b2' with rfl | ⟨rfl, b2⟩ <;> simp [*, zg, za]
         ·rw [q1] at i1 hs
          cases q2 : zL x.els (m - 1)
          ·rw [q2] at i2 hs
           replace hf := hf (by rw [hs]; rfl)
           clear hs hnx q1 q2
           rcases b1' with rfl | ⟨rfl, b1⟩ <;> rcases b2' with rfl | ⟨rfl, b2⟩ <;> simp [*, zg, za]
          ·rw [q2] at i2 hs
           replace hnx := hnx (by rw [hs]; rfl)
           clear hs hf q1 q2
           rcases b1' with rfl | ⟨rfl, b1⟩ <;> rcases b2' with rfl | ⟨rfl, b2⟩ <;> simp [*, zg, za]
        ·have hd7 : decide (e.kind = 7) = false := decide_eq_false h7
         rw [hd7, Bool.false_and] at hs
         replace hf := hf hs
         replace hk := eqp hk
         replace h7 := eqn h7
         clear hdo hd7 hs hnx ht a1
         simp [*, za]
       ·have hdo : doR x.kind x.args = true := by simp [doR, hk]
        rw [hdo, Bool.true_and] at hs
        replace hk := eqn hk
        clear hdo ht a1
        have e3 : (x.thn.isEmpty = true <-> x.thn.length = 0) := by cases x.thn <;> simp
        have e4 : (x.els.isEmpty = true <-> x.els.length = 0) := by cases x.els <;> simp
        have tree : znb x m = true \/ znb x m = false := by cases znb x m <;> simp
        by_cases b1 : th = false /\ 0 < x.thn.length
        ·have hb : (th || x.thn.isEmpty) = false := by
          rw [b1.1, Bool.false_or]; cases hx : x.thn.isEmpty
          ·rfl
          ·have := e3.1 hx; omega
         rw [hb] at hs
         replace hf := hf (by rw [hs]; rfl)
         obtain ⟨rfl, b1⟩ := b1
         clear hs hnx tree e3 e4 i1 i2 hb
         simp [*, zg, za]
        by_cases b2 : ot = false /\ 0 < x.els.length
        ·have hb : (ot || x.els.isEmpty) = false := by
          rw [b2.1, Bool.false_or]; cases hx : x.els.isEmpty
          ·rfl
          ·have := e4.1 hx; omega
         rw [hb] at hs
         replace hf := hf (by rw [hs]; simp)
         obtain ⟨rfl, b2⟩ := b2
         clear hs hnx tree e3 e4 i1 i2 hb
         cases th
         ·have b1' : ¬ 0 < x.thn.length := fun h => b1 ⟨rfl, h⟩
          clear b1
          simp [*, zg, za]
         ·clear b1
          simp [*, zg, za]
        have hb1 : (th || x.thn.isEmpty) = true := by
         cases th
         ·rw [Bool.false_or]; exact e3.2 (by by_cases h : 0 < x.thn.length; exact absurd ⟨rfl, h⟩ b1; omega)
         ·rfl
        have hb2 : (ot || x.els.isEmpty) = true := by
         cases ot
         ·rw [Bool.false_or]; exact e4.2 (by by_cases h : 0 < x.els.length; exact absurd ⟨rfl, h⟩ b2; omega)
         ·rfl
        rw [hb1, hb2] at hs
        clear e3 e4 tree hb1 hb2
        have b1' : th = true \/ (th = false /\ ¬ 0 < x.thn.length) := by
         cases th
         ·exact Or.inr ⟨rfl, fun h => b1 ⟨rfl, h⟩⟩
         ·exact Or.inl rfl
        have b2' : ot = true \/ (ot = false /\ ¬ 0 < x.els.length) := by
         cases ot
         ·exact Or.inr ⟨rfl, fun h => b2 ⟨rfl, h⟩⟩
         ·exact Or.inl rfl
        clear b1 b2
        cases q1 : zL x.thn (m - 1)
        ·rw [q1] at i1 hs
         replace hf := hf (by rw [hs]; rfl)
         clear hs hnx i2 q1
         rcases b1' with rfl | ⟨rfl, b1⟩ <;> rcases b2' with rfl | ⟨rfl, b2⟩ <;> simp [*, zg, za]
        ·rw [q1] at i1 hs
         cases q2 : zL x.els (m - 1)
         ·rw [q2] at i2 hs
          replace hf := hf (by rw [hs]; rfl)
          clear hs hnx q1 q2
          rcases b1' with rfl | ⟨rfl, b1⟩ <;> rcases b2' with rfl | ⟨rfl, b2⟩ <;> simp [*, zg, za]
         ·rw [q2] at i2 hs
          replace hnx := hnx (by rw [hs]; rfl)
          clear hs hf q1 q2
          rcases b1' with rfl | ⟨rfl, b1⟩ <;> rcases b2' with rfl | ⟨rfl, b2⟩ <;> simp [*, zg, za]
     ·clear a6
      have a6 : True := trivial
      simp [*, zb, ze, zg]
      have hlt0 : x.args.length < 2 ^ 62 := by omega
      refine zz x.args K46_0 B46_0 (fun d => [(12, .int .i64 d.length)]) (fun _ => []) (fun d => zKd d = true) hlt0 (by simp [zKd]) ?_ ?_
      ·intros d2 y r2 s2 hl2 hlt2 hget2 hget2' hw2 hp2 g1 g2 g3 g4
       simp at g1 g2 g3
       have hwy := zSb hl2.mem
       have ey := exprR_spec y 100 (by omega) (by omega)
       rw [za] at ey
       simp [ze] at ey
       have hlt2' : (d2.length : Int) < x.args.length := by omega
       cases hy : zdb y 100
       ·have ha : zKd x.args = false := by
         rw [hl2.eq]; simp [zKd, hy]
        replace hf := hf (by rw [hs, ha]; rfl)
        rw [hy] at ey
        clear hnx hs hp2 hl2 e1 e2 ht
        simp [*, za, ze]
       ·have ha : zKd (d2 ++ [y]) = true := by
         simp only [zKd] at hp2 ⊢
         rw [List.all_append, hp2]; simp [hy]
        rw [hy] at ey
        clear hnx hs hf hp2 hl2 e1 e2 ht
        simp [*, za, ze]
      ·intros s2 hp2 g1 g2 g3 g4
       simp at g1 g2 g3
       rw [hp2, Bool.true_and] at hs
       have i1 := ih x.thn (m - 1) (by omega) (by omega) (by omega)
       have i2 := ih x.els (m - 1) (by omega) (by omega) (by omega)
       simp [zg] at i1 i2
       have k1 : (x.kind = 10 /\ ∃ e, x.args = [e]) \/ ¬ x.kind = 10 := by
        by_cases hk : x.kind = 10
        ·refine Or.inl ⟨hk, ?_⟩
         have hn1 : (x.args.length : Int) = 1 := by
          have := congrArg (fun p => p.2.2.1) hsh
          rw [hk] at this
          exact this.symm
         have : x.args.length = 1 := by omega
         exact List.length_eq_one_iff.1 this
        ·exact Or.inr hk
       clear hp2 hsh
       clear e1 e2 a6
       rcases k1 with ⟨hk, e, hae⟩ | hk
       ·have hdo : doR x.kind x.args = decide (e.kind = 7) := by
         rw [hk, hae]; simp [doR]
        rw [hdo] at hs
        by_cases h7 : e.kind = 7
        ·have hd7 : decide (e.kind = 7) = true := decide_eq_true h7
         rw [hd7, Bool.true_and] at hs
         replace hk := eqp hk
         replace h7 := eqp h7
         clear hdo hd7 ht a1
         have e3 : (x.thn.isEmpty = true <-> x.thn.length = 0) := by cases x.thn <;> simp
         have e4 : (x.els.isEmpty = true <-> x.els.length = 0) := by cases x.els <;> simp
         have tree : znb x m = true \/ znb x m = false := by cases znb x m <;> simp
         by_cases b1 : th = false /\ 0 < x.thn.length
         ·have hb : (th || x.thn.isEmpty) = false := by
           rw [b1.1, Bool.false_or]; cases hx : x.thn.isEmpty
           ·rfl
           ·have := e3.1 hx; omega
          rw [hb] at hs
          replace hf := hf (by rw [hs]; rfl)
          obtain ⟨rfl, b1⟩ := b1
          clear hs hnx tree e3 e4 i1 i2 hb
          simp [*, zg, za]
         by_cases b2 : ot = false /\ 0 < x.els.length
         ·have hb : (ot || x.els.isEmpty) = false := by
           rw [b2.1, Bool.false_or]; cases hx : x.els.isEmpty
           ·rfl
           ·have := e4.1 hx; omega
          rw [hb] at hs
          replace hf := hf (by rw [hs]; simp)
          obtain ⟨rfl, b2⟩ := b2
          clear hs hnx tree e3 e4 i1 i2 hb
          cases th
          ·have b1' : ¬ 0 < x.thn.length := fun h => b1 ⟨rfl, h⟩
           clear b1
           simp [*, zg, za]
          ·clear b1
           simp [*, zg, za]
         have hb1 : (th || x.thn.isEmpty) = true := by
          cases th
          ·rw [Bool.false_or]; exact e3.2 (by by_cases h : 0 < x.thn.length; exact absurd ⟨rfl, h⟩ b1; omega)
          ·rfl
         have hb2 : (ot || x.els.isEmpty) = true := by
          cases ot
          ·rw [Bool.false_or]; exact e4.2 (by by_cases h : 0 < x.els.length; exact absurd ⟨rfl, h⟩ b2; omega)
          ·rfl
         rw [hb1, hb2] at hs
         clear e3 e4 tree hb1 hb2
         have b1' : th = true \/ (th = false /\ ¬ 0 < x.thn.length) := by
          cases th
          ·exact Or.inr ⟨rfl, fun h => b1 ⟨rfl, h⟩⟩
          ·exact Or.inl rfl
         have b2' : ot = true \/ (ot = false /\ ¬ 0 < x.els.length) := by
          cases ot
          ·exact Or.inr ⟨rfl, fun h => b2 ⟨rfl, h⟩⟩
          ·exact Or.inl rfl
         clear b1 b2
         cases q1 : zL x.thn (m - 1)
         ·rw [q1] at i1 hs
          replace hf := hf (by rw [hs]; rfl)
          clear hs hnx i2 q1
          rcases b1' with rfl | ⟨rfl, b1⟩ <;> rcases b2' with rfl | ⟨rfl, b2⟩ <;> simp [*, zg, za]
         ·rw [q1] at i1 hs
          cases q2 : zL x.els (m - 1)
          ·rw [q2] at i2 hs
           replace hf := hf (by rw [hs]; rfl)
           clear hs hnx q1 q2
           rcases b1' with rfl | ⟨rfl, b1⟩ <;> rcases b2' with rfl | ⟨rfl, b2⟩ <;> simp [*, zg, za]
          ·rw [q2] at i2 hs
           replace hnx := hnx (by rw [hs]; rfl)
           clear hs hf q1 q2
           rcases b1' with rfl | ⟨rfl, b1⟩ <;> rcases b2' with rfl | ⟨rfl, b2⟩ <;> simp [*, zg, za]
        ·have hd7 : decide (e.kind = 7) = false := decide_eq_false h7
         rw [hd7, Bool.false_and] at hs
         replace hf := hf hs
         replace hk := eqp hk
         replace h7 := eqn h7
         clear hdo hd7 hs hnx ht a1
         simp [*, za]
       ·have hdo : doR x.kind x.args = true := by simp [doR, hk]
        rw [hdo, Bool.true_and] at hs
        replace hk := eqn hk
        clear hdo ht a1
        have e3 : (x.thn.isEmpty = true <-> x.thn.length = 0) := by cases x.thn <;> simp
        have e4 : (x.els.isEmpty = true <-> x.els.length = 0) := by cases x.els <;> simp
        have tree : znb x m = true \/ znb x m = false := by cases znb x m <;> simp
        by_cases b1 : th = false /\ 0 < x.thn.length
        ·have hb : (th || x.thn.isEmpty) = false := by
          rw [b1.1, Bool.false_or]; cases hx : x.thn.isEmpty
          ·rfl
          ·have := e3.1 hx; omega
         rw [hb] at hs
         replace hf := hf (by rw [hs]; rfl)
         obtain ⟨rfl, b1⟩ := b1
         clear hs hnx tree e3 e4 i1 i2 hb
         simp [*, zg, za]
        by_cases b2 : ot = false /\ 0 < x.els.length
        ·have hb : (ot || x.els.isEmpty) = false := by
          rw [b2.1, Bool.false_or]; cases hx : x.els.isEmpty
          ·rfl
          ·have := e4.1 hx; omega
         rw [hb] at hs
         replace hf := hf (by rw [hs]; simp)
         obtain ⟨rfl, b2⟩ := b2
         clear hs hnx tree e3 e4 i1 i2 hb
         cases th
         ·have b1' : ¬ 0 < x.thn.length := fun h => b1 ⟨rfl, h⟩
          clear b1
          simp [*, zg, za]
         ·clear b1
          simp [*, zg, za]
        have hb1 : (th || x.thn.isEmpty) = true := by
         cases th
         ·rw [Bool.false_or]; exact e3.2 (by by_cases h : 0 < x.thn.length; exact absurd ⟨rfl, h⟩ b1; omega)
         ·rfl
        have hb2 : (ot || x.els.isEmpty) = true := by
         cases ot
         ·rw [Bool.false_or]; exact e4.2 (by by_cases h : 0 < x.els.length; exact absurd ⟨rfl, h⟩ b2; omega)
         ·rfl
        rw [hb1, hb2] at hs
        clear e3 e4 tree hb1 hb2
        have b1' : th = true \/ (th = false /\ ¬ 0 < x.thn.length) := by
         cases th
         ·exact Or.inr ⟨rfl, fun h => b1 ⟨rfl, h⟩⟩
         ·exact Or.inl rfl
        have b2' : ot = true \/ (ot = false /\ ¬ 0 < x.els.length) := by
         cases ot
         ·exact Or.inr ⟨rfl, fun h => b2 ⟨rfl, h⟩⟩
         ·exact Or.inl rfl
        clear b1 b2
        cases q1 : zL x.thn (m - 1)
        ·rw [q1] at i1 hs
         replace hf := hf (by rw [hs]; rfl)
         clear hs hnx i2 q1
         rcases b1' with rfl | ⟨rfl, b1⟩ <;> rcases b2' with rfl | ⟨rfl, b2⟩ <;> simp [*, zg, za]
        ·rw [q1] at i1 hs
         cases q2 : zL x.els (m - 1)
         ·rw [q2] at i2 hs
          replace hf := hf (by rw [hs]; rfl)
          clear hs hnx q1 q2
          rcases b1' with rfl | ⟨rfl, b1⟩ <;> rcases b2' with rfl | ⟨rfl, b2⟩ <;> simp [*, zg, za]
         ·rw [q2] at i2 hs
          replace hnx := hnx (by rw [hs]; rfl)
          clear hs hf q1 q2
          rcases b1' with rfl | ⟨rfl, b1⟩ <;> rcases b2' with rfl | ⟨rfl, b2⟩ <;> simp [*, zg, za]
  ·intros s1 hp h1 h2 h3 h4
   simp at h1 h3
   clear h2
   simp [*]
end PE.U

namespace PE.U
open Go PE
def arrR (a : PArr) : Bool := zcb a.name && (decide (1 <= a.size) && decide (a.size <= 1000))
def parR (p : Par) : Bool := zcb p.name && (decide (p.type = 1) || decide (p.type = 2))
def zkd (f : Func) : Bool := zcb f.name && ((decide (f.type = 1) || decide (f.type = 2)) && (decide (f.params.length <= 8) && (zL f.body 100 && f.params.all parR)))
def zzb (p : Prog) : Bool := p.arrays.all arrR && p.funcs.all zkd
theorem stmtsR_spec (l : List Stmt) (m : Int) (h : wtSs l < 1099508000000) (hm : m <= 1000000) : zi E 46 [zg l, .int .i64 m] [] = some (.ret (.bool (zL l m)), []) := stmtsR_spec' (wtSs l) l m (Nat.le_refl _) (by omega) hm
def PSz (p : Prog) : Prop := p.arrays.length < 1099509000000 /\ p.funcs.length < 1099509000000 /\ ∀ f ∈ p.funcs, wtSs f.body < 1099508000000 /\ f.params.length < 1099509000000
set_option maxHeartbeats 4000000 in
theorem right_spec (p : Prog) (hz : PSz p) : zi E 17 [zd p] [] = some (.ret (.bool (zzb p)), []) := by
 obtain ⟨z1, z2, z3⟩ := hz
 refine zc rfl rfl rfl (by simp [zd]) ?_
 simp [F17, zd, zva, funcs]
 refine zz p.arrays K17_0 B17_0 (fun d => [(3, .int .i64 d.length)]) (fun _ => []) (fun d => d.all arrR = true) (by omega) (by simp) ?_ ?_
 ·intros d x r s1 hl' hlt hget hget' hw hp h1 h2 h3 h4
  simp at h1 h2 h3
  have hf : arrR x = false -> zzb p = false := fun h => by
   unfold zzb; rw [hl'.eq]; simp [h]
  have hnx : arrR x = true -> (d ++ [x]).all arrR = true := fun h => by rw [List.all_append, hp]; simp [h]
  have e1 := zTc x.name []
  clear hl' hp
  cases c1 : zcb x.name
  ·replace hf := hf (by unfold arrR; rw [c1]; rfl)
   rw [c1] at e1
   clear hnx
   simp [*, zK]
  ·rw [c1] at e1
   by_cases c2 : x.size < 1
   ·replace hf := hf (by unfold arrR; simp; omega)
    clear hnx
    simp [*, zK]
   ·by_cases c3 : 1000 < x.size
    ·replace hf := hf (by unfold arrR; simp; omega)
     clear hnx
     simp [*, zK]
    ·replace hnx := hnx (by unfold arrR; rw [c1]; simp; omega)
     clear hf
     simp [*, zK]
     all_goals (try grind)
 intros s1 hp h1 h2 h3 h4
 simp at h1 h2 h3
 have har : p.arrays.all arrR = true := hp
 clear hp
 simp [*]
 refine zz p.funcs K17_2 B17_2 (fun d => [(4, .int .i64 d.length)]) (fun _ => []) (fun d => d.all zkd = true) (by omega) (by simp) ?_ ?_
 ·intros d x r s2 hl' hlt hget hget' hw hp g1 g2 g3 g4
  simp at g1 g2 g3
  obtain ⟨y1, y2⟩ := z3 x hl'.mem
  have hf : zkd x = false -> zzb p = false := fun h => by
   unfold zzb; rw [har, hl'.eq]; simp [h]
  have hnx : zkd x = true -> (d ++ [x]).all zkd = true := fun h => by rw [List.all_append, hp]; simp [h]
  have e1 := zTc x.name []
  have e2 := rtype_spec x.type
  have e3 := stmtsR_spec x.body 100 y1 (by omega)
  have hp0 : True -> d.all zkd = true := fun _ => hp
  clear hl' hp har
  simp [zg] at e3
  generalize htt : (decide (x.type = 1) || decide (x.type = 2)) = tt at *
  have hq : zkd x = (zcb x.name && (tt && (decide (x.params.length <= 8) && (zL x.body 100 && x.params.all parR)))) := by unfold zkd; rw [htt]
  clear htt
  cases c1 : zcb x.name
  ·replace hf := hf (by rw [hq, c1]; rfl)
   rw [c1] at e1
   clear hnx hq
   simp [*, zm, parsV, zg]
  rw [c1] at e1
  cases tt
  ·replace hf := hf (by rw [hq]; simp)
   clear hnx hq
   simp [*, zm, parsV, zg]
  by_cases c2 : 8 < x.params.length
  ·replace hf := hf (by rw [hq]; simp; omega)
   have c2' : (8 : Int) < x.params.length := by omega
   clear hnx hq
   simp [*, zm, parsV, zg]
  have c2' : ¬ (8 : Int) < x.params.length := by omega
  cases c3 : zL x.body 100
  ·replace hf := hf (by rw [hq, c3]; simp)
   rw [c3] at e3
   clear hnx hq
   simp [*, zm, parsV, zg]
  rw [c3] at e3
  have hd8 : decide (x.params.length <= 8) = true := decide_eq_true (by omega)
  rw [c1, c3, hd8, Bool.true_and, Bool.true_and, Bool.true_and, Bool.true_and] at hq
  clear hd8
  simp [*, zm, parsV, zg]
  refine zz x.params K17_1 B17_1 (fun d => [(6, .int .i64 d.length)]) (fun _ => []) (fun d => d.all parR = true) (by omega) (by simp) ?_ ?_
  ·intros d2 y r2 s3 hl2 hlt2 hget2 hget2' hw2 hp2 k1 k2 k3 k4
   simp at k1 k2 k3
   have hfy : parR y = false -> zzb p = false := fun h => hf (by rw [hq, hl2.eq]; simp [h])
   have hny : parR y = true -> (d2 ++ [y]).all parR = true := fun h => by rw [List.all_append, hp2]; simp [h]
   have i1 := zTc y.name []
   have i2 := rtype_spec y.type
   generalize htt : (decide (y.type = 1) || decide (y.type = 2)) = tt at *
   have hqy : parR y = (zcb y.name && tt) := by unfold parR; rw [htt]
   clear htt hl2 hp2 hq hf hnx e1 e2 e3
   cases c4 : zcb y.name
   ·rw [c4] at i1
    replace hfy := hfy (by rw [hqy, c4]; rfl)
    clear hny hqy
    simp [*, encPar]
   ·rw [c4] at i1
    cases tt
    ·replace hfy := hfy (by rw [hqy]; simp)
     clear hny hqy
     simp [*, encPar]
    ·replace hny := hny (by rw [hqy, c4]; rfl)
     clear hfy hqy
     simp [*, encPar]
     all_goals (try grind)
  ·intros s3 hp2 k1 k2 k3 k4
   simp at k1 k2 k3
   replace hnx := hnx (by rw [hq]; exact hp2)
   replace hp0 := hp0 trivial
   clear hf hq e1 e2 e3
   simp only [List.all_eq_true] at hp0 hp2
   simp [*]
   first | exact hp2 | exact ⟨hp0, hp2⟩
 ·intros s2 hp g1 g2 g3 g4
  simp at g1 g2 g3
  have hr : zzb p = true := by unfold zzb; rw [har, hp]; rfl
  clear hp har
  simp [*]
end PE.U

namespace PE.U
open Go PE
theorem tblank_spec (k o n : Int) (s : List UInt8) (a : List Expr) : zi E 151 [.agg [.int .i64 k, .int .i64 o, .int .i64 n, .str s, ze a]] [] = some (.ret (.bool (decide (o = 0) && (decide (n = 0) && (decide (s = []) && decide (a = []))))), []) := by
 refine zc rfl rfl rfl (by simp) ?_
 have hl : ((a.length : Int) = 0) = (a = []) := by simp
 (simp [*, F151, ze]) <;> (repeat' ((first | refine sP _ ?_ ?_ | refine gP _ ?_ ?_ | refine sN _ ?_ ?_ | refine gN _ ?_ ?_ | refine sM _ ?_ ?_ | refine gM _ ?_ ?_ | refine sB _ ?_ ?_ | refine gB _ ?_ ?_) <;> intro hc <;> simp [*, F151, ze]))
def ownT (k o n : Int) (s : List UInt8) (a : Nat) : Int × Bool :=
 if k = 1 then (0, decide (0 <= n) && (decide (o = 0) && decide (s = [])))
 else if k = 2 then (0, (decide (n = 0) || decide (n = 1)) && (decide (o = 0) && decide (s = [])))
 else if k = 4 then (1, oneR o && (decide (n = 0) && decide (s = [])))
 else if k = 5 then (2, decide (0 < zQd o) && (decide (n = 0) && decide (s = [])))
 else if k = 8 then (0, decide (o = 0) && (decide (n = 0) && decide (s = [])))
 else if k = 3 then (0, zcb s && (decide (o = 0) && decide (n = 0)))
 else if k = 6 then (1, zcb s && (decide (o = 0) && decide (n = 0)))
 else if k = 7 then (a, (zcb s && (decide (o = 0) && decide (n = 0))) && decide (a <= 8))
 else (0, false)
set_option maxHeartbeats 4000000 in
theorem town_spec (e : Expr) : zi E 143 [zo e] [] = some (.ret (.tup [.int .i64 (ownT e.kind e.op e.n e.name e.args.length).1, .bool (ownT e.kind e.op e.n e.name e.args.length).2]), []) := by
 obtain ⟨k, o, n, s, a⟩ := e
 have hn := name_spec s []
 have hlv := level_spec o []
 rw [lvl_eq] at hlv
 have hb : ∀ k o n s, zi E 151 [.agg [.int .i64 k, .int .i64 o, .int .i64 n, .str s, .slice .plain 5 []]] [] = some (.ret (.bool (decide (o = 0) && (decide (n = 0) && decide (s = [])))), []) := by
  intro k o n s
  have := tblank_spec k o n s []
  simpa [ze] using this
 refine zc rfl rfl rfl (by simp [za]) ?_
 simp only
 unfold ownT
 by_cases k1 : k = 1
 ·replace k1 := eqp k1
  (simp [*, F143, za, ze]) <;> (repeat' (first | ((first | refine sP _ ?_ ?_ | refine gP _ ?_ ?_ | refine sN _ ?_ ?_ | refine gN _ ?_ ?_) <;> intro hc <;> (first | replace hc := eqn hc | replace hc := eqp hc) <;> simp [*, F143, za, ze]) | ((first | refine sM _ ?_ ?_ | refine gM _ ?_ ?_ | refine sB _ ?_ ?_ | refine gB _ ?_ ?_) <;> intro hc <;> simp [*, F143, za, ze])))
 replace k1 := eqn k1
 by_cases k2 : k = 2
 ·replace k2 := eqp k2
  (simp [*, F143, za, ze]) <;> (repeat' (first | ((first | refine sP _ ?_ ?_ | refine gP _ ?_ ?_ | refine sN _ ?_ ?_ | refine gN _ ?_ ?_) <;> intro hc <;> (first | replace hc := eqn hc | replace hc := eqp hc) <;> simp [*, F143, za, ze]) | ((first | refine sM _ ?_ ?_ | refine gM _ ?_ ?_ | refine sB _ ?_ ?_ | refine gB _ ?_ ?_) <;> intro hc <;> simp [*, F143, za, ze])))
 replace k2 := eqn k2
 by_cases k4 : k = 4
 ·replace k4 := eqp k4
  (simp [*, F143, za, ze, oneR]) <;> (repeat' (first | ((first | refine sP _ ?_ ?_ | refine gP _ ?_ ?_ | refine sN _ ?_ ?_ | refine gN _ ?_ ?_) <;> intro hc <;> (first | replace hc := eqn hc | replace hc := eqp hc) <;> simp [*, F143, za, ze, oneR]) | ((first | refine sM _ ?_ ?_ | refine gM _ ?_ ?_ | refine sB _ ?_ ?_ | refine gB _ ?_ ?_) <;> intro hc <;> simp [*, F143, za, ze, oneR])))
 replace k4 := eqn k4
 by_cases k5 : k = 5
 ·replace k5 := eqp k5
  (simp [*, F143, za, ze]) <;> (repeat' (first | ((first | refine sP _ ?_ ?_ | refine gP _ ?_ ?_ | refine sN _ ?_ ?_ | refine gN _ ?_ ?_) <;> intro hc <;> (first | replace hc := eqn hc | replace hc := eqp hc) <;> simp [*, F143, za, ze]) | ((first | refine sM _ ?_ ?_ | refine gM _ ?_ ?_ | refine sB _ ?_ ?_ | refine gB _ ?_ ?_) <;> intro hc <;> simp [*, F143, za, ze])))
 replace k5 := eqn k5
 by_cases k8 : k = 8
 ·replace k8 := eqp k8
  (simp [*, F143, za, ze]) <;> (repeat' (first | ((first | refine sP _ ?_ ?_ | refine gP _ ?_ ?_ | refine sN _ ?_ ?_ | refine gN _ ?_ ?_) <;> intro hc <;> (first | replace hc := eqn hc | replace hc := eqp hc) <;> simp [*, F143, za, ze]) | ((first | refine sM _ ?_ ?_ | refine gM _ ?_ ?_ | refine sB _ ?_ ?_ | refine gB _ ?_ ?_) <;> intro hc <;> simp [*, F143, za, ze])))
 replace k8 := eqn k8
 by_cases k3 : k = 3
 ·replace k3 := eqp k3
  (simp [*, F143, za, ze]) <;> (repeat' (first | ((first | refine sP _ ?_ ?_ | refine gP _ ?_ ?_ | refine sN _ ?_ ?_ | refine gN _ ?_ ?_) <;> intro hc <;> (first | replace hc := eqn hc | replace hc := eqp hc) <;> simp [*, F143, za, ze]) | ((first | refine sM _ ?_ ?_ | refine gM _ ?_ ?_ | refine sB _ ?_ ?_ | refine gB _ ?_ ?_) <;> intro hc <;> simp [*, F143, za, ze])))
 replace k3 := eqn k3
 by_cases k6 : k = 6
 ·replace k6 := eqp k6
  (simp [*, F143, za, ze]) <;> (repeat' (first | ((first | refine sP _ ?_ ?_ | refine gP _ ?_ ?_ | refine sN _ ?_ ?_ | refine gN _ ?_ ?_) <;> intro hc <;> (first | replace hc := eqn hc | replace hc := eqp hc) <;> simp [*, F143, za, ze]) | ((first | refine sM _ ?_ ?_ | refine gM _ ?_ ?_ | refine sB _ ?_ ?_ | refine gB _ ?_ ?_) <;> intro hc <;> simp [*, F143, za, ze])))
 replace k6 := eqn k6
 by_cases k7 : k = 7
 ·replace k7 := eqp k7
  (simp [*, F143, za, ze]) <;> (repeat' (first | ((first | refine sP _ ?_ ?_ | refine gP _ ?_ ?_ | refine sN _ ?_ ?_ | refine gN _ ?_ ?_) <;> intro hc <;> (first | replace hc := eqn hc | replace hc := eqp hc) <;> simp [*, F143, za, ze]) | ((first | refine sM _ ?_ ?_ | refine gM _ ?_ ?_ | refine sB _ ?_ ?_ | refine gB _ ?_ ?_) <;> intro hc <;> simp [*, F143, za, ze])))
  all_goals (try omega)
 replace k7 := eqn k7
 (simp [*, F143, za, ze]) <;> (repeat' (first | ((first | refine sP _ ?_ ?_ | refine gP _ ?_ ?_ | refine sN _ ?_ ?_ | refine gN _ ?_ ?_) <;> intro hc <;> (first | replace hc := eqn hc | replace hc := eqp hc) <;> simp [*, F143, za, ze]) | ((first | refine sM _ ?_ ?_ | refine gM _ ?_ ?_ | refine sB _ ?_ ?_ | refine gB _ ?_ ?_) <;> intro hc <;> simp [*, F143, za, ze])))
theorem own_kind (k o n : Int) (s : List UInt8) (a : Nat) : ((ownT k o n s a).2 && decide ((a : Int) = (ownT k o n s a).1)) = kindR k o n s a := by
 rw [Bool.eq_iff_iff]
 unfold ownT kindR
 by_cases k1 : k = 1
 ·subst k1; simp; grind
 by_cases k2 : k = 2
 ·subst k2; simp; grind
 by_cases k4 : k = 4
 ·subst k4; simp; grind
 by_cases k5 : k = 5
 ·subst k5; simp; grind
 by_cases k8 : k = 8
 ·subst k8; simp; grind
 by_cases k3 : k = 3
 ·subst k3; simp; grind
 by_cases k6 : k = 6
 ·subst k6; simp; grind
 by_cases k7 : k = 7
 ·subst k7; simp; grind
 simp [*]
theorem exprsR_all (l : List Expr) (m : Int) : zkb l m = l.all fun x => decide (2 <= m) && zdb x (m - 1) := by
 induction l with
 | nil => rfl
 | cons x r ih => simp [zkb, ih]
set_option maxHeartbeats 4000000 in
theorem texpr_spec' : ∀ w (e : Expr) (m : Int), wtE e <= w -> w < 1099511000000 -> m <= 1000000 -> zi E 131 [zo e, .int .i64 m] [] = some (.ret (.bool (decide (0 < m) && zdb e m)), [])
 | 0, e, m, h, _, _ => by rw [zsd] at h; omega
 | w + 1, e, m, h, hw, hm => by
  refine zc rfl rfl rfl (by simp [za]) ?_
  have hlen := zPb e.args
  rw [zsd] at h
  have ho := town_spec e
  have hk := own_kind e.kind e.op e.n e.name e.args.length
  have hR := exprR_eq e m
  rw [<- hk] at hR
  generalize ownT e.kind e.op e.n e.name e.args.length = q at *
  obtain ⟨n, ok⟩ := q
  simp only at ho hk hR
  clear hk
  by_cases h0 : 0 < m
  ·have hcl : ∀ x ∈ e.args, zi E 144 ([] ++ [zo x] ++ [.iptr [.int .i64 m] 0]) [] = some (.ret (.bool (!(decide (0 < m - 1) && zdb x (m - 1)))), []) := by
    intro x hx
    have hwx := zSb hx
    have ih := texpr_spec' w x (m - 1) (by omega) (by omega) (by omega)
    have hwm : zN .i64 (m - 1) = m - 1 := zj (by omega) (by omega)
    refine zc rfl rfl rfl (by simp [za]) ?_
    rw [za] at ih
    clear hR ho h hlen hwx hx
    simp [ze] at ih
    (simp [*, F144, za, ze]) <;> (repeat' ((first | refine sP _ ?_ ?_ | refine gP _ ?_ ?_ | refine sN _ ?_ ?_ | refine gN _ ?_ ?_ | refine sM _ ?_ ?_ | refine gM _ ?_ ?_ | refine sB _ ?_ ?_ | refine gB _ ?_ ?_) <;> intro hc <;> simp [*, F144, za, ze]))
   have hc := containsFuncExpr e.args (fun x => !(decide (0 < m - 1) && zdb x (m - 1))) 144 [] [.iptr [.int .i64 m] 0] [] (by omega) (by simp) hcl
   have hany : (!(e.args.any fun x => !(decide (0 < m - 1) && zdb x (m - 1)))) = zkb e.args m := by
    have h2 : decide (0 < m - 1) = decide (2 <= m) := by rw [decide_eq_decide]; omega
    rw [exprsR_all, List.not_any_eq_all_not, h2]
    simp
   generalize (e.args.any fun x => !(decide (0 < m - 1) && zdb x (m - 1))) = b at *
   rw [<- hany] at hR
   clear hcl h hlen hany
   rw [za] at ho
   simp [ze] at ho hc
   generalize hal : e.args.length = al at *
   (simp [*, F131, za, ze]) <;> (repeat' (first | ((first | refine sP _ ?_ ?_ | refine gP _ ?_ ?_ | refine sN _ ?_ ?_ | refine gN _ ?_ ?_) <;> intro hc <;> (first | replace hc := eqn hc | replace hc := eqp hc) <;> simp [*, F131, za, ze]) | ((first | refine sM _ ?_ ?_ | refine gM _ ?_ ?_ | refine sB _ ?_ ?_ | refine gB _ ?_ ?_) <;> intro hc <;> simp [*, F131, za, ze])))
  ·clear hlen h
   rw [za] at ho
   simp [ze] at ho
   (simp [*, F131, za, ze]) <;> (repeat' (first | ((first | refine sP _ ?_ ?_ | refine gP _ ?_ ?_ | refine sN _ ?_ ?_ | refine gN _ ?_ ?_) <;> intro hc <;> (first | replace hc := eqn hc | replace hc := eqp hc) <;> simp [*, F131, za, ze]) | ((first | refine sM _ ?_ ?_ | refine gM _ ?_ ?_ | refine sB _ ?_ ?_ | refine gB _ ?_ ?_) <;> intro hc <;> simp [*, F131, za, ze])))
theorem texpr_spec (e : Expr) (m : Int) (h : wtE e < 1099510000000) (hm : m <= 1000000) : zi E 131 [zo e, .int .i64 m] [] = some (.ret (.bool (decide (0 < m) && zdb e m)), []) := texpr_spec' (wtE e) e m (Nat.le_refl _) (by omega) hm
end PE.U

namespace PE.U
open Go PE
def zFb (t n : Bool) (a : Int) (th o : Bool) : PV := .agg [.bool t, .bool n, .int .i64 a, .bool th, .bool o]
def shapesL : List (PV × PV) := [(.int .i64 1, zFb true true 1 false false), (.int .i64 2, zFb false true 1 false false), (.int .i64 3, zFb false true 2 false false), (.int .i64 4, zFb false false 1 true true), (.int .i64 5, zFb false false 1 true false),
 (.int .i64 6, zFb false false 0 false false), (.int .i64 7, zFb false false 0 false false), (.int .i64 8, zFb false false 1 false false), (.int .i64 9, zFb false false 1 false false), (.int .i64 10, zFb false false 1 false false)]
set_option maxHeartbeats 1000000 in
theorem shapes_spec (σ : zf) : zi E 128 [] σ = some (.ret (.mp σ.length), σ ++ [.mp shapesL]) := by
 refine zc rfl rfl rfl (by simp) ?_
 simp [F128, shapesL, zFb]
theorem shapes_find (k : Int) : zda false (.int .i64 k) shapesL = some (if 1 <= k /\ k <= 10 then some (zFb (zP k).1 (zP k).2.1 (zP k).2.2.1 (zP k).2.2.2.1 (zP k).2.2.2.2) else none) := by
 by_cases h : 1 <= k /\ k <= 10
 ·have : k = 1 \/ k = 2 \/ k = 3 \/ k = 4 \/ k = 5 \/ k = 6 \/ k = 7 \/ k = 8 \/ k = 9 \/ k = 10 := by omega
  rcases this with h | h | h | h | h | h | h | h | h | h <;> subst h <;> simp [shapesL, zP, zFb]
 ·have h1 : ¬ k = 1 := by omega
  have h2 : ¬ k = 2 := by omega
  have h3 : ¬ k = 3 := by omega
  have h4 : ¬ k = 4 := by omega
  have h5 : ¬ k = 5 := by omega
  have h6 : ¬ k = 6 := by omega
  have h7 : ¬ k = 7 := by omega
  have h8 : ¬ k = 8 := by omega
  have h9 : ¬ k = 9 := by omega
  have h10 : ¬ k = 10 := by omega
  rw [if_neg h]
  simp [shapesL, *]
theorem tisType_spec (t : Int) (σ : zf) : zi E 98 [.int .i64 t] σ = some (.ret (.bool (decide (t = 1) || decide (t = 2))), σ) := by
 refine zc rfl rfl rfl (by simp) ?_
 (simp [*, F98]) <;> (repeat' ((first | refine sP _ ?_ ?_ | refine gP _ ?_ ?_ | refine sN _ ?_ ?_ | refine gN _ ?_ ?_ | refine sM _ ?_ ?_ | refine gM _ ?_ ?_ | refine sB _ ?_ ?_ | refine gB _ ?_ ?_) <;> intro hc <;> simp [*, F98]))
theorem argsR_all (l : List Expr) (st : zf) (h : wtEs l < 1099509000000) : zi E 129 [ze l, .fn 130 [] []] st = some (.ret (.bool (!zKd l)), st) := by
 have hlen := zPb l
 have hcl : ∀ x ∈ l, zi E 130 ([] ++ [zo x] ++ []) st = some (.ret (.bool (!zdb x 100)), st) := by
  intro x hx
  have hwx := zSb hx
  have ih := texpr_spec x 100 (by omega) (by omega)
  rw [za] at ih
  refine zc rfl rfl rfl (by simp [za]) ?_
  simp [ze] at ih
  (simp [*, F130, za, ze]) <;> (repeat' ((first | refine sP _ ?_ ?_ | refine gP _ ?_ ?_ | refine sN _ ?_ ?_ | refine gN _ ?_ ?_ | refine sM _ ?_ ?_ | refine gM _ ?_ ?_ | refine sB _ ?_ ?_ | refine gB _ ?_ ?_) <;> intro hc <;> simp [*, F130, za, ze]))
 have hc := containsFuncExpr l (fun x => !zdb x 100) 130 [] [] st (by omega) (by simp) hcl
 have : (l.any fun x => !zdb x 100) = !zKd l := by
  unfold zKd; rw [List.not_all_eq_any_not]
 rw [this] at hc
 exact hc
set_option maxHeartbeats 16000000 in
theorem tstmt_of (s : Stmt) (m : Int) (hm : m <= 1000000) (hw : wtS s < 1099509000000)
  (h1 : ∀ m', m' <= 1000000 -> zi E 100 [zg s.thn, .int .i64 m'] [] = some (.ret (.bool (zL s.thn m')), []))
  (h2 : ∀ m', m' <= 1000000 -> zi E 100 [zg s.els, .int .i64 m'] [] = some (.ret (.bool (zL s.els m')), [])) :
  zi E 118 [zE s, .int .i64 m] [] = some (.ret (.bool (znb s m)), []) := by
 refine zc rfl rfl rfl (by simp [zb]) ?_
 have hs := shapes_spec []
 have hf := shapes_find s.kind
 have ht := tisType_spec s.type
 have hn := name_spec s.name
 have ha := argsR_all s.args [.mp shapesL] (by rw [zOa] at hw; omega)
 rw [zOa] at hw
 have hla := zPb s.args
 have hlt := zha s.thn
 have hle := zha s.els
 rw [stmtR_eq]
 unfold headR
 have hk : (1 <= s.kind /\ s.kind <= 10) \/ (zP s.kind).2.2.1 = -1 := by
  by_cases h : 1 <= s.kind /\ s.kind <= 10
  ·exact Or.inl h
  ·right
   unfold zP
   repeat' (first | rw [if_neg (by omega)] | rfl)
 by_cases hin : 1 <= s.kind /\ s.kind <= 10
 case neg =>
  rw [if_neg hin] at hf
  have hneg : (zP s.kind).2.2.1 = -1 := by rcases hk with h | h; exact absurd h hin; exact h
  have hne : ¬ (s.args.length : Int) = -1 := by omega
  have hR : (decide (¬ (s.args.length : Int) = (zP s.kind).2.2.1)) = true := by rw [hneg]; simp [hne]
  rw [hR]
  clear hk h1 h2 hR hneg hne hla hlt hle hw ht hn ha hin
  simp [*, F118, zb, ze, zg]
 rw [if_pos hin] at hf
 have hd : (s.kind = 10) -> ∃ e r, s.args = e :: r \/ ¬ (s.args.length : Int) = (zP s.kind).2.2.1 := by
  intro hk
  rcases he : s.args with _ | ⟨e, r⟩
  ·refine ⟨⟨0, 0, 0, [], []⟩, [], Or.inr ?_⟩
   rw [hk]; simp [zP]
  ·exact ⟨e, r, Or.inl rfl⟩
 clear hk hin
 generalize zP s.kind = q at *
 obtain ⟨t, nm, n, th, ot⟩ := q
 simp only at hf ⊢
 have h1' := h1 (m - 1) (by omega)
 have h2' := h2 (m - 1) (by omega)
 clear h1 h2
 by_cases hm1 : m < 1
 ·replace hm1 := eqp hm1
  clear h1' h2' ht hn ha hd hla hlt hle hw
  simp [*, F118, zb, ze, zg, zFb]
 have hwm : zN .i64 (m - 1) = m - 1 := zj (by omega) (by omega)
 replace hm1 := eqn hm1
 by_cases hlen : (s.args.length : Int) = n
 case neg =>
  replace hlen := eqn hlen
  clear h1' h2' ht hn ha hd hla hlt hle hw
  simp [*, F118, zb, ze, zg, zFb]
 replace hd : (s.kind = 10) -> ∃ e r, s.args = e :: r := by
  intro hk
  obtain ⟨e, r, h | h⟩ := hd hk
  ·exact ⟨e, r, h⟩
  ·exact absurd hlen h
 replace hlen := eqp hlen
 have g1 : (0 < s.thn.length) = ¬ (s.thn = []) := by
  rcases s.thn with _ | ⟨x, r⟩ <;> simp
 have g2 : (0 < s.els.length) = ¬ (s.els = []) := by
  rcases s.els with _ | ⟨x, r⟩ <;> simp
 have i1 : s.thn.isEmpty = decide (s.thn = []) := by
  rcases s.thn with _ | ⟨x, r⟩ <;> rfl
 have i2 : s.els.isEmpty = decide (s.els = []) := by
  rcases s.els with _ | ⟨x, r⟩ <;> rfl
 clear hla hlt hle hw
 have ht0 : (s.type = 0) = True -> (decide (s.type = 1) || decide (s.type = 2)) = false := by intro h; rw [of_eq_true h]; decide
 generalize (decide (s.type = 1) || decide (s.type = 2)) = tt at *
 have hn0 : (s.name = []) = True -> zcb s.name = false := by intro h; rw [of_eq_true h]; decide
 by_cases hk : s.kind = 10
 ·obtain ⟨e, r, hel⟩ := hd hk
  have hD : doR s.kind s.args = decide (e.kind = 7) := by rw [hel]; unfold doR; simp [hk]
  have hget : s.args[0]? = some e := by rw [hel]; rfl
  clear hd hel
  replace hk := eqp hk
  rw [hD]
  clear hD
  simp [ze, zg] at ha h1' h2'
  (simp [*, F118, zb, ze, zg, zFb, za]) <;> (repeat' (first | ((first | refine sP _ ?_ ?_ | refine gP _ ?_ ?_ | refine sN _ ?_ ?_ | refine gN _ ?_ ?_) <;> intro hc <;> (first | replace hc := eqn hc | replace hc := eqp hc) <;> simp [*, F118, zb, ze, zg, zFb, za]) | ((first | refine sM _ ?_ ?_ | refine gM _ ?_ ?_ | refine sB _ ?_ ?_ | refine gB _ ?_ ?_) <;> intro hc <;> simp [*, F118, zb, ze, zg, zFb, za])))
  all_goals (intros; first | exact hn0 (by assumption) | exact ht0 (by assumption) | exact ⟨ht0 (by assumption), hn0 (by assumption)⟩)
 ·clear hd
  replace hk := eqn hk
  have hD : doR s.kind s.args = true := by unfold doR; simp [hk]
  simp [ze, zg] at ha h1' h2'
  (simp [*, F118, zb, ze, zg, zFb]) <;> (repeat' (first | ((first | refine sP _ ?_ ?_ | refine gP _ ?_ ?_ | refine sN _ ?_ ?_ | refine gN _ ?_ ?_) <;> intro hc <;> (first | replace hc := eqn hc | replace hc := eqp hc) <;> simp [*, F118, zb, ze, zg, zFb]) | ((first | refine sM _ ?_ ?_ | refine gM _ ?_ ?_ | refine sB _ ?_ ?_ | refine gB _ ?_ ?_) <;> intro hc <;> simp [*, F118, zb, ze, zg, zFb])))
  all_goals (intros; first | exact hn0 (by assumption) | exact ht0 (by assumption) | exact ⟨ht0 (by assumption), hn0 (by assumption)⟩)
end PE.U

namespace PE.U
open Go PE
theorem tstmts_spec' : ∀ w (l : List Stmt) (m : Int), wtSs l <= w -> w < 1099508500000 -> m <= 1000000 -> zi E 100 [zg l, .int .i64 m] [] = some (.ret (.bool (zL l m)), [])
 | 0, l, m, h, hw, hm => by
  have hl : l = [] := by
   have := zha l
   exact List.eq_nil_of_length_eq_zero (by omega)
  subst hl
  refine zc rfl rfl rfl (by simp [zg]) ?_
  have hc := zEa [] (fun _ => true) 117 [] [.iptr [.int .i64 m] 0] [] (by simp) (by simp) (by simp)
  simp at hc
  simp [*, F100, zg, zL]
 | w + 1, l, m, h, hw, hm => by
  have hlen := zha l
  refine zc rfl rfl rfl (by simp [zg]) ?_
  have hcl : ∀ x ∈ l, zi E 117 ([] ++ [zE x] ++ [.iptr [.int .i64 m] 0]) [] = some (.ret (.bool (!znb x m)), []) := by
   intro x hx
   have hwx := zLc hx
   have hwe := zOa x
   have ih := tstmt_of x m hm (by omega) (fun m' hm' => tstmts_spec' w x.thn m' (by omega) (by omega) hm') (fun m' hm' => tstmts_spec' w x.els m' (by omega) (by omega) hm')
   rw [zb] at ih
   clear hwe hwx hx h hlen
   refine zc rfl rfl rfl (by simp [zb]) ?_
   simp [ze, zg] at ih
   (simp [*, F117, zb, ze, zg]) <;> (repeat' ((first | refine sP _ ?_ ?_ | refine gP _ ?_ ?_ | refine sN _ ?_ ?_ | refine gN _ ?_ ?_ | refine sM _ ?_ ?_ | refine gM _ ?_ ?_ | refine sB _ ?_ ?_ | refine gB _ ?_ ?_) <;> intro hc <;> simp [*, F117, zb, ze, zg]))
  have hc := zEa l (fun x => !znb x m) 117 [] [.iptr [.int .i64 m] 0] [] (by omega) (by simp) hcl
  have hR : (l.any fun x => !znb x m) = !zL l m := by
   clear hcl hc h hlen
   induction l with
   | nil => rfl
   | cons x r ih => simp [zL, ih]
  rw [hR] at hc
  clear hcl hR
  simp [*, F100, zg]
theorem tstmts_spec (l : List Stmt) (m : Int) (h : wtSs l < 1099508000000) (hm : m <= 1000000) : zi E 100 [zg l, .int .i64 m] [] = some (.ret (.bool (zL l m)), []) := tstmts_spec' (wtSs l) l m (Nat.le_refl _) (by omega) hm
theorem tparam_spec (p : Par) (σ : zf) : zi E 97 [encPar p] σ = some (.ret (.bool (!parR p)), σ) := by
 refine zc rfl rfl rfl (by simp [encPar]) ?_
 have hn := name_spec p.name
 have ht := tisType_spec p.type
 unfold parR
 generalize (decide (p.type = 1) || decide (p.type = 2)) = tt at *
 (simp [*, F97, encPar]) <;> (repeat' ((first | refine sP _ ?_ ?_ | refine gP _ ?_ ?_ | refine sN _ ?_ ?_ | refine gN _ ?_ ?_ | refine sM _ ?_ ?_ | refine gM _ ?_ ?_ | refine sB _ ?_ ?_ | refine gB _ ?_ ?_) <;> intro hc <;> simp [*, F97, encPar]))
theorem tarr_spec (a : PArr) (σ : zf) : zi E 70 [zK a] σ = some (.ret (.bool (!arrR a)), σ) := by
 refine zc rfl rfl rfl (by simp [zK]) ?_
 have hn := name_spec a.name
 unfold arrR
 (simp [*, F70, zK]) <;> (repeat' ((first | refine sP _ ?_ ?_ | refine gP _ ?_ ?_ | refine sN _ ?_ ?_ | refine gN _ ?_ ?_ | refine sM _ ?_ ?_ | refine gM _ ?_ ?_ | refine sB _ ?_ ?_ | refine gB _ ?_ ?_) <;> intro hc <;> simp [*, F70, zK]))
 all_goals (try grind)
theorem tfunc_spec (f : Func) (h : wtSs f.body < 1099508000000 /\ f.params.length < 1099509000000) : zi E 75 [zm f] [] = some (.ret (.bool (zkd f)), []) := by
 refine zc rfl rfl rfl (by simp [zm]) ?_
 have hn := name_spec f.name
 have ht := tisType_spec f.type
 have hc := containsFuncPar f.params (fun p => !parR p) 97 [] [] [] (by omega) (by simp) (fun x _ => by simpa using tparam_spec x [])
 have hs := tstmts_spec f.body 100 h.1 (by omega)
 have hp : (f.params.any fun p => !parR p) = !f.params.all parR := by rw [List.not_all_eq_any_not]
 rw [hp] at hc
 unfold zkd
 have h8 : decide (f.params.length <= 8) = decide ((f.params.length : Int) <= 8) := by rw [decide_eq_decide]; omega
 rw [h8]
 generalize (decide (f.type = 1) || decide (f.type = 2)) = tt at *
 generalize f.params.all parR = pp at *
 clear h hp h8
 simp [zg] at hs hc
 (simp [*, F75, zm, parsV, zg]) <;> (repeat' (first | ((first | refine sP _ ?_ ?_ | refine gP _ ?_ ?_ | refine sN _ ?_ ?_ | refine gN _ ?_ ?_) <;> intro hc <;> (first | replace hc := eqn hc | replace hc := eqp hc) <;> simp [*, F75, zm, parsV, zg]) | ((first | refine sM _ ?_ ?_ | refine gM _ ?_ ?_ | refine sB _ ?_ ?_ | refine gB _ ?_ ?_) <;> intro hc <;> simp [*, F75, zm, parsV, zg])))
theorem tright_spec (p : Prog) (hz : PSz p) : zi E 47 [zd p] [] = some (.ret (.bool (zzb p)), []) := by
 obtain ⟨z1, z2, z3⟩ := hz
 refine zc rfl rfl rfl (by simp [zd]) ?_
 have ha := containsFuncPArr p.arrays (fun a => !arrR a) 70 [] [] [] (by omega) (by simp) (fun x _ => by simpa using tarr_spec x [])
 have hcl : ∀ x ∈ p.funcs, zi E 74 ([] ++ [zm x] ++ []) [] = some (.ret (.bool (!zkd x)), []) := by
  intro x hx
  have := tfunc_spec x (z3 x hx)
  refine zc rfl rfl rfl (by simp [zm]) ?_
  simp [zm, parsV, zg] at this
  clear ha
  (simp [*, F74, zm, parsV, zg]) <;> (repeat' ((first | refine sP _ ?_ ?_ | refine gP _ ?_ ?_ | refine sN _ ?_ ?_ | refine gN _ ?_ ?_ | refine sM _ ?_ ?_ | refine gM _ ?_ ?_ | refine sB _ ?_ ?_ | refine gB _ ?_ ?_) <;> intro hc <;> simp [*, F74, zm, parsV, zg]))
 have hf := containsFuncFunc p.funcs (fun x => !zkd x) 74 [] [] [] (by omega) (by simp) hcl
 have e1 : (p.arrays.any fun p => !arrR p) = !p.arrays.all arrR := by rw [List.not_all_eq_any_not]
 have e2 : (p.funcs.any fun p => !zkd p) = !p.funcs.all zkd := by rw [List.not_all_eq_any_not]
 rw [e1] at ha
 rw [e2] at hf
 unfold zzb
 generalize p.arrays.all arrR = x at *
 generalize p.funcs.all zkd = y at *
 clear e1 e2 hcl z1 z2 z3
 (simp [*, F47, zd, zva, funcs]) <;> (repeat' ((first | refine sP _ ?_ ?_ | refine gP _ ?_ ?_ | refine sN _ ?_ ?_ | refine gN _ ?_ ?_ | refine sM _ ?_ ?_ | refine gM _ ?_ ?_ | refine sB _ ?_ ?_ | refine gB _ ?_ ?_) <;> intro hc <;> simp [*, F47, zd, zva, funcs]))
end PE.U

namespace PE.U
open Go PE
structure Vr where
 name : List UInt8
 type : Int
 depth : Int
def zZa : List Vr -> PV
 | [] => .nilp
 | v :: r => .iptr [.str v.name, .int .i64 v.type, zZa r, .int .i64 v.depth] 0
@[simp] theorem encVs_nil : zZa [] = .nilp := Eq.trans rfl rfl
theorem zbc (v : Vr) (r : List Vr) : zZa (v :: r) = .iptr [.str v.name, .int .i64 v.type, zZa r, .int .i64 v.depth] 0 := Eq.trans rfl rfl
section
variable (l : List Vr)
@[simp high] theorem isVar_vs : zG (zZa l) = true := by cases l <;> rfl
@[simp high] theorem canon1_vs : canon1 (zZa l) = zZa l := by cases l <;> rfl
@[simp high] theorem strip_vs : strip (zZa l) = zZa l := by cases l <;> rfl
@[simp high] theorem stripA_vs : stripA (zZa l) = zZa l := by cases l <;> rfl
@[simp high] theorem cellsOf_vs : cellsOf (zZa l) = [zZa l] := by cases l <;> rfl
@[simp high] theorem avoids_vs (dead : List Nat) : zQc dead (zZa l) = true := by cases l <;> rfl
@[simp high] theorem below_vs (n : Nat) : zI n (zZa l) = true := by
 induction l with
 | nil => rfl
 | cons v r ih => rw [zbc]; simp [ih]
@[simp] theorem vs_ne_nil (ks : List Nat) : zja 3 ks .neq (zZa l) .nilp = some (.bool (!decide (l = []))) := by cases l <;> simp [zbc]
end
def zta (s : List Vr) (nm : List UInt8) : List Vr := s.dropWhile fun v => decide (¬ v.name = nm)
theorem zRa (v : Vr) (r : List Vr) (nm : List UInt8) : zta (v :: r) nm = if v.name = nm then v :: r else zta r nm := by
 unfold zta
 by_cases h : v.name = nm <;> simp [h]
theorem find_spec (s : List Vr) (nm : List UInt8) (σ : zf) : zi E 122 [zZa s, .str nm] σ = some (.ret (zZa (zta s nm)), σ) := by
 refine zc rfl rfl rfl (by simp) ?_
 simp [F122]
 refine zza K122_0 B122_0 (fun c : List Vr => c.length) (fun c => [(0, zZa c)]) (fun c => []) (fun c => σ) (fun c => zta c nm = zta s nm) s (by simp) ?_
 rintro c s1 hc h1 h2 h3 h4 h5
 simp at h1 h3 h5
 clear h2 h4
 cases c with
 | nil =>
  rw [<- hc]
  simp at h3
  clear hc
  simp [*, zta]
 | cons v r =>
  rw [zbc] at h3
  rw [zRa] at hc
  by_cases hn : v.name = nm
  ·rw [if_pos hn] at hc
   rw [<- hc, zbc]
   replace hn := eqp hn
   clear hc
   (simp [*]) <;> (repeat' (first | ((first | refine sP _ ?_ ?_ | refine gP _ ?_ ?_ | refine sN _ ?_ ?_ | refine gN _ ?_ ?_) <;> intro hc <;> (first | replace hc := eqn hc | replace hc := eqp hc) <;> simp [*]) | ((first | refine sM _ ?_ ?_ | refine gM _ ?_ ?_ | refine sB _ ?_ ?_ | refine gB _ ?_ ?_) <;> intro hc <;> simp [*])))
  ·rw [if_neg hn] at hc
   replace hn := eqn hn
   simp [*]
   exact ⟨r, by simp, rfl, hc⟩
theorem with_spec (s : List Vr) (p : Par) (d : Int) (σ : zf) : zi E 78 [zZa s, encPar p, .int .i64 d] σ = some (.ret (zZa (⟨p.name, p.type, d⟩ :: s)), σ) := by
 refine zc rfl rfl rfl (by simp [encPar]) ?_
 simp [F78, encPar, zbc]
def zS (l : List Par) : List Vr := l.foldl (fun s p => ⟨p.name, p.type, 0⟩ :: s) []
theorem scopedV_snoc (l : List Par) (p : Par) : zS (l ++ [p]) = ⟨p.name, p.type, 0⟩ :: zS l := by simp [zS]
theorem scoped_spec (l : List Par) (σ : zf) (hl : l.length < 1099511627776) : zi E 51 [parsV l] σ = some (.ret (zZa (zS l)), σ) := by
 refine zc rfl rfl rfl (by simp [parsV]) ?_
 simp [F51, parsV]
 refine zz l K51_0 B51_0 (fun d => [(2, zZa (zS d)), (7, .int .i64 d.length)]) (fun _ => σ) (fun d => True) (by omega) (by simp [zS]) ?_ ?_
 ·intros d x r s1 hl' hlt hget hget' hw hp h1 h2 h3 h4
  simp at h1 h2 h3
  have hwi := with_spec (zS d) x 0 σ
  simp [encPar] at hwi
  simp [*, encPar, scopedV_snoc]
 ·intros s1 hp h1 h2 h3 h4
  simp at h1 h2 h3
  simp [*]
theorem zTd (ok : Bool) (e : Int) (σ : zf) : zi E 104 [.bool ok, .int .i64 e] σ = some (.ret (.int .i64 (if ok then 0 else e)), σ) := by
 refine zc rfl rfl rfl (by simp) ?_
 (simp [*, F104]) <;> (repeat' ((first | refine sP _ ?_ ?_ | refine gP _ ?_ ?_ | refine sN _ ?_ ?_ | refine gN _ ?_ ?_ | refine sM _ ?_ ?_ | refine gM _ ?_ ?_ | refine sB _ ?_ ?_ | refine gB _ ?_ ?_) <;> intro hc <;> simp [*, F104]))
def takesT (op t : Int) : Int × Bool :=
 if op = 18 \/ op = 19 \/ op = 22 then (2, decide (t = 2))
 else if op = 16 \/ op = 17 then (2, true)
 else if op = 12 \/ op = 13 \/ op = 14 \/ op = 15 then (2, decide (t = 1))
 else (1, decide (t = 1))
set_option maxHeartbeats 1000000 in
theorem takes_spec (op t : Int) (σ : zf) : zi E 132 [.int .i64 op, .int .i64 t] σ = some (.ret (.tup [.int .i64 (takesT op t).1, .bool (takesT op t).2]), σ) := by
 refine zc rfl rfl rfl (by simp) ?_
 unfold takesT
 (simp [*, F132]) <;> (repeat' (first | ((first | refine sP _ ?_ ?_ | refine gP _ ?_ ?_ | refine sN _ ?_ ?_ | refine gN _ ?_ ?_) <;> intro hc <;> (first | replace hc := eqn hc | replace hc := eqp hc) <;> simp [*, F132]) | ((first | refine sM _ ?_ ?_ | refine gM _ ?_ ?_ | refine sB _ ?_ ?_ | refine gB _ ?_ ?_) <;> intro hc <;> simp [*, F132])))
theorem zid {α : Type} (p : α -> Bool) (l : List α) : (idx p l = -1 /\ l.find? p = none) \/ ∃ (n : Nat) (f : α), idx p l = n /\ l[n]? = some f /\ l.find? p = some f /\ n < l.length /\ p f = true := by
 induction l with
 | nil => left; exact ⟨rfl, rfl⟩
 | cons x r ih =>
  cases hx : p x
  ·rcases ih with ⟨h1, h2⟩ | ⟨n, f, h1, h2, h3, h4, h5⟩
   ·left
    refine ⟨?_, by simp [hx, h2]⟩
    refine zBd fun y hy => ?_
    rcases List.mem_cons.1 hy with rfl | hy
    ·exact hx
    ·have := List.find?_eq_none.1 h2 y hy; simpa using this
   ·right
    refine ⟨n + 1, f, ?_, by simpa using h2, by simp [hx, h3], by simp; omega, h5⟩
    have : (x :: r).findIdx? p = (r.findIdx? p).map (· + 1) := by simp [List.findIdx?_cons, hx]
    unfold idx at h1 ⊢
    rw [this]
    cases h : r.findIdx? p with
    | none => rw [h] at h1; simp at h1 <;> omega
    | some i => rw [h] at h1; simp at h1 ⊢ <;> omega
  ·right
   refine ⟨0, x, ?_, rfl, by simp [hx], by simp, hx⟩
   unfold idx
   simp [List.findIdx?_cons, hx]
def zwa (p : Prog) (nm : List UInt8) : Int := idx (fun f : Func => decide (f.name = nm)) p.funcs
def zlb (p : Prog) (nm : List UInt8) : Int := idx (fun f : PArr => decide (f.name = nm)) p.arrays
theorem place_spec (p : Prog) (nm : List UInt8) (σ : zf) (hl : p.funcs.length < 1099511627776) : zi E 76 [zd p, .str nm] σ = some (.ret (.int .i64 (zwa p nm)), σ) := by
 refine zc rfl rfl rfl (by simp [zd]) ?_
 have hcl : ∀ x ∈ p.funcs, zi E 101 ([] ++ [zm x] ++ [.iptr [.str nm] 0]) σ = some (.ret (.bool (decide (x.name = nm))), σ) := by
  intro x hx
  refine zc rfl rfl rfl (by simp [zm]) ?_
  simp [F101, zm]
 have h := indexFuncFunc p.funcs _ 101 [] [.iptr [.str nm] 0] σ hl hcl
 clear hcl
 simp [*, F76, zd, zva, funcs, zwa]
theorem array_spec (p : Prog) (nm : List UInt8) (σ : zf) (hl : p.arrays.length < 1099511627776) : zi E 123 [zd p, .str nm] σ = some (.ret (.int .i64 (zlb p nm)), σ) := by
 refine zc rfl rfl rfl (by simp [zd]) ?_
 have hcl : ∀ x ∈ p.arrays, zi E 135 ([] ++ [zK x] ++ [.iptr [.str nm] 0]) σ = some (.ret (.bool (decide (x.name = nm))), σ) := by
  intro x hx
  refine zc rfl rfl rfl (by simp [zK]) ?_
  simp [F135, zK]
 have h := indexFuncPArr p.arrays _ 135 [] [.iptr [.str nm] 0] σ hl hcl
 clear hcl
 simp [*, F123, zd, zva, funcs, zlb]
end PE.U
