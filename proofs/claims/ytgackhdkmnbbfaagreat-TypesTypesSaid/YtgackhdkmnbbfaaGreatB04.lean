/-
  Texts joined by program: AZU1b, AZP1, AZT1, AZP2, AZP3, AZP4, AZP5, AZP6, AZT0r, AZP7, AZP8, AZP9, AZP10, AZP11, AZP12, AZP13, AZP14, AZP15, AZP16, AZP17, AZP18, AZP19, AZP20, AZT2, AZT3, AZT4, AZT5.
-/
import Derived.Test.YtgackhdkmnbbfaaGreatB03
import Derived.Laws.RangeAny
import Derived.Laws.RangeString
set_option linter.unusedVariables false
set_option linter.unusedSectionVars false
set_option linter.unusedSimpArgs false
/-
  Names: a run of letters and digits.
-/
namespace PE.U
open Go PE

def nameByte (b : UInt8) : Bool := letterN b.toNat || digitN b.toNat
def runM (s : List UInt8) : List UInt8 := s.takeWhile nameByte
def nameM (s : List UInt8) : Bool := decide (s ≠ []) && (letterN ((s.head?.getD 0).toNat) && (s.all nameByte && (decide (s.length ≤ 20) && !wordM s)))

theorem nameByte_high {b : UInt8} (h : 128 ≤ b.toNat) : nameByte b = false := by
  simp [nameByte, letterN, digitN]; omega
theorem high_not {c : Nat} (h : 128 ≤ c) : letterN c = false ∧ digitN c = false := by
  simp [letterN, digitN]; omega

theorem takeWhile_self {p : UInt8 → Bool} : ∀ {s : List UInt8}, s.takeWhile p = s ↔ s.all p = true
  | [] => by simp
  | b :: r => by
    rw [List.takeWhile_cons]
    cases h : p b
    · simp [h]
    · simp [h, takeWhile_self (s := r)]

theorem run_spec (s : List UInt8) (σ : Store) : pcall E 73 [.str s] σ = some (.ret (.str (runM s)), σ) := by
  refine pcall_wp rfl rfl rfl (by simp) ?_
  simp [F73]
  refine wp_while K73_0 B73_0 (fun d => s.length - d) (fun d => []) (fun d => [(6, .iter s d)]) (fun _ => σ) (fun d => d ≤ s.length ∧ (s.take d).all nameByte = true) 0 (by simp) ?_
  rintro d s1 ⟨hd, ha⟩ h1 h2 h3 h4 h5
  simp at h4
  by_cases hlt : d < s.length
  · have hs : d < (⟨s.toArray⟩ : ByteArray).size := by show d < s.toArray.size; simpa using hlt
    have hget : (⟨s.toArray⟩ : ByteArray)[d]'hs = s[d] := rfl
    have htk : s.take (d + 1) = s.take d ++ [s[d]] := by simp
    by_cases hb : s[d].toNat < 128
    · have hdec := decode_ascii ⟨s.toArray⟩ d hs (by rw [hget]; exact hb)
      rw [hget] at hdec
      cases hn : nameByte s[d]
      · have e : runM s = s.take d := by
          have : s = s.take d ++ (s[d] :: s.drop (d + 1)) := by simp
          unfold runM
          rw [this, List.takeWhile_append_of_pos (by simpa using ha), List.takeWhile_cons, hn]
          simp
        have hn2 := hn
        simp only [nameByte, Bool.or_eq_false_iff] at hn2
        have hmin : min d s.length = d := by omega
        simp [*, letter_spec, digit_spec]
      · have hn2 := hn
        simp only [nameByte, Bool.or_eq_true] at hn2
        cases hl : letterN s[d].toNat
        · rw [hl] at hn2
          simp at hn2
          simp [*, letter_spec, digit_spec]
          exact ⟨d + 1, by omega, rfl, by omega, by rw [← List.all_eq_true, htk, List.all_append, ha]; simp [hn]⟩
        · simp [*, letter_spec, digit_spec]
          exact ⟨d + 1, by omega, rfl, by omega, by rw [← List.all_eq_true, htk, List.all_append, ha]; simp [hn]⟩
    · obtain ⟨hd1, hd2⟩ := decode_high ⟨s.toArray⟩ d hs (by rw [hget]; omega)
      obtain ⟨q1, q2⟩ := high_not hd1
      have e : runM s = s.take d := by
        have : s = s.take d ++ (s[d] :: s.drop (d + 1)) := by simp
        unfold runM
        rw [this, List.takeWhile_append_of_pos (by simpa using ha), List.takeWhile_cons, nameByte_high (by omega)]
        simp
      simp [*, letter_spec, digit_spec]
  · have hd' : d = s.length := by omega
    subst hd'
    simp at ha
    have e : runM s = s := by
      unfold runM
      exact takeWhile_self.2 (by simpa using ha)
    simp [*]

theorem name_spec (s : List UInt8) (σ : Store) : pcall E 54 [.str s] σ = some (.ret (.bool (nameM s)), σ) := by
  refine pcall_wp rfl rfl rfl (by simp) ?_
  have hr : decide (runM s = s) = s.all nameByte := by
    unfold runM
    simp only [takeWhile_self, Bool.decide_eq_true]
  by_cases hne : s = []
  · subst hne; simp [F54, nameM]
  obtain ⟨b, r, hs⟩ := List.exists_cons_of_ne_nil hne
  have hb : s[0]? = some b := by rw [hs]; rfl
  have hd : s.head? = some b := by rw [hs]; rfl
  clear hs
  generalize ha : s.all nameByte = A at hr
  (simp [*, F54, nameM, letter_spec, run_spec, word_spec]) <;> (repeat' ((first | refine sP _ ?_ ?_ | refine gP _ ?_ ?_ | refine sN _ ?_ ?_ | refine gN _ ?_ ?_ | refine sM _ ?_ ?_ | refine gM _ ?_ ?_ | refine sB _ ?_ ?_ | refine gB _ ?_ ?_) <;> intro hc <;> simp [*, F54, nameM, letter_spec, run_spec, word_spec]))
  all_goals (try grind)

theorem rname_spec (s : List UInt8) (σ : Store) : pcall E 37 [.str s] σ = some (.ret (.bool (nameM s)), σ) := by
  refine pcall_wp rfl rfl rfl (by simp) ?_
  by_cases hne : s = []
  · subst hne; simp [F37, nameM]
  obtain ⟨b, r, hs⟩ := List.exists_cons_of_ne_nil hne
  have hb : s[0]? = some b := by rw [hs]; rfl
  have hd : s.head? = some b := by rw [hs]; rfl
  clear hs
  (simp [*, F37, nameM, rletter_spec, rword_spec]) <;> (repeat' ((first | refine sP _ ?_ ?_ | refine gP _ ?_ ?_ | refine sN _ ?_ ?_ | refine gN _ ?_ ?_ | refine sM _ ?_ ?_ | refine gM _ ?_ ?_ | refine sB _ ?_ ?_ | refine gB _ ?_ ?_) <;> intro hc <;> simp [*, F37, nameM, rletter_spec, rword_spec]))
  all_goals first | refine wp_each s K37_0 B37_0 (fun d => [(3, .int .i64 d.length)]) (fun _ => σ) (fun d => d.all nameByte = true) (by omega) (by simp) ?_ ?_ | grind
  · intros d x r' s hl' hlt hget hget' hw hp h1 h2 h3 h4
    simp at h1 h3
    have hx := hl'.mem
    clear h2
    (simp [*, rletter_spec, rdigit_spec]) <;> (repeat' ((first | refine sP _ ?_ ?_ | refine gP _ ?_ ?_ | refine sN _ ?_ ?_ | refine gN _ ?_ ?_ | refine sM _ ?_ ?_ | refine gM _ ?_ ?_ | refine sB _ ?_ ?_ | refine gB _ ?_ ?_) <;> intro hc <;> simp [*, rletter_spec, rdigit_spec]))
    all_goals grind [nameByte]
  · intros s hp h1 h2 h3 h4
    simp at h1 h3
    (simp [*]) <;> (repeat' ((first | refine sP _ ?_ ?_ | refine gP _ ?_ ?_ | refine sN _ ?_ ?_ | refine gN _ ?_ ?_ | refine sM _ ?_ ?_ | refine gM _ ?_ ?_ | refine sB _ ?_ ?_ | refine gB _ ?_ ?_) <;> intro hc <;> simp [*]))
    all_goals (try grind)
end PE.U

/-
  The document's tokens: numbers, signs.
-/
namespace PE.U
open Go PE

def valGo : Int → List UInt8 → Option Int
  | n, [] => some n
  | n, b :: r => if (9223372036854775807 - ((b.toNat : Int) - 48)) / 10 < n then none else valGo (n * 10 + ((b.toNat : Int) - 48)) r
def valueM (s : List UInt8) : Int := match valGo 0 s with
  | none => -1
  | some n => if s = [] ∨ (1 < s.length ∧ s.head? = some 48) then -1 else n
def digs (s : List UInt8) : Bool := s.all fun b => digitN b.toNat

theorem valGo_append : ∀ (a b : List UInt8) (n : Int), valGo n (a ++ b) = (valGo n a).bind fun m => valGo m b
  | [], b, n => by simp [valGo]
  | x :: a, b, n => by
    simp only [List.cons_append, valGo]
    split
    · simp
    · exact valGo_append a b _
theorem valGo_range : ∀ (s : List UInt8) (n m : Int), digs s = true → 0 ≤ n → n ≤ 9223372036854775807 → valGo n s = some m → 0 ≤ m ∧ m ≤ 9223372036854775807
  | [], n, m, _, h0, h1, h => by simp [valGo] at h; omega
  | b :: r, n, m, hd, h0, h1, h => by
    simp only [valGo] at h
    simp only [digs, List.all_cons, Bool.and_eq_true] at hd
    split at h
    · cases h
    · rename_i hc
      have : 48 ≤ (b.toNat : Int) ∧ (b.toNat : Int) ≤ 57 := by simpa [digitN] using hd.1
      exact valGo_range r _ m hd.2 (by omega) (by omega) h

theorem value_spec' (s : List UInt8) (σ : Store) (hs : digs s = true) (hl : s.length < 1099511627776) : pcall E 44 [.str s] σ = some (.ret (.int .i64 (valueM s)), σ) := by
  refine pcall_wp rfl rfl rfl (by simp) ?_
  simp [F44]
  refine wp_each s K44_0 B44_0 (fun d => [(4, .int .i64 d.length), (3, .int .i64 ((valGo 0 d).getD 0))]) (fun _ => σ) (fun d => (valGo 0 d).isSome = true) (by omega) (by simp [valGo]) ?_ ?_
  · intros d x r s1 hl' hlt hget hget' hw hp h1 h2 h3 h4
    simp at h1 h3
    obtain ⟨n, hn⟩ := Option.isSome_iff_exists.1 hp
    have hdd : digs d = true := by
      have := hl'.eq
      rw [this] at hs; simp only [digs, List.all_append, Bool.and_eq_true] at hs; exact hs.1
    have hdx : digitN x.toNat = true := by
      have := hl'.eq
      rw [this] at hs; simp only [digs, List.all_append, List.all_cons, Bool.and_eq_true] at hs; exact hs.2.1
    have hx : 48 ≤ (x.toNat : Int) ∧ (x.toNat : Int) ≤ 57 := by simpa [digitN] using hdx
    obtain ⟨n0, n1⟩ := valGo_range d 0 n hdd (by omega) (by omega) hn
    have w1 : wrapK .i64 ((x.toNat : Int) - 48) = (x.toNat : Int) - 48 := wrapK_small (by omega) (by omega)
    have w2 : wrapK .i64 (9223372036854775807 - ((x.toNat : Int) - 48)) = 9223372036854775807 - ((x.toNat : Int) - 48) := wrapK_small (by omega) (by omega)
    have w3 : (9223372036854775807 - ((x.toNat : Int) - 48)).tdiv 10 = (9223372036854775807 - ((x.toNat : Int) - 48)) / 10 := Int.tdiv_eq_ediv_of_nonneg (by omega)
    have w4 : wrapK .i64 ((9223372036854775807 - ((x.toNat : Int) - 48)) / 10) = (9223372036854775807 - ((x.toNat : Int) - 48)) / 10 := wrapK_small (by omega) (by omega)
    have e1 : valGo 0 (d ++ [x]) = if (9223372036854775807 - ((x.toNat : Int) - 48)) / 10 < n then none else some (n * 10 + ((x.toNat : Int) - 48)) := by
      rw [valGo_append, hn]; simp only [Option.bind_some, valGo]
    rw [hn] at h3
    simp at h3
    clear h2 hp hs
    by_cases hc : (9223372036854775807 - ((x.toNat : Int) - 48)) / 10 < n
    · have hv : valueM s = -1 := by
        unfold valueM
        have : valGo 0 s = none := by
          rw [hl'.eq, show d ++ x :: r = (d ++ [x]) ++ r by simp, valGo_append, e1, if_pos hc]; rfl
        rw [this]
      rw [if_pos hc] at e1
      (simp [*]) <;> (repeat' (first | ((first | refine sP _ ?_ ?_ | refine gP _ ?_ ?_ | refine sN _ ?_ ?_ | refine gN _ ?_ ?_) <;> intro hc <;> (first | replace hc := eqn hc | replace hc := eqp hc) <;> simp [*]) | ((first | refine sM _ ?_ ?_ | refine gM _ ?_ ?_ | refine sB _ ?_ ?_ | refine gB _ ?_ ?_) <;> intro hc <;> simp [*])))
    · rw [if_neg hc] at e1
      have w5 : wrapK .i64 (n * 10) = n * 10 := wrapK_small (by omega) (by omega)
      have w6 : wrapK .i64 (n * 10 + ((x.toNat : Int) - 48)) = n * 10 + ((x.toNat : Int) - 48) := wrapK_small (by omega) (by omega)
      (simp [*]) <;> (repeat' (first | ((first | refine sP _ ?_ ?_ | refine gP _ ?_ ?_ | refine sN _ ?_ ?_ | refine gN _ ?_ ?_) <;> intro hc <;> (first | replace hc := eqn hc | replace hc := eqp hc) <;> simp [*]) | ((first | refine sM _ ?_ ?_ | refine gM _ ?_ ?_ | refine sB _ ?_ ?_ | refine gB _ ?_ ?_) <;> intro hc <;> simp [*])))
  · intros s1 hp h1 h2 h3 h4
    simp at h1 h3
    obtain ⟨n, hn⟩ := Option.isSome_iff_exists.1 hp
    have hv : valueM s = if s = [] ∨ (1 < s.length ∧ s.head? = some 48) then -1 else n := by unfold valueM; rw [hn]
    rw [hn] at h3
    simp at h3
    clear h2 hp hs hn
    by_cases he : s = []
    · subst he; (simp [*]) <;> (repeat' (first | ((first | refine sP _ ?_ ?_ | refine gP _ ?_ ?_ | refine sN _ ?_ ?_ | refine gN _ ?_ ?_) <;> intro hc <;> (first | replace hc := eqn hc | replace hc := eqp hc) <;> simp [*]) | ((first | refine sM _ ?_ ?_ | refine gM _ ?_ ?_ | refine sB _ ?_ ?_ | refine gB _ ?_ ?_) <;> intro hc <;> simp [*])))
    · obtain ⟨b, r, rfl⟩ := List.exists_cons_of_ne_nil he
      simp at hv
      have hbb : ((b.toNat : Int) = 48) = (b = 48) := by
        apply propext
        constructor
        · intro h; apply UInt8.toNat_inj.1; simpa using (by omega : b.toNat = 48)
        · rintro rfl; rfl
      by_cases h1l : 0 < r.length
      · have h1l' : (1 : Int) < (r.length : Int) + 1 := by omega
        by_cases hb : b = 48
        · subst hb; (simp [*]) <;> (repeat' (first | ((first | refine sP _ ?_ ?_ | refine gP _ ?_ ?_ | refine sN _ ?_ ?_ | refine gN _ ?_ ?_) <;> intro hc <;> (first | replace hc := eqn hc | replace hc := eqp hc) <;> simp [*]) | ((first | refine sM _ ?_ ?_ | refine gM _ ?_ ?_ | refine sB _ ?_ ?_ | refine gB _ ?_ ?_) <;> intro hc <;> simp [*])))
        · (simp [*]) <;> (repeat' (first | ((first | refine sP _ ?_ ?_ | refine gP _ ?_ ?_ | refine sN _ ?_ ?_ | refine gN _ ?_ ?_) <;> intro hc <;> (first | replace hc := eqn hc | replace hc := eqp hc) <;> simp [*]) | ((first | refine sM _ ?_ ?_ | refine gM _ ?_ ?_ | refine sB _ ?_ ?_ | refine gB _ ?_ ?_) <;> intro hc <;> simp [*])))
      · have h1l' : ¬ (1 : Int) < (r.length : Int) + 1 := by omega
        (simp [*]) <;> (repeat' (first | ((first | refine sP _ ?_ ?_ | refine gP _ ?_ ?_ | refine sN _ ?_ ?_ | refine gN _ ?_ ?_) <;> intro hc <;> (first | replace hc := eqn hc | replace hc := eqp hc) <;> simp [*]) | ((first | refine sM _ ?_ ?_ | refine gM _ ?_ ?_ | refine sB _ ?_ ?_ | refine gB _ ?_ ?_) <;> intro hc <;> simp [*])))

def numberM (s : List UInt8) : Bool := digs s && decide (0 ≤ valueM s)
theorem number_spec (s : List UInt8) (hl : s.length < 1099511627776) : pcall E 38 [.str s] [] = some (.ret (.bool (numberM s)), []) := by
  refine pcall_wp rfl rfl rfl (by simp) ?_
  simp [F38]
  refine wp_each s K38_0 B38_0 (fun d => [(3, .int .i64 d.length)]) (fun _ => []) (fun d => digs d = true) (by omega) (by simp [digs]) ?_ ?_
  · intros d x r s1 hl' hlt hget hget' hw hp h1 h2 h3 h4
    simp at h1 h3
    clear h2
    have hd := rdigit_spec x.toNat []
    have hn : digitN x.toNat = false → numberM s = false := fun h => by
      unfold numberM digs
      rw [hl'.eq]; simp [h]
    have hdd : digs (d ++ [x]) = digitN x.toNat := by simp only [digs] at hp ⊢; rw [List.all_append, hp]; simp
    cases hx : digitN x.toNat
    · have hn := hn hx
      rw [hx] at hdd
      (simp [*]) <;> (repeat' (first | ((first | refine sP _ ?_ ?_ | refine gP _ ?_ ?_ | refine sN _ ?_ ?_ | refine gN _ ?_ ?_) <;> intro hc <;> (first | replace hc := eqn hc | replace hc := eqp hc) <;> simp [*]) | ((first | refine sM _ ?_ ?_ | refine gM _ ?_ ?_ | refine sB _ ?_ ?_ | refine gB _ ?_ ?_) <;> intro hc <;> simp [*])))
    · clear hn
      rw [hx] at hdd
      (simp [*]) <;> (repeat' (first | ((first | refine sP _ ?_ ?_ | refine gP _ ?_ ?_ | refine sN _ ?_ ?_ | refine gN _ ?_ ?_) <;> intro hc <;> (first | replace hc := eqn hc | replace hc := eqp hc) <;> simp [*]) | ((first | refine sM _ ?_ ?_ | refine gM _ ?_ ?_ | refine sB _ ?_ ?_ | refine gB _ ?_ ?_) <;> intro hc <;> simp [*])))
  · intros s1 hp h1 h2 h3 h4
    simp at h1 h3
    have hv := value_spec' s [] hp hl
    have hn : numberM s = decide (0 ≤ valueM s) := by unfold numberM; rw [hp]; rfl
    clear h2 hp
    (simp [*]) <;> (repeat' (first | ((first | refine sP _ ?_ ?_ | refine gP _ ?_ ?_ | refine sN _ ?_ ?_ | refine gN _ ?_ ?_) <;> intro hc <;> (first | replace hc := eqn hc | replace hc := eqp hc) <;> simp [*]) | ((first | refine sM _ ?_ ?_ | refine gM _ ?_ ?_ | refine sB _ ?_ ?_ | refine gB _ ?_ ?_) <;> intro hc <;> simp [*])))

def signsL : List (List UInt8) := [[62, 62, 62], [60, 60], [62, 62], [60, 61], [62, 61], [61, 61], [33, 61], [38, 38], [124, 124], [40], [41], [123], [125], [91], [93], [44], [59], [61], [60], [62], [43], [45], [42], [47], [37], [38], [124], [94], [126], [33]]
def signM (s : List UInt8) : List UInt8 := (signsL.find? fun x => x.isPrefixOf s).getD []

theorem prefix_take (x s : List UInt8) : x.isPrefixOf s = (decide (x.length ≤ s.length) && decide (s.take x.length = x)) := by
  rw [Bool.eq_iff_iff]
  simp only [List.isPrefixOf_iff_prefix, Bool.and_eq_true, decide_eq_true_eq]
  constructor
  · intro h; exact ⟨h.length_le, (List.prefix_iff_eq_take.1 h).symm⟩
  · rintro ⟨_, h⟩; rw [← h]; exact List.take_prefix _ _

theorem sign_spec (s : List UInt8) (hl : s.length < 1099511627776) : pcall E 39 [.str s] [] = some (.ret (.str (signM s)), []) := by
  refine pcall_wp rfl rfl rfl (by simp) ?_
  simp [F39]
  refine wp_each signsL K39_0 B39_0 (fun d => [(4, .int .i64 d.length)]) (fun _ => []) (fun d => ∀ x ∈ d, x.isPrefixOf s = false) (by decide) (by simp) ?_ ?_
  · intros d x r s1 hl' hlt hget hget' hw hp h1 h2 h3 h4
    have hl3 : [PV.str [62, 62, 62], PV.str [60, 60], PV.str [62, 62], PV.str [60, 61], PV.str [62, 61], PV.str [61, 61], PV.str [33, 61], PV.str [38, 38], PV.str [124, 124], PV.str [40], PV.str [41], PV.str [123], PV.str [125], PV.str [91], PV.str [93], PV.str [44], PV.str [59], PV.str [61], PV.str [60], PV.str [62], PV.str [43], PV.str [45], PV.str [42], PV.str [47], PV.str [37], PV.str [38], PV.str [124], PV.str [94], PV.str [126], PV.str [33]] = signsL.map PV.str := rfl
    simp [hl3] at h1 h3
    clear h2
    have hlen : d.length < 30 := hlt
    have hl30 : (signsL.map PV.str).length = 30 := rfl
    have hpre := prefix_take x s
    have hxl : x.length ≤ 3 := by
      have : ∀ y ∈ signsL, y.length ≤ 3 := by decide
      exact this x hl'.mem
    have hf : x.isPrefixOf s = true → signM s = x := by
      intro h
      unfold signM
      rw [hl'.eq, List.find?_append]
      have : d.find? (fun x => x.isPrefixOf s) = none := by rw [List.find?_eq_none]; intro y hy; simp [hp y hy]
      rw [this]
      simp [List.find?_cons, h]
    cases hx : x.isPrefixOf s
    · rw [hx] at hpre
      by_cases hle : x.length ≤ s.length
      · have hne : ¬ s.take x.length = x := by
          intro h; simp [hle, h] at hpre
        clear hf hpre hl3
        (simp [*]) <;> (repeat' (first | ((first | refine sP _ ?_ ?_ | refine gP _ ?_ ?_ | refine sN _ ?_ ?_ | refine gN _ ?_ ?_) <;> intro hc <;> (first | replace hc := eqn hc | replace hc := eqp hc) <;> simp [*]) | ((first | refine sM _ ?_ ?_ | refine gM _ ?_ ?_ | refine sB _ ?_ ?_ | refine gB _ ?_ ?_) <;> intro hc <;> simp [*])))
        all_goals (try refine ⟨rfl, ?_⟩)
        all_goals (try grind)
      · clear hf hpre hl3
        (simp [*]) <;> (repeat' (first | ((first | refine sP _ ?_ ?_ | refine gP _ ?_ ?_ | refine sN _ ?_ ?_ | refine gN _ ?_ ?_) <;> intro hc <;> (first | replace hc := eqn hc | replace hc := eqp hc) <;> simp [*]) | ((first | refine sM _ ?_ ?_ | refine gM _ ?_ ?_ | refine sB _ ?_ ?_ | refine gB _ ?_ ?_) <;> intro hc <;> simp [*])))
        all_goals (try refine ⟨rfl, ?_⟩)
        all_goals (try grind)
    · rw [hx] at hpre
      have hf := hf hx
      have hpre' := hpre.symm
      simp only [Bool.and_eq_true, decide_eq_true_eq] at hpre'
      obtain ⟨p1, p2⟩ := hpre'
      clear hl3 hpre
      (simp [*]) <;> (repeat' (first | ((first | refine sP _ ?_ ?_ | refine gP _ ?_ ?_ | refine sN _ ?_ ?_ | refine gN _ ?_ ?_) <;> intro hc <;> (first | replace hc := eqn hc | replace hc := eqp hc) <;> simp [*]) | ((first | refine sM _ ?_ ?_ | refine gM _ ?_ ?_ | refine sB _ ?_ ?_ | refine gB _ ?_ ?_) <;> intro hc <;> simp [*])))
      all_goals (try grind)
  · intros s1 hp h1 h2 h3 h4
    have hl3 : [PV.str [62, 62, 62], PV.str [60, 60], PV.str [62, 62], PV.str [60, 61], PV.str [62, 61], PV.str [61, 61], PV.str [33, 61], PV.str [38, 38], PV.str [124, 124], PV.str [40], PV.str [41], PV.str [123], PV.str [125], PV.str [91], PV.str [93], PV.str [44], PV.str [59], PV.str [61], PV.str [60], PV.str [62], PV.str [43], PV.str [45], PV.str [42], PV.str [47], PV.str [37], PV.str [38], PV.str [124], PV.str [94], PV.str [126], PV.str [33]] = signsL.map PV.str := rfl
    simp [hl3] at h1 h3
    have hf : signM s = [] := by
      unfold signM
      have : signsL.find? (fun x => x.isPrefixOf s) = none := by rw [List.find?_eq_none]; intro y hy; simp [hp y hy]
      rw [this]; rfl
    have hl30 : (signsL.map PV.str).length = 30 := rfl
    have hl30' : (signsL.length : Int) = 30 := rfl
    clear h2 hp hl3
    (simp [*]) <;> (repeat' (first | ((first | refine sP _ ?_ ?_ | refine gP _ ?_ ?_ | refine sN _ ?_ ?_ | refine gN _ ?_ ?_) <;> intro hc <;> (first | replace hc := eqn hc | replace hc := eqp hc) <;> simp [*]) | ((first | refine sM _ ?_ ?_ | refine gM _ ?_ ?_ | refine sB _ ?_ ?_ | refine gB _ ?_ ?_) <;> intro hc <;> simp [*])))

end PE.U

/-
  What the functions come to: the first of a list, for programs.
-/
namespace PE.U
open Go PE

def idx {α : Type} (p : α → Bool) (l : List α) : Int := match l.findIdx? p with
  | some i => (i : Int)
  | none => -1

theorem idx_hit {α : Type} {p : α → Bool} {l d : List α} {x : α} {r : List α} (h : Split l d x r) (hd : ∀ y ∈ d, p y = false) (hx : p x = true) : idx p l = d.length := by
  have : l.findIdx? p = some d.length := by
    rw [h.eq, List.findIdx?_append]
    have : d.findIdx? p = none := by rw [List.findIdx?_eq_none_iff]; exact hd
    rw [this]
    simp [List.findIdx?_cons, hx]
  simp [idx, this]
theorem idx_none {α : Type} {p : α → Bool} {l : List α} (hd : ∀ y ∈ l, p y = false) : idx p l = -1 := by
  have : l.findIdx? p = none := by rw [List.findIdx?_eq_none_iff]; exact hd
  simp [idx, this]
theorem idx_ge {α : Type} (p : α → Bool) (l : List α) : decide (0 ≤ idx p l) = l.any p := by
  unfold idx
  cases h : l.findIdx? p with
  | none =>
    rw [List.findIdx?_eq_none_iff] at h
    simp; exact h
  | some i =>
    have : (l.findIdx? p).isSome = true := by rw [h]; rfl
    rw [List.findIdx?_isSome] at this
    simp [this]

theorem indexFuncFunc (l : List (Func)) (p : Func → Bool) (k : Nat) (first caps : List PV) (σ : Store) (hl : l.length < 1099511627776) (hf : ∀ x ∈ l, pcall E k (first ++ [encFunc x] ++ caps) σ = some (.ret (.bool (p x)), σ)) :
    pcall E 49 [.slice .plain 4 (l.map (encFunc)), .fn k first caps] σ = some (.ret (.int .i64 (idx p l)), σ) := by
  refine pcall_wp rfl rfl rfl (by simp) ?_
  simp [F49]
  refine wp_each l K49_0 B49_0 (fun d => [(8, .int .i64 d.length)]) (fun _ => σ) (fun d => ∀ y ∈ d, p y = false) (by omega) (by simp) ?_ ?_
  · intros d x r s hl' hlt hget hget' hw hp h1 h2 h3 h4
    have hfx := hf x hl'.mem
    simp [encFunc] at h1 h3 hfx
    clear h2 hf
    cases hx : p x
    · (simp [*, encFunc]) <;> (repeat' ((first | refine sP _ ?_ ?_ | refine gP _ ?_ ?_ | refine sN _ ?_ ?_ | refine gN _ ?_ ?_ | refine sM _ ?_ ?_ | refine gM _ ?_ ?_ | refine sB _ ?_ ?_ | refine gB _ ?_ ?_) <;> intro hc <;> simp [*, encFunc]))
      all_goals grind
    · have := idx_hit hl' hp hx
      (simp [*, encFunc]) <;> (repeat' ((first | refine sP _ ?_ ?_ | refine gP _ ?_ ?_ | refine sN _ ?_ ?_ | refine gN _ ?_ ?_ | refine sM _ ?_ ?_ | refine gM _ ?_ ?_ | refine sB _ ?_ ?_ | refine gB _ ?_ ?_) <;> intro hc <;> simp [*, encFunc]))
  · intros s hp h1 h2 h3 h4
    have := idx_none hp
    simp at h1 h3
    (simp [*, encFunc]) <;> (repeat' ((first | refine sP _ ?_ ?_ | refine gP _ ?_ ?_ | refine sN _ ?_ ?_ | refine gN _ ?_ ?_ | refine sM _ ?_ ?_ | refine gM _ ?_ ?_ | refine sB _ ?_ ?_ | refine gB _ ?_ ?_) <;> intro hc <;> simp [*, encFunc]))

theorem containsFuncFunc (l : List (Func)) (p : Func → Bool) (k : Nat) (first caps : List PV) (σ : Store) (hl : l.length < 1099511627776) (hc : (first.map stripA) = first ∧ (caps.map stripA) = caps) (hf : ∀ x ∈ l, pcall E k (first ++ [encFunc x] ++ caps) σ = some (.ret (.bool (p x)), σ)) :
    pcall E 56 [.slice .plain 4 (l.map (encFunc)), .fn k first caps] σ = some (.ret (.bool (l.any p)), σ) := by
  refine pcall_wp rfl rfl rfl (by simp) ?_
  have h := indexFuncFunc l p k first caps σ hl hf
  have h2 := idx_ge p l
  clear hf
  (simp [*, F56]) <;> (repeat' ((first | refine sP _ ?_ ?_ | refine gP _ ?_ ?_ | refine sN _ ?_ ?_ | refine gN _ ?_ ?_ | refine sM _ ?_ ?_ | refine gM _ ?_ ?_ | refine sB _ ?_ ?_ | refine gB _ ?_ ?_) <;> intro hc <;> simp [*, F56]))

theorem indexFuncPArr (l : List (PArr)) (p : PArr → Bool) (k : Nat) (first caps : List PV) (σ : Store) (hl : l.length < 1099511627776) (hf : ∀ x ∈ l, pcall E k (first ++ [encPArr x] ++ caps) σ = some (.ret (.bool (p x)), σ)) :
    pcall E 51 [.slice .plain 2 (l.map (encPArr)), .fn k first caps] σ = some (.ret (.int .i64 (idx p l)), σ) := by
  refine pcall_wp rfl rfl rfl (by simp) ?_
  simp [F51]
  refine wp_each l K51_0 B51_0 (fun d => [(8, .int .i64 d.length)]) (fun _ => σ) (fun d => ∀ y ∈ d, p y = false) (by omega) (by simp) ?_ ?_
  · intros d x r s hl' hlt hget hget' hw hp h1 h2 h3 h4
    have hfx := hf x hl'.mem
    simp [encPArr] at h1 h3 hfx
    clear h2 hf
    cases hx : p x
    · (simp [*, encPArr]) <;> (repeat' ((first | refine sP _ ?_ ?_ | refine gP _ ?_ ?_ | refine sN _ ?_ ?_ | refine gN _ ?_ ?_ | refine sM _ ?_ ?_ | refine gM _ ?_ ?_ | refine sB _ ?_ ?_ | refine gB _ ?_ ?_) <;> intro hc <;> simp [*, encPArr]))
      all_goals grind
    · have := idx_hit hl' hp hx
      (simp [*, encPArr]) <;> (repeat' ((first | refine sP _ ?_ ?_ | refine gP _ ?_ ?_ | refine sN _ ?_ ?_ | refine gN _ ?_ ?_ | refine sM _ ?_ ?_ | refine gM _ ?_ ?_ | refine sB _ ?_ ?_ | refine gB _ ?_ ?_) <;> intro hc <;> simp [*, encPArr]))
  · intros s hp h1 h2 h3 h4
    have := idx_none hp
    simp at h1 h3
    (simp [*, encPArr]) <;> (repeat' ((first | refine sP _ ?_ ?_ | refine gP _ ?_ ?_ | refine sN _ ?_ ?_ | refine gN _ ?_ ?_ | refine sM _ ?_ ?_ | refine gM _ ?_ ?_ | refine sB _ ?_ ?_ | refine gB _ ?_ ?_) <;> intro hc <;> simp [*, encPArr]))

theorem containsFuncPArr (l : List (PArr)) (p : PArr → Bool) (k : Nat) (first caps : List PV) (σ : Store) (hl : l.length < 1099511627776) (hc : (first.map stripA) = first ∧ (caps.map stripA) = caps) (hf : ∀ x ∈ l, pcall E k (first ++ [encPArr x] ++ caps) σ = some (.ret (.bool (p x)), σ)) :
    pcall E 55 [.slice .plain 2 (l.map (encPArr)), .fn k first caps] σ = some (.ret (.bool (l.any p)), σ) := by
  refine pcall_wp rfl rfl rfl (by simp) ?_
  have h := indexFuncPArr l p k first caps σ hl hf
  have h2 := idx_ge p l
  clear hf
  (simp [*, F55]) <;> (repeat' ((first | refine sP _ ?_ ?_ | refine gP _ ?_ ?_ | refine sN _ ?_ ?_ | refine gN _ ?_ ?_ | refine sM _ ?_ ?_ | refine gM _ ?_ ?_ | refine sB _ ?_ ?_ | refine gB _ ?_ ?_) <;> intro hc <;> simp [*, F55]))

theorem indexFuncExpr (l : List (Expr)) (p : Expr → Bool) (k : Nat) (first caps : List PV) (σ : Store) (hl : l.length < 1099511627776) (hf : ∀ x ∈ l, pcall E k (first ++ [encExpr x] ++ caps) σ = some (.ret (.bool (p x)), σ)) :
    pcall E 107 [.slice .plain 5 (l.map (encExpr)), .fn k first caps] σ = some (.ret (.int .i64 (idx p l)), σ) := by
  refine pcall_wp rfl rfl rfl (by simp) ?_
  simp [F107]
  refine wp_each l K107_0 B107_0 (fun d => [(8, .int .i64 d.length)]) (fun _ => σ) (fun d => ∀ y ∈ d, p y = false) (by omega) (by simp) ?_ ?_
  · intros d x r s hl' hlt hget hget' hw hp h1 h2 h3 h4
    have hfx := hf x hl'.mem
    simp [encExpr_eq] at h1 h3 hfx
    clear h2 hf
    cases hx : p x
    · (simp [*, encExpr_eq]) <;> (repeat' ((first | refine sP _ ?_ ?_ | refine gP _ ?_ ?_ | refine sN _ ?_ ?_ | refine gN _ ?_ ?_ | refine sM _ ?_ ?_ | refine gM _ ?_ ?_ | refine sB _ ?_ ?_ | refine gB _ ?_ ?_) <;> intro hc <;> simp [*, encExpr_eq]))
      all_goals grind
    · have := idx_hit hl' hp hx
      (simp [*, encExpr_eq]) <;> (repeat' ((first | refine sP _ ?_ ?_ | refine gP _ ?_ ?_ | refine sN _ ?_ ?_ | refine gN _ ?_ ?_ | refine sM _ ?_ ?_ | refine gM _ ?_ ?_ | refine sB _ ?_ ?_ | refine gB _ ?_ ?_) <;> intro hc <;> simp [*, encExpr_eq]))
  · intros s hp h1 h2 h3 h4
    have := idx_none hp
    simp at h1 h3
    (simp [*, encExpr_eq]) <;> (repeat' ((first | refine sP _ ?_ ?_ | refine gP _ ?_ ?_ | refine sN _ ?_ ?_ | refine gN _ ?_ ?_ | refine sM _ ?_ ?_ | refine gM _ ?_ ?_ | refine sB _ ?_ ?_ | refine gB _ ?_ ?_) <;> intro hc <;> simp [*, encExpr_eq]))

theorem containsFuncExpr (l : List (Expr)) (p : Expr → Bool) (k : Nat) (first caps : List PV) (σ : Store) (hl : l.length < 1099511627776) (hc : (first.map stripA) = first ∧ (caps.map stripA) = caps) (hf : ∀ x ∈ l, pcall E k (first ++ [encExpr x] ++ caps) σ = some (.ret (.bool (p x)), σ)) :
    pcall E 101 [.slice .plain 5 (l.map (encExpr)), .fn k first caps] σ = some (.ret (.bool (l.any p)), σ) := by
  refine pcall_wp rfl rfl rfl (by simp) ?_
  have h := indexFuncExpr l p k first caps σ hl hf
  have h2 := idx_ge p l
  clear hf
  (simp [*, F101]) <;> (repeat' ((first | refine sP _ ?_ ?_ | refine gP _ ?_ ?_ | refine sN _ ?_ ?_ | refine gN _ ?_ ?_ | refine sM _ ?_ ?_ | refine gM _ ?_ ?_ | refine sB _ ?_ ?_ | refine gB _ ?_ ?_) <;> intro hc <;> simp [*, F101]))

theorem indexFuncStmt (l : List (Stmt)) (p : Stmt → Bool) (k : Nat) (first caps : List PV) (σ : Store) (hl : l.length < 1099511627776) (hf : ∀ x ∈ l, pcall E k (first ++ [encStmt x] ++ caps) σ = some (.ret (.bool (p x)), σ)) :
    pcall E 64 [.slice .plain 6 (l.map (encStmt)), .fn k first caps] σ = some (.ret (.int .i64 (idx p l)), σ) := by
  refine pcall_wp rfl rfl rfl (by simp) ?_
  simp [F64]
  refine wp_each l K64_0 B64_0 (fun d => [(8, .int .i64 d.length)]) (fun _ => σ) (fun d => ∀ y ∈ d, p y = false) (by omega) (by simp) ?_ ?_
  · intros d x r s hl' hlt hget hget' hw hp h1 h2 h3 h4
    have hfx := hf x hl'.mem
    simp [encStmt_eq] at h1 h3 hfx
    clear h2 hf
    cases hx : p x
    · (simp [*, encStmt_eq]) <;> (repeat' ((first | refine sP _ ?_ ?_ | refine gP _ ?_ ?_ | refine sN _ ?_ ?_ | refine gN _ ?_ ?_ | refine sM _ ?_ ?_ | refine gM _ ?_ ?_ | refine sB _ ?_ ?_ | refine gB _ ?_ ?_) <;> intro hc <;> simp [*, encStmt_eq]))
      all_goals grind
    · have := idx_hit hl' hp hx
      (simp [*, encStmt_eq]) <;> (repeat' ((first | refine sP _ ?_ ?_ | refine gP _ ?_ ?_ | refine sN _ ?_ ?_ | refine gN _ ?_ ?_ | refine sM _ ?_ ?_ | refine gM _ ?_ ?_ | refine sB _ ?_ ?_ | refine gB _ ?_ ?_) <;> intro hc <;> simp [*, encStmt_eq]))
  · intros s hp h1 h2 h3 h4
    have := idx_none hp
    simp at h1 h3
    (simp [*, encStmt_eq]) <;> (repeat' ((first | refine sP _ ?_ ?_ | refine gP _ ?_ ?_ | refine sN _ ?_ ?_ | refine gN _ ?_ ?_ | refine sM _ ?_ ?_ | refine gM _ ?_ ?_ | refine sB _ ?_ ?_ | refine gB _ ?_ ?_) <;> intro hc <;> simp [*, encStmt_eq]))

theorem containsFuncStmt (l : List (Stmt)) (p : Stmt → Bool) (k : Nat) (first caps : List PV) (σ : Store) (hl : l.length < 1099511627776) (hc : (first.map stripA) = first ∧ (caps.map stripA) = caps) (hf : ∀ x ∈ l, pcall E k (first ++ [encStmt x] ++ caps) σ = some (.ret (.bool (p x)), σ)) :
    pcall E 28 [.slice .plain 6 (l.map (encStmt)), .fn k first caps] σ = some (.ret (.bool (l.any p)), σ) := by
  refine pcall_wp rfl rfl rfl (by simp) ?_
  have h := indexFuncStmt l p k first caps σ hl hf
  have h2 := idx_ge p l
  clear hf
  (simp [*, F28]) <;> (repeat' ((first | refine sP _ ?_ ?_ | refine gP _ ?_ ?_ | refine sN _ ?_ ?_ | refine gN _ ?_ ?_ | refine sM _ ?_ ?_ | refine gM _ ?_ ?_ | refine sB _ ?_ ?_ | refine gB _ ?_ ?_) <;> intro hc <;> simp [*, F28]))

theorem indexFuncPar (l : List (Par)) (p : Par → Bool) (k : Nat) (first caps : List PV) (σ : Store) (hl : l.length < 1099511627776) (hf : ∀ x ∈ l, pcall E k (first ++ [encPar x] ++ caps) σ = some (.ret (.bool (p x)), σ)) :
    pcall E 90 [.slice .plain 2 (l.map (encPar)), .fn k first caps] σ = some (.ret (.int .i64 (idx p l)), σ) := by
  refine pcall_wp rfl rfl rfl (by simp) ?_
  simp [F90]
  refine wp_each l K90_0 B90_0 (fun d => [(8, .int .i64 d.length)]) (fun _ => σ) (fun d => ∀ y ∈ d, p y = false) (by omega) (by simp) ?_ ?_
  · intros d x r s hl' hlt hget hget' hw hp h1 h2 h3 h4
    have hfx := hf x hl'.mem
    simp [encPar] at h1 h3 hfx
    clear h2 hf
    cases hx : p x
    · (simp [*, encPar]) <;> (repeat' ((first | refine sP _ ?_ ?_ | refine gP _ ?_ ?_ | refine sN _ ?_ ?_ | refine gN _ ?_ ?_ | refine sM _ ?_ ?_ | refine gM _ ?_ ?_ | refine sB _ ?_ ?_ | refine gB _ ?_ ?_) <;> intro hc <;> simp [*, encPar]))
      all_goals grind
    · have := idx_hit hl' hp hx
      (simp [*, encPar]) <;> (repeat' ((first | refine sP _ ?_ ?_ | refine gP _ ?_ ?_ | refine sN _ ?_ ?_ | refine gN _ ?_ ?_ | refine sM _ ?_ ?_ | refine gM _ ?_ ?_ | refine sB _ ?_ ?_ | refine gB _ ?_ ?_) <;> intro hc <;> simp [*, encPar]))
  · intros s hp h1 h2 h3 h4
    have := idx_none hp
    simp at h1 h3
    (simp [*, encPar]) <;> (repeat' ((first | refine sP _ ?_ ?_ | refine gP _ ?_ ?_ | refine sN _ ?_ ?_ | refine gN _ ?_ ?_ | refine sM _ ?_ ?_ | refine gM _ ?_ ?_ | refine sB _ ?_ ?_ | refine gB _ ?_ ?_) <;> intro hc <;> simp [*, encPar]))

theorem containsFuncPar (l : List (Par)) (p : Par → Bool) (k : Nat) (first caps : List PV) (σ : Store) (hl : l.length < 1099511627776) (hc : (first.map stripA) = first ∧ (caps.map stripA) = caps) (hf : ∀ x ∈ l, pcall E k (first ++ [encPar x] ++ caps) σ = some (.ret (.bool (p x)), σ)) :
    pcall E 77 [.slice .plain 2 (l.map (encPar)), .fn k first caps] σ = some (.ret (.bool (l.any p)), σ) := by
  refine pcall_wp rfl rfl rfl (by simp) ?_
  have h := indexFuncPar l p k first caps σ hl hf
  have h2 := idx_ge p l
  clear hf
  (simp [*, F77]) <;> (repeat' ((first | refine sP _ ?_ ?_ | refine gP _ ?_ ?_ | refine sN _ ?_ ?_ | refine gN _ ?_ ?_ | refine sM _ ?_ ?_ | refine gM _ ?_ ?_ | refine sB _ ?_ ?_ | refine gB _ ?_ ?_) <;> intro hc <;> simp [*, F77]))

end PE.U

/-
  The document's tokens.
-/
namespace PE.U
open Go PE

def tokKind (w : List UInt8) (b : UInt8) : Int := if wordM w then 2 else if letterN b.toNat then 1 else 0
def tokBad (w : List UInt8) (b : UInt8) : Bool := (decide (tokKind w b = 1) && !nameM w) || (decide (tokKind w b = 0) && !numberM w)

def blank (b : UInt8) : Bool := b == 32 || b == 9 || b == 13

def tokGo : Nat → List UInt8 → Int → List Tok → List Tok × Int × Int
  | 0, _, _, acc => (acc, 0, 0)
  | _ + 1, [], line, acc => (acc ++ [⟨3, [], line⟩], 0, 0)
  | n + 1, b :: r, line, acc =>
    if b = 10 then tokGo n r (line + 1) acc
    else if blank b then tokGo n r line acc
    else if b = 47 ∧ r.head? = some 47 then tokGo n ((b :: r).dropWhile (· != 10)) line acc
    else if nameByte b then
      if tokBad ((b :: r).takeWhile nameByte) b then ([], 20, line)
      else tokGo n ((b :: r).drop ((b :: r).takeWhile nameByte).length) line (acc ++ [⟨tokKind ((b :: r).takeWhile nameByte) b, (b :: r).takeWhile nameByte, line⟩])
    else if signM (b :: r) = [] then ([], 20, line)
    else tokGo n ((b :: r).drop (signM (b :: r)).length) line (acc ++ [⟨2, signM (b :: r), line⟩])

def tokensM (s : List UInt8) : List Tok × Int × Int := if 100000 < s.length then ([], 2, 0) else tokGo (s.length + 1) s 1 []

example : tokensM [105, 110, 116, 32, 120, 61, 49, 59, 10] = ([⟨2, [105, 110, 116], 1⟩, ⟨1, [120], 1⟩, ⟨2, [61], 1⟩, ⟨0, [49], 1⟩, ⟨2, [59], 1⟩, ⟨3, [], 2⟩], 0, 0) := by decide

theorem sign_len (s : List UInt8) : (signM s).length ≤ s.length := by
  unfold signM
  cases h : signsL.find? (fun x => x.isPrefixOf s) with
  | none => simp
  | some x =>
    have := List.find?_some h
    simp only [List.isPrefixOf_iff_prefix] at this
    simpa using this.length_le

theorem take_eq_takeWhile {s : List UInt8} : ∀ {k : Nat}, (∀ j (h : j < s.length), j < k → nameByte s[j] = true) → k ≤ s.length → (∀ (h : k < s.length), nameByte s[k] = false) → s.takeWhile nameByte = s.take k := by
  induction s with
  | nil => intro k h1 h2 h3; simp
  | cons b r ih =>
    intro k h1 h2 h3
    cases k with
    | zero =>
      have := h3 (by simp)
      simp at this
      simp [List.takeWhile_cons, this]
    | succ k =>
      have h0 := h1 0 (by simp) (by omega)
      simp at h0
      rw [List.takeWhile_cons, h0]
      simp only [if_true, List.take_succ_cons]
      rw [ih (k := k) (fun j hj hjk => by have := h1 (j + 1) (by simpa using hj) (by omega); simpa using this) (by simpa using h2) (fun h => by have := h3 (by simpa using h); simpa using this)]

end PE.U

/-
  The document's tokens: the contract.
-/
namespace PE.U
open Go PE

theorem drop_cons {s : List UInt8} {i : Nat} (h : i < s.length) : s.drop i = s[i] :: s.drop (i + 1) := List.drop_eq_getElem_cons h

theorem takeWhile_all (p : UInt8 → Bool) (l : List UInt8) (j : Nat) (h : j < (l.takeWhile p).length) (h' : j < l.length) : p l[j] = true := by
  have h1 : (l.takeWhile p)[j] = l[j] := by
    have := List.takeWhile_prefix (l := l) (p := p)
    exact this.getElem h
  rw [← h1]
  exact (List.all_eq_true.1 (List.all_takeWhile (l := l) (p := p))) _ (List.getElem_mem h)
theorem takeWhile_stop (p : UInt8 → Bool) : ∀ (l : List UInt8) (h : (l.takeWhile p).length < l.length), p (l[(l.takeWhile p).length]) = false
  | [], h => by simp at h
  | b :: r, h => by
    cases hp : p b
    · have e : (b :: r).takeWhile p = [] := by simp [hp]
      simp only [e]; simpa using hp
    · have e : (b :: r).takeWhile p = b :: r.takeWhile p := by simp [hp]
      simp only [e, List.length_cons, List.getElem_cons_succ]
      exact takeWhile_stop p r (by rw [e] at h; simpa using h)
theorem dropWhile_eq_drop (p : UInt8 → Bool) (l : List UInt8) : l.dropWhile p = l.drop (l.takeWhile p).length := by
  induction l with
  | nil => rfl
  | cons b r ih =>
    cases hp : p b <;> simp [hp, ih]
theorem takeWhile_eq_take (p : UInt8 → Bool) (l : List UInt8) : l.takeWhile p = l.take (l.takeWhile p).length := by
  induction l with
  | nil => rfl
  | cons b r ih =>
    cases hp : p b
    · simp [hp]
    · simp only [List.takeWhile_cons, hp, if_true, List.length_cons, List.take_succ_cons]; rw [← ih]

/-- How many bytes of a name stand here. -/
def runLen (s : List UInt8) (at' : Nat) : Nat := ((s.drop at').takeWhile nameByte).length
theorem runLen_le (s : List UInt8) (i : Nat) (h : i ≤ s.length) : i + runLen s i ≤ s.length := by
  unfold runLen
  have := (List.takeWhile_prefix (l := s.drop i) (p := nameByte)).length_le
  simp at this; omega
theorem runLen_in (s : List UInt8) (i j : Nat) (h : j < runLen s i) (h' : i + j < s.length) : nameByte (s[i + j]) = true := by
  have := takeWhile_all nameByte (s.drop i) j h (by simp; omega)
  simpa using this
theorem runLen_end (s : List UInt8) (i : Nat) (h : i + runLen s i < s.length) : nameByte (s[i + runLen s i]) = false := by
  unfold runLen at h ⊢
  have := takeWhile_stop nameByte (s.drop i) (by simp; omega)
  simpa using this
def comLen (s : List UInt8) (i : Nat) : Nat := ((s.drop i).takeWhile (· != 10)).length
theorem comLen_le (s : List UInt8) (i : Nat) (h : i ≤ s.length) : i + comLen s i ≤ s.length := by
  unfold comLen
  have := (List.takeWhile_prefix (l := s.drop i) (p := (· != 10))).length_le
  simp at this; omega
theorem comLen_in (s : List UInt8) (i j : Nat) (h : j < comLen s i) (h' : i + j < s.length) : ¬ s[i + j] = 10 := by
  have := takeWhile_all (· != 10) (s.drop i) j h (by simp; omega)
  simpa using this
theorem comLen_end (s : List UInt8) (i : Nat) (h : i + comLen s i < s.length) : s[i + comLen s i] = 10 := by
  unfold comLen at h ⊢
  have := takeWhile_stop (· != 10) (s.drop i) (by simp; omega)
  simpa using this

structure TS where
  at' : Nat
  line : Nat
  acc : List Tok

/-- The state of the outer loop lies on the road of `tokGo`. -/
def OnRoad (s : List UInt8) (c : TS) : Prop := c.at' ≤ s.length ∧ c.line ≤ c.at' + 1 ∧ c.acc.length ≤ c.at' ∧ ∃ n, s.length - c.at' < n ∧ tokGo (s.length + 1) s 1 [] = tokGo n (s.drop c.at') c.line c.acc

theorem getD_idx {s : List UInt8} {i : Nat} (h : i < s.length) : s[i]? = some s[i] := by simp [h]

end PE.U

/-
  The document's tokens: the contract.
-/
namespace PE.U
open Go PE

abbrev encTokR (r : List Tok × Int × Int) : List PV := [toks r.1, .int .i64 r.2.1, .int .i64 r.2.2]

theorem road_nl {s : List UInt8} {i line : Nat} {ac : List Tok} (h : OnRoad s ⟨i, line, ac⟩) (hi : i < s.length) (hb : (s[i].toNat : Int) = 10) : OnRoad s ⟨i + 1, line + 1, ac⟩ := by
  obtain ⟨h1, h2, h3, n, h4, h5⟩ := h
  simp only at h1 h2 h3 h4 h5
  obtain ⟨n, rfl⟩ : ∃ m, n = m + 1 := ⟨n - 1, by omega⟩
  have hb' : s[i] = 10 := UInt8.toNat_inj.1 (by simp; omega)
  refine ⟨by simp only; omega, by simp only; omega, by simp only; omega, n, by simp only; omega, ?_⟩
  rw [h5, drop_cons hi]
  simp [tokGo, hb']
theorem road_blank {s : List UInt8} {i line : Nat} {ac : List Tok} (h : OnRoad s ⟨i, line, ac⟩) (hi : i < s.length) (hb : blank s[i] = true) : OnRoad s ⟨i + 1, line, ac⟩ := by
  obtain ⟨h1, h2, h3, n, h4, h5⟩ := h
  simp only at h1 h2 h3 h4 h5
  obtain ⟨n, rfl⟩ : ∃ m, n = m + 1 := ⟨n - 1, by omega⟩
  have hb' : ¬ s[i] = 10 := by intro h; rw [h] at hb; exact absurd hb (by decide)
  refine ⟨by simp only; omega, by simp only; omega, by simp only; omega, n, by simp only; omega, ?_⟩
  rw [h5, drop_cons hi]
  simp [tokGo, hb', hb]
theorem road_com {s : List UInt8} {i line : Nat} {ac : List Tok} (h : OnRoad s ⟨i, line, ac⟩) (hi : i < s.length) (hb : (s[i].toNat : Int) = 47) (hi2 : i + 1 < s.length) (hb2 : (s[i + 1].toNat : Int) = 47) : OnRoad s ⟨i + comLen s i, line, ac⟩ ∧ 0 < comLen s i := by
  obtain ⟨h1, h2, h3, n, h4, h5⟩ := h
  simp only at h1 h2 h3 h4 h5
  obtain ⟨n, rfl⟩ : ∃ m, n = m + 1 := ⟨n - 1, by omega⟩
  have hb' : s[i] = 47 := UInt8.toNat_inj.1 (by simp; omega)
  have hb2' : s[i + 1] = 47 := UInt8.toNat_inj.1 (by simp; omega)
  have hpos : 0 < comLen s i := by
    unfold comLen; rw [drop_cons hi, List.takeWhile_cons]; simp [hb']
  have hle := comLen_le s i h1
  refine ⟨⟨by simp only; omega, by simp only; omega, by simp only; omega, n, by simp only; omega, ?_⟩, hpos⟩
  have e : (s[i] :: s.drop (i + 1)).dropWhile (· != 10) = s.drop (i + comLen s i) := by
    rw [← drop_cons hi, dropWhile_eq_drop, List.drop_drop]; rfl
  have hh : (s.drop (i + 1)).head? = some 47 := by rw [drop_cons hi2, hb2']; rfl
  rw [h5, drop_cons hi]
  simp only [tokGo]
  rw [if_neg (by rw [hb']; decide), if_neg (by rw [hb']; decide), if_pos ⟨hb', hh⟩, e]

/-- What follows on a byte that is no blank, no line's end and no comment's. -/
structure Plain (s : List UInt8) (i : Nat) (hi : i < s.length) : Prop where
  nl : ¬ (s[i].toNat : Int) = 10
  blank : blank s[i] = false
  com : ¬ (s[i] = 47 ∧ (s.drop (i + 1)).head? = some 47)

theorem road_name {s : List UInt8} {i line : Nat} {ac : List Tok} (h : OnRoad s ⟨i, line, ac⟩) (hi : i < s.length) (hp : Plain s i hi) (hn : nameByte s[i] = true) :
    (tokBad ((s.take (i + runLen s i)).drop i) s[i] = true → tokGo (s.length + 1) s 1 [] = ([], 20, (line : Int))) ∧
    (tokBad ((s.take (i + runLen s i)).drop i) s[i] = false → OnRoad s ⟨i + runLen s i, line, ac ++ [⟨tokKind ((s.take (i + runLen s i)).drop i) s[i], (s.take (i + runLen s i)).drop i, line⟩]⟩) := by
  obtain ⟨h1, h2, h3, n, h4, h5⟩ := h
  simp only at h1 h2 h3 h4 h5
  obtain ⟨n, rfl⟩ : ∃ m, n = m + 1 := ⟨n - 1, by omega⟩
  have hnl : ¬ s[i] = 10 := by intro h; exact hp.nl (by rw [h]; rfl)
  have hpos : 0 < runLen s i := by
    unfold runLen; rw [drop_cons hi, List.takeWhile_cons]; simp [hn]
  have hle := runLen_le s i h1
  have e : (s[i] :: s.drop (i + 1)).takeWhile nameByte = (s.take (i + runLen s i)).drop i := by
    rw [← drop_cons hi, takeWhile_eq_take]
    rw [List.drop_take]; congr 1; unfold runLen; omega
  have el : ((s.take (i + runLen s i)).drop i).length = runLen s i := by simp; omega
  have hs : ∀ k : Nat, tokGo (k + 1) (s[i] :: s.drop (i + 1)) line ac = if tokBad ((s.take (i + runLen s i)).drop i) s[i] then ([], 20, (line : Int)) else tokGo k (s.drop (i + runLen s i)) line (ac ++ [⟨tokKind ((s.take (i + runLen s i)).drop i) s[i], (s.take (i + runLen s i)).drop i, line⟩]) := by
    intro k
    simp only [tokGo]
    rw [if_neg hnl, if_neg (by rw [hp.blank]; decide), if_neg hp.com, if_pos hn, e, el]
    rw [← drop_cons hi, List.drop_drop]
  refine ⟨fun hb => by rw [h5, drop_cons hi, hs, if_pos hb], fun hb => ⟨by simp only; omega, by simp only; omega, by simp only [List.length_append, List.length_cons, List.length_nil]; omega, n, by simp only; omega, ?_⟩⟩
  rw [h5, drop_cons hi, hs, if_neg (by rw [hb]; decide)]

theorem road_sign {s : List UInt8} {i line : Nat} {ac : List Tok} (h : OnRoad s ⟨i, line, ac⟩) (hi : i < s.length) (hp : Plain s i hi) (hn : nameByte s[i] = false) :
    (signM (s.drop i) = [] → tokGo (s.length + 1) s 1 [] = ([], 20, (line : Int))) ∧
    (¬ signM (s.drop i) = [] → OnRoad s ⟨i + (signM (s.drop i)).length, line, ac ++ [⟨2, signM (s.drop i), line⟩]⟩) := by
  obtain ⟨h1, h2, h3, n, h4, h5⟩ := h
  simp only at h1 h2 h3 h4 h5
  obtain ⟨n, rfl⟩ : ∃ m, n = m + 1 := ⟨n - 1, by omega⟩
  have hnl : ¬ s[i] = 10 := by intro h; exact hp.nl (by rw [h]; rfl)
  have hle := sign_len (s.drop i)
  rw [List.length_drop] at hle
  have hs : ∀ k : Nat, tokGo (k + 1) (s.drop i) line ac = if signM (s.drop i) = [] then ([], 20, (line : Int)) else tokGo k (s.drop (i + (signM (s.drop i)).length)) line (ac ++ [⟨2, signM (s.drop i), line⟩]) := by
    intro k
    rw [← List.drop_drop]
    rw [drop_cons hi]
    simp only [tokGo]
    rw [if_neg hnl, if_neg (by rw [hp.blank]; decide), if_neg hp.com, if_neg (by rw [hn]; decide)]
  refine ⟨fun hb => by rw [h5, hs, if_pos hb], fun hb => ?_⟩
  have hpos : 0 < (signM (s.drop i)).length := List.length_pos_iff.2 hb
  refine ⟨by simp only; omega, by simp only; omega, by simp only [List.length_append, List.length_cons, List.length_nil]; omega, n, by simp only; omega, ?_⟩
  rw [h5, hs, if_neg hb]

theorem ub_eq (b : UInt8) (n : Nat) (h : n < 256) : (b == UInt8.ofNat n) = decide ((b.toNat : Int) = n) := by
  rw [Bool.eq_iff_iff]
  simp only [beq_iff_eq, decide_eq_true_eq]
  constructor
  · rintro rfl; simp; omega
  · intro h2; apply UInt8.toNat_inj.1; simp; omega
theorem blank_eq (b : UInt8) : blank b = (decide ((b.toNat : Int) = 32) || (decide ((b.toNat : Int) = 9) || decide ((b.toNat : Int) = 13))) := by
  unfold blank
  rw [show (32 : UInt8) = UInt8.ofNat 32 from rfl, show (9 : UInt8) = UInt8.ofNat 9 from rfl, show (13 : UInt8) = UInt8.ofNat 13 from rfl, ub_eq _ _ (by omega), ub_eq _ _ (by omega), ub_eq _ _ (by omega), Bool.or_assoc]
  rfl

theorem run_zero {s : List UInt8} {i : Nat} (hi : i < s.length) : runLen s i = 0 ↔ nameByte s[i] = false := by
  unfold runLen
  rw [drop_cons hi, List.takeWhile_cons]
  cases nameByte s[i] <;> simp

set_option maxHeartbeats 4000000 in
set_option maxRecDepth 3000 in
theorem tokens_spec (s : List UInt8) : pcall E 14 [.str s] [] = some (.ret (.tup (encTokR (tokensM s))), []) := by
  refine pcall_wp rfl rfl rfl (by simp) ?_
  by_cases hlong : 100000 < s.length
  · have e : tokensM s = ([], 2, 0) := by unfold tokensM; rw [if_pos hlong]
    have hlong' : (100000 : Int) < s.length := by omega
    simp [F14, hlong', e, encTokR, toks]
  have e0 : tokensM s = tokGo (s.length + 1) s 1 [] := by unfold tokensM; rw [if_neg hlong]
  have hlong' : ¬ (100000 : Int) < s.length := by omega
  simp [F14, hlong', encTokR, toks]
  refine wp_while K14_2 B14_2 (fun c : TS => s.length - c.at') (fun c => [(7, .int .i64 c.at'), (6, .int .i64 c.line), (5, acc 3 (c.acc.map encTok))]) (fun _ => []) (fun _ => []) (OnRoad s) ⟨0, 1, []⟩ ⟨?_, ?_, ?_, ?_⟩ ?_
  · simp
  · simp
  · simp
  · exact ⟨by simp, by simp, by simp, s.length + 1, by simp, by simp⟩
  rintro ⟨i, line, ac⟩ s1 ⟨hi, hline, hac, n, hn, hg⟩ h1 h2 h3 _ h4
  simp at hi hline hac hn hg h1 h3
  have w0 : wrapK .i64 ((i : Int) + 1) = (i : Int) + 1 := wrapK_small (by omega) (by omega)
  have w1 : wrapK .i64 ((line : Int) + 1) = (line : Int) + 1 := wrapK_small (by omega) (by omega)
  have hroad : OnRoad s ⟨i, line, ac⟩ := ⟨hi, hline, hac, n, hn, hg⟩
  obtain ⟨n, rfl⟩ : ∃ m, n = m + 1 := ⟨n - 1, by omega⟩
  by_cases hend : ¬ i < s.length
  · have he : i = s.length := by omega
    subst he
    have e1 : tokensM s = (ac ++ [⟨3, [], line⟩], 0, 0) := by rw [e0, hg]; simp [tokGo]
    have q4 : (ac.length + 1) * 32 ≤ roomMax := by simp only [roomMax]; omega
    clear hg e0 hroad
    (simp [*, encTok]) <;> (repeat' (first | ((first | refine sP _ ?_ ?_ | refine gP _ ?_ ?_ | refine sN _ ?_ ?_ | refine gN _ ?_ ?_) <;> intro hc <;> (first | replace hc := eqn hc | replace hc := eqp hc) <;> simp [*, encTok]) | ((first | refine sM _ ?_ ?_ | refine gM _ ?_ ?_ | refine sB _ ?_ ?_ | refine gB _ ?_ ?_) <;> intro hc <;> simp [*, encTok])))
  have hend := Decidable.of_not_not hend
  have hi2 : (i : Int) < s.length := by omega
  have hgi := getD_idx hend
  clear hg hn
  have hget : s[i]? = some s[i] := by simp [hend]
  -- the run
  have hrun : ∀ (s2 : St) (Q : Ex → St → Prop), (∀ t ∈ K14_0, s2.fr t = s2.fr t) → True := fun _ _ _ => trivial
  clear hrun
  have hrl := runLen_le s i hi
  have hri := runLen_in s i
  have hre := runLen_end s i
  generalize hk : runLen s i = k at *
  simp [h1, h3, h4, hend]
  refine wp_each (List.range k) K14_0 B14_0 (fun d => [(9, .int .i64 d.length)]) (fun _ => []) (fun d => True) (by simp; omega) (by simp; try exact h4) ?_ ?_
  · intros d x r s3 hl' hlt hget2 hget' hw hp h1' h2' h3' h4'
    simp at h1' h3' hlt
    simp at h2'
    clear hget2 hget' hl'
    have hq : i + d.length < s.length := by omega
    have hcb := hri d.length hlt hq
    have hgc : s[i + d.length]? = some s[i + d.length] := by simp [hq]
    generalize s[i + d.length] = c at hcb hgc
    have l1 := rletter_spec c.toNat []
    have l2 := rdigit_spec c.toNat []
    have wi : wrapK .i64 ((i : Int) + d.length) = ((i + d.length : Nat) : Int) := wrapK_small (by omega) (by omega)
    clear h1 h2 h3 e0 hgi hget hre hri hroad
    generalize i + d.length = q at *
    have hgc' : s[q]'hq = c := by simpa [hq] using hgc
    simp only [nameByte, Bool.or_eq_true] at hcb
    cases hx : letterN c.toNat
    · have hy : digitN c.toNat = true := by simpa [hx] using hcb
      clear hcb
      (simp [*]) <;> (repeat' (first | ((first | refine sP _ ?_ ?_ | refine gP _ ?_ ?_ | refine sN _ ?_ ?_ | refine gN _ ?_ ?_) <;> intro hc <;> (first | replace hc := eqn hc | replace hc := eqp hc) <;> simp [*]) | ((first | refine sM _ ?_ ?_ | refine gM _ ?_ ?_ | refine sB _ ?_ ?_ | refine gB _ ?_ ?_) <;> intro hc <;> simp [*])))
      all_goals (try grind)
    · clear hcb
      (simp [*]) <;> (repeat' (first | ((first | refine sP _ ?_ ?_ | refine gP _ ?_ ?_ | refine sN _ ?_ ?_ | refine gN _ ?_ ?_) <;> intro hc <;> (first | replace hc := eqn hc | replace hc := eqp hc) <;> simp [*]) | ((first | refine sM _ ?_ ?_ | refine gM _ ?_ ?_ | refine sB _ ?_ ?_ | refine gB _ ?_ ?_) <;> intro hc <;> simp [*])))
      all_goals (try grind)
  · intros s3 hp h1' h2' h3' h4'
    simp at h1' h2' h3'
    clear h1 h2 h3 hri hp
    have wk : ∃ q : Nat, q = i + k ∧ wrapK .i64 ((i : Int) + k) = (q : Int) ∧ (q = s.length ∨ ∃ c, ∃ h : q < s.length, s[q]'h = c ∧ s[q]? = some c ∧ letterN c.toNat = false ∧ digitN c.toNat = false) := by
      refine ⟨i + k, rfl, wrapK_small (by omega) (by omega), ?_⟩
      by_cases h : i + k < s.length
      · have := hre h
        simp only [nameByte, Bool.or_eq_false_iff] at this
        exact Or.inr ⟨s[i + k], h, rfl, by simp [h], this.1, this.2⟩
      · exact Or.inl (by omega)
    obtain ⟨q, hq, wk, hstop⟩ := wk
    clear hre
    have hz := run_zero hend
    rw [hk] at hz
    have b10 := fun h => road_nl hroad hend h
    have bbl := fun h => road_blank hroad hend h
    have bcom := fun h => road_com hroad hend h
    have bname := fun hp h => road_name hroad hend hp h
    have bsign := fun hp h => road_sign hroad hend hp h
    rw [hk] at bname
    have hle := comLen_le s i hi
    have hci := comLen_in s i
    have hce := comLen_end s i
    generalize hbb : s[i] = b at *
    have l1 := rletter_spec b.toNat []
    have hbl : blank b = (decide ((b.toNat : Int) = 32) || (decide ((b.toNat : Int) = 9) || decide ((b.toNat : Int) = 13))) := blank_eq b
    by_cases c10 : (b.toNat : Int) = 10
    · have r := b10 c10
      clear b10 bbl bcom bname bsign hz hroad e0 hle hci hce hq hbl
      replace c10 := eqp c10
      rcases hstop with hst | ⟨c, hst, g1, g2, g3, g4⟩
      · (simp [*]) <;> (repeat' (first | ((first | refine sP _ ?_ ?_ | refine gP _ ?_ ?_ | refine sN _ ?_ ?_ | refine gN _ ?_ ?_) <;> intro hc <;> (first | replace hc := eqn hc | replace hc := eqp hc) <;> simp [*]) | ((first | refine sM _ ?_ ?_ | refine gM _ ?_ ?_ | refine sB _ ?_ ?_ | refine gB _ ?_ ?_) <;> intro hc <;> simp [*])))
        all_goals exact ⟨⟨i + 1, line + 1, ac⟩, by simp only; omega, ⟨by simp, by simp, rfl⟩, r⟩
      · have l2 := rletter_spec c.toNat []
        have l3 := rdigit_spec c.toNat []
        (simp [*]) <;> (repeat' (first | ((first | refine sP _ ?_ ?_ | refine gP _ ?_ ?_ | refine sN _ ?_ ?_ | refine gN _ ?_ ?_) <;> intro hc <;> (first | replace hc := eqn hc | replace hc := eqp hc) <;> simp [*]) | ((first | refine sM _ ?_ ?_ | refine gM _ ?_ ?_ | refine sB _ ?_ ?_ | refine gB _ ?_ ?_) <;> intro hc <;> simp [*])))
        all_goals exact ⟨⟨i + 1, line + 1, ac⟩, by simp only; omega, ⟨by simp, by simp, rfl⟩, r⟩
    replace c10 := eqn c10
    cases hcb : blank b
    · rw [hcb] at hbl
      replace hbl := hbl.symm
      simp only [Bool.or_eq_false_iff, decide_eq_false_iff_not] at hbl
      obtain ⟨c1, c2, c3⟩ := hbl
      have hpl : ¬ (b = 47 ∧ (s.drop (i + 1)).head? = some 47) → Plain s i hend := fun h => ⟨by rw [hbb]; simpa using c10, by rw [hbb]; exact hcb, by rw [hbb]; exact h⟩
      replace c1 := eqn c1
      replace c2 := eqn c2
      replace c3 := eqn c3
      have w1' : wrapK .i64 ((i : Int) + 1) = ((i + 1 : Nat) : Int) := by rw [w0]; simp
      by_cases hcom : (b.toNat : Int) = 47 ∧ ∃ h : i + 1 < s.length, (s[i + 1].toNat : Int) = 47
      · obtain ⟨c4, hj, c5⟩ := hcom
        obtain ⟨r, hpos⟩ := bcom c4 hj c5
        clear b10 bbl bcom bname bsign hz hroad e0 hq hpl hcb
        replace c4 := eqp c4
        have gj : s[i + 1]? = some s[i + 1] := by simp [hj]
        have gj' : s[i + 1]'hj = s[i + 1] := rfl
        generalize hm : comLen s i = m at *
        generalize hbj : s[i + 1] = bj at *
        have hj' : (i : Int) + 1 < s.length := by omega
        have tj : ((i : Int) + 1).toNat = i + 1 := by omega
        have nj : (0 : Int) ≤ (i : Int) + 1 := by omega
        replace c5 := eqp c5
        clear w1'
        rcases hstop with hst | ⟨c, hst, g1, g2, g3, g4⟩
        · (simp [*]) <;> (repeat' (first | ((first | refine sP _ ?_ ?_ | refine gP _ ?_ ?_ | refine sN _ ?_ ?_ | refine gN _ ?_ ?_) <;> intro hc <;> (first | replace hc := eqn hc | replace hc := eqp hc) <;> simp [*]) | ((first | refine sM _ ?_ ?_ | refine gM _ ?_ ?_ | refine sB _ ?_ ?_ | refine gB _ ?_ ?_) <;> intro hc <;> simp [*])))
          refine wp_each (List.range m) K14_1 B14_1 (fun d => [(7, .int .i64 ((i + d.length : Nat) : Int))]) (fun _ => []) (fun _ => True) (by simp; omega) (by simp) ?_ ?_
          · intros d x r' s4 hl' hlt hget2 hget' hw hp h1'' h2'' h3'' h4''
            simp at h1'' h3'' hlt
            have hq2 : i + d.length < s.length := by omega
            have hcb := hci d.length hlt hq2
            have hgc : s[i + d.length]? = some s[i + d.length] := by simp [hq2]
            have hcb' : ¬ (s[i + d.length].toNat : Int) = 10 := fun h => hcb (UInt8.toNat_inj.1 (by simp; omega))
            have wi : wrapK .i64 ((i : Int) + d.length + 1) = ((i : Int) + d.length) + 1 := wrapK_small (by omega) (by omega)
            have a0 : (0 : Int) ≤ (i : Int) + d.length := by omega
            have a1 : ((i : Int) + d.length).toNat = i + d.length := by omega
            have a2 : (i : Int) + d.length < s.length := by omega
            have a3 : (i : Int) + (d.length + 1) = (i : Int) + d.length + 1 := by omega
            obtain ⟨c2, hgc'⟩ : ∃ c2, s[i + d.length]'hq2 = c2 := ⟨_, rfl⟩
            rw [hgc'] at hcb hgc hcb'
            replace hcb' := eqn hcb'
            clear hci hce hget2 hget' hl' hbb hgi hget gj gj' h2'' hcb
            simp [*]
          · intros s4 hp h1'' h2'' h3'' h4''
            simp at h1'' h3''
            have a0 : (0 : Int) ≤ (i : Int) + m := by omega
            have a1 : ((i : Int) + m).toNat = i + m := by omega
            clear hci hbb hgi hget gj gj' h2''
            by_cases hmm : i + m < s.length
            · have hcb := hce hmm
              have hgc : s[i + m]? = some s[i + m] := by simp [hmm]
              have a2 : (i : Int) + m < s.length := by omega
              rw [hcb] at hgc
              clear hce
              simp [*]
              exact ⟨⟨i + m, line, ac⟩, by simp only; omega, ⟨by simp, by simp, rfl⟩, r⟩
            · have a2 : ¬ (i : Int) + m < s.length := by omega
              clear hce
              simp [*]
              exact ⟨⟨i + m, line, ac⟩, by simp only; omega, ⟨by simp, by simp, rfl⟩, r⟩
        · have l2 := rletter_spec c.toNat []
          have l3 := rdigit_spec c.toNat []
          (simp [*]) <;> (repeat' (first | ((first | refine sP _ ?_ ?_ | refine gP _ ?_ ?_ | refine sN _ ?_ ?_ | refine gN _ ?_ ?_) <;> intro hc <;> (first | replace hc := eqn hc | replace hc := eqp hc) <;> simp [*]) | ((first | refine sM _ ?_ ?_ | refine gM _ ?_ ?_ | refine sB _ ?_ ?_ | refine gB _ ?_ ?_) <;> intro hc <;> simp [*])))
          refine wp_each (List.range m) K14_1 B14_1 (fun d => [(7, .int .i64 ((i + d.length : Nat) : Int))]) (fun _ => []) (fun _ => True) (by simp; omega) (by simp) ?_ ?_
          · intros d x r' s4 hl' hlt hget2 hget' hw hp h1'' h2'' h3'' h4''
            simp at h1'' h3'' hlt
            have hq2 : i + d.length < s.length := by omega
            have hcb := hci d.length hlt hq2
            have hgc : s[i + d.length]? = some s[i + d.length] := by simp [hq2]
            have hcb' : ¬ (s[i + d.length].toNat : Int) = 10 := fun h => hcb (UInt8.toNat_inj.1 (by simp; omega))
            have wi : wrapK .i64 ((i : Int) + d.length + 1) = ((i : Int) + d.length) + 1 := wrapK_small (by omega) (by omega)
            have a0 : (0 : Int) ≤ (i : Int) + d.length := by omega
            have a1 : ((i : Int) + d.length).toNat = i + d.length := by omega
            have a2 : (i : Int) + d.length < s.length := by omega
            have a3 : (i : Int) + (d.length + 1) = (i : Int) + d.length + 1 := by omega
            obtain ⟨c2, hgc'⟩ : ∃ c2, s[i + d.length]'hq2 = c2 := ⟨_, rfl⟩
            rw [hgc'] at hcb hgc hcb'
            replace hcb' := eqn hcb'
            clear hci hce hget2 hget' hl' hbb hgi hget gj gj' h2'' hcb
            simp [*]
          · intros s4 hp h1'' h2'' h3'' h4''
            simp at h1'' h3''
            have a0 : (0 : Int) ≤ (i : Int) + m := by omega
            have a1 : ((i : Int) + m).toNat = i + m := by omega
            clear hci hbb hgi hget gj gj' h2''
            by_cases hmm : i + m < s.length
            · have hcb := hce hmm
              have hgc : s[i + m]? = some s[i + m] := by simp [hmm]
              have a2 : (i : Int) + m < s.length := by omega
              rw [hcb] at hgc
              clear hce
              simp [*]
              exact ⟨⟨i + m, line, ac⟩, by simp only; omega, ⟨by simp, by simp, rfl⟩, r⟩
            · have a2 : ¬ (i : Int) + m < s.length := by omega
              clear hce
              simp [*]
              exact ⟨⟨i + m, line, ac⟩, by simp only; omega, ⟨by simp, by simp, rfl⟩, r⟩
      · clear bcom hci hce hle
        replace hpl := hpl (by
          rintro ⟨h1, h2⟩
          apply hcom
          refine ⟨by rw [h1]; rfl, ?_⟩
          by_cases hj : i + 1 < s.length
          · refine ⟨hj, ?_⟩
            rw [drop_cons hj] at h2
            simp at h2
            have h3 : s[i + 1] = 47 := by
              have : s[i + 1]? = some s[i + 1] := by simp [hj]
              rw [this] at h2; simpa using h2
            rw [h3]; rfl
          · rw [List.drop_eq_nil_of_le (by omega)] at h2; simp at h2)
        have q4 : (ac.length + 1) * 32 ≤ roomMax := by simp only [roomMax]; omega
        cases hnb : nameByte b
        · obtain ⟨s0, s1⟩ := bsign hpl hnb
          have hk0 : k = 0 := hz.2 hnb
          have hs := sign_spec (s.drop i) (by simp; omega)
          have hsl := sign_len (s.drop i)
          simp at hsl
          generalize hsg : signM (s.drop i) = sg at *
          have hcc : (¬ (b.toNat : Int) = 47) ∨ ((b.toNat : Int) = 47 ∧ (i + 1 = s.length ∨ ∃ h : i + 1 < s.length, ¬ (s[i + 1].toNat : Int) = 47)) := by
            by_cases c4 : (b.toNat : Int) = 47
            · right; refine ⟨c4, ?_⟩
              by_cases hj : i + 1 < s.length
              · exact Or.inr ⟨hj, fun h => hcom ⟨c4, hj, h⟩⟩
              · exact Or.inl (by omega)
            · exact Or.inl c4
          have he : sg = [] → tokensM s = ([], 20, (line : Int)) := fun h => by rw [e0]; exact s0 h
          have hnb' := hnb
          clear b10 bbl bname bsign hz hcb hcom hpl hroad s0 hnb e0 hk hrl hsg
          subst hk0
          have hwi : wrapK .i64 ((i : Int) + sg.length) = ((i + sg.length : Nat) : Int) := wrapK_small (by omega) (by omega)
          have hii : i ≤ s.length := hi
          generalize hq2 : i + sg.length = q2 at *
          have wi0 : wrapK .i64 (i : Int) = i := wrapK_small (by omega) (by omega)
          have l3 := rdigit_spec b.toNat []
          simp only [nameByte, Bool.or_eq_false_iff] at hnb'
          obtain ⟨g3, g4⟩ := hnb'
          clear hq hstop wk
          rcases hcc with c4 | ⟨c4, hj | ⟨hj, c5⟩⟩
          · replace c4 := eqn c4
            by_cases hsn : sg = []
            · replace he := he hsn
              subst hsn
              clear s1
              (simp [*]) <;> (repeat' (first | ((first | refine sP _ ?_ ?_ | refine gP _ ?_ ?_ | refine sN _ ?_ ?_ | refine gN _ ?_ ?_) <;> intro hc <;> (first | replace hc := eqn hc | replace hc := eqp hc) <;> simp [*]) | ((first | refine sM _ ?_ ?_ | refine gM _ ?_ ?_ | refine sB _ ?_ ?_ | refine gB _ ?_ ?_) <;> intro hc <;> simp [*])))
            · replace s1 := s1 hsn
              have hpos : 0 < sg.length := List.length_pos_iff.2 hsn
              replace hsn := eqn hsn
              clear he
              (simp [*, encTok]) <;> (repeat' (first | ((first | refine sP _ ?_ ?_ | refine gP _ ?_ ?_ | refine sN _ ?_ ?_ | refine gN _ ?_ ?_) <;> intro hc <;> (first | replace hc := eqn hc | replace hc := eqp hc) <;> simp [*, encTok]) | ((first | refine sM _ ?_ ?_ | refine gM _ ?_ ?_ | refine sB _ ?_ ?_ | refine gB _ ?_ ?_) <;> intro hc <;> simp [*, encTok])))
              all_goals exact ⟨⟨q2, line, ac ++ [⟨2, sg, line⟩]⟩, by simp only; omega, ⟨by first | rfl | omega | (simp only; omega), by simp, by simp [encTok]⟩, s1⟩
          · replace c4 := eqp c4
            have hj1 : ¬ (i : Int) + 1 < s.length := by omega
            by_cases hsn : sg = []
            · replace he := he hsn
              subst hsn
              clear s1
              (simp [*]) <;> (repeat' (first | ((first | refine sP _ ?_ ?_ | refine gP _ ?_ ?_ | refine sN _ ?_ ?_ | refine gN _ ?_ ?_) <;> intro hc <;> (first | replace hc := eqn hc | replace hc := eqp hc) <;> simp [*]) | ((first | refine sM _ ?_ ?_ | refine gM _ ?_ ?_ | refine sB _ ?_ ?_ | refine gB _ ?_ ?_) <;> intro hc <;> simp [*])))
            · replace s1 := s1 hsn
              have hpos : 0 < sg.length := List.length_pos_iff.2 hsn
              replace hsn := eqn hsn
              clear he
              (simp [*, encTok]) <;> (repeat' (first | ((first | refine sP _ ?_ ?_ | refine gP _ ?_ ?_ | refine sN _ ?_ ?_ | refine gN _ ?_ ?_) <;> intro hc <;> (first | replace hc := eqn hc | replace hc := eqp hc) <;> simp [*, encTok]) | ((first | refine sM _ ?_ ?_ | refine gM _ ?_ ?_ | refine sB _ ?_ ?_ | refine gB _ ?_ ?_) <;> intro hc <;> simp [*, encTok])))
              all_goals exact ⟨⟨q2, line, ac ++ [⟨2, sg, line⟩]⟩, by simp only; omega, ⟨by first | rfl | omega | (simp only; omega), by simp, by simp [encTok]⟩, s1⟩
          · replace c4 := eqp c4
            have hj1 : (i : Int) + 1 < s.length := by omega
            have tj : ((i : Int) + 1).toNat = i + 1 := by omega
            have nj : (0 : Int) ≤ (i : Int) + 1 := by omega
            obtain ⟨bj, gj'⟩ : ∃ bj, s[i + 1]'hj = bj := ⟨_, rfl⟩
            rw [gj'] at c5
            replace c5 := eqn c5
            clear w1'
            by_cases hsn : sg = []
            · replace he := he hsn
              subst hsn
              clear s1
              (simp [*]) <;> (repeat' (first | ((first | refine sP _ ?_ ?_ | refine gP _ ?_ ?_ | refine sN _ ?_ ?_ | refine gN _ ?_ ?_) <;> intro hc <;> (first | replace hc := eqn hc | replace hc := eqp hc) <;> simp [*]) | ((first | refine sM _ ?_ ?_ | refine gM _ ?_ ?_ | refine sB _ ?_ ?_ | refine gB _ ?_ ?_) <;> intro hc <;> simp [*])))
            · replace s1 := s1 hsn
              have hpos : 0 < sg.length := List.length_pos_iff.2 hsn
              replace hsn := eqn hsn
              clear he
              (simp [*, encTok]) <;> (repeat' (first | ((first | refine sP _ ?_ ?_ | refine gP _ ?_ ?_ | refine sN _ ?_ ?_ | refine gN _ ?_ ?_) <;> intro hc <;> (first | replace hc := eqn hc | replace hc := eqp hc) <;> simp [*, encTok]) | ((first | refine sM _ ?_ ?_ | refine gM _ ?_ ?_ | refine sB _ ?_ ?_ | refine gB _ ?_ ?_) <;> intro hc <;> simp [*, encTok])))
              all_goals exact ⟨⟨q2, line, ac ++ [⟨2, sg, line⟩]⟩, by simp only; omega, ⟨by first | rfl | omega | (simp only; omega), by simp, by simp [encTok]⟩, s1⟩
        · obtain ⟨s0, s1⟩ := bname hpl hnb
          have hk0 : 0 < k := by
            rcases Nat.eq_zero_or_pos k with h | h
            · rw [hz.1 h] at hnb; cases hnb
            · exact h
          have c4 : ¬ (b.toNat : Int) = 47 := by
            intro h
            have : b = 47 := UInt8.toNat_inj.1 (by simp; omega)
            rw [this] at hnb; exact absurd hnb (by decide)
          rw [← hq] at s0 s1
          have hqi : i ≤ q := by omega
          have hqs : q ≤ s.length := by omega
          have hwl : ((s.take q).drop i).length = k := by simp; omega
          have hqk : i < q := by omega
          clear hz hcom hpl hroad b10 bbl bname bsign hcb hk hrl
          have hw1 := rword_spec ((s.take q).drop i) []
          have hw2 := rname_spec ((s.take q).drop i) []
          have hw3 := number_spec ((s.take q).drop i) (by simp; omega)
          have he : tokBad ((s.take q).drop i) b = true → tokensM s = ([], 20, (line : Int)) := fun h => by rw [e0]; exact s0 h
          clear s0 e0
          have ww : wrapK .i64 ((i : Int) + k) = q := wk
          have hki : i + k = q := hq.symm
          clear hq
          generalize hww : (s.take q).drop i = w at *
          replace c4 := eqn c4
          have hnbb : nameByte b = (letterN b.toNat || digitN b.toNat) := rfl
          rw [hnb] at hnbb
          replace hnbb := hnbb.symm
          have hkn : tokKind w b = if wordM w then 2 else if letterN b.toNat then 1 else 0 := rfl
          have hbn : tokBad w b = ((decide (tokKind w b = 1) && !nameM w) || (decide (tokKind w b = 0) && !numberM w)) := rfl
          rcases hstop with hst | ⟨c, hst, g1, g2, g3, g4⟩
          · rw [hst, List.take_length] at hww
            cases f1 : wordM w
            · cases f2 : letterN b.toNat
              · rw [f1, f2] at hkn
                simp at hkn
                rw [hkn] at hbn s1
                cases f3 : numberM w
                · rw [f3] at hbn
                  simp at hbn
                  replace he := he hbn
                  clear s1 hkn hnbb hbn
                  (simp [*]) <;> (repeat' (first | ((first | refine sP _ ?_ ?_ | refine gP _ ?_ ?_ | refine sN _ ?_ ?_ | refine gN _ ?_ ?_) <;> intro hc <;> (first | replace hc := eqn hc | replace hc := eqp hc) <;> simp [*]) | ((first | refine sM _ ?_ ?_ | refine gM _ ?_ ?_ | refine sB _ ?_ ?_ | refine gB _ ?_ ?_) <;> intro hc <;> simp [*])))
                · rw [f3] at hbn
                  simp at hbn
                  replace s1 := s1 hbn
                  clear he hkn hnbb hbn
                  (simp [*, encTok]) <;> (repeat' (first | ((first | refine sP _ ?_ ?_ | refine gP _ ?_ ?_ | refine sN _ ?_ ?_ | refine gN _ ?_ ?_) <;> intro hc <;> (first | replace hc := eqn hc | replace hc := eqp hc) <;> simp [*, encTok]) | ((first | refine sM _ ?_ ?_ | refine gM _ ?_ ?_ | refine sB _ ?_ ?_ | refine gB _ ?_ ?_) <;> intro hc <;> simp [*, encTok])))
                  all_goals exact ⟨⟨q, line, ac ++ [⟨0, w, line⟩]⟩, by simp only; omega, ⟨by first | rfl | omega | (simp only; omega), by simp, by simp [encTok]⟩, s1⟩
              · rw [f1, f2] at hkn
                simp at hkn
                rw [hkn] at hbn s1
                cases f3 : nameM w
                · rw [f3] at hbn
                  simp at hbn
                  replace he := he hbn
                  clear s1 hkn hnbb hbn
                  (simp [*]) <;> (repeat' (first | ((first | refine sP _ ?_ ?_ | refine gP _ ?_ ?_ | refine sN _ ?_ ?_ | refine gN _ ?_ ?_) <;> intro hc <;> (first | replace hc := eqn hc | replace hc := eqp hc) <;> simp [*]) | ((first | refine sM _ ?_ ?_ | refine gM _ ?_ ?_ | refine sB _ ?_ ?_ | refine gB _ ?_ ?_) <;> intro hc <;> simp [*])))
                · rw [f3] at hbn
                  simp at hbn
                  replace s1 := s1 hbn
                  clear he hkn hnbb hbn
                  (simp [*, encTok]) <;> (repeat' (first | ((first | refine sP _ ?_ ?_ | refine gP _ ?_ ?_ | refine sN _ ?_ ?_ | refine gN _ ?_ ?_) <;> intro hc <;> (first | replace hc := eqn hc | replace hc := eqp hc) <;> simp [*, encTok]) | ((first | refine sM _ ?_ ?_ | refine gM _ ?_ ?_ | refine sB _ ?_ ?_ | refine gB _ ?_ ?_) <;> intro hc <;> simp [*, encTok])))
                  all_goals exact ⟨⟨q, line, ac ++ [⟨1, w, line⟩]⟩, by simp only; omega, ⟨by first | rfl | omega | (simp only; omega), by simp, by simp [encTok]⟩, s1⟩
            · rw [f1] at hkn
              simp at hkn
              rw [hkn] at hbn s1
              simp at hbn
              replace s1 := s1 hbn
              clear he hkn hnbb hbn
              cases f2 : letterN b.toNat
              · (simp [*, encTok]) <;> (repeat' (first | ((first | refine sP _ ?_ ?_ | refine gP _ ?_ ?_ | refine sN _ ?_ ?_ | refine gN _ ?_ ?_) <;> intro hc <;> (first | replace hc := eqn hc | replace hc := eqp hc) <;> simp [*, encTok]) | ((first | refine sM _ ?_ ?_ | refine gM _ ?_ ?_ | refine sB _ ?_ ?_ | refine gB _ ?_ ?_) <;> intro hc <;> simp [*, encTok])))
                all_goals exact ⟨⟨q, line, ac ++ [⟨2, w, line⟩]⟩, by simp only; omega, ⟨by first | rfl | omega | (simp only; omega), by simp, by simp [encTok]⟩, s1⟩
              · (simp [*, encTok]) <;> (repeat' (first | ((first | refine sP _ ?_ ?_ | refine gP _ ?_ ?_ | refine sN _ ?_ ?_ | refine gN _ ?_ ?_) <;> intro hc <;> (first | replace hc := eqn hc | replace hc := eqp hc) <;> simp [*, encTok]) | ((first | refine sM _ ?_ ?_ | refine gM _ ?_ ?_ | refine sB _ ?_ ?_ | refine gB _ ?_ ?_) <;> intro hc <;> simp [*, encTok])))
                all_goals exact ⟨⟨q, line, ac ++ [⟨2, w, line⟩]⟩, by simp only; omega, ⟨by first | rfl | omega | (simp only; omega), by simp, by simp [encTok]⟩, s1⟩
          · have l2 := rletter_spec c.toNat []
            have l3 := rdigit_spec c.toNat []
            cases f1 : wordM w
            · cases f2 : letterN b.toNat
              · rw [f1, f2] at hkn
                simp at hkn
                rw [hkn] at hbn s1
                cases f3 : numberM w
                · rw [f3] at hbn
                  simp at hbn
                  replace he := he hbn
                  clear s1 hkn hnbb hbn
                  (simp [*]) <;> (repeat' (first | ((first | refine sP _ ?_ ?_ | refine gP _ ?_ ?_ | refine sN _ ?_ ?_ | refine gN _ ?_ ?_) <;> intro hc <;> (first | replace hc := eqn hc | replace hc := eqp hc) <;> simp [*]) | ((first | refine sM _ ?_ ?_ | refine gM _ ?_ ?_ | refine sB _ ?_ ?_ | refine gB _ ?_ ?_) <;> intro hc <;> simp [*])))
                · rw [f3] at hbn
                  simp at hbn
                  replace s1 := s1 hbn
                  clear he hkn hnbb hbn
                  (simp [*, encTok]) <;> (repeat' (first | ((first | refine sP _ ?_ ?_ | refine gP _ ?_ ?_ | refine sN _ ?_ ?_ | refine gN _ ?_ ?_) <;> intro hc <;> (first | replace hc := eqn hc | replace hc := eqp hc) <;> simp [*, encTok]) | ((first | refine sM _ ?_ ?_ | refine gM _ ?_ ?_ | refine sB _ ?_ ?_ | refine gB _ ?_ ?_) <;> intro hc <;> simp [*, encTok])))
                  all_goals exact ⟨⟨q, line, ac ++ [⟨0, w, line⟩]⟩, by simp only; omega, ⟨by first | rfl | omega | (simp only; omega), by simp, by simp [encTok]⟩, s1⟩
              · rw [f1, f2] at hkn
                simp at hkn
                rw [hkn] at hbn s1
                cases f3 : nameM w
                · rw [f3] at hbn
                  simp at hbn
                  replace he := he hbn
                  clear s1 hkn hnbb hbn
                  (simp [*]) <;> (repeat' (first | ((first | refine sP _ ?_ ?_ | refine gP _ ?_ ?_ | refine sN _ ?_ ?_ | refine gN _ ?_ ?_) <;> intro hc <;> (first | replace hc := eqn hc | replace hc := eqp hc) <;> simp [*]) | ((first | refine sM _ ?_ ?_ | refine gM _ ?_ ?_ | refine sB _ ?_ ?_ | refine gB _ ?_ ?_) <;> intro hc <;> simp [*])))
                · rw [f3] at hbn
                  simp at hbn
                  replace s1 := s1 hbn
                  clear he hkn hnbb hbn
                  (simp [*, encTok]) <;> (repeat' (first | ((first | refine sP _ ?_ ?_ | refine gP _ ?_ ?_ | refine sN _ ?_ ?_ | refine gN _ ?_ ?_) <;> intro hc <;> (first | replace hc := eqn hc | replace hc := eqp hc) <;> simp [*, encTok]) | ((first | refine sM _ ?_ ?_ | refine gM _ ?_ ?_ | refine sB _ ?_ ?_ | refine gB _ ?_ ?_) <;> intro hc <;> simp [*, encTok])))
                  all_goals exact ⟨⟨q, line, ac ++ [⟨1, w, line⟩]⟩, by simp only; omega, ⟨by first | rfl | omega | (simp only; omega), by simp, by simp [encTok]⟩, s1⟩
            · rw [f1] at hkn
              simp at hkn
              rw [hkn] at hbn s1
              simp at hbn
              replace s1 := s1 hbn
              clear he hkn hnbb hbn
              cases f2 : letterN b.toNat
              · (simp [*, encTok]) <;> (repeat' (first | ((first | refine sP _ ?_ ?_ | refine gP _ ?_ ?_ | refine sN _ ?_ ?_ | refine gN _ ?_ ?_) <;> intro hc <;> (first | replace hc := eqn hc | replace hc := eqp hc) <;> simp [*, encTok]) | ((first | refine sM _ ?_ ?_ | refine gM _ ?_ ?_ | refine sB _ ?_ ?_ | refine gB _ ?_ ?_) <;> intro hc <;> simp [*, encTok])))
                all_goals exact ⟨⟨q, line, ac ++ [⟨2, w, line⟩]⟩, by simp only; omega, ⟨by first | rfl | omega | (simp only; omega), by simp, by simp [encTok]⟩, s1⟩
              · (simp [*, encTok]) <;> (repeat' (first | ((first | refine sP _ ?_ ?_ | refine gP _ ?_ ?_ | refine sN _ ?_ ?_ | refine gN _ ?_ ?_) <;> intro hc <;> (first | replace hc := eqn hc | replace hc := eqp hc) <;> simp [*, encTok]) | ((first | refine sM _ ?_ ?_ | refine gM _ ?_ ?_ | refine sB _ ?_ ?_ | refine gB _ ?_ ?_) <;> intro hc <;> simp [*, encTok])))
                all_goals exact ⟨⟨q, line, ac ++ [⟨2, w, line⟩]⟩, by simp only; omega, ⟨by first | rfl | omega | (simp only; omega), by simp, by simp [encTok]⟩, s1⟩
    · have r := bbl hcb
      rw [hcb] at hbl
      replace hbl := hbl.symm
      simp only [Bool.or_eq_true, decide_eq_true_eq] at hbl
      clear b10 bbl bcom bname bsign hz hroad e0 hle hci hce hq hcb
      rcases hbl with c1 | c1 | c1
      all_goals
        replace c1 := eqp c1
        rcases hstop with hst | ⟨c, hst, g1, g2, g3, g4⟩
        · (simp [*]) <;> (repeat' (first | ((first | refine sP _ ?_ ?_ | refine gP _ ?_ ?_ | refine sN _ ?_ ?_ | refine gN _ ?_ ?_) <;> intro hc <;> (first | replace hc := eqn hc | replace hc := eqp hc) <;> simp [*]) | ((first | refine sM _ ?_ ?_ | refine gM _ ?_ ?_ | refine sB _ ?_ ?_ | refine gB _ ?_ ?_) <;> intro hc <;> simp [*])))
          all_goals exact ⟨⟨i + 1, line, ac⟩, by simp only; omega, ⟨by simp, by simp, rfl⟩, r⟩
        · have l2 := rletter_spec c.toNat []
          have l3 := rdigit_spec c.toNat []
          (simp [*]) <;> (repeat' (first | ((first | refine sP _ ?_ ?_ | refine gP _ ?_ ?_ | refine sN _ ?_ ?_ | refine gN _ ?_ ?_) <;> intro hc <;> (first | replace hc := eqn hc | replace hc := eqp hc) <;> simp [*]) | ((first | refine sM _ ?_ ?_ | refine gM _ ?_ ?_ | refine sB _ ?_ ?_ | refine gB _ ?_ ?_) <;> intro hc <;> simp [*])))
          all_goals exact ⟨⟨i + 1, line, ac⟩, by simp only; omega, ⟨by simp, by simp, rfl⟩, r⟩
end PE.U

/-
  The document's parser: its state, and its small steps.
-/
namespace PE.U
open Go PE

@[simp] theorem rebuild_agg (a l : List PV) : rebuild (.agg a) l = .agg l := Eq.trans rfl rfl

/-- The parser's state. -/
structure PS where
  at' : Nat
  bad : Bool
  deep : Bool

def pob (T : List Tok) (p : PS) : Store := [.arr 4 [.agg [toks T, .int .i64 p.at', .bool p.bad, .bool p.deep]]]
def tk (T : List Tok) (i : Nat) : Tok := T[i]?.getD ⟨3, [], 0⟩

def overF (p : PS) : Bool := p.bad || p.deep
def isF (T : List Tok) (s : List UInt8) (p : PS) : Bool := !overF p && (decide ((tk T p.at').kind = 2) && decide ((tk T p.at').text = s))
def takeF (T : List Tok) (s : List UInt8) (p : PS) : Bool × PS := if isF T s p then (true, { p with at' := p.at' + 1 }) else (false, p)
def mustF (T : List Tok) (s : List UInt8) (p : PS) : PS := if isF T s p then { p with at' := p.at' + 1 } else if p.deep then p else { p with bad := true }
def textF (T : List Tok) (k : Int) (p : PS) : List UInt8 × PS := if overF p then ([], p) else if (tk T p.at').kind = k then ((tk T p.at').text, { p with at' := p.at' + 1 }) else ([], { p with bad := true })
def typedF (T : List Tok) (p : PS) : Int × PS := if isF T [105, 110, 116] p then (1, { p with at' := p.at' + 1 }) else (2, mustF T [98, 111, 111, 108] p)

/-- What holds of the state: it stands at a token; the last is the end's. -/
structure Inv1 (T : List Tok) (p : PS) : Prop where
  lt : p.at' < T.length
  last : ∃ t, T[T.length - 1]? = some t ∧ t.kind = 3
  sm : T.length < 1000000
  num : ∀ t ∈ T, t.kind = 0 → digs t.text = true ∧ t.text.length < 1000000

theorem tk_get {T : List Tok} {i : Nat} (h : i < T.length) : T[i]? = some (tk T i) := by unfold tk; simp [h]
theorem tk_get' {T : List Tok} {i : Nat} (h : i < T.length) : T[i]'h = tk T i := by unfold tk; simp [h]
theorem Inv1.next {T : List Tok} {p : PS} (h : Inv1 T p) (hk : (tk T p.at').kind ≠ 3) (b d : Bool) : Inv1 T ⟨p.at' + 1, b, d⟩ := by
  obtain ⟨h1, ⟨t, h2, h3⟩, h4, h5⟩ := h
  refine ⟨?_, ⟨t, h2, h3⟩, h4, h5⟩
  show p.at' + 1 < T.length
  rcases Nat.lt_or_ge (p.at' + 1) T.length with h | h
  · exact h
  · have : p.at' = T.length - 1 := by omega
    unfold tk at hk
    rw [this, h2] at hk
    exact absurd h3 hk
theorem isF_kind {T : List Tok} {s : List UInt8} {p : PS} (h : isF T s p = true) : (tk T p.at').kind = 2 ∧ (tk T p.at').text = s ∧ p.bad = false ∧ p.deep = false := by
  simp [isF, overF] at h; grind

def adv (p : PS) : PS := { p with at' := p.at' + 1 }
theorem takeF_eq (T : List Tok) (s : List UInt8) (p : PS) : takeF T s p = if isF T s p then (true, adv p) else (false, p) := rfl
theorem Inv1.adv {T : List Tok} {p : PS} (I : Inv1 T p) (s : List UInt8) (h : isF T s p = true) : Inv1 T (adv p) := I.next (by rw [(isF_kind h).1]; decide) _ _
section
variable {T : List Tok} {p : PS}
theorem over_spec (I : Inv1 T p) : pcall E 40 [.ptr 0 0 0] (pob T p) = some (.ret (.bool (overF p)), pob T p) := by
  refine pcall_wp rfl rfl rfl (by simp) ?_
  unfold overF
  cases hb : p.bad <;> (simp [*, F40, pob, toks]) <;> (repeat' ((first | refine sP _ ?_ ?_ | refine gP _ ?_ ?_ | refine sN _ ?_ ?_ | refine gN _ ?_ ?_ | refine sM _ ?_ ?_ | refine gM _ ?_ ?_ | refine sB _ ?_ ?_ | refine gB _ ?_ ?_) <;> intro hc <;> simp [*, F40, pob, toks]))
theorem is_spec (I : Inv1 T p) (s : List UInt8) : pcall E 68 [.ptr 0 0 0, .str s] (pob T p) = some (.ret (.bool (isF T s p)), pob T p) := by
  refine pcall_wp rfl rfl rfl (by simp) ?_
  have h1 := over_spec I
  have hlt := I.lt
  have hg := tk_get hlt
  have hg' := tk_get' hlt
  unfold isF
  cases ho : overF p
  · rw [ho] at h1
    by_cases hk : (tk T p.at').kind = 2
    · have hk' : decide ((tk T p.at').kind = 2) = true := decide_eq_true hk
      replace hk := eqp hk
      simp [pob, toks] at h1
      (simp [*, F68, pob, toks, encTok]) <;> (repeat' (first | ((first | refine sP _ ?_ ?_ | refine gP _ ?_ ?_ | refine sN _ ?_ ?_ | refine gN _ ?_ ?_) <;> intro hc <;> (first | replace hc := eqn hc | replace hc := eqp hc) <;> simp [*, F68, pob, toks, encTok]) | ((first | refine sM _ ?_ ?_ | refine gM _ ?_ ?_ | refine sB _ ?_ ?_ | refine gB _ ?_ ?_) <;> intro hc <;> simp [*, F68, pob, toks, encTok])))
    · have hk' : decide ((tk T p.at').kind = 2) = false := decide_eq_false hk
      replace hk := eqn hk
      simp [pob, toks] at h1
      (simp [*, F68, pob, toks, encTok]) <;> (repeat' (first | ((first | refine sP _ ?_ ?_ | refine gP _ ?_ ?_ | refine sN _ ?_ ?_ | refine gN _ ?_ ?_) <;> intro hc <;> (first | replace hc := eqn hc | replace hc := eqp hc) <;> simp [*, F68, pob, toks, encTok]) | ((first | refine sM _ ?_ ?_ | refine gM _ ?_ ?_ | refine sB _ ?_ ?_ | refine gB _ ?_ ?_) <;> intro hc <;> simp [*, F68, pob, toks, encTok])))
  · rw [ho] at h1
    simp [pob, toks] at h1
    (simp [*, F68, pob, toks, encTok]) <;> (repeat' (first | ((first | refine sP _ ?_ ?_ | refine gP _ ?_ ?_ | refine sN _ ?_ ?_ | refine gN _ ?_ ?_) <;> intro hc <;> (first | replace hc := eqn hc | replace hc := eqp hc) <;> simp [*, F68, pob, toks, encTok]) | ((first | refine sM _ ?_ ?_ | refine gM _ ?_ ?_ | refine sB _ ?_ ?_ | refine gB _ ?_ ?_) <;> intro hc <;> simp [*, F68, pob, toks, encTok])))
theorem Inv1.take (I : Inv1 T p) (s : List UInt8) : Inv1 T (takeF T s p).2 := by
  unfold takeF
  split
  · rename_i h
    exact I.next (by rw [(isF_kind h).1]; decide) _ _
  · exact I
theorem Inv1.bad' (I : Inv1 T p) : Inv1 T { p with bad := true } := ⟨I.lt, I.last, I.sm, I.num⟩
theorem Inv1.deep' (I : Inv1 T p) : Inv1 T { p with deep := true } := ⟨I.lt, I.last, I.sm, I.num⟩
theorem Inv1.must (I : Inv1 T p) (s : List UInt8) : Inv1 T (mustF T s p) := by
  unfold mustF
  split
  · rename_i h
    exact I.next (by rw [(isF_kind h).1]; decide) _ _
  · split
    · exact I
    · exact I.bad'
theorem Inv1.text (I : Inv1 T p) (k : Int) (hk : k ≠ 3) : Inv1 T (textF T k p).2 := by
  unfold textF
  split
  · exact I
  · split
    · rename_i h
      exact I.next (by rw [h]; exact hk) _ _
    · exact I.bad'
theorem Inv1.typed (I : Inv1 T p) : Inv1 T (typedF T p).2 := by
  unfold typedF
  split
  · rename_i h
    exact I.next (by rw [(isF_kind h).1]; decide) _ _
  · exact I.must _
theorem take_spec (I : Inv1 T p) (s : List UInt8) : pcall E 43 [.ptr 0 0 0, .str s] (pob T p) = some (.ret (.bool (takeF T s p).1), pob T (takeF T s p).2) := by
  refine pcall_wp rfl rfl rfl (by simp) ?_
  have h1 := is_spec I s
  have hw : wrapK .i64 ((p.at' : Int) + 1) = (p.at' : Int) + 1 := wrapK_small (by omega) (by have := I.lt; have := I.sm; omega)
  unfold takeF
  cases ho : isF T s p
  · rw [ho] at h1
    simp [pob, toks] at h1
    (simp [*, F43, pob, toks]) <;> (repeat' (first | ((first | refine sP _ ?_ ?_ | refine gP _ ?_ ?_ | refine sN _ ?_ ?_ | refine gN _ ?_ ?_) <;> intro hc <;> (first | replace hc := eqn hc | replace hc := eqp hc) <;> simp [*, F43, pob, toks]) | ((first | refine sM _ ?_ ?_ | refine gM _ ?_ ?_ | refine sB _ ?_ ?_ | refine gB _ ?_ ?_) <;> intro hc <;> simp [*, F43, pob, toks])))
  · rw [ho] at h1
    simp [pob, toks] at h1
    (simp [*, F43, pob, toks]) <;> (repeat' (first | ((first | refine sP _ ?_ ?_ | refine gP _ ?_ ?_ | refine sN _ ?_ ?_ | refine gN _ ?_ ?_) <;> intro hc <;> (first | replace hc := eqn hc | replace hc := eqp hc) <;> simp [*, F43, pob, toks]) | ((first | refine sM _ ?_ ?_ | refine gM _ ?_ ?_ | refine sB _ ?_ ?_ | refine gB _ ?_ ?_) <;> intro hc <;> simp [*, F43, pob, toks])))
theorem must_spec (I : Inv1 T p) (s : List UInt8) : pcall E 45 [.ptr 0 0 0, .str s] (pob T p) = some (.ret (.tup []), pob T (mustF T s p)) := by
  refine pcall_wp rfl rfl rfl (by simp) ?_
  have h1 := take_spec I s
  unfold mustF
  unfold takeF at h1
  cases ho : isF T s p
  · rw [ho] at h1
    simp [pob, toks] at h1
    cases hd : p.deep
    · rw [hd] at h1
      (simp [*, F45, pob, toks]) <;> (repeat' (first | ((first | refine sP _ ?_ ?_ | refine gP _ ?_ ?_ | refine sN _ ?_ ?_ | refine gN _ ?_ ?_) <;> intro hc <;> (first | replace hc := eqn hc | replace hc := eqp hc) <;> simp [*, F45, pob, toks]) | ((first | refine sM _ ?_ ?_ | refine gM _ ?_ ?_ | refine sB _ ?_ ?_ | refine gB _ ?_ ?_) <;> intro hc <;> simp [*, F45, pob, toks])))
    · rw [hd] at h1
      (simp [*, F45, pob, toks]) <;> (repeat' (first | ((first | refine sP _ ?_ ?_ | refine gP _ ?_ ?_ | refine sN _ ?_ ?_ | refine gN _ ?_ ?_) <;> intro hc <;> (first | replace hc := eqn hc | replace hc := eqp hc) <;> simp [*, F45, pob, toks]) | ((first | refine sM _ ?_ ?_ | refine gM _ ?_ ?_ | refine sB _ ?_ ?_ | refine gB _ ?_ ?_) <;> intro hc <;> simp [*, F45, pob, toks])))
  · rw [ho] at h1
    simp [pob, toks] at h1
    (simp [*, F45, pob, toks]) <;> (repeat' (first | ((first | refine sP _ ?_ ?_ | refine gP _ ?_ ?_ | refine sN _ ?_ ?_ | refine gN _ ?_ ?_) <;> intro hc <;> (first | replace hc := eqn hc | replace hc := eqp hc) <;> simp [*, F45, pob, toks]) | ((first | refine sM _ ?_ ?_ | refine gM _ ?_ ?_ | refine sB _ ?_ ?_ | refine gB _ ?_ ?_) <;> intro hc <;> simp [*, F45, pob, toks])))
theorem text_spec (I : Inv1 T p) (k : Int) : pcall E 42 [.ptr 0 0 0, .int .i64 k] (pob T p) = some (.ret (.str (textF T k p).1), pob T (textF T k p).2) := by
  refine pcall_wp rfl rfl rfl (by simp) ?_
  have h1 := over_spec I
  have hlt := I.lt
  have hg := tk_get hlt
  have hg' := tk_get' hlt
  have hw : wrapK .i64 ((p.at' : Int) + 1) = (p.at' : Int) + 1 := wrapK_small (by omega) (by have := I.lt; have := I.sm; omega)
  unfold textF
  cases ho : overF p
  · rw [ho] at h1
    simp [pob, toks] at h1
    by_cases hk : (tk T p.at').kind = k
    · replace hk := eqp hk
      (simp [*, F42, pob, toks, encTok]) <;> (repeat' (first | ((first | refine sP _ ?_ ?_ | refine gP _ ?_ ?_ | refine sN _ ?_ ?_ | refine gN _ ?_ ?_) <;> intro hc <;> (first | replace hc := eqn hc | replace hc := eqp hc) <;> simp [*, F42, pob, toks, encTok]) | ((first | refine sM _ ?_ ?_ | refine gM _ ?_ ?_ | refine sB _ ?_ ?_ | refine gB _ ?_ ?_) <;> intro hc <;> simp [*, F42, pob, toks, encTok])))
    · replace hk := eqn hk
      (simp [*, F42, pob, toks, encTok]) <;> (repeat' (first | ((first | refine sP _ ?_ ?_ | refine gP _ ?_ ?_ | refine sN _ ?_ ?_ | refine gN _ ?_ ?_) <;> intro hc <;> (first | replace hc := eqn hc | replace hc := eqp hc) <;> simp [*, F42, pob, toks, encTok]) | ((first | refine sM _ ?_ ?_ | refine gM _ ?_ ?_ | refine sB _ ?_ ?_ | refine gB _ ?_ ?_) <;> intro hc <;> simp [*, F42, pob, toks, encTok])))
  · rw [ho] at h1
    simp [pob, toks] at h1
    (simp [*, F42, pob, toks, encTok]) <;> (repeat' (first | ((first | refine sP _ ?_ ?_ | refine gP _ ?_ ?_ | refine sN _ ?_ ?_ | refine gN _ ?_ ?_) <;> intro hc <;> (first | replace hc := eqn hc | replace hc := eqp hc) <;> simp [*, F42, pob, toks, encTok]) | ((first | refine sM _ ?_ ?_ | refine gM _ ?_ ?_ | refine sB _ ?_ ?_ | refine gB _ ?_ ?_) <;> intro hc <;> simp [*, F42, pob, toks, encTok])))
theorem typed_spec (I : Inv1 T p) : pcall E 41 [.ptr 0 0 0] (pob T p) = some (.ret (.int .i64 (typedF T p).1), pob T (typedF T p).2) := by
  refine pcall_wp rfl rfl rfl (by simp) ?_
  have h1 := take_spec I [105, 110, 116]
  have h2 := must_spec I [98, 111, 111, 108]
  unfold typedF
  unfold takeF at h1
  cases ho : isF T [105, 110, 116] p
  · rw [ho] at h1
    (simp [*, F41]) <;> (repeat' (first | ((first | refine sP _ ?_ ?_ | refine gP _ ?_ ?_ | refine sN _ ?_ ?_ | refine gN _ ?_ ?_) <;> intro hc <;> (first | replace hc := eqn hc | replace hc := eqp hc) <;> simp [*, F41]) | ((first | refine sM _ ?_ ?_ | refine gM _ ?_ ?_ | refine sB _ ?_ ?_ | refine gB _ ?_ ?_) <;> intro hc <;> simp [*, F41])))
  · rw [ho] at h1
    (simp [*, F41]) <;> (repeat' (first | ((first | refine sP _ ?_ ?_ | refine gP _ ?_ ?_ | refine sN _ ?_ ?_ | refine gN _ ?_ ?_) <;> intro hc <;> (first | replace hc := eqn hc | replace hc := eqp hc) <;> simp [*, F41]) | ((first | refine sM _ ?_ ?_ | refine gM _ ?_ ?_ | refine sB _ ?_ ?_ | refine gB _ ?_ ?_) <;> intro hc <;> simp [*, F41])))
end
end PE.U

/-
  Operators: signs and levels, and which stands here.
-/
namespace PE.U
open Go PE

def signsR : List (List UInt8) := [[43], [45], [42], [47], [37], [38], [124], [94], [60, 60], [62, 62], [62, 62, 62], [60], [60, 61], [62], [62, 61], [61, 61], [33, 61], [38, 38], [124, 124], [45], [126], [33], [105, 56], [105, 49, 54], [105, 51, 50], [117, 56], [117, 49, 54], [117, 51, 50]]
def signR (op : Int) : List UInt8 := if op < 1 ∨ 28 < op then [] else signsR[(op - 1).toNat]?.getD []
def levelR (op : Int) : Int :=
  if op = 19 then 1 else if op = 18 then 2 else if op = 7 then 3 else if op = 8 then 4 else if op = 6 then 5
  else if op = 16 ∨ op = 17 then 6 else if op = 12 ∨ op = 13 ∨ op = 14 ∨ op = 15 then 7 else if op = 9 ∨ op = 10 ∨ op = 11 then 8
  else if op = 1 ∨ op = 2 then 9 else if op = 3 ∨ op = 4 ∨ op = 5 then 10 else 0
def oneR (op : Int) : Bool := decide (20 ≤ op) && decide (op ≤ 28)

theorem signs_spec : pcall E 114 [] [] = some (.ret (.slice .plain 1 (signsR.map PV.str)), []) := by
  refine pcall_wp rfl rfl rfl (by simp) ?_
  have : signsR.map PV.str = [PV.str [43], PV.str [45], PV.str [42], PV.str [47], PV.str [37], PV.str [38], PV.str [124], PV.str [94], PV.str [60, 60], PV.str [62, 62], PV.str [62, 62, 62], PV.str [60], PV.str [60, 61], PV.str [62], PV.str [62, 61], PV.str [61, 61], PV.str [33, 61], PV.str [38, 38], PV.str [124, 124], PV.str [45], PV.str [126], PV.str [33], PV.str [105, 56], PV.str [105, 49, 54], PV.str [105, 51, 50], PV.str [117, 56], PV.str [117, 49, 54], PV.str [117, 51, 50]] := rfl
  rw [this]
  simp [F114]
theorem rsign_spec (op : Int) : pcall E 110 [.int .i64 op] [] = some (.ret (.str (signR op)), []) := by
  refine pcall_wp rfl rfl rfl (by simp) ?_
  have hs := signs_spec
  unfold signR
  by_cases h1 : op < 1
  · (simp [*, F110]) <;> (repeat' ((first | refine sP _ ?_ ?_ | refine gP _ ?_ ?_ | refine sN _ ?_ ?_ | refine gN _ ?_ ?_ | refine sM _ ?_ ?_ | refine gM _ ?_ ?_ | refine sB _ ?_ ?_ | refine gB _ ?_ ?_) <;> intro hc <;> simp [*, F110]))
  · by_cases h2 : 28 < op
    · (simp [*, F110]) <;> (repeat' ((first | refine sP _ ?_ ?_ | refine gP _ ?_ ?_ | refine sN _ ?_ ?_ | refine gN _ ?_ ?_ | refine sM _ ?_ ?_ | refine gM _ ?_ ?_ | refine sB _ ?_ ?_ | refine gB _ ?_ ?_) <;> intro hc <;> simp [*, F110]))
    · have hw : wrapK .i64 (op - 1) = op - 1 := wrapK_small (by omega) (by omega)
      have h3 : 0 ≤ op - 1 := by omega
      have hl : signsR.length = 28 := rfl
      have h4 : op.toNat - 1 < signsR.length := by omega
      have h6 : (op - 1).toNat = op.toNat - 1 := by omega
      rw [h6]
      have h5 : signsR[op.toNat - 1]? = some (signsR[op.toNat - 1]'h4) := by simp [h4]
      clear h6
      generalize hx : op.toNat - 1 = n at *
      have h3' : 1 ≤ op := by omega
      clear hl
      generalize signsR = l at *
      (simp [*, F110]) <;> (repeat' ((first | refine sP _ ?_ ?_ | refine gP _ ?_ ?_ | refine sN _ ?_ ?_ | refine gN _ ?_ ?_ | refine sM _ ?_ ?_ | refine gM _ ?_ ?_ | refine sB _ ?_ ?_ | refine gB _ ?_ ?_) <;> intro hc <;> simp [*, F110]))
theorem rlevel_spec (op : Int) : pcall E 88 [.int .i64 op] [] = some (.ret (.int .i64 (levelR op)), []) := by
  refine pcall_wp rfl rfl rfl (by simp) ?_
  unfold levelR
  (simp [*, F88]) <;> (repeat' ((first | refine sP _ ?_ ?_ | refine gP _ ?_ ?_ | refine sN _ ?_ ?_ | refine gN _ ?_ ?_ | refine sM _ ?_ ?_ | refine gM _ ?_ ?_ | refine sB _ ?_ ?_ | refine gB _ ?_ ?_) <;> intro hc <;> simp [*, F88]))
theorem roneR_spec (op : Int) : pcall E 87 [.int .i64 op] [] = some (.ret (.bool (oneR op)), []) := by
  refine pcall_wp rfl rfl rfl (by simp) ?_
  unfold oneR
  (simp [*, F87]) <;> (repeat' ((first | refine sP _ ?_ ?_ | refine gP _ ?_ ?_ | refine sN _ ?_ ?_ | refine gN _ ?_ ?_ | refine sM _ ?_ ?_ | refine gM _ ?_ ?_ | refine sB _ ?_ ?_ | refine gB _ ?_ ?_) <;> intro hc <;> simp [*, F87]))

def opHere (T : List Tok) (L : Int) (p : PS) (i : Nat) : Bool := decide (levelR (i + 1 : Nat) = L) && isF T (signR (i + 1 : Nat)) p
def opF (T : List Tok) (L : Int) (p : PS) : Int := match (List.range 19).find? (opHere T L p) with
  | some i => ((i + 1 : Nat) : Int)
  | none => 0

theorem op_spec {T : List Tok} {p : PS} (I : Inv1 T p) (L : Int) : pcall E 105 [.ptr 0 0 0, .int .i64 L] (pob T p) = some (.ret (.int .i64 (opF T L p)), pob T p) := by
  refine pcall_wp rfl rfl rfl (by simp) ?_
  simp [F105]
  refine wp_each (List.range 19) K105_0 B105_0 (fun d => [(5, .int .i64 ((d.length + 1 : Nat) : Int))]) (fun _ => pob T p) (fun d => ∀ i ∈ d, opHere T L p i = false) (by simp) (by simp) ?_ ?_
  · intros d x r s1 hl' hlt hget hget' hw hp h1 h2 h3 h4
    simp at h1 h3 hlt
    have hx : x = d.length := by rw [← hget', List.getElem_range]
    subst hx
    have e1 := rlevel_spec ((d.length + 1 : Nat) : Int)
    have e2 := rsign_spec ((d.length + 1 : Nat) : Int)
    have e3 := is_spec I (signR ((d.length + 1 : Nat) : Int))
    have hle : (d.length : Int) + 1 ≤ 19 := by omega
    have hw2 : wrapK .i64 ((d.length : Int) + 1 + 1) = (d.length : Int) + 1 + 1 := wrapK_small (by omega) (by omega)
    have hf : opHere T L p d.length = true → opF T L p = ((d.length + 1 : Nat) : Int) := by
      intro h
      unfold opF
      rw [hl'.eq, List.find?_append]
      have : d.find? (opHere T L p) = none := by rw [List.find?_eq_none]; intro y hy; simp [hp y hy]
      rw [this]
      simp [List.find?_cons, h]
    have ho : opHere T L p d.length = (decide (levelR ((d.length + 1 : Nat) : Int) = L) && isF T (signR ((d.length + 1 : Nat) : Int)) p) := rfl
    have hn := fun (h : opHere T L p d.length = false) => (fun i (hi : i ∈ d ++ [d.length]) => by
      rcases List.mem_append.1 hi with h' | h'
      · exact hp i h'
      · rw [List.mem_singleton.1 h']; exact h : ∀ i ∈ d ++ [d.length], opHere T L p i = false)
    clear h2 hget hget' hl' hp
    simp at e1 e2 e3 ho hf
    by_cases hL : levelR ((d.length : Int) + 1) = L
    · have hL' : decide (levelR ((d.length : Int) + 1) = L) = true := decide_eq_true hL
      rw [hL', Bool.true_and] at ho
      replace hL := eqp hL
      cases hi : isF T (signR ((d.length : Int) + 1)) p
      · replace hn := hn (ho.trans hi)
        rw [hi] at ho e3
        clear hf ho
        simp [*]
        grind
      · replace hf := hf (ho.trans hi)
        rw [hi] at ho e3
        clear hn ho
        simp [*]
    · have hL' : decide (levelR ((d.length : Int) + 1) = L) = false := decide_eq_false hL
      rw [hL', Bool.false_and] at ho
      replace hL := eqn hL
      replace hn := hn ho
      clear hf ho
      simp [*]
      grind
  · intros s1 hp h1 h2 h3 h4
    simp at h1 h3
    have hf : opF T L p = 0 := by
      unfold opF
      have : (List.range 19).find? (opHere T L p) = none := by rw [List.find?_eq_none]; intro y hy; simp [hp y hy]
      rw [this]
    clear h2 hp
    simp [*]

def unHere (T : List Tok) (p : PS) (i : Nat) : Bool := isF T (signR ((i + 20 : Nat) : Int)) p
def deepF (d : Int) (p : PS) : PS := if 100 < d then if p.bad then p else { p with deep := true } else p
theorem Inv1.deepF {T : List Tok} {p : PS} (I : Inv1 T p) (d : Int) : Inv1 T (deepF d p) := by
  unfold PE.U.deepF
  split
  · split
    · exact I
    · exact I.deep'
  · exact I
/-- The sign ahead that stands here. -/
def unF (T : List Tok) (p : PS) : Option Nat := (List.range 9).find? (unHere T p)
end PE.U

/-
  Operators' signs and levels.
-/
namespace PE.U
open Go PE

def signList : List (List UInt8) := [[], [43], [45], [42], [47], [37], [38], [124], [94], [60, 60], [62, 62], [62, 62, 62], [60], [60, 61], [62], [62, 61], [61, 61], [33, 61], [38, 38], [124, 124], [45], [126], [33], [105, 56], [105, 49, 54], [105, 51, 50], [117, 56], [117, 49, 54], [117, 51, 50]]
def levelList : List Int := [0, 9, 9, 10, 10, 10, 5, 3, 4, 8, 8, 8, 7, 7, 7, 7, 6, 6, 2, 1, 0, 0, 0, 0, 0, 0, 0, 0, 0]
def sgn (op : Int) : List UInt8 := if op < 0 then [] else (signList[op.toNat]?).getD []
def lvl (op : Int) : Int := if op < 0 then 0 else (levelList[op.toNat]?).getD 0

theorem sgnList_get (n : Nat) (h : n < 29) : signList[n]? = some ((signList[n]?).getD []) ∧ levelList[n]? = some ((levelList[n]?).getD 0) := by
  have h1 : n < signList.length := h
  have h2 : n < levelList.length := h
  simp [h1, h2]

theorem rowCells : ∀ n : Nat, n < 29 → List.take 2 (List.drop (n * 2) [.str [], .int .i64 0, .str [43], .int .i64 9, .str [45], .int .i64 9, .str [42], .int .i64 10, .str [47], .int .i64 10, .str [37], .int .i64 10, .str [38], .int .i64 5, .str [124], .int .i64 3, .str [94], .int .i64 4, .str [60, 60], .int .i64 8, .str [62, 62], .int .i64 8, .str [62, 62, 62], .int .i64 8, .str [60], .int .i64 7, .str [60, 61], .int .i64 7, .str [62], .int .i64 7, .str [62, 61], .int .i64 7, .str [61, 61], .int .i64 6, .str [33, 61], .int .i64 6, .str [38, 38], .int .i64 2, .str [124, 124], .int .i64 1, .str [45], .int .i64 0, .str [126], .int .i64 0, .str [33], .int .i64 0, .str [105, 56], .int .i64 0, .str [105, 49, 54], .int .i64 0, .str [105, 51, 50], .int .i64 0, .str [117, 56], .int .i64 0, .str [117, 49, 54], .int .i64 0, .str [117, 51, 50], .int .i64 0]) = [PV.str ((signList[n]?).getD []), PV.int .i64 ((levelList[n]?).getD 0)]
  | 0, _ => rfl
  | 1, _ => rfl
  | 2, _ => rfl
  | 3, _ => rfl
  | 4, _ => rfl
  | 5, _ => rfl
  | 6, _ => rfl
  | 7, _ => rfl
  | 8, _ => rfl
  | 9, _ => rfl
  | 10, _ => rfl
  | 11, _ => rfl
  | 12, _ => rfl
  | 13, _ => rfl
  | 14, _ => rfl
  | 15, _ => rfl
  | 16, _ => rfl
  | 17, _ => rfl
  | 18, _ => rfl
  | 19, _ => rfl
  | 20, _ => rfl
  | 21, _ => rfl
  | 22, _ => rfl
  | 23, _ => rfl
  | 24, _ => rfl
  | 25, _ => rfl
  | 26, _ => rfl
  | 27, _ => rfl
  | 28, _ => rfl
  | n + 29, h => by omega


set_option maxHeartbeats 4000000 in
theorem rowOf_spec (op : Int) (σ : Store) : pcall E 115 [.int .i64 op] σ = some (.ret (.agg [.str (sgn op), .int .i64 (lvl op)]), σ) := by
  refine pcall_wp rfl rfl rfl (by simp) ?_
  by_cases h0 : op < 0
  · simp [F115, h0, sgn, lvl]
  by_cases h1 : 29 ≤ op
  · have : 29 ≤ op.toNat := by omega
    simp [F115, h0, h1, sgn, lvl, signList, levelList, List.getElem?_eq_none, this]
  have h2 : op.toNat < 29 := by omega
  have h3 : 0 ≤ op := by omega
  have h4 : op.toNat * 2 ≤ 56 := by omega
  have e1 : sgn op = ((signList[op.toNat]?).getD []) := by simp [sgn, h0]
  have e2 : lvl op = ((levelList[op.toNat]?).getD 0) := by simp [lvl, h0]
  rw [e1, e2]
  have e3 := rowCells op.toNat h2
  generalize ((signList[op.toNat]?).getD []) = s at *
  generalize ((levelList[op.toNat]?).getD 0) = l at *
  simp [F115, h0, h1, h2, h3, h4, e3]

theorem level_spec (op : Int) (σ : Store) : pcall E 113 [.int .i64 op] σ = some (.ret (.int .i64 (lvl op)), σ) := by
  refine pcall_wp rfl rfl rfl (by simp) ?_
  (simp [*, F113, rowOf_spec]) <;> (repeat' ((first | refine sP _ ?_ ?_ | refine gP _ ?_ ?_ | refine sN _ ?_ ?_ | refine gN _ ?_ ?_ | refine sM _ ?_ ?_ | refine gM _ ?_ ?_ | refine sB _ ?_ ?_ | refine gB _ ?_ ?_) <;> intro hc <;> simp [*, F113, rowOf_spec]))

theorem lvl_eq (op : Int) : lvl op = levelR op := by
  unfold lvl levelR
  by_cases h0 : op < 0
  · rw [if_pos h0]
    repeat (rw [if_neg (by omega)])
  · rw [if_neg h0]
    by_cases h1 : 29 ≤ op
    · have : 29 ≤ op.toNat := by omega
      rw [List.getElem?_eq_none (by simpa [levelList] using this)]
      repeat (rw [if_neg (by omega)])
      rfl
    · obtain ⟨n, rfl⟩ : ∃ n : Nat, op = n := ⟨op.toNat, by omega⟩
      have hn : n < 29 := by omega
      have key : ∀ n : Nat, n < 29 → (levelList[((n : Int)).toNat]?).getD 0 = levelR (n : Int) := by decide
      have := key n hn
      unfold levelR at this
      exact this

end PE.U

/-
  Expressions: what the parser makes of them.
-/
namespace PE.U
open Go PE

mutual
def primaryF (T : List Tok) : Nat → Int → PS → Option (Expr × PS)
  | 0, _, _ => none
  | n + 1, d, p =>
    if overF p then some (⟨0, 0, 0, [], []⟩, p)
    else if isF T [40] p then
      match exprF T n 1 (d + 1) (adv p) with
      | none => none
      | some q => some (q.1, mustF T [41] q.2)
    else if isF T [116, 114, 117, 101] p then some (⟨2, 0, 1, [], []⟩, adv p)
    else if isF T [102, 97, 108, 115, 101] p then some (⟨2, 0, 0, [], []⟩, adv p)
    else if isF T [114, 101, 97, 100] p then some (⟨8, 0, 0, [], []⟩, mustF T [41] (mustF T [40] (adv p)))
    else if (tk T p.at').kind = 0 then some (⟨1, 0, valueM (tk T p.at').text, [], []⟩, adv p)
    else if isF T [40] (textF T 1 p).2 then
      match argsF T n (d + 1) (adv (textF T 1 p).2) with
      | none => none
      | some q => some (⟨7, 0, 0, (textF T 1 p).1, q.1⟩, q.2)
    else if isF T [91] (textF T 1 p).2 then
      match exprF T n 1 (d + 1) (adv (textF T 1 p).2) with
      | none => none
      | some q => some (⟨6, 0, 0, (textF T 1 p).1, [q.1]⟩, mustF T [93] q.2)
    else some (⟨3, 0, 0, (textF T 1 p).1, []⟩, (textF T 1 p).2)
def unaryF (T : List Tok) : Nat → Int → PS → Option (Expr × PS)
  | 0, _, _ => none
  | n + 1, d, p =>
    match unF T (deepF d p) with
    | some i =>
      if 3 ≤ i then
        match exprF T n 1 (d + 1) (mustF T [40] (adv (deepF d p))) with
        | none => none
        | some q => some (⟨4, ((i + 20 : Nat) : Int), 0, [], [q.1]⟩, mustF T [41] q.2)
      else
        match unaryF T n (d + 1) (adv (deepF d p)) with
        | none => none
        | some q => some (⟨4, ((i + 20 : Nat) : Int), 0, [], [q.1]⟩, q.2)
    | none => primaryF T n d (deepF d p)
def exprF (T : List Tok) : Nat → Int → Int → PS → Option (Expr × PS)
  | 0, _, _, _ => none
  | n + 1, L, d, p =>
    if 10 < L then unaryF T n d p
    else match exprF T n (L + 1) d p with
      | none => none
      | some q => exprLoopF T n L d q.1 q.2
def exprLoopF (T : List Tok) : Nat → Int → Int → Expr → PS → Option (Expr × PS)
  | 0, _, _, _, _ => none
  | n + 1, L, d, a, p =>
    if opF T L p = 0 then some (a, p)
    else match exprF T n (L + 1) d (adv p) with
      | none => none
      | some q => exprLoopF T n L d ⟨5, opF T L p, 0, [], [a, q.1]⟩ q.2
def argsF (T : List Tok) : Nat → Int → PS → Option (List Expr × PS)
  | 0, _, _ => none
  | n + 1, d, p =>
    if isF T [41] p then some ([], adv p)
    else match argsLoopF T n d [] true p with
      | none => none
      | some q => some (q.1, mustF T [41] q.2)
def argsLoopF (T : List Tok) : Nat → Int → List Expr → Bool → PS → Option (List Expr × PS)
  | 0, _, _, _, _ => none
  | n + 1, d, l, first, p =>
    if first || isF T [44] p then
      if overF (if first then p else adv p) then some (l, if first then p else adv p)
      else match exprF T n 1 d (if first then p else adv p) with
        | none => none
        | some q => argsLoopF T n d (l ++ [q.1]) false q.2
    else some (l, p)
end

structure ESpec (T : List Tok) (n : Nat) : Prop where
  primary : ∀ d p v p', primaryF T n d p = some (v, p') → Inv1 T p → 0 ≤ d → d + n ≤ 1000000000 → pcall E 111 [.ptr 0 0 0, .int .i64 d] (pob T p) = some (.ret (encExpr v), pob T p') ∧ Inv1 T p'
  unary : ∀ d p v p', unaryF T n d p = some (v, p') → Inv1 T p → 0 ≤ d → d + n ≤ 1000000000 → pcall E 104 [.ptr 0 0 0, .int .i64 d] (pob T p) = some (.ret (encExpr v), pob T p') ∧ Inv1 T p'
  expr : ∀ L d p v p', exprF T n L d p = some (v, p') → Inv1 T p → 1 ≤ L → L ≤ 11 → 0 ≤ d → d + n ≤ 1000000000 → pcall E 97 [.ptr 0 0 0, .int .i64 L, .int .i64 d] (pob T p) = some (.ret (encExpr v), pob T p') ∧ Inv1 T p'
  args : ∀ d p v p', argsF T n d p = some (v, p') → Inv1 T p → 0 ≤ d → d + n ≤ 1000000000 → pcall E 106 [.ptr 0 0 0, .int .i64 d] (pob T p) = some (.ret (exprs v), pob T p') ∧ Inv1 T p'

end PE.U

/-
  Expressions: what has no operator.
-/
namespace PE.U
open Go PE

set_option maxHeartbeats 4000000 in
theorem primary_of {T : List Tok} {n : Nat} (S : ESpec T n) : ∀ d p v p', primaryF T (n + 1) d p = some (v, p') → Inv1 T p → 0 ≤ d → d + (n + 1 : Nat) ≤ 1000000000 → pcall E 111 [.ptr 0 0 0, .int .i64 d] (pob T p) = some (.ret (encExpr v), pob T p') ∧ Inv1 T p' := by
  intro d p v p' h I hd hn
  have hw : wrapK .i64 (d + 1) = d + 1 := wrapK_small (by omega) (by omega)
  simp only [primaryF] at h
  have ho := over_spec I
  cases o : overF p
  case true =>
    rw [if_pos o] at h
    cases h
    refine ⟨?_, I⟩
    refine pcall_wp rfl rfl rfl (by simp) ?_
    rw [o] at ho
    simp [pob, toks] at ho
    simp [*, F111, encExpr, encEs, pob, toks]
  rw [if_neg (by rw [o]; decide)] at h
  rw [o] at ho
  have t1 := take_spec I [40]
  rw [takeF_eq] at t1
  cases c1 : isF T [40] p
  case true =>
    rw [if_pos c1] at h
    rw [c1] at t1
    split at h
    · cases h
    · rename_i q hq
      obtain ⟨e, p2⟩ := q
      cases h
      have IA := I.adv _ c1
      obtain ⟨x1, I3⟩ := S.expr 1 (d + 1) _ e p2 hq IA (by omega) (by omega) (by omega) (by omega)
      have m2 := must_spec I3 [41]
      refine ⟨?_, I3.must _⟩
      refine pcall_wp rfl rfl rfl (by simp) ?_
      clear hq o c1
      rw [encExpr_eq] at x1 ⊢
      simp [pob, toks, adv, exprs] at ho t1 x1 m2
      simp [*, F111, exprs, pob, toks]
  rw [if_neg (by rw [c1]; decide)] at h
  rw [c1] at t1
  have t2 := take_spec I [116, 114, 117, 101]
  rw [takeF_eq] at t2
  cases c2 : isF T [116, 114, 117, 101] p
  case true =>
    rw [if_pos c2] at h
    rw [c2] at t2
    cases h
    refine ⟨?_, I.adv _ c2⟩
    refine pcall_wp rfl rfl rfl (by simp) ?_
    clear o c1 c2
    simp [pob, toks, adv] at ho t1 t2
    simp [*, F111, encExpr, encEs, pob, toks, adv]
  rw [if_neg (by rw [c2]; decide)] at h
  rw [c2] at t2
  have t3 := take_spec I [102, 97, 108, 115, 101]
  rw [takeF_eq] at t3
  cases c3 : isF T [102, 97, 108, 115, 101] p
  case true =>
    rw [if_pos c3] at h
    rw [c3] at t3
    cases h
    refine ⟨?_, I.adv _ c3⟩
    refine pcall_wp rfl rfl rfl (by simp) ?_
    clear o c1 c2 c3
    simp [pob, toks, adv] at ho t1 t2 t3
    simp [*, F111, encExpr, encEs, pob, toks, adv]
  rw [if_neg (by rw [c3]; decide)] at h
  rw [c3] at t3
  have t4 := take_spec I [114, 101, 97, 100]
  rw [takeF_eq] at t4
  cases c4 : isF T [114, 101, 97, 100] p
  case true =>
    rw [if_pos c4] at h
    rw [c4] at t4
    cases h
    have IA := I.adv _ c4
    have m1 := must_spec IA [40]
    have m2 := must_spec (IA.must [40]) [41]
    refine ⟨?_, (IA.must _).must _⟩
    refine pcall_wp rfl rfl rfl (by simp) ?_
    clear o c1 c2 c3 c4
    simp [pob, toks, adv] at ho t1 t2 t3 t4 m1 m2
    simp [*, F111, encExpr, encEs, pob, toks, adv]
  rw [if_neg (by rw [c4]; decide)] at h
  rw [c4] at t4
  have hlt := I.lt
  have hg := tk_get hlt
  have hg' := tk_get' hlt
  by_cases c5 : (tk T p.at').kind = 0
  · rw [if_pos c5] at h
    have tx := text_spec I 0
    have hnum := I.num (tk T p.at') (by rw [← hg']; exact List.getElem_mem hlt) c5
    have vv := value_spec' (tk T p.at').text [] hnum.1 (by omega)
    have htx : textF T 0 p = ((tk T p.at').text, adv p) := by unfold textF; rw [if_neg (by rw [o]; decide), if_pos c5]; rfl
    have IA : Inv1 T (adv p) := I.next (by rw [c5]; decide) _ _
    rw [htx] at tx
    cases h
    refine ⟨?_, IA⟩
    refine pcall_wp rfl rfl rfl (by simp) ?_
    clear o c1 c2 c3 c4 htx
    replace c5 := eqp c5
    simp [pob, toks, adv] at ho t1 t2 t3 t4 tx
    simp [*, F111, encExpr, encEs, pob, toks, adv, encTok]
  rw [if_neg c5] at h
  replace c5 := eqn c5
  have tx := text_spec I 1
  have I1 := I.text 1 (by decide)
  have t6 := take_spec I1 [40]
  rw [takeF_eq] at t6
  generalize htt : textF T 1 p = tt at *
  obtain ⟨s, p1⟩ := tt
  simp only at h tx I1 t6
  clear htt
  cases c6 : isF T [40] p1
  case true =>
    rw [if_pos c6] at h
    rw [c6] at t6
    split at h
    · cases h
    · rename_i q hq
      obtain ⟨l, p2⟩ := q
      cases h
      have IA := I1.adv _ c6
      obtain ⟨x1, I3⟩ := S.args (d + 1) _ l p2 hq IA (by omega) (by omega)
      refine ⟨?_, I3⟩
      refine pcall_wp rfl rfl rfl (by simp) ?_
      clear hq o c1 c2 c3 c4 c6
      rw [encExpr_eq]
      simp [pob, toks, adv, exprs] at ho t1 t2 t3 t4 tx t6 x1
      simp [*, F111, exprs, pob, toks, encTok]
  rw [if_neg (by rw [c6]; decide)] at h
  rw [c6] at t6
  have t7 := take_spec I1 [91]
  rw [takeF_eq] at t7
  cases c7 : isF T [91] p1
  case true =>
    rw [if_pos c7] at h
    rw [c7] at t7
    split at h
    · cases h
    · rename_i q hq
      obtain ⟨e, p2⟩ := q
      cases h
      have IA := I1.adv _ c7
      obtain ⟨x1, I3⟩ := S.expr 1 (d + 1) _ e p2 hq IA (by omega) (by omega) (by omega) (by omega)
      have m2 := must_spec I3 [93]
      refine ⟨?_, I3.must _⟩
      refine pcall_wp rfl rfl rfl (by simp) ?_
      clear hq o c1 c2 c3 c4 c6 c7
      rw [encExpr_eq] at x1
      rw [encExpr_eq]
      simp [pob, toks, adv, exprs] at ho t1 t2 t3 t4 tx t6 t7 x1 m2
      simp [*, F111, exprs, pob, toks, encTok, encExpr_eq]
  rw [if_neg (by rw [c7]; decide)] at h
  rw [c7] at t7
  cases h
  refine ⟨?_, I1⟩
  refine pcall_wp rfl rfl rfl (by simp) ?_
  clear o c1 c2 c3 c4 c6 c7
  simp [pob, toks, adv] at ho t1 t2 t3 t4 tx t6 t7
  simp [*, F111, encExpr, encEs, pob, toks, encTok]
end PE.U

/-
  Expressions of a level.
-/
namespace PE.U
open Go PE

structure LS where
  m : Nat
  a : Expr
  p : PS

theorem opF_pos {T : List Tok} {L : Int} {p : PS} (h : ¬ opF T L p = 0) : ∃ s, isF T s p = true := by
  unfold opF at h
  cases hf : (List.range 19).find? (opHere T L p) with
  | none => rw [hf] at h; exact absurd rfl h
  | some i =>
    have := List.find?_some hf
    simp only [opHere, Bool.and_eq_true] at this
    exact ⟨_, this.2⟩

set_option maxHeartbeats 2000000 in
theorem expr_of {T : List Tok} {n : Nat} (S : ∀ k, k ≤ n → ESpec T k) : ∀ L d p v p', exprF T (n + 1) L d p = some (v, p') → Inv1 T p → 1 ≤ L → L ≤ 11 → 0 ≤ d → d + (n + 1 : Nat) ≤ 1000000000 → pcall E 97 [.ptr 0 0 0, .int .i64 L, .int .i64 d] (pob T p) = some (.ret (encExpr v), pob T p') ∧ Inv1 T p' := by
  intro L d p v p' h I h1 h11 hd hn
  have hw : wrapK .i64 (L + 1) = L + 1 := wrapK_small (by omega) (by omega)
  simp only [exprF] at h
  by_cases hL : 10 < L
  · rw [if_pos hL] at h
    obtain ⟨e, I'⟩ := (S n (by omega)).unary d p v p' h I hd (by omega)
    refine ⟨?_, I'⟩
    refine pcall_wp rfl rfl rfl (by simp) ?_
    rw [encExpr_eq] at e ⊢
    (simp [*, F97]) <;> (repeat' (first | ((first | refine sP _ ?_ ?_ | refine gP _ ?_ ?_ | refine sN _ ?_ ?_ | refine gN _ ?_ ?_) <;> intro hc <;> (first | replace hc := eqn hc | replace hc := eqp hc) <;> simp [*, F97]) | ((first | refine sM _ ?_ ?_ | refine gM _ ?_ ?_ | refine sB _ ?_ ?_ | refine gB _ ?_ ?_) <;> intro hc <;> simp [*, F97])))
  rw [if_neg hL] at h
  cases hx : exprF T n (L + 1) d p with
  | none => rw [hx] at h; cases h
  | some q =>
    obtain ⟨a, p1⟩ := q
    rw [hx] at h
    simp only at h
    obtain ⟨e1, I1⟩ := (S n (by omega)).expr (L + 1) d p a p1 hx I (by omega) (by omega) hd (by omega)
    have hI : ∀ m a p v p', m ≤ n → exprLoopF T m L d a p = some (v, p') → Inv1 T p → Inv1 T p' := by
      intro m
      induction m with
      | zero => intro a p v p' _ h; simp [exprLoopF] at h
      | succ m ih =>
        intro a p v p' hm h I
        simp only [exprLoopF] at h
        split at h
        · cases h; exact I
        · rename_i hne
          obtain ⟨s, hs⟩ := opF_pos hne
          split at h
          · cases h
          · rename_i q hq
            exact ih _ _ _ _ (by omega) h ((S m (by omega)).expr _ _ _ _ _ hq (I.adv s hs) (by omega) (by omega) hd (by omega)).2
    have I' := hI n a p1 v p' (by omega) h I1
    refine ⟨?_, I'⟩
    refine pcall_wp rfl rfl rfl (by simp) ?_
    rw [encExpr_eq] at e1 ⊢
    simp [F97, hL, hw, e1, exprs]
    refine wp_while K97_0 B97_0 (fun c : LS => c.m) (fun c => []) (fun c => [(6, .cells [.int .i64 0, .int .i64 0, .int .i64 0, .str [], .slice .fit 5 []]), (7, .cells [.int .i64 c.a.kind, .int .i64 c.a.op, .int .i64 c.a.n, .str c.a.name, exprs c.a.args])]) (fun c => pob T c.p) (fun c => c.m ≤ n ∧ exprLoopF T c.m L d c.a c.p = some (v, p') ∧ Inv1 T c.p) ⟨n, a, p1⟩ ⟨by simp, by simp [exprs], by simp, Nat.le_refl _, h, I1⟩ ?_
    rintro ⟨m, a, p⟩ s1 ⟨hm, hr, I⟩ g1 g2 g3 g4 g5
    simp at g1 g4 g5 hm hr I
    clear g2 g3 e1 hx h I1 I' hI
    cases m with
    | zero => simp [exprLoopF] at hr
    | succ m =>
      simp only [exprLoopF] at hr
      have ho := op_spec I L
      by_cases hne : opF T L p = 0
      · rw [if_pos hne] at hr
        cases hr
        replace hne := eqp hne
        simp [pob, toks, exprs] at ho g4 g5 ⊢
        (simp [*]) <;> (repeat' (first | ((first | refine sP _ ?_ ?_ | refine gP _ ?_ ?_ | refine sN _ ?_ ?_ | refine gN _ ?_ ?_) <;> intro hc <;> (first | replace hc := eqn hc | replace hc := eqp hc) <;> simp [*]) | ((first | refine sM _ ?_ ?_ | refine gM _ ?_ ?_ | refine sB _ ?_ ?_ | refine gB _ ?_ ?_) <;> intro hc <;> simp [*])))
      · rw [if_neg hne] at hr
        obtain ⟨s, hs⟩ := opF_pos hne
        split at hr
        · cases hr
        · rename_i q hq
          obtain ⟨b, p2⟩ := q
          simp only at hr
          obtain ⟨e2, I2⟩ := (S m (by omega)).expr (L + 1) d _ b p2 hq (I.adv s hs) (by omega) (by omega) hd (by omega)
          have hwa : wrapK .i64 ((p.at' : Int) + 1) = (p.at' : Int) + 1 := wrapK_small (by omega) (by have := I.lt; have := I.sm; omega)
          replace hne := eqn hne
          rw [encExpr_eq] at e2
          simp [pob, toks, exprs, adv] at ho g4 g5 e2 ⊢
          clear hq hs
          (simp [*]) <;> (repeat' (first | ((first | refine sP _ ?_ ?_ | refine gP _ ?_ ?_ | refine sN _ ?_ ?_ | refine gN _ ?_ ?_) <;> intro hc <;> (first | replace hc := eqn hc | replace hc := eqp hc) <;> simp [*]) | ((first | refine sM _ ?_ ?_ | refine gM _ ?_ ?_ | refine sB _ ?_ ?_ | refine gB _ ?_ ?_) <;> intro hc <;> simp [*])))
          refine ⟨⟨m, ⟨5, opF T L p, 0, [], [a, b]⟩, p2⟩, Nat.lt_succ_self m, ⟨rfl, rfl, rfl, rfl, ?_⟩, ⟨rfl, rfl, rfl⟩, by simp only; omega, hr, I2⟩
          simp [encExpr_eq, exprs]
end PE.U

/-
  Expressions with a sign ahead.
-/
namespace PE.U
open Go PE

theorem unF_get {T : List Tok} {p : PS} {i : Nat} (h : unF T p = some i) : i < 9 ∧ unHere T p i = true ∧ ∀ j, j < i → unHere T p j = false := by
  unfold unF at h
  refine ⟨List.mem_range.1 (List.mem_of_find?_eq_some h), List.find?_some h, ?_⟩
  intro j hj
  rw [List.find?_eq_some_iff_getElem] at h
  obtain ⟨_, k, hk, h1, h2⟩ := h
  simp at h1
  have := h2 j (by omega)
  simpa using this

set_option maxHeartbeats 2000000 in
theorem unary_of {T : List Tok} {n : Nat} (S : ESpec T n) : ∀ d p v p', unaryF T (n + 1) d p = some (v, p') → Inv1 T p → 0 ≤ d → d + (n + 1 : Nat) ≤ 1000000000 → pcall E 104 [.ptr 0 0 0, .int .i64 d] (pob T p) = some (.ret (encExpr v), pob T p') ∧ Inv1 T p' := by
  intro d p v p' h I hd hn
  have hw : wrapK .i64 (d + 1) = d + 1 := wrapK_small (by omega) (by omega)
  simp only [unaryF] at h
  -- what comes of it
  have key : ∀ q, Inv1 T q → q = deepF d p → ∃ Q : Prop, True := fun _ _ _ => ⟨True, trivial⟩
  clear key
  have I2 : Inv1 T (deepF d p) := I.deepF d
  have hI : Inv1 T p' := by
    cases hu : unF T (deepF d p) with
    | none => rw [hu] at h; exact (S.primary _ _ _ _ h I2 hd (by omega)).2
    | some i =>
      rw [hu] at h
      simp only at h
      have hi := (unF_get hu).2.1
      split at h
      · split at h
        · cases h
        · rename_i q hq
          cases h
          exact (S.expr _ _ _ _ _ hq ((I2.adv _ hi).must _) (by omega) (by omega) (by omega) (by omega)).2.must _
      · split at h
        · cases h
        · rename_i q hq
          cases h
          exact (S.unary _ _ _ _ hq (I2.adv _ hi) (by omega) (by omega)).2
  refine ⟨?_, hI⟩
  refine pcall_wp rfl rfl rfl (by simp) ?_
  rw [encExpr_eq]
  have hdp : deepF d p = if 100 < d then if p.bad then p else { p with deep := true } else p := rfl
  obtain ⟨pa, pb, pd⟩ := p
  by_cases h100 : 100 < d
  · cases pb
    · simp [h100] at hdp
      rw [hdp] at h I2
      clear hdp I
      replace h100 := eqp h100
      simp [F104, h100, hw, pob, toks]
      refine wp_eachB (List.range 9) K104_0 B104_0 (fun c => [(5, .int .i64 ((c.length + 20 : Nat) : Int))]) (fun _ => [(4, .cells [.int .i64 0, .int .i64 0, .int .i64 0, .str [], .slice .fit 5 []])]) (fun _ => pob T ⟨pa, false, true⟩) (fun c => ∀ i ∈ c, unHere T ⟨pa, false, true⟩ i = false) (by simp) (by simp [pob, toks]) ?_ ?_
      · intros c x r s1 hl' hlt hget hget' hw1 hp g1 g2 g3 g3' g4
        simp at g1 g3 g3' hlt
        have hx : x = c.length := by rw [← hget', List.getElem_range]
        subst hx
        have e2 := rsign_spec ((c.length + 20 : Nat) : Int)
        have e3 := take_spec I2 (signR ((c.length + 20 : Nat) : Int))
        rw [takeF_eq] at e3
        have hle : (c.length : Int) + 20 ≤ 28 := by omega
        have hw2 : wrapK .i64 ((c.length : Int) + 20 + 1) = (c.length : Int) + 1 + 20 := by rw [wrapK_small (by omega) (by omega)]; omega
        have hf : unHere T ⟨pa, false, true⟩ c.length = true → unF T ⟨pa, false, true⟩ = some c.length := by
          intro h
          unfold unF
          rw [hl'.eq, List.find?_append]
          have : c.find? (unHere T ⟨pa, false, true⟩) = none := by rw [List.find?_eq_none]; intro y hy; simp [hp y hy]
          rw [this]
          simp [List.find?_cons, h]
        have hu : unHere T ⟨pa, false, true⟩ c.length = isF T (signR ((c.length + 20 : Nat) : Int)) ⟨pa, false, true⟩ := rfl
        have hnx := fun (h : unHere T ⟨pa, false, true⟩ c.length = false) => (fun i (hi : i ∈ c ++ [c.length]) => by
          rcases List.mem_append.1 hi with h' | h'
          · exact hp i h'
          · rw [List.mem_singleton.1 h']; exact h : ∀ i ∈ c ++ [c.length], unHere T ⟨pa, false, true⟩ i = false)
        clear g2 hget hget' hl' hp
        cases hi : isF T (signR ((c.length + 20 : Nat) : Int)) ⟨pa, false, true⟩
        · replace hnx := hnx (hu.trans hi)
          rw [hi] at e3
          clear hf hu h
          simp [pob, toks] at e2 e3 g4
          simp [*]
          exact ⟨rfl, fun i hi => hnx i (by simpa using hi)⟩
        · replace hf := hf (hu.trans hi)
          have IA := I2.adv _ hi
          rw [hi] at e3
          rw [hf] at h
          simp only at h
          clear hnx hu hf
          by_cases h3 : 3 ≤ c.length
          · rw [if_pos h3] at h
            have h23 : (23 : Int) ≤ (c.length : Int) + 20 := by omega
            have m1 := must_spec IA [40]
            split at h
            · cases h
            · rename_i x hq
              obtain ⟨e, p2⟩ := x
              cases h
              obtain ⟨x1, I3⟩ := S.expr 1 (d + 1) _ e p2 hq (IA.must _) (by omega) (by omega) (by omega) (by omega)
              have m2 := must_spec I3 [41]
              clear hi
              rw [encExpr_eq] at x1
              simp [pob, toks, exprs, adv] at e2 e3 g4 m1 m2 x1
              clear hq
              simp [*, exprs, pob, toks, encExpr_eq]
          · rw [if_neg h3] at h
            have h23 : ¬ (23 : Int) ≤ (c.length : Int) + 20 := by omega
            split at h
            · cases h
            · rename_i x hq
              obtain ⟨e, p2⟩ := x
              cases h
              obtain ⟨x1, I3⟩ := S.unary (d + 1) _ e p2 hq IA (by omega) (by omega)
              clear hi
              rw [encExpr_eq] at x1
              simp [pob, toks, exprs, adv] at e2 e3 g4 x1
              clear hq
              simp [*, exprs, pob, toks, encExpr_eq]
      · intros s1 hp g1 g2 g3 g3' g4
        simp at g1 g3 g3'
        have hf : unF T ⟨pa, false, true⟩ = none := by
          unfold unF
          rw [List.find?_eq_none]; intro y hy; simp [hp y hy]
        rw [hf] at h
        simp only at h
        obtain ⟨x1, I3⟩ := S.primary _ _ _ _ h I2 hd (by omega)
        rw [encExpr_eq] at x1
        clear g2 hp hf h
        simp [pob, toks, exprs] at x1 g4
        simp [*, exprs]
  
  
    · simp [h100] at hdp
      rw [hdp] at h I2
      clear hdp I
      replace h100 := eqp h100
      simp [F104, h100, hw, pob, toks]
      refine wp_eachB (List.range 9) K104_0 B104_0 (fun c => [(5, .int .i64 ((c.length + 20 : Nat) : Int))]) (fun _ => [(4, .cells [.int .i64 0, .int .i64 0, .int .i64 0, .str [], .slice .fit 5 []])]) (fun _ => pob T ⟨pa, true, pd⟩) (fun c => ∀ i ∈ c, unHere T ⟨pa, true, pd⟩ i = false) (by simp) (by simp [pob, toks]) ?_ ?_
      · intros c x r s1 hl' hlt hget hget' hw1 hp g1 g2 g3 g3' g4
        simp at g1 g3 g3' hlt
        have hx : x = c.length := by rw [← hget', List.getElem_range]
        subst hx
        have e2 := rsign_spec ((c.length + 20 : Nat) : Int)
        have e3 := take_spec I2 (signR ((c.length + 20 : Nat) : Int))
        rw [takeF_eq] at e3
        have hle : (c.length : Int) + 20 ≤ 28 := by omega
        have hw2 : wrapK .i64 ((c.length : Int) + 20 + 1) = (c.length : Int) + 1 + 20 := by rw [wrapK_small (by omega) (by omega)]; omega
        have hf : unHere T ⟨pa, true, pd⟩ c.length = true → unF T ⟨pa, true, pd⟩ = some c.length := by
          intro h
          unfold unF
          rw [hl'.eq, List.find?_append]
          have : c.find? (unHere T ⟨pa, true, pd⟩) = none := by rw [List.find?_eq_none]; intro y hy; simp [hp y hy]
          rw [this]
          simp [List.find?_cons, h]
        have hu : unHere T ⟨pa, true, pd⟩ c.length = isF T (signR ((c.length + 20 : Nat) : Int)) ⟨pa, true, pd⟩ := rfl
        have hnx := fun (h : unHere T ⟨pa, true, pd⟩ c.length = false) => (fun i (hi : i ∈ c ++ [c.length]) => by
          rcases List.mem_append.1 hi with h' | h'
          · exact hp i h'
          · rw [List.mem_singleton.1 h']; exact h : ∀ i ∈ c ++ [c.length], unHere T ⟨pa, true, pd⟩ i = false)
        clear g2 hget hget' hl' hp
        cases hi : isF T (signR ((c.length + 20 : Nat) : Int)) ⟨pa, true, pd⟩
        · replace hnx := hnx (hu.trans hi)
          rw [hi] at e3
          clear hf hu h
          simp [pob, toks] at e2 e3 g4
          simp [*]
          exact ⟨rfl, fun i hi => hnx i (by simpa using hi)⟩
        · replace hf := hf (hu.trans hi)
          have IA := I2.adv _ hi
          rw [hi] at e3
          rw [hf] at h
          simp only at h
          clear hnx hu hf
          by_cases h3 : 3 ≤ c.length
          · rw [if_pos h3] at h
            have h23 : (23 : Int) ≤ (c.length : Int) + 20 := by omega
            have m1 := must_spec IA [40]
            split at h
            · cases h
            · rename_i x hq
              obtain ⟨e, p2⟩ := x
              cases h
              obtain ⟨x1, I3⟩ := S.expr 1 (d + 1) _ e p2 hq (IA.must _) (by omega) (by omega) (by omega) (by omega)
              have m2 := must_spec I3 [41]
              clear hi
              rw [encExpr_eq] at x1
              simp [pob, toks, exprs, adv] at e2 e3 g4 m1 m2 x1
              clear hq
              simp [*, exprs, pob, toks, encExpr_eq]
          · rw [if_neg h3] at h
            have h23 : ¬ (23 : Int) ≤ (c.length : Int) + 20 := by omega
            split at h
            · cases h
            · rename_i x hq
              obtain ⟨e, p2⟩ := x
              cases h
              obtain ⟨x1, I3⟩ := S.unary (d + 1) _ e p2 hq IA (by omega) (by omega)
              clear hi
              rw [encExpr_eq] at x1
              simp [pob, toks, exprs, adv] at e2 e3 g4 x1
              clear hq
              simp [*, exprs, pob, toks, encExpr_eq]
      · intros s1 hp g1 g2 g3 g3' g4
        simp at g1 g3 g3'
        have hf : unF T ⟨pa, true, pd⟩ = none := by
          unfold unF
          rw [List.find?_eq_none]; intro y hy; simp [hp y hy]
        rw [hf] at h
        simp only at h
        obtain ⟨x1, I3⟩ := S.primary _ _ _ _ h I2 hd (by omega)
        rw [encExpr_eq] at x1
        clear g2 hp hf h
        simp [pob, toks, exprs] at x1 g4
        simp [*, exprs]
  
  
  · simp [h100] at hdp
    rw [hdp] at h I2
    clear hdp I
    replace h100 := eqn h100
    simp [F104, h100, hw, pob, toks]
    refine wp_eachB (List.range 9) K104_0 B104_0 (fun c => [(5, .int .i64 ((c.length + 20 : Nat) : Int))]) (fun _ => [(4, .cells [.int .i64 0, .int .i64 0, .int .i64 0, .str [], .slice .fit 5 []])]) (fun _ => pob T ⟨pa, pb, pd⟩) (fun c => ∀ i ∈ c, unHere T ⟨pa, pb, pd⟩ i = false) (by simp) (by simp [pob, toks]) ?_ ?_
    · intros c x r s1 hl' hlt hget hget' hw1 hp g1 g2 g3 g3' g4
      simp at g1 g3 g3' hlt
      have hx : x = c.length := by rw [← hget', List.getElem_range]
      subst hx
      have e2 := rsign_spec ((c.length + 20 : Nat) : Int)
      have e3 := take_spec I2 (signR ((c.length + 20 : Nat) : Int))
      rw [takeF_eq] at e3
      have hle : (c.length : Int) + 20 ≤ 28 := by omega
      have hw2 : wrapK .i64 ((c.length : Int) + 20 + 1) = (c.length : Int) + 1 + 20 := by rw [wrapK_small (by omega) (by omega)]; omega
      have hf : unHere T ⟨pa, pb, pd⟩ c.length = true → unF T ⟨pa, pb, pd⟩ = some c.length := by
        intro h
        unfold unF
        rw [hl'.eq, List.find?_append]
        have : c.find? (unHere T ⟨pa, pb, pd⟩) = none := by rw [List.find?_eq_none]; intro y hy; simp [hp y hy]
        rw [this]
        simp [List.find?_cons, h]
      have hu : unHere T ⟨pa, pb, pd⟩ c.length = isF T (signR ((c.length + 20 : Nat) : Int)) ⟨pa, pb, pd⟩ := rfl
      have hnx := fun (h : unHere T ⟨pa, pb, pd⟩ c.length = false) => (fun i (hi : i ∈ c ++ [c.length]) => by
        rcases List.mem_append.1 hi with h' | h'
        · exact hp i h'
        · rw [List.mem_singleton.1 h']; exact h : ∀ i ∈ c ++ [c.length], unHere T ⟨pa, pb, pd⟩ i = false)
      clear g2 hget hget' hl' hp
      cases hi : isF T (signR ((c.length + 20 : Nat) : Int)) ⟨pa, pb, pd⟩
      · replace hnx := hnx (hu.trans hi)
        rw [hi] at e3
        clear hf hu h
        simp [pob, toks] at e2 e3 g4
        simp [*]
        exact ⟨rfl, fun i hi => hnx i (by simpa using hi)⟩
      · replace hf := hf (hu.trans hi)
        have IA := I2.adv _ hi
        rw [hi] at e3
        rw [hf] at h
        simp only at h
        clear hnx hu hf
        by_cases h3 : 3 ≤ c.length
        · rw [if_pos h3] at h
          have h23 : (23 : Int) ≤ (c.length : Int) + 20 := by omega
          have m1 := must_spec IA [40]
          split at h
          · cases h
          · rename_i x hq
            obtain ⟨e, p2⟩ := x
            cases h
            obtain ⟨x1, I3⟩ := S.expr 1 (d + 1) _ e p2 hq (IA.must _) (by omega) (by omega) (by omega) (by omega)
            have m2 := must_spec I3 [41]
            clear hi
            rw [encExpr_eq] at x1
            simp [pob, toks, exprs, adv] at e2 e3 g4 m1 m2 x1
            clear hq
            simp [*, exprs, pob, toks, encExpr_eq]
        · rw [if_neg h3] at h
          have h23 : ¬ (23 : Int) ≤ (c.length : Int) + 20 := by omega
          split at h
          · cases h
          · rename_i x hq
            obtain ⟨e, p2⟩ := x
            cases h
            obtain ⟨x1, I3⟩ := S.unary (d + 1) _ e p2 hq IA (by omega) (by omega)
            clear hi
            rw [encExpr_eq] at x1
            simp [pob, toks, exprs, adv] at e2 e3 g4 x1
            clear hq
            simp [*, exprs, pob, toks, encExpr_eq]
    · intros s1 hp g1 g2 g3 g3' g4
      simp at g1 g3 g3'
      have hf : unF T ⟨pa, pb, pd⟩ = none := by
        unfold unF
        rw [List.find?_eq_none]; intro y hy; simp [hp y hy]
      rw [hf] at h
      simp only at h
      obtain ⟨x1, I3⟩ := S.primary _ _ _ _ h I2 hd (by omega)
      rw [encExpr_eq] at x1
      clear g2 hp hf h
      simp [pob, toks, exprs] at x1 g4
      simp [*, exprs]


end PE.U

/-
  Expressions up to a bracket.
-/
namespace PE.U
open Go PE

structure AS where
  m : Nat
  l : List Expr
  f : Bool
  p : PS

set_option maxHeartbeats 2000000 in
theorem args_of {T : List Tok} {n : Nat} (S : ∀ k, k ≤ n → ESpec T k) : ∀ d p v p', argsF T (n + 1) d p = some (v, p') → Inv1 T p → 0 ≤ d → d + (n + 1 : Nat) ≤ 1000000000 → pcall E 106 [.ptr 0 0 0, .int .i64 d] (pob T p) = some (.ret (exprs v), pob T p') ∧ Inv1 T p' := by
  intro d p v p' h I hd hn
  simp only [argsF] at h
  have t1 := take_spec I [41]
  rw [takeF_eq] at t1
  cases c1 : isF T [41] p
  case true =>
    rw [if_pos c1] at h
    rw [c1] at t1
    cases h
    refine ⟨?_, I.adv _ c1⟩
    refine pcall_wp rfl rfl rfl (by simp) ?_
    clear c1
    simp [*, F106, exprs]
  rw [if_neg (by rw [c1]; decide)] at h
  rw [c1] at t1
  split at h
  · cases h
  rename_i q hq
  obtain ⟨l', p1⟩ := q
  cases h
  have hI : ∀ m l f p v p', m ≤ n → argsLoopF T m d l f p = some (v, p') → Inv1 T p → Inv1 T p' := by
    intro m
    induction m with
    | zero => intro l f p v p' _ h; simp [argsLoopF] at h
    | succ m ih =>
      intro l f p v p' hm h I
      simp only [argsLoopF] at h
      have fin : ∀ q : PS, Inv1 T q → (if overF q then some (l, q) else match exprF T m 1 d q with | none => none | some x => argsLoopF T m d (l ++ [x.1]) false x.2) = some (v, p') → Inv1 T p' := by
        intro q Iq h
        cases ho : overF q
        · rw [if_neg (by rw [ho]; decide)] at h
          split at h
          · cases h
          · rename_i x hx
            exact ih _ _ _ _ _ (by omega) h ((S m (by omega)).expr _ _ _ _ _ hx Iq (by omega) (by omega) hd (by omega)).2
        · rw [if_pos ho] at h
          cases h
          exact Iq
      cases f
      · cases c2 : isF T [44] p
        · rw [c2] at h
          simp at h
          exact h.2 ▸ I
        · rw [c2] at h
          simp at h
          exact fin _ (I.adv _ c2) h
      · simp at h
        exact fin _ I h
  have I' := hI n _ _ _ _ _ (Nat.le_refl _) hq I
  refine ⟨?_, I'.must _⟩
  refine pcall_wp rfl rfl rfl (by simp) ?_
  have m1 := must_spec I' [41]
  simp [*, F106, exprs]
  refine wp_while K106_0 B106_0 (fun c : AS => c.m) (fun c => [(5, acc 5 (c.l.map encExpr)), (6, .bool c.f)]) (fun c => []) (fun c => pob T c.p) (fun c => c.m ≤ n ∧ c.l.length + c.m ≤ n ∧ argsLoopF T c.m d c.l c.f c.p = some (l', p1) ∧ Inv1 T c.p) ⟨n, [], true, p⟩ ⟨by simp, by simp, by simp, Nat.le_refl _, by simp, hq, I⟩ ?_
  rintro ⟨m, l, f, p⟩ s1 ⟨hm, hlm, hr, I⟩ g1 g2 g3 g4 g5
  simp at g1 g3 g5 hm hlm hr I
  clear g2 g4 t1 hq I' hI
  cases m with
  | zero => simp [argsLoopF] at hr
  | succ m =>
    simp only [argsLoopF] at hr
    have hroom : (l.length + 1) * 64 ≤ roomMax := by simp only [roomMax]; omega
    have t2 := take_spec I [44]
    rw [takeF_eq] at t2
    have key : ∀ q : PS, Inv1 T q → (if overF q then some (l, q) else match exprF T m 1 d q with | none => none | some x => argsLoopF T m d (l ++ [x.1]) false x.2) = some (l', p1) →
       (overF q = true ∧ l = l' ∧ q = p1) ∨ (overF q = false ∧ ∃ e p2, pcall E 97 [.ptr 0 0 0, .int .i64 1, .int .i64 d] (pob T q) = some (.ret (encExpr e), pob T p2) ∧ Inv1 T p2 ∧ argsLoopF T m d (l ++ [e]) false p2 = some (l', p1)) := by
      intro q Iq h
      cases ho : overF q
      · right
        rw [if_neg (by rw [ho]; decide)] at h
        split at h
        · cases h
        · rename_i x hx
          obtain ⟨e, p2⟩ := x
          obtain ⟨x1, I3⟩ := (S m (by omega)).expr 1 d _ e p2 hx Iq (by omega) (by omega) hd (by omega)
          exact ⟨rfl, e, p2, x1, I3, h⟩
      · left
        rw [if_pos ho] at h
        cases h
        exact ⟨rfl, rfl, rfl⟩
    cases f
    · cases c2 : isF T [44] p
      · rw [c2] at hr t2
        simp at hr
        obtain ⟨rfl, rfl⟩ := hr
        clear key c2
        simp [*]
      · have IA := I.adv _ c2
        rw [c2] at hr t2
        simp at hr
        have ho := over_spec IA
        rcases key _ IA hr with ⟨k1, rfl, rfl⟩ | ⟨k1, e, p2, x1, I3, hr2⟩
        · rw [k1] at ho
          clear key c2 hr
          simp [*]
        · rw [k1] at ho
          rw [encExpr_eq] at x1
          clear key c2 hr k1
          simp [*]
          exact ⟨⟨m, l ++ [e], false, p2⟩, Nat.lt_succ_self m, ⟨by simp [encExpr_eq], rfl⟩, rfl, by simp only; omega, by simp only [List.length_append, List.length_cons, List.length_nil]; omega, hr2, I3⟩
    · simp at hr
      have ho := over_spec I
      rcases key _ I hr with ⟨k1, rfl, rfl⟩ | ⟨k1, e, p2, x1, I3, hr2⟩
      · rw [k1] at ho
        clear key hr t2
        simp [*]
      · rw [k1] at ho
        rw [encExpr_eq] at x1
        clear key hr k1 t2
        simp [*]
        exact ⟨⟨m, l ++ [e], false, p2⟩, Nat.lt_succ_self m, ⟨by simp [encExpr_eq], rfl⟩, rfl, by simp only; omega, by simp only [List.length_append, List.length_cons, List.length_nil]; omega, hr2, I3⟩
end PE.U

/-
  Expressions, put together; statements that begin with a name.
-/
namespace PE.U
open Go PE

theorem espec_all (T : List Tok) : ∀ n k, k ≤ n → ESpec T k
  | 0, k, h => by
    have : k = 0 := by omega
    subst this
    exact ⟨fun _ _ _ _ h => by simp [primaryF] at h, fun _ _ _ _ h => by simp [unaryF] at h, fun _ _ _ _ _ h => by simp [exprF] at h, fun _ _ _ _ h => by simp [argsF] at h⟩
  | n + 1, k, h => by
    have ih := espec_all T n
    rcases Nat.lt_or_ge k (n + 1) with h1 | h1
    · exact ih k (by omega)
    · have : k = n + 1 := by omega
      subst this
      exact ⟨primary_of (ih n (Nat.le_refl n)), unary_of (ih n (Nat.le_refl n)), expr_of ih, args_of ih⟩
theorem espec (T : List Tok) (n : Nat) : ESpec T n := espec_all T n n (Nat.le_refl n)

theorem expr1_spec {T : List Tok} {n : Nat} {p p' : PS} {v : Expr} (h : exprF T n 1 1 p = some (v, p')) (I : Inv1 T p) (hn : n ≤ 999999990) : pcall E 97 [.ptr 0 0 0, .int .i64 1, .int .i64 1] (pob T p) = some (.ret (encExpr v), pob T p') ∧ Inv1 T p' :=
  (espec T n).expr 1 1 p v p' h I (by omega) (by omega) (by omega) (by omega)

def insideF (T : List Tok) (n : Nat) (p : PS) : Option (Expr × PS) :=
  match exprF T n 1 1 (mustF T [40] p) with
  | none => none
  | some q => some (q.1, mustF T [41] q.2)
theorem inside_spec {T : List Tok} {n : Nat} {p p' : PS} {v : Expr} (h : insideF T n p = some (v, p')) (I : Inv1 T p) (hn : n ≤ 999999990) : pcall E 98 [.ptr 0 0 0] (pob T p) = some (.ret (exprs [v]), pob T p') ∧ Inv1 T p' := by
  unfold insideF at h
  split at h
  · cases h
  · rename_i q hq
    obtain ⟨e, p1⟩ := q
    cases h
    have m1 := must_spec I [40]
    obtain ⟨x1, I1⟩ := expr1_spec hq (I.must _) hn
    have m2 := must_spec I1 [41]
    refine ⟨?_, I1.must _⟩
    refine pcall_wp rfl rfl rfl (by simp) ?_
    clear hq
    rw [encExpr_eq] at x1
    simp [*, F98, exprs, encExpr_eq]

def namedF (T : List Tok) (n : Nat) (p : PS) : Option (Stmt × PS) :=
  if isF T [40] (textF T 1 p).2 then
    match argsF T n 2 (adv (textF T 1 p).2) with
    | none => none
    | some q => some (⟨10, 0, [], [⟨7, 0, 0, (textF T 1 p).1, q.1⟩], [], []⟩, q.2)
  else if isF T [91] (textF T 1 p).2 then
    match exprF T n 1 1 (adv (textF T 1 p).2) with
    | none => none
    | some q => match exprF T n 1 1 (mustF T [61] (mustF T [93] q.2)) with
      | none => none
      | some r => some (⟨3, 0, (textF T 1 p).1, [q.1, r.1], [], []⟩, r.2)
  else match exprF T n 1 1 (mustF T [61] (textF T 1 p).2) with
    | none => none
    | some q => some (⟨2, 0, (textF T 1 p).1, [q.1], [], []⟩, q.2)

theorem named_spec {T : List Tok} {n : Nat} {p p' : PS} {v : Stmt} (h : namedF T n p = some (v, p')) (I : Inv1 T p) (hn : n ≤ 999999990) : pcall E 99 [.ptr 0 0 0] (pob T p) = some (.ret (encStmt v), pob T p') ∧ Inv1 T p' := by
  unfold namedF at h
  have tx := text_spec I 1
  have I1 := I.text 1 (by decide)
  have t6 := take_spec I1 [40]
  rw [takeF_eq] at t6
  generalize htt : textF T 1 p = tt at *
  obtain ⟨s, p1⟩ := tt
  simp only at h tx I1 t6
  clear htt
  cases c6 : isF T [40] p1
  case true =>
    rw [if_pos c6] at h
    rw [c6] at t6
    split at h
    · cases h
    · rename_i q hq
      obtain ⟨l, p2⟩ := q
      cases h
      have IA := I1.adv _ c6
      obtain ⟨x1, I3⟩ := (espec T n).args 2 _ l p2 hq IA (by omega) (by omega)
      refine ⟨?_, I3⟩
      refine pcall_wp rfl rfl rfl (by simp) ?_
      clear hq c6
      rw [encStmt_eq]
      simp [exprs] at x1
      simp [*, F99, exprs, stmts, encExpr_eq]
  rw [if_neg (by rw [c6]; decide)] at h
  rw [c6] at t6
  have t7 := take_spec I1 [91]
  rw [takeF_eq] at t7
  cases c7 : isF T [91] p1
  case true =>
    rw [if_pos c7] at h
    rw [c7] at t7
    split at h
    · cases h
    · rename_i q hq
      obtain ⟨e, p2⟩ := q
      simp only at h
      have IA := I1.adv _ c7
      obtain ⟨x1, I3⟩ := expr1_spec hq IA hn
      have m2 := must_spec I3 [93]
      have I4 := I3.must [93]
      have m3 := must_spec I4 [61]
      have I5 := I4.must [61]
      split at h
      · cases h
      · rename_i r hr
        obtain ⟨e2, p3⟩ := r
        cases h
        obtain ⟨x2, I6⟩ := expr1_spec hr I5 hn
        refine ⟨?_, I6⟩
        refine pcall_wp rfl rfl rfl (by simp) ?_
        clear hq hr c6 c7
        rw [encExpr_eq] at x1 x2
        rw [encStmt_eq]
        simp [*, F99, exprs, stmts, encExpr_eq]
  rw [if_neg (by rw [c7]; decide)] at h
  rw [c7] at t7
  split at h
  · cases h
  · rename_i q hq
    obtain ⟨e, p2⟩ := q
    cases h
    have m1 := must_spec I1 [61]
    obtain ⟨x1, I3⟩ := expr1_spec hq (I1.must _) hn
    refine ⟨?_, I3⟩
    refine pcall_wp rfl rfl rfl (by simp) ?_
    clear hq c6 c7
    rw [encExpr_eq] at x1
    rw [encStmt_eq]
    simp [*, F99, exprs, stmts, encExpr_eq]

end PE.U

/-
  Statements, and statements in braces.
-/
namespace PE.U
open Go PE

def deepS (d : Int) (p : PS) : PS := if 100 < d then { p with deep := true } else p
theorem Inv1.deepS {T : List Tok} {p : PS} (I : Inv1 T p) (d : Int) : Inv1 T (deepS d p) := by
  unfold PE.U.deepS
  split
  · exact I.deep'
  · exact I

mutual
def stmtF (T : List Tok) : Nat → Int → PS → Option (Stmt × PS)
  | 0, _, _ => none
  | n + 1, d, p =>
    if isF T [105, 110, 116] (deepS d p) || isF T [98, 111, 111, 108] (deepS d p) then
      match exprF T n 1 1 (mustF T [61] (textF T 1 (typedF T (deepS d p)).2).2) with
      | none => none
      | some q => some (⟨1, (typedF T (deepS d p)).1, (textF T 1 (typedF T (deepS d p)).2).1, [q.1], [], []⟩, mustF T [59] q.2)
    else if isF T [105, 102] (deepS d p) then
      match insideF T n (adv (deepS d p)) with
      | none => none
      | some q => match blockF T n (d + 1) [] (mustF T [123] q.2) with
        | none => none
        | some r =>
          if isF T [101, 108, 115, 101] r.2 then
            match blockF T n (d + 1) [] (mustF T [123] (adv r.2)) with
            | none => none
            | some t => some (⟨4, 0, [], [q.1], r.1, t.1⟩, t.2)
          else some (⟨4, 0, [], [q.1], r.1, []⟩, r.2)
    else if isF T [119, 104, 105, 108, 101] (deepS d p) then
      match insideF T n (adv (deepS d p)) with
      | none => none
      | some q => match blockF T n (d + 1) [] (mustF T [123] q.2) with
        | none => none
        | some r => some (⟨5, 0, [], [q.1], r.1, []⟩, r.2)
    else if isF T [98, 114, 101, 97, 107] (deepS d p) then some (⟨6, 0, [], [], [], []⟩, mustF T [59] (adv (deepS d p)))
    else if isF T [99, 111, 110, 116, 105, 110, 117, 101] (deepS d p) then some (⟨7, 0, [], [], [], []⟩, mustF T [59] (adv (deepS d p)))
    else if isF T [114, 101, 116, 117, 114, 110] (deepS d p) then
      match exprF T n 1 1 (adv (deepS d p)) with
      | none => none
      | some q => some (⟨8, 0, [], [q.1], [], []⟩, mustF T [59] q.2)
    else if isF T [112, 114, 105, 110, 116] (deepS d p) then
      match insideF T n (adv (deepS d p)) with
      | none => none
      | some q => some (⟨9, 0, [], [q.1], [], []⟩, mustF T [59] q.2)
    else match namedF T n (deepS d p) with
      | none => none
      | some q => some (q.1, mustF T [59] q.2)
/-- Behind the brace. -/
def blockF (T : List Tok) : Nat → Int → List Stmt → PS → Option (List Stmt × PS)
  | 0, _, _, _ => none
  | n + 1, d, l, p =>
    if overF p then some (l, p)
    else if isF T [125] p then some (l, adv p)
    else match stmtF T n d p with
      | none => none
      | some q => blockF T n d (l ++ [q.1]) q.2
end

structure SSpec (T : List Tok) (n : Nat) : Prop where
  stmt : ∀ d p v p', stmtF T n d p = some (v, p') → Inv1 T p → 0 ≤ d → d + n ≤ 999999990 → pcall E 86 [.ptr 0 0 0, .int .i64 d] (pob T p) = some (.ret (encStmt v), pob T p') ∧ Inv1 T p'
  block : ∀ d p v p', blockF T n d [] (mustF T [123] p) = some (v, p') → Inv1 T p → 0 ≤ d → d + n ≤ 999999990 → pcall E 69 [.ptr 0 0 0, .int .i64 d] (pob T p) = some (.ret (stmts v), pob T p') ∧ Inv1 T p'

structure BS where
  m : Nat
  l : List Stmt
  p : PS

set_option maxHeartbeats 2000000 in
theorem block_of {T : List Tok} {n : Nat} (S : ∀ k, k < n → SSpec T k) : ∀ d p v p', blockF T n d [] (mustF T [123] p) = some (v, p') → Inv1 T p → 0 ≤ d → d + n ≤ 999999990 → pcall E 69 [.ptr 0 0 0, .int .i64 d] (pob T p) = some (.ret (stmts v), pob T p') ∧ Inv1 T p' := by
  intro d p v p' h I hd hn
  have hI : ∀ m l p v p', m ≤ n → blockF T m d l p = some (v, p') → Inv1 T p → Inv1 T p' := by
    intro m
    induction m with
    | zero => intro l p v p' _ h; simp [blockF] at h
    | succ m ih =>
      intro l p v p' hm h I
      simp only [blockF] at h
      split at h
      · cases h; exact I
      · split at h
        · rename_i hc
          cases h; exact I.adv _ hc
        · split at h
          · cases h
          · rename_i x hx
            exact ih _ _ _ _ (by omega) h ((S m (by omega)).stmt _ _ _ _ hx I hd (by omega)).2
  have m1 := must_spec I [123]
  have I1 := I.must [123]
  have I' := hI n _ _ _ _ (Nat.le_refl _) h I1
  refine ⟨?_, I'⟩
  refine pcall_wp rfl rfl rfl (by simp) ?_
  simp [*, F69, stmts]
  refine wp_while K69_0 B69_0 (fun c : BS => c.m) (fun c => [(5, acc 6 (c.l.map encStmt))]) (fun c => []) (fun c => pob T c.p) (fun c => c.m ≤ n ∧ c.l.length + c.m ≤ n ∧ blockF T c.m d c.l c.p = some (v, p') ∧ Inv1 T c.p) ⟨n, [], mustF T [123] p⟩ ⟨by simp, by simp, by simp, Nat.le_refl _, by simp, h, I1⟩ ?_
  rintro ⟨m, l, p⟩ s1 ⟨hm, hlm, hr, I⟩ g1 g2 g3 g4 g5
  simp at g1 g3 g5 hm hlm hr I
  clear g2 g4 m1 h I' hI I1
  cases m with
  | zero => simp [blockF] at hr
  | succ m =>
    simp only [blockF] at hr
    have hroom : (l.length + 1) * 104 ≤ roomMax := by simp only [roomMax]; omega
    have ho := over_spec I
    have t2 := take_spec I [125]
    rw [takeF_eq] at t2
    cases o : overF p
    · rw [if_neg (by rw [o]; decide)] at hr
      rw [o] at ho
      cases c2 : isF T [125] p
      · rw [if_neg (by rw [c2]; decide)] at hr
        rw [c2] at t2
        split at hr
        · cases hr
        · rename_i x hx
          obtain ⟨e, p2⟩ := x
          simp only at hr
          obtain ⟨x1, I3⟩ := (S m (by omega)).stmt _ _ _ _ hx I hd (by omega)
          rw [encStmt_eq] at x1
          clear hx o c2
          simp [*]
          exact ⟨⟨m, l ++ [e], p2⟩, Nat.lt_succ_self m, by simp [encStmt_eq], rfl, by simp only; omega, by simp only [List.length_append, List.length_cons, List.length_nil]; omega, hr, I3⟩
      · rw [if_pos c2] at hr
        rw [c2] at t2
        cases hr
        clear o c2
        simp [*]
    · rw [if_pos o] at hr
      rw [o] at ho
      cases hr
      clear o t2
      simp [*]
end PE.U

/-
  Statements. (printed by mkstmt.py)
-/
namespace PE.U
open Go PE

set_option maxHeartbeats 8000000 in
theorem stmt_of {T : List Tok} {n : Nat} (S : SSpec T n) : ∀ d p v p', stmtF T (n + 1) d p = some (v, p') → Inv1 T p → 0 ≤ d → d + (n + 1 : Nat) ≤ 999999990 → pcall E 86 [.ptr 0 0 0, .int .i64 d] (pob T p) = some (.ret (encStmt v), pob T p') ∧ Inv1 T p' := by
  intro d p v p' h I0 hd hn
  have hw : wrapK .i64 (d + 1) = d + 1 := wrapK_small (by omega) (by omega)
  simp only [stmtF] at h
  have I := I0.deepS d
  have hn' : n ≤ 999999990 := by omega
  obtain ⟨pa, pb, pd⟩ := p
  by_cases h100 : 100 < d
  · have hdp : deepS d ⟨pa, pb, pd⟩ = ⟨pa, pb, true⟩ := by unfold deepS; rw [if_pos h100]
    rw [hdp] at h I
    clear hdp I0
    replace h100 := eqp h100
    have i1 := is_spec I [105, 110, 116]
    have i2 := is_spec I [98, 111, 111, 108]
    cases c0 : (isF T [105, 110, 116] ⟨pa, pb, true⟩ || isF T [98, 111, 111, 108] ⟨pa, pb, true⟩)
    case true =>
      rw [if_pos c0] at h
      have ty := typed_spec I
      have I1 := I.typed
      generalize hty : typedF T ⟨pa, pb, true⟩ = tt at *
      obtain ⟨t, p1⟩ := tt
      simp only at h ty I1
      have tx := text_spec I1 1
      have I2 := I1.text 1 (by decide)
      generalize htx : textF T 1 p1 = tt at *
      obtain ⟨s, p2⟩ := tt
      simp only at h tx I2
      have m1 := must_spec I2 [61]
      split at h
      · cases h
      rename_i x hq
      obtain ⟨e, p3⟩ := x
      cases h
      obtain ⟨x1, I3⟩ := expr1_spec hq (I2.must _) hn'
      have m2 := must_spec I3 [59]
      refine ⟨?_, I3.must _⟩
      clear htx hty hq
      rw [encExpr_eq] at x1
      simp [pob, toks, adv, exprs] at i1 i2 ty tx m1 m2 x1
      refine pcall_wp rfl rfl rfl (by simp) ?_
      rw [encStmt_eq]
      cases c1 : isF T [105, 110, 116] ⟨pa, pb, true⟩
      · rw [c1] at c0 i1
        have c0 : isF T [98, 111, 111, 108] ⟨pa, pb, true⟩ = true := c0
        rw [c0] at i2
        clear c0 c1
        simp [*, F86, exprs, stmts, pob, toks, encStmt_eq, encExpr_eq]
      · rw [c1] at i1
        clear c0 c1
        simp [*, F86, exprs, stmts, pob, toks, encStmt_eq, encExpr_eq]
    rw [if_neg (by rw [c0]; decide)] at h
    simp only [Bool.or_eq_false_iff] at c0
    rw [c0.1] at i1
    rw [c0.2] at i2
    clear c0
    have t1 := take_spec I [105, 102]
    rw [takeF_eq] at t1
    cases c_t1 : isF T [105, 102] ⟨pa, pb, true⟩
    case true =>
      rw [if_pos c_t1] at h
      rw [c_t1] at t1
      have IA := I.adv _ c_t1
      clear c_t1
      split at h
      · cases h
      rename_i x hq
      obtain ⟨e, p1⟩ := x
      simp only at h
      obtain ⟨x1, I1⟩ := inside_spec hq IA hn'
      split at h
      · cases h
      rename_i x hr
      obtain ⟨l1, p2⟩ := x
      simp only at h
      obtain ⟨x2, I2⟩ := S.block (d + 1) _ l1 p2 hr I1 (by omega) (by omega)
      have te := take_spec I2 [101, 108, 115, 101]
      rw [takeF_eq] at te
      cases ce : isF T [101, 108, 115, 101] p2
      case true =>
        rw [if_pos ce] at h
        rw [ce] at te
        split at h
        · cases h
        rename_i x hs
        obtain ⟨l2, p3⟩ := x
        cases h
        obtain ⟨x3, I3⟩ := S.block (d + 1) _ l2 p3 hs (I2.adv _ ce) (by omega) (by omega)
        refine ⟨?_, I3⟩
        clear hq hr hs ce
        simp [pob, toks, adv, exprs, stmts] at i1 i2 t1 x1 x2 x3 te
        refine pcall_wp rfl rfl rfl (by simp) ?_
        rw [encStmt_eq]
        simp [*, F86, exprs, stmts, pob, toks, encStmt_eq, encExpr_eq]
      rw [if_neg (by rw [ce]; decide)] at h
      rw [ce] at te
      cases h
      refine ⟨?_, I2⟩
      clear hq hr ce
      simp [pob, toks, adv, exprs, stmts] at i1 i2 t1 x1 x2 te
      refine pcall_wp rfl rfl rfl (by simp) ?_
      rw [encStmt_eq]
      simp [*, F86, exprs, stmts, pob, toks, encStmt_eq, encExpr_eq]
    rw [if_neg (by rw [c_t1]; decide)] at h
    rw [c_t1] at t1
    clear c_t1
    have t2 := take_spec I [119, 104, 105, 108, 101]
    rw [takeF_eq] at t2
    cases c_t2 : isF T [119, 104, 105, 108, 101] ⟨pa, pb, true⟩
    case true =>
      rw [if_pos c_t2] at h
      rw [c_t2] at t2
      have IA := I.adv _ c_t2
      clear c_t2
      split at h
      · cases h
      rename_i x hq
      obtain ⟨e, p1⟩ := x
      simp only at h
      obtain ⟨x1, I1⟩ := inside_spec hq IA hn'
      split at h
      · cases h
      rename_i x hr
      obtain ⟨l1, p2⟩ := x
      cases h
      obtain ⟨x2, I2⟩ := S.block (d + 1) _ l1 p2 hr I1 (by omega) (by omega)
      refine ⟨?_, I2⟩
      clear hq hr
      simp [pob, toks, adv, exprs, stmts] at i1 i2 t1 t2 x1 x2
      refine pcall_wp rfl rfl rfl (by simp) ?_
      rw [encStmt_eq]
      simp [*, F86, exprs, stmts, pob, toks, encStmt_eq, encExpr_eq]
    rw [if_neg (by rw [c_t2]; decide)] at h
    rw [c_t2] at t2
    clear c_t2
    have t3 := take_spec I [98, 114, 101, 97, 107]
    rw [takeF_eq] at t3
    cases c_t3 : isF T [98, 114, 101, 97, 107] ⟨pa, pb, true⟩
    case true =>
      rw [if_pos c_t3] at h
      rw [c_t3] at t3
      have IA := I.adv _ c_t3
      clear c_t3
      cases h
      have m1 := must_spec IA [59]
      refine ⟨?_, IA.must _⟩
      simp [pob, toks, adv, exprs, stmts] at i1 i2 t1 t2 t3 m1
      refine pcall_wp rfl rfl rfl (by simp) ?_
      rw [encStmt_eq]
      simp [*, F86, exprs, stmts, pob, toks, encStmt_eq, encExpr_eq]
      exact ⟨rfl, rfl, rfl⟩
    rw [if_neg (by rw [c_t3]; decide)] at h
    rw [c_t3] at t3
    clear c_t3
    have t4 := take_spec I [99, 111, 110, 116, 105, 110, 117, 101]
    rw [takeF_eq] at t4
    cases c_t4 : isF T [99, 111, 110, 116, 105, 110, 117, 101] ⟨pa, pb, true⟩
    case true =>
      rw [if_pos c_t4] at h
      rw [c_t4] at t4
      have IA := I.adv _ c_t4
      clear c_t4
      cases h
      have m1 := must_spec IA [59]
      refine ⟨?_, IA.must _⟩
      simp [pob, toks, adv, exprs, stmts] at i1 i2 t1 t2 t3 t4 m1
      refine pcall_wp rfl rfl rfl (by simp) ?_
      rw [encStmt_eq]
      simp [*, F86, exprs, stmts, pob, toks, encStmt_eq, encExpr_eq]
      exact ⟨rfl, rfl, rfl⟩
    rw [if_neg (by rw [c_t4]; decide)] at h
    rw [c_t4] at t4
    clear c_t4
    have t5 := take_spec I [114, 101, 116, 117, 114, 110]
    rw [takeF_eq] at t5
    cases c_t5 : isF T [114, 101, 116, 117, 114, 110] ⟨pa, pb, true⟩
    case true =>
      rw [if_pos c_t5] at h
      rw [c_t5] at t5
      have IA := I.adv _ c_t5
      clear c_t5
      split at h
      · cases h
      rename_i x hq
      obtain ⟨e, p1⟩ := x
      cases h
      obtain ⟨x1, I1⟩ := expr1_spec hq IA hn'
      have m1 := must_spec I1 [59]
      refine ⟨?_, I1.must _⟩
      clear hq
      rw [encExpr_eq] at x1
      simp [pob, toks, adv, exprs, stmts] at i1 i2 t1 t2 t3 t4 t5 x1 m1
      refine pcall_wp rfl rfl rfl (by simp) ?_
      rw [encStmt_eq]
      simp [*, F86, exprs, stmts, pob, toks, encStmt_eq, encExpr_eq]
    rw [if_neg (by rw [c_t5]; decide)] at h
    rw [c_t5] at t5
    clear c_t5
    have t6 := take_spec I [112, 114, 105, 110, 116]
    rw [takeF_eq] at t6
    cases c_t6 : isF T [112, 114, 105, 110, 116] ⟨pa, pb, true⟩
    case true =>
      rw [if_pos c_t6] at h
      rw [c_t6] at t6
      have IA := I.adv _ c_t6
      clear c_t6
      split at h
      · cases h
      rename_i x hq
      obtain ⟨e, p1⟩ := x
      cases h
      obtain ⟨x1, I1⟩ := inside_spec hq IA hn'
      have m1 := must_spec I1 [59]
      refine ⟨?_, I1.must _⟩
      clear hq
      simp [pob, toks, adv, exprs, stmts] at i1 i2 t1 t2 t3 t4 t5 t6 x1 m1
      refine pcall_wp rfl rfl rfl (by simp) ?_
      rw [encStmt_eq]
      simp [*, F86, exprs, stmts, pob, toks, encStmt_eq, encExpr_eq]
    rw [if_neg (by rw [c_t6]; decide)] at h
    rw [c_t6] at t6
    clear c_t6
    split at h
    · cases h
    rename_i x hq
    obtain ⟨w, p1⟩ := x
    cases h
    obtain ⟨x1, I1⟩ := named_spec hq I hn'
    have m1 := must_spec I1 [59]
    refine ⟨?_, I1.must _⟩
    clear hq
    rw [encStmt_eq] at x1
    simp [pob, toks, adv, exprs, stmts] at i1 i2 t1 t2 t3 t4 t5 t6 x1 m1
    refine pcall_wp rfl rfl rfl (by simp) ?_
    rw [encStmt_eq]
    simp [*, F86, exprs, stmts, pob, toks, encStmt_eq, encExpr_eq]
  · have hdp : deepS d ⟨pa, pb, pd⟩ = ⟨pa, pb, pd⟩ := by unfold deepS; rw [if_neg h100]
    rw [hdp] at h I
    clear hdp I0
    replace h100 := eqn h100
    have i1 := is_spec I [105, 110, 116]
    have i2 := is_spec I [98, 111, 111, 108]
    cases c0 : (isF T [105, 110, 116] ⟨pa, pb, pd⟩ || isF T [98, 111, 111, 108] ⟨pa, pb, pd⟩)
    case true =>
      rw [if_pos c0] at h
      have ty := typed_spec I
      have I1 := I.typed
      generalize hty : typedF T ⟨pa, pb, pd⟩ = tt at *
      obtain ⟨t, p1⟩ := tt
      simp only at h ty I1
      have tx := text_spec I1 1
      have I2 := I1.text 1 (by decide)
      generalize htx : textF T 1 p1 = tt at *
      obtain ⟨s, p2⟩ := tt
      simp only at h tx I2
      have m1 := must_spec I2 [61]
      split at h
      · cases h
      rename_i x hq
      obtain ⟨e, p3⟩ := x
      cases h
      obtain ⟨x1, I3⟩ := expr1_spec hq (I2.must _) hn'
      have m2 := must_spec I3 [59]
      refine ⟨?_, I3.must _⟩
      clear htx hty hq
      rw [encExpr_eq] at x1
      simp [pob, toks, adv, exprs] at i1 i2 ty tx m1 m2 x1
      refine pcall_wp rfl rfl rfl (by simp) ?_
      rw [encStmt_eq]
      cases c1 : isF T [105, 110, 116] ⟨pa, pb, pd⟩
      · rw [c1] at c0 i1
        have c0 : isF T [98, 111, 111, 108] ⟨pa, pb, pd⟩ = true := c0
        rw [c0] at i2
        clear c0 c1
        simp [*, F86, exprs, stmts, pob, toks, encStmt_eq, encExpr_eq]
      · rw [c1] at i1
        clear c0 c1
        simp [*, F86, exprs, stmts, pob, toks, encStmt_eq, encExpr_eq]
    rw [if_neg (by rw [c0]; decide)] at h
    simp only [Bool.or_eq_false_iff] at c0
    rw [c0.1] at i1
    rw [c0.2] at i2
    clear c0
    have t1 := take_spec I [105, 102]
    rw [takeF_eq] at t1
    cases c_t1 : isF T [105, 102] ⟨pa, pb, pd⟩
    case true =>
      rw [if_pos c_t1] at h
      rw [c_t1] at t1
      have IA := I.adv _ c_t1
      clear c_t1
      split at h
      · cases h
      rename_i x hq
      obtain ⟨e, p1⟩ := x
      simp only at h
      obtain ⟨x1, I1⟩ := inside_spec hq IA hn'
      split at h
      · cases h
      rename_i x hr
      obtain ⟨l1, p2⟩ := x
      simp only at h
      obtain ⟨x2, I2⟩ := S.block (d + 1) _ l1 p2 hr I1 (by omega) (by omega)
      have te := take_spec I2 [101, 108, 115, 101]
      rw [takeF_eq] at te
      cases ce : isF T [101, 108, 115, 101] p2
      case true =>
        rw [if_pos ce] at h
        rw [ce] at te
        split at h
        · cases h
        rename_i x hs
        obtain ⟨l2, p3⟩ := x
        cases h
        obtain ⟨x3, I3⟩ := S.block (d + 1) _ l2 p3 hs (I2.adv _ ce) (by omega) (by omega)
        refine ⟨?_, I3⟩
        clear hq hr hs ce
        simp [pob, toks, adv, exprs, stmts] at i1 i2 t1 x1 x2 x3 te
        refine pcall_wp rfl rfl rfl (by simp) ?_
        rw [encStmt_eq]
        simp [*, F86, exprs, stmts, pob, toks, encStmt_eq, encExpr_eq]
      rw [if_neg (by rw [ce]; decide)] at h
      rw [ce] at te
      cases h
      refine ⟨?_, I2⟩
      clear hq hr ce
      simp [pob, toks, adv, exprs, stmts] at i1 i2 t1 x1 x2 te
      refine pcall_wp rfl rfl rfl (by simp) ?_
      rw [encStmt_eq]
      simp [*, F86, exprs, stmts, pob, toks, encStmt_eq, encExpr_eq]
    rw [if_neg (by rw [c_t1]; decide)] at h
    rw [c_t1] at t1
    clear c_t1
    have t2 := take_spec I [119, 104, 105, 108, 101]
    rw [takeF_eq] at t2
    cases c_t2 : isF T [119, 104, 105, 108, 101] ⟨pa, pb, pd⟩
    case true =>
      rw [if_pos c_t2] at h
      rw [c_t2] at t2
      have IA := I.adv _ c_t2
      clear c_t2
      split at h
      · cases h
      rename_i x hq
      obtain ⟨e, p1⟩ := x
      simp only at h
      obtain ⟨x1, I1⟩ := inside_spec hq IA hn'
      split at h
      · cases h
      rename_i x hr
      obtain ⟨l1, p2⟩ := x
      cases h
      obtain ⟨x2, I2⟩ := S.block (d + 1) _ l1 p2 hr I1 (by omega) (by omega)
      refine ⟨?_, I2⟩
      clear hq hr
      simp [pob, toks, adv, exprs, stmts] at i1 i2 t1 t2 x1 x2
      refine pcall_wp rfl rfl rfl (by simp) ?_
      rw [encStmt_eq]
      simp [*, F86, exprs, stmts, pob, toks, encStmt_eq, encExpr_eq]
    rw [if_neg (by rw [c_t2]; decide)] at h
    rw [c_t2] at t2
    clear c_t2
    have t3 := take_spec I [98, 114, 101, 97, 107]
    rw [takeF_eq] at t3
    cases c_t3 : isF T [98, 114, 101, 97, 107] ⟨pa, pb, pd⟩
    case true =>
      rw [if_pos c_t3] at h
      rw [c_t3] at t3
      have IA := I.adv _ c_t3
      clear c_t3
      cases h
      have m1 := must_spec IA [59]
      refine ⟨?_, IA.must _⟩
      simp [pob, toks, adv, exprs, stmts] at i1 i2 t1 t2 t3 m1
      refine pcall_wp rfl rfl rfl (by simp) ?_
      rw [encStmt_eq]
      simp [*, F86, exprs, stmts, pob, toks, encStmt_eq, encExpr_eq]
      exact ⟨rfl, rfl, rfl⟩
    rw [if_neg (by rw [c_t3]; decide)] at h
    rw [c_t3] at t3
    clear c_t3
    have t4 := take_spec I [99, 111, 110, 116, 105, 110, 117, 101]
    rw [takeF_eq] at t4
    cases c_t4 : isF T [99, 111, 110, 116, 105, 110, 117, 101] ⟨pa, pb, pd⟩
    case true =>
      rw [if_pos c_t4] at h
      rw [c_t4] at t4
      have IA := I.adv _ c_t4
      clear c_t4
      cases h
      have m1 := must_spec IA [59]
      refine ⟨?_, IA.must _⟩
      simp [pob, toks, adv, exprs, stmts] at i1 i2 t1 t2 t3 t4 m1
      refine pcall_wp rfl rfl rfl (by simp) ?_
      rw [encStmt_eq]
      simp [*, F86, exprs, stmts, pob, toks, encStmt_eq, encExpr_eq]
      exact ⟨rfl, rfl, rfl⟩
    rw [if_neg (by rw [c_t4]; decide)] at h
    rw [c_t4] at t4
    clear c_t4
    have t5 := take_spec I [114, 101, 116, 117, 114, 110]
    rw [takeF_eq] at t5
    cases c_t5 : isF T [114, 101, 116, 117, 114, 110] ⟨pa, pb, pd⟩
    case true =>
      rw [if_pos c_t5] at h
      rw [c_t5] at t5
      have IA := I.adv _ c_t5
      clear c_t5
      split at h
      · cases h
      rename_i x hq
      obtain ⟨e, p1⟩ := x
      cases h
      obtain ⟨x1, I1⟩ := expr1_spec hq IA hn'
      have m1 := must_spec I1 [59]
      refine ⟨?_, I1.must _⟩
      clear hq
      rw [encExpr_eq] at x1
      simp [pob, toks, adv, exprs, stmts] at i1 i2 t1 t2 t3 t4 t5 x1 m1
      refine pcall_wp rfl rfl rfl (by simp) ?_
      rw [encStmt_eq]
      simp [*, F86, exprs, stmts, pob, toks, encStmt_eq, encExpr_eq]
    rw [if_neg (by rw [c_t5]; decide)] at h
    rw [c_t5] at t5
    clear c_t5
    have t6 := take_spec I [112, 114, 105, 110, 116]
    rw [takeF_eq] at t6
    cases c_t6 : isF T [112, 114, 105, 110, 116] ⟨pa, pb, pd⟩
    case true =>
      rw [if_pos c_t6] at h
      rw [c_t6] at t6
      have IA := I.adv _ c_t6
      clear c_t6
      split at h
      · cases h
      rename_i x hq
      obtain ⟨e, p1⟩ := x
      cases h
      obtain ⟨x1, I1⟩ := inside_spec hq IA hn'
      have m1 := must_spec I1 [59]
      refine ⟨?_, I1.must _⟩
      clear hq
      simp [pob, toks, adv, exprs, stmts] at i1 i2 t1 t2 t3 t4 t5 t6 x1 m1
      refine pcall_wp rfl rfl rfl (by simp) ?_
      rw [encStmt_eq]
      simp [*, F86, exprs, stmts, pob, toks, encStmt_eq, encExpr_eq]
    rw [if_neg (by rw [c_t6]; decide)] at h
    rw [c_t6] at t6
    clear c_t6
    split at h
    · cases h
    rename_i x hq
    obtain ⟨w, p1⟩ := x
    cases h
    obtain ⟨x1, I1⟩ := named_spec hq I hn'
    have m1 := must_spec I1 [59]
    refine ⟨?_, I1.must _⟩
    clear hq
    rw [encStmt_eq] at x1
    simp [pob, toks, adv, exprs, stmts] at i1 i2 t1 t2 t3 t4 t5 t6 x1 m1
    refine pcall_wp rfl rfl rfl (by simp) ?_
    rw [encStmt_eq]
    simp [*, F86, exprs, stmts, pob, toks, encStmt_eq, encExpr_eq]
theorem sspec_all (T : List Tok) : ∀ n k, k ≤ n → SSpec T k
  | 0, k, h => by
    have : k = 0 := by omega
    subst this
    exact ⟨fun _ _ _ _ h => by simp [stmtF] at h, block_of (fun k hk => absurd hk (by omega))⟩
  | n + 1, k, h => by
    have ih := sspec_all T n
    rcases Nat.lt_or_ge k (n + 1) with h1 | h1
    · exact ih k (by omega)
    · have : k = n + 1 := by omega
      subst this
      exact ⟨stmt_of (ih n (Nat.le_refl n)), block_of (fun k hk => ih k (by omega))⟩
theorem sspec (T : List Tok) (n : Nat) : SSpec T n := sspec_all T n n (Nat.le_refl n)
end PE.U

/-
  Functions.
-/
namespace PE.U
open Go PE

theorem acc_snoc (sz : Nat) (l : List PV) (x : PV) : acc sz (l ++ [x]) = .slice .own sz (l ++ [x]) := acc_ne (by simp)
@[simp] theorem isOwn_acc_snoc (sz : Nat) (l : List PV) (x : PV) : isOwn (acc sz (l ++ [x])) = some (sz, l ++ [x]) := by rw [acc_snoc]; rfl

def paramsF (T : List Tok) : Nat → List Par → Bool → PS → Option (List Par × PS)
  | 0, _, _, _ => none
  | n + 1, l, first, p =>
    if first || isF T [44] p then
      if overF (if first then p else adv p) then some (l, if first then p else adv p)
      else paramsF T n (l ++ [⟨(textF T 1 (typedF T (if first then p else adv p)).2).1, (typedF T (if first then p else adv p)).1⟩]) false (textF T 1 (typedF T (if first then p else adv p)).2).2
    else some (l, p)

def functionF (T : List Tok) (n : Nat) (t : Int) (s : List UInt8) (p : PS) : Option (Func × PS) :=
  if isF T [41] (mustF T [40] p) then
    match blockF T n 1 [] (mustF T [123] (adv (mustF T [40] p))) with
    | none => none
    | some q => some (⟨s, t, [], q.1⟩, q.2)
  else match paramsF T n [] true (mustF T [40] p) with
    | none => none
    | some r => match blockF T n 1 [] (mustF T [123] (mustF T [41] r.2)) with
      | none => none
      | some q => some (⟨s, t, r.1, q.1⟩, q.2)

structure FS where
  m : Nat
  l : List Par
  f : Bool
  p : PS

theorem paramsF_inv {T : List Tok} : ∀ m l f p v p', paramsF T m l f p = some (v, p') → Inv1 T p → Inv1 T p' := by
  intro m
  induction m with
  | zero => intro l f p v p' h; simp [paramsF] at h
  | succ m ih =>
    intro l f p v p' h I
    simp only [paramsF] at h
    have fin : ∀ q : PS, Inv1 T q → (if overF q then some (l, q) else paramsF T m (l ++ [⟨(textF T 1 (typedF T q).2).1, (typedF T q).1⟩]) false (textF T 1 (typedF T q).2).2) = some (v, p') → Inv1 T p' := by
      intro q Iq h
      split at h
      · cases h; exact Iq
      · exact ih _ _ _ _ _ h (Iq.typed.text 1 (by decide))
    cases f
    · cases c2 : isF T [44] p
      · rw [c2] at h
        simp at h
        exact h.2 ▸ I
      · rw [c2] at h
        simp at h
        exact fin _ (I.adv _ c2) h
    · simp at h
      exact fin _ I h

set_option maxHeartbeats 4000000 in
theorem function_spec {T : List Tok} {n : Nat} {t : Int} {s : List UInt8} {p p' : PS} {v : Func} (h : functionF T n t s p = some (v, p')) (I : Inv1 T p) (hn : n ≤ 999999980) : pcall E 46 [.ptr 0 0 0, .int .i64 t, .str s] (pob T p) = some (.ret (encFunc v), pob T p') ∧ Inv1 T p' := by
  unfold functionF at h
  have m1 := must_spec I [40]
  have I1 := I.must [40]
  have t1 := take_spec I1 [41]
  rw [takeF_eq] at t1
  cases c1 : isF T [41] (mustF T [40] p)
  case true =>
    rw [if_pos c1] at h
    rw [c1] at t1
    split at h
    · cases h
    rename_i q hq
    obtain ⟨l, p2⟩ := q
    cases h
    obtain ⟨x1, I3⟩ := (sspec T n).block 1 _ l p2 hq (I1.adv _ c1) (by omega) (by omega)
    refine ⟨?_, I3⟩
    refine pcall_wp rfl rfl rfl (by simp) ?_
    clear hq c1
    simp [stmts] at x1
    simp [*, F46, encFunc, parsV, stmts]
  rw [if_neg (by rw [c1]; decide)] at h
  rw [c1] at t1
  split at h
  · cases h
  rename_i r hr
  obtain ⟨ps, p1⟩ := r
  simp only at h
  split at h
  · cases h
  rename_i q hq
  obtain ⟨l, p2⟩ := q
  cases h
  have Ip := paramsF_inv _ _ _ _ _ _ hr I1
  have m2 := must_spec Ip [41]
  obtain ⟨x1, I3⟩ := (sspec T n).block 1 _ l p2 hq (Ip.must [41]) (by omega) (by omega)
  refine ⟨?_, I3⟩
  refine pcall_wp rfl rfl rfl (by simp) ?_
  clear hq c1
  simp [stmts] at x1
  simp [*, F46, encFunc, parsV, stmts]
  refine wp_while K46_0 B46_0 (fun c : FS => c.m) (fun c => [(8, .bool c.f)]) (fun c => [(7, .cells [.str s, .int .i64 t, acc 2 (c.l.map encPar), .slice .fit 6 []])]) (fun c => pob T c.p) (fun c => c.m ≤ n ∧ c.l.length + c.m ≤ n ∧ paramsF T c.m c.l c.f c.p = some (ps, p1) ∧ Inv1 T c.p) ⟨n, [], true, mustF T [40] p⟩ ⟨by simp, by simp, by simp, Nat.le_refl _, by simp, hr, I1⟩ ?_
  rintro ⟨m, l2, f, p⟩ s1 ⟨hm, hlm, hr, I⟩ g1 g2 g3 g4 g5
  simp at g1 g2 g3 g4 g5 hm hlm hr I
  clear t1 I1 I3 Ip
  cases m with
  | zero => simp [paramsF] at hr
  | succ m =>
    simp only [paramsF] at hr
    have hroom : (l2.length + 1) * 24 ≤ roomMax := by simp only [roomMax]; omega
    have t2 := take_spec I [44]
    rw [takeF_eq] at t2
    have key : ∀ q : PS, Inv1 T q → (if overF q then some (l2, q) else paramsF T m (l2 ++ [⟨(textF T 1 (typedF T q).2).1, (typedF T q).1⟩]) false (textF T 1 (typedF T q).2).2) = some (ps, p1) →
       (overF q = true ∧ l2 = ps ∧ q = p1) ∨ (overF q = false ∧ ∃ ty pt tx p3, pcall E 41 [.ptr 0 0 0] (pob T q) = some (.ret (.int .i64 ty), pob T pt) ∧ pcall E 42 [.ptr 0 0 0, .int .i64 1] (pob T pt) = some (.ret (.str tx), pob T p3) ∧ Inv1 T p3 ∧ paramsF T m (l2 ++ [⟨tx, ty⟩]) false p3 = some (ps, p1)) := by
      intro q Iq h
      cases ho : overF q
      · right
        rw [if_neg (by rw [ho]; decide)] at h
        exact ⟨rfl, _, _, _, _, typed_spec Iq, text_spec Iq.typed 1, Iq.typed.text 1 (by decide), h⟩
      · left
        rw [if_pos ho] at h
        cases h
        exact ⟨rfl, rfl, rfl⟩
    cases f
    · cases c2 : isF T [44] p
      · rw [c2] at hr t2
        simp at hr
        obtain ⟨rfl, rfl⟩ := hr
        clear key c2
        simp [*]
      · have IA := I.adv _ c2
        rw [c2] at hr t2
        simp at hr
        have ho := over_spec IA
        rcases key _ IA hr with ⟨k1, rfl, rfl⟩ | ⟨k1, ty, pt, tx, p3, x2, x3, I3, hr2⟩
        · rw [k1] at ho
          clear key c2 hr
          simp [*]
        · rw [k1] at ho
          clear key c2 hr k1
          simp [*]
          exact ⟨⟨m, l2 ++ [⟨tx, ty⟩], false, p3⟩, Nat.lt_succ_self m, rfl, by simp [encPar, acc_snoc], rfl, by simp only; omega, by simp only [List.length_append, List.length_cons, List.length_nil]; omega, hr2, I3⟩
    · simp at hr
      have ho := over_spec I
      rcases key _ I hr with ⟨k1, rfl, rfl⟩ | ⟨k1, ty, pt, tx, p3, x2, x3, I3, hr2⟩
      · rw [k1] at ho
        clear key hr t2
        simp [*]
      · rw [k1] at ho
        clear key hr k1 t2
        simp [*]
        exact ⟨⟨m, l2 ++ [⟨tx, ty⟩], false, p3⟩, Nat.lt_succ_self m, rfl, by simp [encPar, acc_snoc], rfl, by simp only; omega, by simp only [List.length_append, List.length_cons, List.length_nil]; omega, hr2, I3⟩
end PE.U

/-
  Programs.
-/
namespace PE.U
open Go PE

def progF (T : List Tok) : Nat → List PArr → List Func → PS → Option (Prog × PS)
  | 0, _, _, _ => none
  | n + 1, ars, fs, p =>
    if overF p then some (⟨ars, fs⟩, p)
    else if (tk T p.at').kind = 3 then some (⟨ars, fs⟩, p)
    else if (typedF T p).1 = 1 ∧ fs = [] ∧ isF T [91] (textF T 1 (typedF T p).2).2 = true then
      progF T n (ars ++ [⟨(textF T 1 (typedF T p).2).1, valueM (textF T 0 (adv (textF T 1 (typedF T p).2).2)).1⟩]) fs (mustF T [59] (mustF T [93] (textF T 0 (adv (textF T 1 (typedF T p).2).2)).2))
    else match functionF T n (typedF T p).1 (textF T 1 (typedF T p).2).1 (textF T 1 (typedF T p).2).2 with
      | none => none
      | some q => progF T n ars (fs ++ [q.1]) q.2

structure GS where
  m : Nat
  ars : List PArr
  fs : List Func
  p : PS

theorem text0_num {T : List Tok} {p : PS} (I : Inv1 T p) : digs (textF T 0 p).1 = true ∧ (textF T 0 p).1.length < 1000000 := by
  unfold textF
  split
  · exact ⟨rfl, by simp⟩
  · split
    · rename_i h
      refine I.num _ ?_ h
      rw [← tk_get' I.lt]; exact List.getElem_mem I.lt
    · exact ⟨rfl, by simp⟩

theorem progF_inv {T : List Tok} : ∀ m ars fs p v p', m ≤ 999999980 → progF T m ars fs p = some (v, p') → Inv1 T p → Inv1 T p' := by
  intro m
  induction m with
  | zero => intro ars fs p v p' _ h; simp [progF] at h
  | succ m ih =>
    intro ars fs p v p' hm h I
    simp only [progF] at h
    have I2 := I.typed.text 1 (by decide)
    split at h
    · cases h; exact I
    · split at h
      · cases h; exact I
      · split at h
        · rename_i hc
          exact ih _ _ _ _ _ (by omega) h ((((I2.adv _ hc.2.2).text 0 (by decide)).must _).must _)
        · split at h
          · cases h
          · rename_i q hq
            exact ih _ _ _ _ _ (by omega) h (function_spec hq I2 (by omega)).2

set_option maxHeartbeats 4000000 in
theorem prog_spec {T : List Tok} {n : Nat} {p p' : PS} {v : Prog} (h : progF T n [] [] p = some (v, p')) (I : Inv1 T p) (hn : n ≤ 999999980) : pcall E 15 [.ptr 0 0 0] (pob T p) = some (.ret (encProg v), pob T p') ∧ Inv1 T p' := by
  refine ⟨?_, progF_inv _ _ _ _ _ _ hn h I⟩
  refine pcall_wp rfl rfl rfl (by simp) ?_
  simp [F15, encProg, parrs, funcs]
  refine wp_while K15_0 B15_0 (fun c : GS => c.m) (fun c => []) (fun c => [(3, .cells [acc 2 (c.ars.map encPArr), acc 4 (c.fs.map encFunc)])]) (fun c => pob T c.p) (fun c => c.m ≤ n ∧ c.ars.length + c.m ≤ n ∧ c.fs.length + c.m ≤ n ∧ progF T c.m c.ars c.fs c.p = some (v, p') ∧ Inv1 T c.p) ⟨n, [], [], p⟩ ⟨by simp, by simp, by simp, Nat.le_refl _, by simp, by simp, h, I⟩ ?_
  clear h I
  rintro ⟨m, ars, fs, p⟩ s1 ⟨hm, hla, hlf, hr, I⟩ g1 g2 g3 g4 g5
  simp at g1 g2 g4 g5 hm hla hlf hr I
  clear g3
  cases m with
  | zero => simp [progF] at hr
  | succ m =>
    simp only [progF] at hr
    have hrm1 : (ars.length + 1) * 24 ≤ roomMax := by simp only [roomMax]; omega
    have hrm2 : (fs.length + 1) * 72 ≤ roomMax := by simp only [roomMax]; omega
    have ho := over_spec I
    have hlt := I.lt
    have hg := tk_get hlt
    have hg' := tk_get' hlt
    cases o : overF p
    case true =>
      rw [if_pos o] at hr
      rw [o] at ho
      cases hr
      clear o
      simp [*]
    rw [if_neg (by rw [o]; decide)] at hr
    rw [o] at ho
    clear o
    by_cases hk : (tk T p.at').kind = 3
    · rw [if_pos hk] at hr
      replace hk := eqp hk
      cases hr
      simp [pob, toks] at ho g5
      simp [*, pob, toks, encTok]
    rw [if_neg hk] at hr
    replace hk := eqn hk
    have ty := typed_spec I
    have I1 := I.typed
    generalize typedF T p = tt at *
    obtain ⟨t, p1⟩ := tt
    simp only at ty I1 hr
    have tx := text_spec I1 1
    have I2 := I1.text 1 (by decide)
    generalize textF T 1 p1 = tt at *
    obtain ⟨s, p2⟩ := tt
    simp only at tx I2 hr
    have t2 := take_spec I2 [91]
    rw [takeF_eq] at t2
    by_cases hc : t = 1 ∧ fs = [] ∧ isF T [91] p2 = true
    · rw [if_pos hc] at hr
      obtain ⟨rfl, rfl, hc⟩ := hc
      have IA := I2.adv _ hc
      rw [hc] at t2
      have x1 := text_spec IA 0
      obtain ⟨n1, n2⟩ := text0_num IA
      have I3 := IA.text 0 (by decide)
      generalize textF T 0 (adv p2) = tt at *
      obtain ⟨x, p3⟩ := tt
      simp only at x1 I3 hr n1 n2
      have vv := value_spec' x [] n1 (by omega)
      have m1 := must_spec I3 [93]
      have m2 := must_spec (I3.must [93]) [59]
      have I4 := (I3.must [93]).must [59]
      clear hc
      simp [pob, toks] at ho g5 ty tx t2 x1 m1 m2
      simp [*, pob, toks, encTok]
      exact ⟨⟨m, ars ++ [⟨s, valueM x⟩], [], _⟩, Nat.lt_succ_self m, by simp [encPArr, acc_snoc], ⟨rfl, rfl, rfl⟩, by simp only; omega, by simp only [List.length_append, List.length_cons, List.length_nil]; omega, by simp only [List.length_nil]; omega, hr, I4⟩
    · rw [if_neg hc] at hr
      split at hr
      · cases hr
      rename_i q hq
      obtain ⟨fn, p3⟩ := q
      simp only at hr
      obtain ⟨x1, I3⟩ := function_spec hq I2 (by omega)
      clear hq
      have hs := is_spec I2 [91]
      simp [encFunc, parsV, stmts] at x1
      simp [pob, toks] at ho g5 ty tx t2 x1
      by_cases h1 : t = 1
      · by_cases h2 : fs = []
        · have h3 : isF T [91] p2 = false := by
            cases h3 : isF T [91] p2
            · rfl
            · exact absurd ⟨h1, h2, h3⟩ hc
          rw [h3] at t2
          subst h1 h2
          clear hc h3 hs hrm2
          have hrm2 : 72 ≤ roomMax := by simp only [roomMax]; omega
          simp at g4 hr
          simp [*, pob, toks, encTok]
          exact ⟨⟨m, ars, [fn], p3⟩, Nat.lt_succ_self m, ⟨rfl, by simp [encFunc, parsV, stmts]⟩, ⟨rfl, rfl, rfl⟩, by simp only; omega, by simp only; omega, by simp only [List.length_cons, List.length_nil] at hlf ⊢; omega, hr, I3⟩
        · have h2' : ¬ fs.length = 0 := by simpa using h2
          clear hc h2 t2 hs
          subst h1
          simp [*, pob, toks, encTok]
          exact ⟨⟨m, ars, fs ++ [fn], p3⟩, Nat.lt_succ_self m, ⟨rfl, by simp [encFunc, parsV, stmts, acc_snoc]⟩, ⟨rfl, rfl, rfl⟩, by simp only; omega, by simp only; omega, by simp only [List.length_append, List.length_cons, List.length_nil]; omega, hr, I3⟩
      · clear hc t2 hs
        replace h1 := eqn h1
        simp [*, pob, toks, encTok]
        exact ⟨⟨m, ars, fs ++ [fn], p3⟩, Nat.lt_succ_self m, ⟨rfl, by simp [encFunc, parsV, stmts, acc_snoc]⟩, ⟨rfl, rfl, rfl⟩, by simp only; omega, by simp only; omega, by simp only [List.length_append, List.length_cons, List.length_nil]; omega, hr, I3⟩
end PE.U

/-
  What may be: expressions.
-/
namespace PE.U
open Go PE

def kindR (k o n : Int) (s : List UInt8) (a : Nat) : Bool :=
  if k = 1 then decide (o = 0) && (decide (0 ≤ n) && (decide (s = []) && decide (a = 0)))
  else if k = 2 then decide (o = 0) && ((decide (n = 0) || decide (n = 1)) && (decide (s = []) && decide (a = 0)))
  else if k = 3 then (decide (o = 0) && decide (n = 0)) && (nameM s && decide (a = 0))
  else if k = 4 then oneR o && (decide (n = 0) && (decide (s = []) && decide (a = 1)))
  else if k = 5 then decide (0 < levelR o) && (decide (n = 0) && (decide (s = []) && decide (a = 2)))
  else if k = 6 then (decide (o = 0) && decide (n = 0)) && (nameM s && decide (a = 1))
  else if k = 7 then (decide (o = 0) && decide (n = 0)) && (nameM s && decide (a ≤ 8))
  else if k = 8 then (decide (o = 0) && decide (n = 0)) && (decide (s = []) && decide (a = 0))
  else false
mutual
def exprR : Expr → Int → Bool
  | ⟨k, o, n, s, a⟩, m => exprsR a m && kindR k o n s a.length
def exprsR : List Expr → Int → Bool
  | [], _ => true
  | x :: r, m => (decide (2 ≤ m) && exprR x (m - 1)) && exprsR r m
end
theorem exprR_eq (e : Expr) (m : Int) : exprR e m = (exprsR e.args m && kindR e.kind e.op e.n e.name e.args.length) := by cases e; rw [exprR]
theorem exprsR_append (a b : List Expr) (m : Int) : exprsR (a ++ b) m = (exprsR a m && exprsR b m) := by
  induction a with
  | nil => simp [exprsR]
  | cons x r ih => simp [exprsR, ih, Bool.and_assoc]

set_option maxHeartbeats 4000000 in
theorem kind_end (e : Expr) (st : Store) : True := trivial

set_option maxHeartbeats 4000000 in
theorem exprR_spec' : ∀ w (e : Expr) (m : Int), wtE e ≤ w → w < 1099511000000 → m ≤ 1000000 → pcall E 71 [encExpr e, .int .i64 m] [] = some (.ret (.bool (exprR e m)), [])
  | 0, e, m, h, _, _ => by rw [wtE_eq] at h; omega
  | w + 1, e, m, h, hw, hm => by
    refine pcall_wp rfl rfl rfl (by simp [encExpr_eq]) ?_
    have hlen := len_wtEs e.args
    rw [wtE_eq] at h
    simp [F71, encExpr_eq, exprs]
    refine wp_each e.args K71_0 B71_0 (fun d => [(5, .int .i64 d.length)]) (fun _ => []) (fun d => exprsR d m = true) (by omega) (by simp [exprsR]) ?_ ?_
    · intros d x r s1 hl' hlt hget hget' hw1 hp h1 h2 h3 h4
      simp at h1 h2 h3
      have hwx := wtE_mem hl'.mem
      have hf : exprR e m = false ∨ (2 ≤ m ∧ exprR x (m - 1) = true) := by
        by_cases h2m : 2 ≤ m
        · cases hx : exprR x (m - 1)
          · left
            rw [exprR_eq, hl'.eq, exprsR_append]
            simp [exprsR, hx]
          · exact Or.inr ⟨h2m, rfl⟩
        · left
          rw [exprR_eq, hl'.eq, exprsR_append]
          simp [exprsR, h2m]
      have hnx : 2 ≤ m → exprR x (m - 1) = true → exprsR (d ++ [x]) m = true := by
        intro a b
        rw [exprsR_append, hp]
        simp [exprsR, a, b]
      by_cases h2m : m < 2
      · rcases hf with hf | hf
        · clear hnx hl' hp
          (simp [*]) <;> (repeat' (first | ((first | refine sP _ ?_ ?_ | refine gP _ ?_ ?_ | refine sN _ ?_ ?_ | refine gN _ ?_ ?_) <;> intro hc <;> (first | replace hc := eqn hc | replace hc := eqp hc) <;> simp [*]) | ((first | refine sM _ ?_ ?_ | refine gM _ ?_ ?_ | refine sB _ ?_ ?_ | refine gB _ ?_ ?_) <;> intro hc <;> simp [*])))
        · omega
      · have ih := exprR_spec' w x (m - 1) (by omega) (by omega) (by omega)
        have hwm : wrapK .i64 (m - 1) = m - 1 := wrapK_small (by omega) (by omega)
        rw [encExpr_eq] at ih
        cases hx : exprR x (m - 1)
        · rcases hf with hf | hf
          · rw [hx] at ih
            clear hnx hl' hp
            simp [exprs] at ih
            (simp [*, encExpr_eq, exprs]) <;> (repeat' (first | ((first | refine sP _ ?_ ?_ | refine gP _ ?_ ?_ | refine sN _ ?_ ?_ | refine gN _ ?_ ?_) <;> intro hc <;> (first | replace hc := eqn hc | replace hc := eqp hc) <;> simp [*, encExpr_eq, exprs]) | ((first | refine sM _ ?_ ?_ | refine gM _ ?_ ?_ | refine sB _ ?_ ?_ | refine gB _ ?_ ?_) <;> intro hc <;> simp [*, encExpr_eq, exprs])))
          · rw [hx] at hf; exact absurd hf.2 (by decide)
        · replace hnx := hnx (by omega) hx
          rw [hx] at ih
          clear hf hl' hp
          simp [exprs] at ih
          (simp [*, encExpr_eq, exprs]) <;> (repeat' (first | ((first | refine sP _ ?_ ?_ | refine gP _ ?_ ?_ | refine sN _ ?_ ?_ | refine gN _ ?_ ?_) <;> intro hc <;> (first | replace hc := eqn hc | replace hc := eqp hc) <;> simp [*, encExpr_eq, exprs]) | ((first | refine sM _ ?_ ?_ | refine gM _ ?_ ?_ | refine sB _ ?_ ?_ | refine gB _ ?_ ?_) <;> intro hc <;> simp [*, encExpr_eq, exprs])))
    · intros s1 hp h1 h2 h3 h4
      simp at h1 h2 h3
      rw [exprR_eq, hp, Bool.true_and]
      have hn := rname_spec e.name []
      have h5 := rlevel_spec e.op
      have h6 := roneR_spec e.op
      clear h hlen hp
      generalize hal : e.args.length = al at *
      unfold kindR
      by_cases k1 : e.kind = 1
      · replace k1 := eqp k1
        (simp [*]) <;> (repeat' (first | ((first | refine sP _ ?_ ?_ | refine gP _ ?_ ?_ | refine sN _ ?_ ?_ | refine gN _ ?_ ?_) <;> intro hc <;> (first | replace hc := eqn hc | replace hc := eqp hc) <;> simp [*]) | ((first | refine sM _ ?_ ?_ | refine gM _ ?_ ?_ | refine sB _ ?_ ?_ | refine gB _ ?_ ?_) <;> intro hc <;> simp [*])))
        all_goals (try omega)
      by_cases k2 : e.kind = 2
      · replace k1 := eqn k1
        replace k2 := eqp k2
        (simp [*]) <;> (repeat' (first | ((first | refine sP _ ?_ ?_ | refine gP _ ?_ ?_ | refine sN _ ?_ ?_ | refine gN _ ?_ ?_) <;> intro hc <;> (first | replace hc := eqn hc | replace hc := eqp hc) <;> simp [*]) | ((first | refine sM _ ?_ ?_ | refine gM _ ?_ ?_ | refine sB _ ?_ ?_ | refine gB _ ?_ ?_) <;> intro hc <;> simp [*])))
        all_goals (try omega)
      by_cases k3 : e.kind = 3
      · replace k1 := eqn k1
        replace k2 := eqn k2
        replace k3 := eqp k3
        (simp [*]) <;> (repeat' (first | ((first | refine sP _ ?_ ?_ | refine gP _ ?_ ?_ | refine sN _ ?_ ?_ | refine gN _ ?_ ?_) <;> intro hc <;> (first | replace hc := eqn hc | replace hc := eqp hc) <;> simp [*]) | ((first | refine sM _ ?_ ?_ | refine gM _ ?_ ?_ | refine sB _ ?_ ?_ | refine gB _ ?_ ?_) <;> intro hc <;> simp [*])))
        all_goals (try omega)
      by_cases k4 : e.kind = 4
      · replace k1 := eqn k1
        replace k2 := eqn k2
        replace k3 := eqn k3
        replace k4 := eqp k4
        (simp [*]) <;> (repeat' (first | ((first | refine sP _ ?_ ?_ | refine gP _ ?_ ?_ | refine sN _ ?_ ?_ | refine gN _ ?_ ?_) <;> intro hc <;> (first | replace hc := eqn hc | replace hc := eqp hc) <;> simp [*]) | ((first | refine sM _ ?_ ?_ | refine gM _ ?_ ?_ | refine sB _ ?_ ?_ | refine gB _ ?_ ?_) <;> intro hc <;> simp [*])))
        all_goals (try omega)
      by_cases k5 : e.kind = 5
      · replace k1 := eqn k1
        replace k2 := eqn k2
        replace k3 := eqn k3
        replace k4 := eqn k4
        replace k5 := eqp k5
        (simp [*]) <;> (repeat' (first | ((first | refine sP _ ?_ ?_ | refine gP _ ?_ ?_ | refine sN _ ?_ ?_ | refine gN _ ?_ ?_) <;> intro hc <;> (first | replace hc := eqn hc | replace hc := eqp hc) <;> simp [*]) | ((first | refine sM _ ?_ ?_ | refine gM _ ?_ ?_ | refine sB _ ?_ ?_ | refine gB _ ?_ ?_) <;> intro hc <;> simp [*])))
        all_goals (try omega)
      replace k1 := eqn k1
      replace k2 := eqn k2
      replace k3 := eqn k3
      replace k4 := eqn k4
      replace k5 := eqn k5
      by_cases k6 : e.kind = 6
      · replace k6 := eqp k6
        (simp [*]) <;> (repeat' (first | ((first | refine sP _ ?_ ?_ | refine gP _ ?_ ?_ | refine sN _ ?_ ?_ | refine gN _ ?_ ?_) <;> intro hc <;> (first | replace hc := eqn hc | replace hc := eqp hc) <;> simp [*]) | ((first | refine sM _ ?_ ?_ | refine gM _ ?_ ?_ | refine sB _ ?_ ?_ | refine gB _ ?_ ?_) <;> intro hc <;> simp [*])))
        all_goals (try omega)
      replace k6 := eqn k6
      by_cases k7 : e.kind = 7
      · replace k7 := eqp k7
        (simp [*]) <;> (repeat' (first | ((first | refine sP _ ?_ ?_ | refine gP _ ?_ ?_ | refine sN _ ?_ ?_ | refine gN _ ?_ ?_) <;> intro hc <;> (first | replace hc := eqn hc | replace hc := eqp hc) <;> simp [*]) | ((first | refine sM _ ?_ ?_ | refine gM _ ?_ ?_ | refine sB _ ?_ ?_ | refine gB _ ?_ ?_) <;> intro hc <;> simp [*])))
        all_goals (try omega)
      replace k7 := eqn k7
      by_cases k8 : e.kind = 8
      · replace k8 := eqp k8
        (simp [*]) <;> (repeat' (first | ((first | refine sP _ ?_ ?_ | refine gP _ ?_ ?_ | refine sN _ ?_ ?_ | refine gN _ ?_ ?_) <;> intro hc <;> (first | replace hc := eqn hc | replace hc := eqp hc) <;> simp [*]) | ((first | refine sM _ ?_ ?_ | refine gM _ ?_ ?_ | refine sB _ ?_ ?_ | refine gB _ ?_ ?_) <;> intro hc <;> simp [*])))
        all_goals (try omega)
      replace k8 := eqn k8
      (simp [*]) <;> (repeat' (first | ((first | refine sP _ ?_ ?_ | refine gP _ ?_ ?_ | refine sN _ ?_ ?_ | refine gN _ ?_ ?_) <;> intro hc <;> (first | replace hc := eqn hc | replace hc := eqp hc) <;> simp [*]) | ((first | refine sM _ ?_ ?_ | refine gM _ ?_ ?_ | refine sB _ ?_ ?_ | refine gB _ ?_ ?_) <;> intro hc <;> simp [*])))
      all_goals (try omega)
theorem exprR_spec (e : Expr) (m : Int) (h : wtE e < 1099510000000) (hm : m ≤ 1000000) : pcall E 71 [encExpr e, .int .i64 m] [] = some (.ret (.bool (exprR e m)), []) := exprR_spec' (wtE e) e m (Nat.le_refl _) (by omega) hm
end PE.U

/-
  What may be: statements.
-/
namespace PE.U
open Go PE

def shapeR (k : Int) : Bool × Bool × Int × Bool × Bool :=
  if k = 1 then (true, true, 1, false, false)
  else if k = 2 then (false, true, 1, false, false)
  else if k = 3 then (false, true, 2, false, false)
  else if k = 4 then (false, false, 1, true, true)
  else if k = 5 then (false, false, 1, true, false)
  else if k = 6 ∨ k = 7 then (false, false, 0, false, false)
  else if k = 8 ∨ k = 9 ∨ k = 10 then (false, false, 1, false, false)
  else (false, false, -1, false, false)
theorem shape_spec (k : Int) : pcall E 70 [.int .i64 k] [] = some (.ret (.tup [.bool (shapeR k).1, .bool (shapeR k).2.1, .int .i64 (shapeR k).2.2.1, .bool (shapeR k).2.2.2.1, .bool (shapeR k).2.2.2.2]), []) := by
  refine pcall_wp rfl rfl rfl (by simp) ?_
  unfold shapeR
  (simp [*, F70]) <;> (repeat' ((first | refine sP _ ?_ ?_ | refine gP _ ?_ ?_ | refine sN _ ?_ ?_ | refine gN _ ?_ ?_ | refine sM _ ?_ ?_ | refine gM _ ?_ ?_ | refine sB _ ?_ ?_ | refine gB _ ?_ ?_) <;> intro hc <;> simp [*, F70]))

/-- Its head: as many parts as its kind has. -/
def headR (s : Stmt) (m : Int) : Bool :=
  !(decide (m < 1) || (decide (¬ (s.args.length : Int) = (shapeR s.kind).2.2.1) || ((shapeR s.kind).1 != (decide (s.type = 1) || decide (s.type = 2)) || ((!(shapeR s.kind).1 && decide (¬ s.type = 0)) || ((shapeR s.kind).2.1 != nameM s.name || (!(shapeR s.kind).2.1 && decide (¬ s.name = [])))))))
def argsR (l : List Expr) : Bool := l.all fun e => exprR e 100
/-- A do's expression is a call. -/
def doR (k : Int) (l : List Expr) : Bool := !(decide (k = 10) && (match l with | [] => false | e :: _ => decide (¬ e.kind = 7)))

mutual
def stmtR : Stmt → Int → Bool
  | ⟨k, t, s, a, th, el⟩, m => headR ⟨k, t, s, a, th, el⟩ m && (argsR a && (doR k a && ((((shapeR k).2.2.2.1 || th.isEmpty) && ((shapeR k).2.2.2.2 || el.isEmpty)) && (stmtsR th (m - 1) && stmtsR el (m - 1)))))
def stmtsR : List Stmt → Int → Bool
  | [], _ => true
  | x :: r, m => stmtR x m && stmtsR r m
end
theorem stmtR_eq (s : Stmt) (m : Int) : stmtR s m = (headR s m && (argsR s.args && (doR s.kind s.args && ((((shapeR s.kind).2.2.2.1 || s.thn.isEmpty) && ((shapeR s.kind).2.2.2.2 || s.els.isEmpty)) && (stmtsR s.thn (m - 1) && stmtsR s.els (m - 1)))))) := by cases s; rw [stmtR]
theorem stmtsR_append (a b : List Stmt) (m : Int) : stmtsR (a ++ b) m = (stmtsR a m && stmtsR b m) := by
  induction a with
  | nil => simp [stmtsR]
  | cons x r ih => simp [stmtsR, ih, Bool.and_assoc]
theorem rtype_spec (t : Int) : pcall E 47 [.int .i64 t] [] = some (.ret (.bool (decide (t = 1) || decide (t = 2))), []) := by
  refine pcall_wp rfl rfl rfl (by simp) ?_
  (simp [*, F47]) <;> (repeat' ((first | refine sP _ ?_ ?_ | refine gP _ ?_ ?_ | refine sN _ ?_ ?_ | refine gN _ ?_ ?_ | refine sM _ ?_ ?_ | refine gM _ ?_ ?_ | refine sB _ ?_ ?_ | refine gB _ ?_ ?_) <;> intro hc <;> simp [*, F47]))
end PE.U

/-
  What may be: statements, the contract.
-/
namespace PE.U
open Go PE

set_option maxHeartbeats 8000000 in
theorem stmtsR_spec' : ∀ w (l : List Stmt) (m : Int), wtSs l ≤ w → w < 1099509000000 → m ≤ 1000000 → pcall E 48 [stmts l, .int .i64 m] [] = some (.ret (.bool (stmtsR l m)), []) := by
  intro w
  induction w with
  | zero =>
    intro l m h hw hm
    have : l = [] := by
      cases l with
      | nil => rfl
      | cons x r => simp [wtSs] at h
    subst this
    refine pcall_wp rfl rfl rfl (by simp) ?_
    simp [F48, stmts, stmtsR]
    refine wp_each ([] : List Stmt) K48_1 B48_1 (fun d => [(5, .int .i64 d.length)]) (fun _ => []) (fun _ => True) (by simp) (by simp) ?_ ?_
    · intros d x r s1 hl' hlt; simp at hlt
    · intros s1 hp h1 h2 h3 h4
      simp at h1 h3
      clear h2
      simp [*]
  | succ w ih =>
    intro l m h hw hm
    refine pcall_wp rfl rfl rfl (by simp) ?_
    have hlen := len_wtSs l
    simp [F48, stmts]
    refine wp_each l K48_1 B48_1 (fun d => [(5, .int .i64 d.length)]) (fun _ => []) (fun d => stmtsR d m = true) (by omega) (by simp [stmtsR]) ?_ ?_
    · intros d x r s1 hl' hlt hget hget' hw1 hp h1 h2 h3 h4
      simp at h1 h3
      clear h2
      have hwx := wtS_mem hl'.mem
      have hwe := wtS_eq x
      have hf : stmtR x m = false → stmtsR l m = false := fun hx => by
        rw [hl'.eq, stmtsR_append]; simp [stmtsR, hx]
      have hnx : stmtR x m = true → stmtsR (d ++ [x]) m = true := fun hx => by
        rw [stmtsR_append, hp]; simp [stmtsR, hx]
      clear hl' hp
      have e1 := shape_spec x.kind
      have e2 := rname_spec x.name []
      have hlw := len_wtEs x.args
      cases hh : headR x m
      · -- the head is wrong
        replace hf := hf (by rw [stmtR_eq, hh]; rfl)
        clear hnx
        simp only [headR, Bool.not_eq_false', Bool.or_eq_true, decide_eq_true_eq, Bool.and_eq_true, Bool.not_eq_true', bne_iff_ne] at hh
        generalize shapeR x.kind = sh at *
        obtain ⟨t, nm, n, th, ot⟩ := sh
        simp only at hh e1
        have hh2 := hh
        clear hh
        cases hnn : nameM x.name <;> rw [hnn] at e2 hh2 <;> cases t <;> cases nm <;>
        · simp at e1 hh2
          (simp [*, encStmt_eq, exprs, stmts]) <;> (repeat' (first | ((first | refine sP _ ?_ ?_ | refine gP _ ?_ ?_ | refine sN _ ?_ ?_ | refine gN _ ?_ ?_) <;> intro hc <;> (first | replace hc := eqn hc | replace hc := eqp hc) <;> simp [*, encStmt_eq, exprs, stmts]) | ((first | refine sM _ ?_ ?_ | refine gM _ ?_ ?_ | refine sB _ ?_ ?_ | refine gB _ ?_ ?_) <;> intro hc <;> simp [*, encStmt_eq, exprs, stmts])))
          all_goals (exfalso; grind)
      · -- the head is right
        have hs := stmtR_eq x m
        rw [hh, Bool.true_and] at hs
        simp only [headR, Bool.not_eq_true', Bool.not_eq_false', Bool.or_eq_false_iff, decide_eq_false_iff_not, Bool.and_eq_false_iff, bne_eq_false_iff_eq, Decidable.not_not, Bool.not_eq_true] at hh
        generalize hsh : shapeR x.kind = sh at *
        obtain ⟨t, nm, n, th, ot⟩ := sh
        simp only at hh hs e1
        obtain ⟨a1, a2, a3, a4, a5, a6⟩ := hh
        subst a2
        rw [← a5] at e2
        have hm1 : wrapK .i64 (m - 1) = m - 1 := wrapK_small (by omega) (by omega)
        rcases (show (t = true ∧ x.type = 1) ∨ (t = true ∧ x.type = 2) ∨ (t = false ∧ x.type = 0) by
          cases t
          · right; right; exact ⟨rfl, by simpa using a4⟩
          · have := a3.symm
            simp only [Bool.or_eq_true, decide_eq_true_eq] at this
            rcases this with h | h
            · exact Or.inl ⟨rfl, h⟩
            · exact Or.inr (Or.inl ⟨rfl, h⟩)) with ⟨rfl, ht⟩ | ⟨rfl, ht⟩ | ⟨rfl, ht⟩
        all_goals
          clear a3 a4 a5
          cases nm
          · replace a6 : x.name = [] := by simpa using a6
            rw [a6] at e2
            simp [*, encStmt_eq, exprs, stmts]
            have hlt0 : x.args.length < 2 ^ 62 := by omega
            refine wp_each x.args K48_0 B48_0 (fun d => [(12, .int .i64 d.length)]) (fun _ => []) (fun d => argsR d = true) hlt0 (by simp [argsR]) ?_ ?_
            · intros d2 y r2 s2 hl2 hlt2 hget2 hget2' hw2 hp2 g1 g2 g3 g4
              simp at g1 g2 g3
              have hwy := wtE_mem hl2.mem
              have ey := exprR_spec y 100 (by omega) (by omega)
              rw [encExpr_eq] at ey
              simp [exprs] at ey
              have hlt2' : (d2.length : Int) < x.args.length := by omega
              cases hy : exprR y 100
              · have ha : argsR x.args = false := by
                  rw [hl2.eq]; simp [argsR, hy]
                replace hf := hf (by rw [hs, ha]; rfl)
                rw [hy] at ey
                clear hnx hs hp2 hl2 e1 e2 ht
                simp [*, encExpr_eq, exprs]
              · have ha : argsR (d2 ++ [y]) = true := by
                  simp only [argsR] at hp2 ⊢
                  rw [List.all_append, hp2]; simp [hy]
                rw [hy] at ey
                clear hnx hs hf hp2 hl2 e1 e2 ht
                simp [*, encExpr_eq, exprs]
            · intros s2 hp2 g1 g2 g3 g4
              simp at g1 g2 g3
              rw [hp2, Bool.true_and] at hs
              have i1 := ih x.thn (m - 1) (by omega) (by omega) (by omega)
              have i2 := ih x.els (m - 1) (by omega) (by omega) (by omega)
              simp [stmts] at i1 i2
              have k1 : (x.kind = 10 ∧ ∃ e, x.args = [e]) ∨ ¬ x.kind = 10 := by
                by_cases hk : x.kind = 10
                · refine Or.inl ⟨hk, ?_⟩
                  have hn1 : (x.args.length : Int) = 1 := by
                    have := congrArg (fun p => p.2.2.1) hsh
                    rw [hk] at this
                    exact this.symm
                  have : x.args.length = 1 := by omega
                  exact List.length_eq_one_iff.1 this
                · exact Or.inr hk
              clear hp2 hsh
              clear e1 e2 a6
              rcases k1 with ⟨hk, e, hae⟩ | hk
              · have hdo : doR x.kind x.args = decide (e.kind = 7) := by
                  rw [hk, hae]; simp [doR]
                rw [hdo] at hs
                by_cases h7 : e.kind = 7
                · have hd7 : decide (e.kind = 7) = true := decide_eq_true h7
                  rw [hd7, Bool.true_and] at hs
                  replace hk := eqp hk
                  replace h7 := eqp h7
                  clear hdo hd7 ht a1
                  have e3 : (x.thn.isEmpty = true ↔ x.thn.length = 0) := by cases x.thn <;> simp
                  have e4 : (x.els.isEmpty = true ↔ x.els.length = 0) := by cases x.els <;> simp
                  have tree : stmtR x m = true ∨ stmtR x m = false := by cases stmtR x m <;> simp
                  by_cases b1 : th = false ∧ 0 < x.thn.length
                  · have hb : (th || x.thn.isEmpty) = false := by
                      rw [b1.1, Bool.false_or]; cases hx : x.thn.isEmpty
                      · rfl
                      · have := e3.1 hx; omega
                    rw [hb] at hs
                    replace hf := hf (by rw [hs]; rfl)
                    obtain ⟨rfl, b1⟩ := b1
                    clear hs hnx tree e3 e4 i1 i2 hb
                    simp [*, stmts, encExpr_eq]
                  by_cases b2 : ot = false ∧ 0 < x.els.length
                  · have hb : (ot || x.els.isEmpty) = false := by
                      rw [b2.1, Bool.false_or]; cases hx : x.els.isEmpty
                      · rfl
                      · have := e4.1 hx; omega
                    rw [hb] at hs
                    replace hf := hf (by rw [hs]; simp)
                    obtain ⟨rfl, b2⟩ := b2
                    clear hs hnx tree e3 e4 i1 i2 hb
                    cases th
                    · have b1' : ¬ 0 < x.thn.length := fun h => b1 ⟨rfl, h⟩
                      clear b1
                      simp [*, stmts, encExpr_eq]
                    · clear b1
                      simp [*, stmts, encExpr_eq]
                  have hb1 : (th || x.thn.isEmpty) = true := by
                    cases th
                    · rw [Bool.false_or]; exact e3.2 (by by_cases h : 0 < x.thn.length; exact absurd ⟨rfl, h⟩ b1; omega)
                    · rfl
                  have hb2 : (ot || x.els.isEmpty) = true := by
                    cases ot
                    · rw [Bool.false_or]; exact e4.2 (by by_cases h : 0 < x.els.length; exact absurd ⟨rfl, h⟩ b2; omega)
                    · rfl
                  rw [hb1, hb2] at hs
                  clear e3 e4 tree hb1 hb2
                  have b1' : th = true ∨ (th = false ∧ ¬ 0 < x.thn.length) := by
                    cases th
                    · exact Or.inr ⟨rfl, fun h => b1 ⟨rfl, h⟩⟩
                    · exact Or.inl rfl
                  have b2' : ot = true ∨ (ot = false ∧ ¬ 0 < x.els.length) := by
                    cases ot
                    · exact Or.inr ⟨rfl, fun h => b2 ⟨rfl, h⟩⟩
                    · exact Or.inl rfl
                  clear b1 b2
                  cases q1 : stmtsR x.thn (m - 1)
                  · rw [q1] at i1 hs
                    replace hf := hf (by rw [hs]; rfl)
                    clear hs hnx i2 q1
                    rcases b1' with rfl | ⟨rfl, b1⟩ <;> rcases b2' with rfl | ⟨rfl, b2⟩ <;> simp [*, stmts, encExpr_eq]
                  · rw [q1] at i1 hs
                    cases q2 : stmtsR x.els (m - 1)
                    · rw [q2] at i2 hs
                      replace hf := hf (by rw [hs]; rfl)
                      clear hs hnx q1 q2
                      rcases b1' with rfl | ⟨rfl, b1⟩ <;> rcases b2' with rfl | ⟨rfl, b2⟩ <;> simp [*, stmts, encExpr_eq]
                    · rw [q2] at i2 hs
                      replace hnx := hnx (by rw [hs]; rfl)
                      clear hs hf q1 q2
                      rcases b1' with rfl | ⟨rfl, b1⟩ <;> rcases b2' with rfl | ⟨rfl, b2⟩ <;> simp [*, stmts, encExpr_eq]
                · have hd7 : decide (e.kind = 7) = false := decide_eq_false h7
                  rw [hd7, Bool.false_and] at hs
                  replace hf := hf hs
                  replace hk := eqp hk
                  replace h7 := eqn h7
                  clear hdo hd7 hs hnx ht a1
                  simp [*, encExpr_eq]
              · have hdo : doR x.kind x.args = true := by simp [doR, hk]
                rw [hdo, Bool.true_and] at hs
                replace hk := eqn hk
                clear hdo ht a1
                have e3 : (x.thn.isEmpty = true ↔ x.thn.length = 0) := by cases x.thn <;> simp
                have e4 : (x.els.isEmpty = true ↔ x.els.length = 0) := by cases x.els <;> simp
                have tree : stmtR x m = true ∨ stmtR x m = false := by cases stmtR x m <;> simp
                by_cases b1 : th = false ∧ 0 < x.thn.length
                · have hb : (th || x.thn.isEmpty) = false := by
                    rw [b1.1, Bool.false_or]; cases hx : x.thn.isEmpty
                    · rfl
                    · have := e3.1 hx; omega
                  rw [hb] at hs
                  replace hf := hf (by rw [hs]; rfl)
                  obtain ⟨rfl, b1⟩ := b1
                  clear hs hnx tree e3 e4 i1 i2 hb
                  simp [*, stmts, encExpr_eq]
                by_cases b2 : ot = false ∧ 0 < x.els.length
                · have hb : (ot || x.els.isEmpty) = false := by
                    rw [b2.1, Bool.false_or]; cases hx : x.els.isEmpty
                    · rfl
                    · have := e4.1 hx; omega
                  rw [hb] at hs
                  replace hf := hf (by rw [hs]; simp)
                  obtain ⟨rfl, b2⟩ := b2
                  clear hs hnx tree e3 e4 i1 i2 hb
                  cases th
                  · have b1' : ¬ 0 < x.thn.length := fun h => b1 ⟨rfl, h⟩
                    clear b1
                    simp [*, stmts, encExpr_eq]
                  · clear b1
                    simp [*, stmts, encExpr_eq]
                have hb1 : (th || x.thn.isEmpty) = true := by
                  cases th
                  · rw [Bool.false_or]; exact e3.2 (by by_cases h : 0 < x.thn.length; exact absurd ⟨rfl, h⟩ b1; omega)
                  · rfl
                have hb2 : (ot || x.els.isEmpty) = true := by
                  cases ot
                  · rw [Bool.false_or]; exact e4.2 (by by_cases h : 0 < x.els.length; exact absurd ⟨rfl, h⟩ b2; omega)
                  · rfl
                rw [hb1, hb2] at hs
                clear e3 e4 tree hb1 hb2
                have b1' : th = true ∨ (th = false ∧ ¬ 0 < x.thn.length) := by
                  cases th
                  · exact Or.inr ⟨rfl, fun h => b1 ⟨rfl, h⟩⟩
                  · exact Or.inl rfl
                have b2' : ot = true ∨ (ot = false ∧ ¬ 0 < x.els.length) := by
                  cases ot
                  · exact Or.inr ⟨rfl, fun h => b2 ⟨rfl, h⟩⟩
                  · exact Or.inl rfl
                clear b1 b2
                cases q1 : stmtsR x.thn (m - 1)
                · rw [q1] at i1 hs
                  replace hf := hf (by rw [hs]; rfl)
                  clear hs hnx i2 q1
                  rcases b1' with rfl | ⟨rfl, b1⟩ <;> rcases b2' with rfl | ⟨rfl, b2⟩ <;> simp [*, stmts, encExpr_eq]
                · rw [q1] at i1 hs
                  cases q2 : stmtsR x.els (m - 1)
                  · rw [q2] at i2 hs
                    replace hf := hf (by rw [hs]; rfl)
                    clear hs hnx q1 q2
                    rcases b1' with rfl | ⟨rfl, b1⟩ <;> rcases b2' with rfl | ⟨rfl, b2⟩ <;> simp [*, stmts, encExpr_eq]
                  · rw [q2] at i2 hs
                    replace hnx := hnx (by rw [hs]; rfl)
                    clear hs hf q1 q2
                    rcases b1' with rfl | ⟨rfl, b1⟩ <;> rcases b2' with rfl | ⟨rfl, b2⟩ <;> simp [*, stmts, encExpr_eq]

          · clear a6
            have a6 : True := trivial
            simp [*, encStmt_eq, exprs, stmts]
            have hlt0 : x.args.length < 2 ^ 62 := by omega
            refine wp_each x.args K48_0 B48_0 (fun d => [(12, .int .i64 d.length)]) (fun _ => []) (fun d => argsR d = true) hlt0 (by simp [argsR]) ?_ ?_
            · intros d2 y r2 s2 hl2 hlt2 hget2 hget2' hw2 hp2 g1 g2 g3 g4
              simp at g1 g2 g3
              have hwy := wtE_mem hl2.mem
              have ey := exprR_spec y 100 (by omega) (by omega)
              rw [encExpr_eq] at ey
              simp [exprs] at ey
              have hlt2' : (d2.length : Int) < x.args.length := by omega
              cases hy : exprR y 100
              · have ha : argsR x.args = false := by
                  rw [hl2.eq]; simp [argsR, hy]
                replace hf := hf (by rw [hs, ha]; rfl)
                rw [hy] at ey
                clear hnx hs hp2 hl2 e1 e2 ht
                simp [*, encExpr_eq, exprs]
              · have ha : argsR (d2 ++ [y]) = true := by
                  simp only [argsR] at hp2 ⊢
                  rw [List.all_append, hp2]; simp [hy]
                rw [hy] at ey
                clear hnx hs hf hp2 hl2 e1 e2 ht
                simp [*, encExpr_eq, exprs]
            · intros s2 hp2 g1 g2 g3 g4
              simp at g1 g2 g3
              rw [hp2, Bool.true_and] at hs
              have i1 := ih x.thn (m - 1) (by omega) (by omega) (by omega)
              have i2 := ih x.els (m - 1) (by omega) (by omega) (by omega)
              simp [stmts] at i1 i2
              have k1 : (x.kind = 10 ∧ ∃ e, x.args = [e]) ∨ ¬ x.kind = 10 := by
                by_cases hk : x.kind = 10
                · refine Or.inl ⟨hk, ?_⟩
                  have hn1 : (x.args.length : Int) = 1 := by
                    have := congrArg (fun p => p.2.2.1) hsh
                    rw [hk] at this
                    exact this.symm
                  have : x.args.length = 1 := by omega
                  exact List.length_eq_one_iff.1 this
                · exact Or.inr hk
              clear hp2 hsh
              clear e1 e2 a6
              rcases k1 with ⟨hk, e, hae⟩ | hk
              · have hdo : doR x.kind x.args = decide (e.kind = 7) := by
                  rw [hk, hae]; simp [doR]
                rw [hdo] at hs
                by_cases h7 : e.kind = 7
                · have hd7 : decide (e.kind = 7) = true := decide_eq_true h7
                  rw [hd7, Bool.true_and] at hs
                  replace hk := eqp hk
                  replace h7 := eqp h7
                  clear hdo hd7 ht a1
                  have e3 : (x.thn.isEmpty = true ↔ x.thn.length = 0) := by cases x.thn <;> simp
                  have e4 : (x.els.isEmpty = true ↔ x.els.length = 0) := by cases x.els <;> simp
                  have tree : stmtR x m = true ∨ stmtR x m = false := by cases stmtR x m <;> simp
                  by_cases b1 : th = false ∧ 0 < x.thn.length
                  · have hb : (th || x.thn.isEmpty) = false := by
                      rw [b1.1, Bool.false_or]; cases hx : x.thn.isEmpty
                      · rfl
                      · have := e3.1 hx; omega
                    rw [hb] at hs
                    replace hf := hf (by rw [hs]; rfl)
                    obtain ⟨rfl, b1⟩ := b1
                    clear hs hnx tree e3 e4 i1 i2 hb
                    simp [*, stmts, encExpr_eq]
                  by_cases b2 : ot = false ∧ 0 < x.els.length
                  · have hb : (ot || x.els.isEmpty) = false := by
                      rw [b2.1, Bool.false_or]; cases hx : x.els.isEmpty
                      · rfl
                      · have := e4.1 hx; omega
                    rw [hb] at hs
                    replace hf := hf (by rw [hs]; simp)
                    obtain ⟨rfl, b2⟩ := b2
                    clear hs hnx tree e3 e4 i1 i2 hb
                    cases th
                    · have b1' : ¬ 0 < x.thn.length := fun h => b1 ⟨rfl, h⟩
                      clear b1
                      simp [*, stmts, encExpr_eq]
                    · clear b1
                      simp [*, stmts, encExpr_eq]
                  have hb1 : (th || x.thn.isEmpty) = true := by
                    cases th
                    · rw [Bool.false_or]; exact e3.2 (by by_cases h : 0 < x.thn.length; exact absurd ⟨rfl, h⟩ b1; omega)
                    · rfl
                  have hb2 : (ot || x.els.isEmpty) = true := by
                    cases ot
                    · rw [Bool.false_or]; exact e4.2 (by by_cases h : 0 < x.els.length; exact absurd ⟨rfl, h⟩ b2; omega)
                    · rfl
                  rw [hb1, hb2] at hs
                  clear e3 e4 tree hb1 hb2
                  have b1' : th = true ∨ (th = false ∧ ¬ 0 < x.thn.length) := by
                    cases th
                    · exact Or.inr ⟨rfl, fun h => b1 ⟨rfl, h⟩⟩
                    · exact Or.inl rfl
                  have b2' : ot = true ∨ (ot = false ∧ ¬ 0 < x.els.length) := by
                    cases ot
                    · exact Or.inr ⟨rfl, fun h => b2 ⟨rfl, h⟩⟩
                    · exact Or.inl rfl
                  clear b1 b2
                  cases q1 : stmtsR x.thn (m - 1)
                  · rw [q1] at i1 hs
                    replace hf := hf (by rw [hs]; rfl)
                    clear hs hnx i2 q1
                    rcases b1' with rfl | ⟨rfl, b1⟩ <;> rcases b2' with rfl | ⟨rfl, b2⟩ <;> simp [*, stmts, encExpr_eq]
                  · rw [q1] at i1 hs
                    cases q2 : stmtsR x.els (m - 1)
                    · rw [q2] at i2 hs
                      replace hf := hf (by rw [hs]; rfl)
                      clear hs hnx q1 q2
                      rcases b1' with rfl | ⟨rfl, b1⟩ <;> rcases b2' with rfl | ⟨rfl, b2⟩ <;> simp [*, stmts, encExpr_eq]
                    · rw [q2] at i2 hs
                      replace hnx := hnx (by rw [hs]; rfl)
                      clear hs hf q1 q2
                      rcases b1' with rfl | ⟨rfl, b1⟩ <;> rcases b2' with rfl | ⟨rfl, b2⟩ <;> simp [*, stmts, encExpr_eq]
                · have hd7 : decide (e.kind = 7) = false := decide_eq_false h7
                  rw [hd7, Bool.false_and] at hs
                  replace hf := hf hs
                  replace hk := eqp hk
                  replace h7 := eqn h7
                  clear hdo hd7 hs hnx ht a1
                  simp [*, encExpr_eq]
              · have hdo : doR x.kind x.args = true := by simp [doR, hk]
                rw [hdo, Bool.true_and] at hs
                replace hk := eqn hk
                clear hdo ht a1
                have e3 : (x.thn.isEmpty = true ↔ x.thn.length = 0) := by cases x.thn <;> simp
                have e4 : (x.els.isEmpty = true ↔ x.els.length = 0) := by cases x.els <;> simp
                have tree : stmtR x m = true ∨ stmtR x m = false := by cases stmtR x m <;> simp
                by_cases b1 : th = false ∧ 0 < x.thn.length
                · have hb : (th || x.thn.isEmpty) = false := by
                    rw [b1.1, Bool.false_or]; cases hx : x.thn.isEmpty
                    · rfl
                    · have := e3.1 hx; omega
                  rw [hb] at hs
                  replace hf := hf (by rw [hs]; rfl)
                  obtain ⟨rfl, b1⟩ := b1
                  clear hs hnx tree e3 e4 i1 i2 hb
                  simp [*, stmts, encExpr_eq]
                by_cases b2 : ot = false ∧ 0 < x.els.length
                · have hb : (ot || x.els.isEmpty) = false := by
                    rw [b2.1, Bool.false_or]; cases hx : x.els.isEmpty
                    · rfl
                    · have := e4.1 hx; omega
                  rw [hb] at hs
                  replace hf := hf (by rw [hs]; simp)
                  obtain ⟨rfl, b2⟩ := b2
                  clear hs hnx tree e3 e4 i1 i2 hb
                  cases th
                  · have b1' : ¬ 0 < x.thn.length := fun h => b1 ⟨rfl, h⟩
                    clear b1
                    simp [*, stmts, encExpr_eq]
                  · clear b1
                    simp [*, stmts, encExpr_eq]
                have hb1 : (th || x.thn.isEmpty) = true := by
                  cases th
                  · rw [Bool.false_or]; exact e3.2 (by by_cases h : 0 < x.thn.length; exact absurd ⟨rfl, h⟩ b1; omega)
                  · rfl
                have hb2 : (ot || x.els.isEmpty) = true := by
                  cases ot
                  · rw [Bool.false_or]; exact e4.2 (by by_cases h : 0 < x.els.length; exact absurd ⟨rfl, h⟩ b2; omega)
                  · rfl
                rw [hb1, hb2] at hs
                clear e3 e4 tree hb1 hb2
                have b1' : th = true ∨ (th = false ∧ ¬ 0 < x.thn.length) := by
                  cases th
                  · exact Or.inr ⟨rfl, fun h => b1 ⟨rfl, h⟩⟩
                  · exact Or.inl rfl
                have b2' : ot = true ∨ (ot = false ∧ ¬ 0 < x.els.length) := by
                  cases ot
                  · exact Or.inr ⟨rfl, fun h => b2 ⟨rfl, h⟩⟩
                  · exact Or.inl rfl
                clear b1 b2
                cases q1 : stmtsR x.thn (m - 1)
                · rw [q1] at i1 hs
                  replace hf := hf (by rw [hs]; rfl)
                  clear hs hnx i2 q1
                  rcases b1' with rfl | ⟨rfl, b1⟩ <;> rcases b2' with rfl | ⟨rfl, b2⟩ <;> simp [*, stmts, encExpr_eq]
                · rw [q1] at i1 hs
                  cases q2 : stmtsR x.els (m - 1)
                  · rw [q2] at i2 hs
                    replace hf := hf (by rw [hs]; rfl)
                    clear hs hnx q1 q2
                    rcases b1' with rfl | ⟨rfl, b1⟩ <;> rcases b2' with rfl | ⟨rfl, b2⟩ <;> simp [*, stmts, encExpr_eq]
                  · rw [q2] at i2 hs
                    replace hnx := hnx (by rw [hs]; rfl)
                    clear hs hf q1 q2
                    rcases b1' with rfl | ⟨rfl, b1⟩ <;> rcases b2' with rfl | ⟨rfl, b2⟩ <;> simp [*, stmts, encExpr_eq]

    · intros s1 hp h1 h2 h3 h4
      simp at h1 h3
      clear h2
      simp [*]
end PE.U

/-
  What may be: programs.
-/
namespace PE.U
open Go PE

def arrR (a : PArr) : Bool := nameM a.name && (decide (1 ≤ a.size) && decide (a.size ≤ 1000))
def parR (p : Par) : Bool := nameM p.name && (decide (p.type = 1) || decide (p.type = 2))
def funcR (f : Func) : Bool := nameM f.name && ((decide (f.type = 1) || decide (f.type = 2)) && (decide (f.params.length ≤ 8) && (stmtsR f.body 100 && f.params.all parR)))
def rightR (p : Prog) : Bool := p.arrays.all arrR && p.funcs.all funcR

theorem stmtsR_spec (l : List Stmt) (m : Int) (h : wtSs l < 1099508000000) (hm : m ≤ 1000000) : pcall E 48 [stmts l, .int .i64 m] [] = some (.ret (.bool (stmtsR l m)), []) := stmtsR_spec' (wtSs l) l m (Nat.le_refl _) (by omega) hm

/-- How much there is in it. -/
def PSz (p : Prog) : Prop := p.arrays.length < 1099509000000 ∧ p.funcs.length < 1099509000000 ∧ ∀ f ∈ p.funcs, wtSs f.body < 1099508000000 ∧ f.params.length < 1099509000000

set_option maxHeartbeats 4000000 in
theorem right_spec (p : Prog) (hz : PSz p) : pcall E 16 [encProg p] [] = some (.ret (.bool (rightR p)), []) := by
  obtain ⟨z1, z2, z3⟩ := hz
  refine pcall_wp rfl rfl rfl (by simp [encProg]) ?_
  simp [F16, encProg, parrs, funcs]
  refine wp_each p.arrays K16_0 B16_0 (fun d => [(3, .int .i64 d.length)]) (fun _ => []) (fun d => d.all arrR = true) (by omega) (by simp) ?_ ?_
  · intros d x r s1 hl' hlt hget hget' hw hp h1 h2 h3 h4
    simp at h1 h2 h3
    have hf : arrR x = false → rightR p = false := fun h => by
      unfold rightR; rw [hl'.eq]; simp [h]
    have hnx : arrR x = true → (d ++ [x]).all arrR = true := fun h => by rw [List.all_append, hp]; simp [h]
    have e1 := rname_spec x.name []
    clear hl' hp
    cases c1 : nameM x.name
    · replace hf := hf (by unfold arrR; rw [c1]; rfl)
      rw [c1] at e1
      clear hnx
      simp [*, encPArr]
    · rw [c1] at e1
      by_cases c2 : x.size < 1
      · replace hf := hf (by unfold arrR; simp; omega)
        clear hnx
        simp [*, encPArr]
      · by_cases c3 : 1000 < x.size
        · replace hf := hf (by unfold arrR; simp; omega)
          clear hnx
          simp [*, encPArr]
        · replace hnx := hnx (by unfold arrR; rw [c1]; simp; omega)
          clear hf
          simp [*, encPArr]
          all_goals (try grind)
  intros s1 hp h1 h2 h3 h4
  simp at h1 h2 h3
  have har : p.arrays.all arrR = true := hp
  clear hp
  simp [*]
  refine wp_each p.funcs K16_2 B16_2 (fun d => [(4, .int .i64 d.length)]) (fun _ => []) (fun d => d.all funcR = true) (by omega) (by simp) ?_ ?_
  · intros d x r s2 hl' hlt hget hget' hw hp g1 g2 g3 g4
    simp at g1 g2 g3
    obtain ⟨y1, y2⟩ := z3 x hl'.mem
    have hf : funcR x = false → rightR p = false := fun h => by
      unfold rightR; rw [har, hl'.eq]; simp [h]
    have hnx : funcR x = true → (d ++ [x]).all funcR = true := fun h => by rw [List.all_append, hp]; simp [h]
    have e1 := rname_spec x.name []
    have e2 := rtype_spec x.type
    have e3 := stmtsR_spec x.body 100 y1 (by omega)
    have hp0 : True → d.all funcR = true := fun _ => hp
    clear hl' hp har
    simp [stmts] at e3
    generalize htt : (decide (x.type = 1) || decide (x.type = 2)) = tt at *
    have hq : funcR x = (nameM x.name && (tt && (decide (x.params.length ≤ 8) && (stmtsR x.body 100 && x.params.all parR)))) := by unfold funcR; rw [htt]
    clear htt
    cases c1 : nameM x.name
    · replace hf := hf (by rw [hq, c1]; rfl)
      rw [c1] at e1
      clear hnx hq
      simp [*, encFunc, parsV, stmts]
    rw [c1] at e1
    cases tt
    · replace hf := hf (by rw [hq]; simp)
      clear hnx hq
      simp [*, encFunc, parsV, stmts]
    by_cases c2 : 8 < x.params.length
    · replace hf := hf (by rw [hq]; simp; omega)
      have c2' : (8 : Int) < x.params.length := by omega
      clear hnx hq
      simp [*, encFunc, parsV, stmts]
    have c2' : ¬ (8 : Int) < x.params.length := by omega
    cases c3 : stmtsR x.body 100
    · replace hf := hf (by rw [hq, c3]; simp)
      rw [c3] at e3
      clear hnx hq
      simp [*, encFunc, parsV, stmts]
    rw [c3] at e3
    have hd8 : decide (x.params.length ≤ 8) = true := decide_eq_true (by omega)
    rw [c1, c3, hd8, Bool.true_and, Bool.true_and, Bool.true_and, Bool.true_and] at hq
    clear hd8
    simp [*, encFunc, parsV, stmts]
    refine wp_each x.params K16_1 B16_1 (fun d => [(6, .int .i64 d.length)]) (fun _ => []) (fun d => d.all parR = true) (by omega) (by simp) ?_ ?_
    · intros d2 y r2 s3 hl2 hlt2 hget2 hget2' hw2 hp2 k1 k2 k3 k4
      simp at k1 k2 k3
      have hfy : parR y = false → rightR p = false := fun h => hf (by rw [hq, hl2.eq]; simp [h])
      have hny : parR y = true → (d2 ++ [y]).all parR = true := fun h => by rw [List.all_append, hp2]; simp [h]
      have i1 := rname_spec y.name []
      have i2 := rtype_spec y.type
      generalize htt : (decide (y.type = 1) || decide (y.type = 2)) = tt at *
      have hqy : parR y = (nameM y.name && tt) := by unfold parR; rw [htt]
      clear htt hl2 hp2 hq hf hnx e1 e2 e3
      cases c4 : nameM y.name
      · rw [c4] at i1
        replace hfy := hfy (by rw [hqy, c4]; rfl)
        clear hny hqy
        simp [*, encPar]
      · rw [c4] at i1
        cases tt
        · replace hfy := hfy (by rw [hqy]; simp)
          clear hny hqy
          simp [*, encPar]
        · replace hny := hny (by rw [hqy, c4]; rfl)
          clear hfy hqy
          simp [*, encPar]
          all_goals (try grind)
    · intros s3 hp2 k1 k2 k3 k4
      simp at k1 k2 k3
      replace hnx := hnx (by rw [hq]; exact hp2)
      replace hp0 := hp0 trivial
      clear hf hq e1 e2 e3
      simp only [List.all_eq_true] at hp0 hp2
      simp [*]
      first | exact hp2 | exact ⟨hp0, hp2⟩
  · intros s2 hp g1 g2 g3 g4
    simp at g1 g2 g3
    have hr : rightR p = true := by unfold rightR; rw [har, hp]; rfl
    clear hp har
    simp [*]
end PE.U

/-
  What may be, as the program has it: expressions.
-/
namespace PE.U
open Go PE

theorem tblank_spec (k o n : Int) (s : List UInt8) (a : List Expr) : pcall E 112 [.agg [.int .i64 k, .int .i64 o, .int .i64 n, .str s, exprs a]] [] = some (.ret (.bool (decide (o = 0) && (decide (n = 0) && (decide (s = []) && decide (a = []))))), []) := by
  refine pcall_wp rfl rfl rfl (by simp) ?_
  have hl : ((a.length : Int) = 0) = (a = []) := by simp
  (simp [*, F112, exprs]) <;> (repeat' ((first | refine sP _ ?_ ?_ | refine gP _ ?_ ?_ | refine sN _ ?_ ?_ | refine gN _ ?_ ?_ | refine sM _ ?_ ?_ | refine gM _ ?_ ?_ | refine sB _ ?_ ?_ | refine gB _ ?_ ?_) <;> intro hc <;> simp [*, F112, exprs]))

/-- How many parts an expression has to have; whether it may be, but for these. -/
def ownT (k o n : Int) (s : List UInt8) (a : Nat) : Int × Bool :=
  if k = 1 then (0, decide (0 ≤ n) && (decide (o = 0) && decide (s = [])))
  else if k = 2 then (0, (decide (n = 0) || decide (n = 1)) && (decide (o = 0) && decide (s = [])))
  else if k = 4 then (1, oneR o && (decide (n = 0) && decide (s = [])))
  else if k = 5 then (2, decide (0 < levelR o) && (decide (n = 0) && decide (s = [])))
  else if k = 8 then (0, decide (o = 0) && (decide (n = 0) && decide (s = [])))
  else if k = 3 then (0, nameM s && (decide (o = 0) && decide (n = 0)))
  else if k = 6 then (1, nameM s && (decide (o = 0) && decide (n = 0)))
  else if k = 7 then (a, (nameM s && (decide (o = 0) && decide (n = 0))) && decide (a ≤ 8))
  else (0, false)

set_option maxHeartbeats 4000000 in
theorem town_spec (e : Expr) : pcall E 108 [encExpr e] [] = some (.ret (.tup [.int .i64 (ownT e.kind e.op e.n e.name e.args.length).1, .bool (ownT e.kind e.op e.n e.name e.args.length).2]), []) := by
  obtain ⟨k, o, n, s, a⟩ := e
  have hn := name_spec s []
  have hlv := level_spec o []
  rw [lvl_eq] at hlv
  have hb : ∀ k o n s, pcall E 112 [.agg [.int .i64 k, .int .i64 o, .int .i64 n, .str s, .slice .plain 5 []]] [] = some (.ret (.bool (decide (o = 0) && (decide (n = 0) && decide (s = [])))), []) := by
    intro k o n s
    have := tblank_spec k o n s []
    simpa [exprs] using this
  refine pcall_wp rfl rfl rfl (by simp [encExpr_eq]) ?_
  simp only
  unfold ownT
  by_cases k1 : k = 1
  · replace k1 := eqp k1
    (simp [*, F108, encExpr_eq, exprs]) <;> (repeat' (first | ((first | refine sP _ ?_ ?_ | refine gP _ ?_ ?_ | refine sN _ ?_ ?_ | refine gN _ ?_ ?_) <;> intro hc <;> (first | replace hc := eqn hc | replace hc := eqp hc) <;> simp [*, F108, encExpr_eq, exprs]) | ((first | refine sM _ ?_ ?_ | refine gM _ ?_ ?_ | refine sB _ ?_ ?_ | refine gB _ ?_ ?_) <;> intro hc <;> simp [*, F108, encExpr_eq, exprs])))
  replace k1 := eqn k1
  by_cases k2 : k = 2
  · replace k2 := eqp k2
    (simp [*, F108, encExpr_eq, exprs]) <;> (repeat' (first | ((first | refine sP _ ?_ ?_ | refine gP _ ?_ ?_ | refine sN _ ?_ ?_ | refine gN _ ?_ ?_) <;> intro hc <;> (first | replace hc := eqn hc | replace hc := eqp hc) <;> simp [*, F108, encExpr_eq, exprs]) | ((first | refine sM _ ?_ ?_ | refine gM _ ?_ ?_ | refine sB _ ?_ ?_ | refine gB _ ?_ ?_) <;> intro hc <;> simp [*, F108, encExpr_eq, exprs])))
  replace k2 := eqn k2
  by_cases k4 : k = 4
  · replace k4 := eqp k4
    (simp [*, F108, encExpr_eq, exprs, oneR]) <;> (repeat' (first | ((first | refine sP _ ?_ ?_ | refine gP _ ?_ ?_ | refine sN _ ?_ ?_ | refine gN _ ?_ ?_) <;> intro hc <;> (first | replace hc := eqn hc | replace hc := eqp hc) <;> simp [*, F108, encExpr_eq, exprs, oneR]) | ((first | refine sM _ ?_ ?_ | refine gM _ ?_ ?_ | refine sB _ ?_ ?_ | refine gB _ ?_ ?_) <;> intro hc <;> simp [*, F108, encExpr_eq, exprs, oneR])))
  replace k4 := eqn k4
  by_cases k5 : k = 5
  · replace k5 := eqp k5
    (simp [*, F108, encExpr_eq, exprs]) <;> (repeat' (first | ((first | refine sP _ ?_ ?_ | refine gP _ ?_ ?_ | refine sN _ ?_ ?_ | refine gN _ ?_ ?_) <;> intro hc <;> (first | replace hc := eqn hc | replace hc := eqp hc) <;> simp [*, F108, encExpr_eq, exprs]) | ((first | refine sM _ ?_ ?_ | refine gM _ ?_ ?_ | refine sB _ ?_ ?_ | refine gB _ ?_ ?_) <;> intro hc <;> simp [*, F108, encExpr_eq, exprs])))
  replace k5 := eqn k5
  by_cases k8 : k = 8
  · replace k8 := eqp k8
    (simp [*, F108, encExpr_eq, exprs]) <;> (repeat' (first | ((first | refine sP _ ?_ ?_ | refine gP _ ?_ ?_ | refine sN _ ?_ ?_ | refine gN _ ?_ ?_) <;> intro hc <;> (first | replace hc := eqn hc | replace hc := eqp hc) <;> simp [*, F108, encExpr_eq, exprs]) | ((first | refine sM _ ?_ ?_ | refine gM _ ?_ ?_ | refine sB _ ?_ ?_ | refine gB _ ?_ ?_) <;> intro hc <;> simp [*, F108, encExpr_eq, exprs])))
  replace k8 := eqn k8
  by_cases k3 : k = 3
  · replace k3 := eqp k3
    (simp [*, F108, encExpr_eq, exprs]) <;> (repeat' (first | ((first | refine sP _ ?_ ?_ | refine gP _ ?_ ?_ | refine sN _ ?_ ?_ | refine gN _ ?_ ?_) <;> intro hc <;> (first | replace hc := eqn hc | replace hc := eqp hc) <;> simp [*, F108, encExpr_eq, exprs]) | ((first | refine sM _ ?_ ?_ | refine gM _ ?_ ?_ | refine sB _ ?_ ?_ | refine gB _ ?_ ?_) <;> intro hc <;> simp [*, F108, encExpr_eq, exprs])))
  replace k3 := eqn k3
  by_cases k6 : k = 6
  · replace k6 := eqp k6
    (simp [*, F108, encExpr_eq, exprs]) <;> (repeat' (first | ((first | refine sP _ ?_ ?_ | refine gP _ ?_ ?_ | refine sN _ ?_ ?_ | refine gN _ ?_ ?_) <;> intro hc <;> (first | replace hc := eqn hc | replace hc := eqp hc) <;> simp [*, F108, encExpr_eq, exprs]) | ((first | refine sM _ ?_ ?_ | refine gM _ ?_ ?_ | refine sB _ ?_ ?_ | refine gB _ ?_ ?_) <;> intro hc <;> simp [*, F108, encExpr_eq, exprs])))
  replace k6 := eqn k6
  by_cases k7 : k = 7
  · replace k7 := eqp k7
    (simp [*, F108, encExpr_eq, exprs]) <;> (repeat' (first | ((first | refine sP _ ?_ ?_ | refine gP _ ?_ ?_ | refine sN _ ?_ ?_ | refine gN _ ?_ ?_) <;> intro hc <;> (first | replace hc := eqn hc | replace hc := eqp hc) <;> simp [*, F108, encExpr_eq, exprs]) | ((first | refine sM _ ?_ ?_ | refine gM _ ?_ ?_ | refine sB _ ?_ ?_ | refine gB _ ?_ ?_) <;> intro hc <;> simp [*, F108, encExpr_eq, exprs])))
    all_goals (try omega)
  replace k7 := eqn k7
  (simp [*, F108, encExpr_eq, exprs]) <;> (repeat' (first | ((first | refine sP _ ?_ ?_ | refine gP _ ?_ ?_ | refine sN _ ?_ ?_ | refine gN _ ?_ ?_) <;> intro hc <;> (first | replace hc := eqn hc | replace hc := eqp hc) <;> simp [*, F108, encExpr_eq, exprs]) | ((first | refine sM _ ?_ ?_ | refine gM _ ?_ ?_ | refine sB _ ?_ ?_ | refine gB _ ?_ ?_) <;> intro hc <;> simp [*, F108, encExpr_eq, exprs])))

theorem own_kind (k o n : Int) (s : List UInt8) (a : Nat) : ((ownT k o n s a).2 && decide ((a : Int) = (ownT k o n s a).1)) = kindR k o n s a := by
  rw [Bool.eq_iff_iff]
  unfold ownT kindR
  by_cases k1 : k = 1
  · subst k1; simp; grind
  by_cases k2 : k = 2
  · subst k2; simp; grind
  by_cases k4 : k = 4
  · subst k4; simp; grind
  by_cases k5 : k = 5
  · subst k5; simp; grind
  by_cases k8 : k = 8
  · subst k8; simp; grind
  by_cases k3 : k = 3
  · subst k3; simp; grind
  by_cases k6 : k = 6
  · subst k6; simp; grind
  by_cases k7 : k = 7
  · subst k7; simp; grind
  simp [*]

theorem exprsR_all (l : List Expr) (m : Int) : exprsR l m = l.all fun x => decide (2 ≤ m) && exprR x (m - 1) := by
  induction l with
  | nil => rfl
  | cons x r ih => simp [exprsR, ih]

set_option maxHeartbeats 4000000 in
theorem texpr_spec' : ∀ w (e : Expr) (m : Int), wtE e ≤ w → w < 1099511000000 → m ≤ 1000000 → pcall E 103 [encExpr e, .int .i64 m] [] = some (.ret (.bool (decide (0 < m) && exprR e m)), [])
  | 0, e, m, h, _, _ => by rw [wtE_eq] at h; omega
  | w + 1, e, m, h, hw, hm => by
    refine pcall_wp rfl rfl rfl (by simp [encExpr_eq]) ?_
    have hlen := len_wtEs e.args
    rw [wtE_eq] at h
    have ho := town_spec e
    have hk := own_kind e.kind e.op e.n e.name e.args.length
    have hR := exprR_eq e m
    rw [← hk] at hR
    generalize ownT e.kind e.op e.n e.name e.args.length = q at *
    obtain ⟨n, ok⟩ := q
    simp only at ho hk hR
    clear hk
    by_cases h0 : 0 < m
    · have hcl : ∀ x ∈ e.args, pcall E 109 ([] ++ [encExpr x] ++ [.iptr [.int .i64 m] 0]) [] = some (.ret (.bool (!(decide (0 < m - 1) && exprR x (m - 1)))), []) := by
        intro x hx
        have hwx := wtE_mem hx
        have ih := texpr_spec' w x (m - 1) (by omega) (by omega) (by omega)
        have hwm : wrapK .i64 (m - 1) = m - 1 := wrapK_small (by omega) (by omega)
        refine pcall_wp rfl rfl rfl (by simp [encExpr_eq]) ?_
        rw [encExpr_eq] at ih
        clear hR ho h hlen hwx hx
        simp [exprs] at ih
        (simp [*, F109, encExpr_eq, exprs]) <;> (repeat' ((first | refine sP _ ?_ ?_ | refine gP _ ?_ ?_ | refine sN _ ?_ ?_ | refine gN _ ?_ ?_ | refine sM _ ?_ ?_ | refine gM _ ?_ ?_ | refine sB _ ?_ ?_ | refine gB _ ?_ ?_) <;> intro hc <;> simp [*, F109, encExpr_eq, exprs]))
      have hc := containsFuncExpr e.args (fun x => !(decide (0 < m - 1) && exprR x (m - 1))) 109 [] [.iptr [.int .i64 m] 0] [] (by omega) (by simp) hcl
      have hany : (!(e.args.any fun x => !(decide (0 < m - 1) && exprR x (m - 1)))) = exprsR e.args m := by
        have h2 : decide (0 < m - 1) = decide (2 ≤ m) := by rw [decide_eq_decide]; omega
        rw [exprsR_all, List.not_any_eq_all_not, h2]
        simp
      generalize (e.args.any fun x => !(decide (0 < m - 1) && exprR x (m - 1))) = b at *
      rw [← hany] at hR
      clear hcl h hlen hany
      rw [encExpr_eq] at ho
      simp [exprs] at ho hc
      generalize hal : e.args.length = al at *
      (simp [*, F103, encExpr_eq, exprs]) <;> (repeat' (first | ((first | refine sP _ ?_ ?_ | refine gP _ ?_ ?_ | refine sN _ ?_ ?_ | refine gN _ ?_ ?_) <;> intro hc <;> (first | replace hc := eqn hc | replace hc := eqp hc) <;> simp [*, F103, encExpr_eq, exprs]) | ((first | refine sM _ ?_ ?_ | refine gM _ ?_ ?_ | refine sB _ ?_ ?_ | refine gB _ ?_ ?_) <;> intro hc <;> simp [*, F103, encExpr_eq, exprs])))
    · clear hlen h
      rw [encExpr_eq] at ho
      simp [exprs] at ho
      (simp [*, F103, encExpr_eq, exprs]) <;> (repeat' (first | ((first | refine sP _ ?_ ?_ | refine gP _ ?_ ?_ | refine sN _ ?_ ?_ | refine gN _ ?_ ?_) <;> intro hc <;> (first | replace hc := eqn hc | replace hc := eqp hc) <;> simp [*, F103, encExpr_eq, exprs]) | ((first | refine sM _ ?_ ?_ | refine gM _ ?_ ?_ | refine sB _ ?_ ?_ | refine gB _ ?_ ?_) <;> intro hc <;> simp [*, F103, encExpr_eq, exprs])))
theorem texpr_spec (e : Expr) (m : Int) (h : wtE e < 1099510000000) (hm : m ≤ 1000000) : pcall E 103 [encExpr e, .int .i64 m] [] = some (.ret (.bool (decide (0 < m) && exprR e m)), []) := texpr_spec' (wtE e) e m (Nat.le_refl _) (by omega) hm
end PE.U

/-
  What may be, as the program has it: statements.
-/
namespace PE.U
open Go PE

def shapeV (t n : Bool) (a : Int) (th o : Bool) : PV := .agg [.bool t, .bool n, .int .i64 a, .bool th, .bool o]
def shapesL : List (PV × PV) := [(.int .i64 1, shapeV true true 1 false false), (.int .i64 2, shapeV false true 1 false false), (.int .i64 3, shapeV false true 2 false false), (.int .i64 4, shapeV false false 1 true true), (.int .i64 5, shapeV false false 1 true false),
  (.int .i64 6, shapeV false false 0 false false), (.int .i64 7, shapeV false false 0 false false), (.int .i64 8, shapeV false false 1 false false), (.int .i64 9, shapeV false false 1 false false), (.int .i64 10, shapeV false false 1 false false)]

set_option maxHeartbeats 1000000 in
theorem shapes_spec (σ : Store) : pcall E 100 [] σ = some (.ret (.mp σ.length), σ ++ [.mp shapesL]) := by
  refine pcall_wp rfl rfl rfl (by simp) ?_
  simp [F100, shapesL, shapeV]

theorem shapes_find (k : Int) : mapFind false (.int .i64 k) shapesL = some (if 1 ≤ k ∧ k ≤ 10 then some (shapeV (shapeR k).1 (shapeR k).2.1 (shapeR k).2.2.1 (shapeR k).2.2.2.1 (shapeR k).2.2.2.2) else none) := by
  by_cases h : 1 ≤ k ∧ k ≤ 10
  · have : k = 1 ∨ k = 2 ∨ k = 3 ∨ k = 4 ∨ k = 5 ∨ k = 6 ∨ k = 7 ∨ k = 8 ∨ k = 9 ∨ k = 10 := by omega
    rcases this with h | h | h | h | h | h | h | h | h | h <;> subst h <;> simp [shapesL, shapeR, shapeV]
  · have h1 : ¬ k = 1 := by omega
    have h2 : ¬ k = 2 := by omega
    have h3 : ¬ k = 3 := by omega
    have h4 : ¬ k = 4 := by omega
    have h5 : ¬ k = 5 := by omega
    have h6 : ¬ k = 6 := by omega
    have h7 : ¬ k = 7 := by omega
    have h8 : ¬ k = 8 := by omega
    have h9 : ¬ k = 9 := by omega
    have h10 : ¬ k = 10 := by omega
    rw [if_neg h]
    simp [shapesL, *]

theorem tisType_spec (t : Int) (σ : Store) : pcall E 76 [.int .i64 t] σ = some (.ret (.bool (decide (t = 1) || decide (t = 2))), σ) := by
  refine pcall_wp rfl rfl rfl (by simp) ?_
  (simp [*, F76]) <;> (repeat' ((first | refine sP _ ?_ ?_ | refine gP _ ?_ ?_ | refine sN _ ?_ ?_ | refine gN _ ?_ ?_ | refine sM _ ?_ ?_ | refine gM _ ?_ ?_ | refine sB _ ?_ ?_ | refine gB _ ?_ ?_) <;> intro hc <;> simp [*, F76]))

theorem argsR_all (l : List Expr) (st : Store) (h : wtEs l < 1099509000000) : pcall E 101 [exprs l, .fn 102 [] []] st = some (.ret (.bool (!argsR l)), st) := by
  have hlen := len_wtEs l
  have hcl : ∀ x ∈ l, pcall E 102 ([] ++ [encExpr x] ++ []) st = some (.ret (.bool (!exprR x 100)), st) := by
    intro x hx
    have hwx := wtE_mem hx
    have ih := texpr_spec x 100 (by omega) (by omega)
    rw [encExpr_eq] at ih
    refine pcall_wp rfl rfl rfl (by simp [encExpr_eq]) ?_
    simp [exprs] at ih
    (simp [*, F102, encExpr_eq, exprs]) <;> (repeat' ((first | refine sP _ ?_ ?_ | refine gP _ ?_ ?_ | refine sN _ ?_ ?_ | refine gN _ ?_ ?_ | refine sM _ ?_ ?_ | refine gM _ ?_ ?_ | refine sB _ ?_ ?_ | refine gB _ ?_ ?_) <;> intro hc <;> simp [*, F102, encExpr_eq, exprs]))
  have hc := containsFuncExpr l (fun x => !exprR x 100) 102 [] [] st (by omega) (by simp) hcl
  have : (l.any fun x => !exprR x 100) = !argsR l := by
    unfold argsR; rw [List.not_all_eq_any_not]
  rw [this] at hc
  exact hc

set_option maxHeartbeats 16000000 in
theorem tstmt_of (s : Stmt) (m : Int) (hm : m ≤ 1000000) (hw : wtS s < 1099509000000)
    (h1 : ∀ m', m' ≤ 1000000 → pcall E 78 [stmts s.thn, .int .i64 m'] [] = some (.ret (.bool (stmtsR s.thn m')), []))
    (h2 : ∀ m', m' ≤ 1000000 → pcall E 78 [stmts s.els, .int .i64 m'] [] = some (.ret (.bool (stmtsR s.els m')), [])) :
    pcall E 92 [encStmt s, .int .i64 m] [] = some (.ret (.bool (stmtR s m)), []) := by
  refine pcall_wp rfl rfl rfl (by simp [encStmt_eq]) ?_
  have hs := shapes_spec []
  have hf := shapes_find s.kind
  have ht := tisType_spec s.type
  have hn := name_spec s.name
  have ha := argsR_all s.args [.mp shapesL] (by rw [wtS_eq] at hw; omega)
  rw [wtS_eq] at hw
  have hla := len_wtEs s.args
  have hlt := len_wtSs s.thn
  have hle := len_wtSs s.els
  rw [stmtR_eq]
  unfold headR
  have hk : (1 ≤ s.kind ∧ s.kind ≤ 10) ∨ (shapeR s.kind).2.2.1 = -1 := by
    by_cases h : 1 ≤ s.kind ∧ s.kind ≤ 10
    · exact Or.inl h
    · right
      unfold shapeR
      repeat' (first | rw [if_neg (by omega)] | rfl)
  by_cases hin : 1 ≤ s.kind ∧ s.kind ≤ 10
  case neg =>
    rw [if_neg hin] at hf
    have hneg : (shapeR s.kind).2.2.1 = -1 := by rcases hk with h | h; exact absurd h hin; exact h
    have hne : ¬ (s.args.length : Int) = -1 := by omega
    have hR : (decide (¬ (s.args.length : Int) = (shapeR s.kind).2.2.1)) = true := by rw [hneg]; simp [hne]
    rw [hR]
    clear hk h1 h2 hR hneg hne hla hlt hle hw ht hn ha hin
    simp [*, F92, encStmt_eq, exprs, stmts]
  rw [if_pos hin] at hf
  have hd : (s.kind = 10) → ∃ e r, s.args = e :: r ∨ ¬ (s.args.length : Int) = (shapeR s.kind).2.2.1 := by
    intro hk
    rcases he : s.args with _ | ⟨e, r⟩
    · refine ⟨⟨0, 0, 0, [], []⟩, [], Or.inr ?_⟩
      rw [hk]; simp [shapeR]
    · exact ⟨e, r, Or.inl rfl⟩
  clear hk hin
  generalize shapeR s.kind = q at *
  obtain ⟨t, nm, n, th, ot⟩ := q
  simp only at hf ⊢
  have h1' := h1 (m - 1) (by omega)
  have h2' := h2 (m - 1) (by omega)
  clear h1 h2
  by_cases hm1 : m < 1
  · replace hm1 := eqp hm1
    clear h1' h2' ht hn ha hd hla hlt hle hw
    simp [*, F92, encStmt_eq, exprs, stmts, shapeV]
  have hwm : wrapK .i64 (m - 1) = m - 1 := wrapK_small (by omega) (by omega)
  replace hm1 := eqn hm1
  by_cases hlen : (s.args.length : Int) = n
  case neg =>
    replace hlen := eqn hlen
    clear h1' h2' ht hn ha hd hla hlt hle hw
    simp [*, F92, encStmt_eq, exprs, stmts, shapeV]
  replace hd : (s.kind = 10) → ∃ e r, s.args = e :: r := by
    intro hk
    obtain ⟨e, r, h | h⟩ := hd hk
    · exact ⟨e, r, h⟩
    · exact absurd hlen h
  replace hlen := eqp hlen
  have g1 : (0 < s.thn.length) = ¬ (s.thn = []) := by
    rcases s.thn with _ | ⟨x, r⟩ <;> simp
  have g2 : (0 < s.els.length) = ¬ (s.els = []) := by
    rcases s.els with _ | ⟨x, r⟩ <;> simp
  have i1 : s.thn.isEmpty = decide (s.thn = []) := by
    rcases s.thn with _ | ⟨x, r⟩ <;> rfl
  have i2 : s.els.isEmpty = decide (s.els = []) := by
    rcases s.els with _ | ⟨x, r⟩ <;> rfl
  clear hla hlt hle hw
  have ht0 : (s.type = 0) = True → (decide (s.type = 1) || decide (s.type = 2)) = false := by intro h; rw [of_eq_true h]; decide
  generalize (decide (s.type = 1) || decide (s.type = 2)) = tt at *
  have hn0 : (s.name = []) = True → nameM s.name = false := by intro h; rw [of_eq_true h]; decide
  by_cases hk : s.kind = 10
  · obtain ⟨e, r, hel⟩ := hd hk
    have hD : doR s.kind s.args = decide (e.kind = 7) := by rw [hel]; unfold doR; simp [hk]
    have hget : s.args[0]? = some e := by rw [hel]; rfl
    clear hd hel
    replace hk := eqp hk
    rw [hD]
    clear hD
    simp [exprs, stmts] at ha h1' h2'
    (simp [*, F92, encStmt_eq, exprs, stmts, shapeV, encExpr_eq]) <;> (repeat' (first | ((first | refine sP _ ?_ ?_ | refine gP _ ?_ ?_ | refine sN _ ?_ ?_ | refine gN _ ?_ ?_) <;> intro hc <;> (first | replace hc := eqn hc | replace hc := eqp hc) <;> simp [*, F92, encStmt_eq, exprs, stmts, shapeV, encExpr_eq]) | ((first | refine sM _ ?_ ?_ | refine gM _ ?_ ?_ | refine sB _ ?_ ?_ | refine gB _ ?_ ?_) <;> intro hc <;> simp [*, F92, encStmt_eq, exprs, stmts, shapeV, encExpr_eq])))
    all_goals (intros; first | exact hn0 (by assumption) | exact ht0 (by assumption) | exact ⟨ht0 (by assumption), hn0 (by assumption)⟩)
  · clear hd
    replace hk := eqn hk
    have hD : doR s.kind s.args = true := by unfold doR; simp [hk]
    simp [exprs, stmts] at ha h1' h2'
    (simp [*, F92, encStmt_eq, exprs, stmts, shapeV]) <;> (repeat' (first | ((first | refine sP _ ?_ ?_ | refine gP _ ?_ ?_ | refine sN _ ?_ ?_ | refine gN _ ?_ ?_) <;> intro hc <;> (first | replace hc := eqn hc | replace hc := eqp hc) <;> simp [*, F92, encStmt_eq, exprs, stmts, shapeV]) | ((first | refine sM _ ?_ ?_ | refine gM _ ?_ ?_ | refine sB _ ?_ ?_ | refine gB _ ?_ ?_) <;> intro hc <;> simp [*, F92, encStmt_eq, exprs, stmts, shapeV])))
    all_goals (intros; first | exact hn0 (by assumption) | exact ht0 (by assumption) | exact ⟨ht0 (by assumption), hn0 (by assumption)⟩)
end PE.U

/-
  What may be, as the program has it: programs.
-/
namespace PE.U
open Go PE

theorem tstmts_spec' : ∀ w (l : List Stmt) (m : Int), wtSs l ≤ w → w < 1099508500000 → m ≤ 1000000 → pcall E 78 [stmts l, .int .i64 m] [] = some (.ret (.bool (stmtsR l m)), [])
  | 0, l, m, h, hw, hm => by
    have hl : l = [] := by
      have := len_wtSs l
      exact List.eq_nil_of_length_eq_zero (by omega)
    subst hl
    refine pcall_wp rfl rfl rfl (by simp [stmts]) ?_
    have hc := containsFuncStmt [] (fun _ => true) 91 [] [.iptr [.int .i64 m] 0] [] (by simp) (by simp) (by simp)
    simp at hc
    simp [*, F78, stmts, stmtsR]
  | w + 1, l, m, h, hw, hm => by
    have hlen := len_wtSs l
    refine pcall_wp rfl rfl rfl (by simp [stmts]) ?_
    have hcl : ∀ x ∈ l, pcall E 91 ([] ++ [encStmt x] ++ [.iptr [.int .i64 m] 0]) [] = some (.ret (.bool (!stmtR x m)), []) := by
      intro x hx
      have hwx := wtS_mem hx
      have hwe := wtS_eq x
      have ih := tstmt_of x m hm (by omega) (fun m' hm' => tstmts_spec' w x.thn m' (by omega) (by omega) hm') (fun m' hm' => tstmts_spec' w x.els m' (by omega) (by omega) hm')
      rw [encStmt_eq] at ih
      clear hwe hwx hx h hlen
      refine pcall_wp rfl rfl rfl (by simp [encStmt_eq]) ?_
      simp [exprs, stmts] at ih
      (simp [*, F91, encStmt_eq, exprs, stmts]) <;> (repeat' ((first | refine sP _ ?_ ?_ | refine gP _ ?_ ?_ | refine sN _ ?_ ?_ | refine gN _ ?_ ?_ | refine sM _ ?_ ?_ | refine gM _ ?_ ?_ | refine sB _ ?_ ?_ | refine gB _ ?_ ?_) <;> intro hc <;> simp [*, F91, encStmt_eq, exprs, stmts]))
    have hc := containsFuncStmt l (fun x => !stmtR x m) 91 [] [.iptr [.int .i64 m] 0] [] (by omega) (by simp) hcl
    have hR : (l.any fun x => !stmtR x m) = !stmtsR l m := by
      clear hcl hc h hlen
      induction l with
      | nil => rfl
      | cons x r ih => simp [stmtsR, ih]
    rw [hR] at hc
    clear hcl hR
    simp [*, F78, stmts]
theorem tstmts_spec (l : List Stmt) (m : Int) (h : wtSs l < 1099508000000) (hm : m ≤ 1000000) : pcall E 78 [stmts l, .int .i64 m] [] = some (.ret (.bool (stmtsR l m)), []) := tstmts_spec' (wtSs l) l m (Nat.le_refl _) (by omega) hm

theorem tparam_spec (p : Par) (σ : Store) : pcall E 75 [encPar p] σ = some (.ret (.bool (!parR p)), σ) := by
  refine pcall_wp rfl rfl rfl (by simp [encPar]) ?_
  have hn := name_spec p.name
  have ht := tisType_spec p.type
  unfold parR
  generalize (decide (p.type = 1) || decide (p.type = 2)) = tt at *
  (simp [*, F75, encPar]) <;> (repeat' ((first | refine sP _ ?_ ?_ | refine gP _ ?_ ?_ | refine sN _ ?_ ?_ | refine gN _ ?_ ?_ | refine sM _ ?_ ?_ | refine gM _ ?_ ?_ | refine sB _ ?_ ?_ | refine gB _ ?_ ?_) <;> intro hc <;> simp [*, F75, encPar]))
theorem tarr_spec (a : PArr) (σ : Store) : pcall E 53 [encPArr a] σ = some (.ret (.bool (!arrR a)), σ) := by
  refine pcall_wp rfl rfl rfl (by simp [encPArr]) ?_
  have hn := name_spec a.name
  unfold arrR
  (simp [*, F53, encPArr]) <;> (repeat' ((first | refine sP _ ?_ ?_ | refine gP _ ?_ ?_ | refine sN _ ?_ ?_ | refine gN _ ?_ ?_ | refine sM _ ?_ ?_ | refine gM _ ?_ ?_ | refine sB _ ?_ ?_ | refine gB _ ?_ ?_) <;> intro hc <;> simp [*, F53, encPArr]))
  all_goals (try grind)

theorem tfunc_spec (f : Func) (h : wtSs f.body < 1099508000000 ∧ f.params.length < 1099509000000) : pcall E 58 [encFunc f] [] = some (.ret (.bool (funcR f)), []) := by
  refine pcall_wp rfl rfl rfl (by simp [encFunc]) ?_
  have hn := name_spec f.name
  have ht := tisType_spec f.type
  have hc := containsFuncPar f.params (fun p => !parR p) 75 [] [] [] (by omega) (by simp) (fun x _ => by simpa using tparam_spec x [])
  have hs := tstmts_spec f.body 100 h.1 (by omega)
  have hp : (f.params.any fun p => !parR p) = !f.params.all parR := by rw [List.not_all_eq_any_not]
  rw [hp] at hc
  unfold funcR
  have h8 : decide (f.params.length ≤ 8) = decide ((f.params.length : Int) ≤ 8) := by rw [decide_eq_decide]; omega
  rw [h8]
  generalize (decide (f.type = 1) || decide (f.type = 2)) = tt at *
  generalize f.params.all parR = pp at *
  clear h hp h8
  simp [stmts] at hs hc
  (simp [*, F58, encFunc, parsV, stmts]) <;> (repeat' (first | ((first | refine sP _ ?_ ?_ | refine gP _ ?_ ?_ | refine sN _ ?_ ?_ | refine gN _ ?_ ?_) <;> intro hc <;> (first | replace hc := eqn hc | replace hc := eqp hc) <;> simp [*, F58, encFunc, parsV, stmts]) | ((first | refine sM _ ?_ ?_ | refine gM _ ?_ ?_ | refine sB _ ?_ ?_ | refine gB _ ?_ ?_) <;> intro hc <;> simp [*, F58, encFunc, parsV, stmts])))

theorem tright_spec (p : Prog) (hz : PSz p) : pcall E 20 [encProg p] [] = some (.ret (.bool (rightR p)), []) := by
  obtain ⟨z1, z2, z3⟩ := hz
  refine pcall_wp rfl rfl rfl (by simp [encProg]) ?_
  have ha := containsFuncPArr p.arrays (fun a => !arrR a) 53 [] [] [] (by omega) (by simp) (fun x _ => by simpa using tarr_spec x [])
  have hcl : ∀ x ∈ p.funcs, pcall E 57 ([] ++ [encFunc x] ++ []) [] = some (.ret (.bool (!funcR x)), []) := by
    intro x hx
    have := tfunc_spec x (z3 x hx)
    refine pcall_wp rfl rfl rfl (by simp [encFunc]) ?_
    simp [encFunc, parsV, stmts] at this
    clear ha
    (simp [*, F57, encFunc, parsV, stmts]) <;> (repeat' ((first | refine sP _ ?_ ?_ | refine gP _ ?_ ?_ | refine sN _ ?_ ?_ | refine gN _ ?_ ?_ | refine sM _ ?_ ?_ | refine gM _ ?_ ?_ | refine sB _ ?_ ?_ | refine gB _ ?_ ?_) <;> intro hc <;> simp [*, F57, encFunc, parsV, stmts]))
  have hf := containsFuncFunc p.funcs (fun x => !funcR x) 57 [] [] [] (by omega) (by simp) hcl
  have e1 : (p.arrays.any fun p => !arrR p) = !p.arrays.all arrR := by rw [List.not_all_eq_any_not]
  have e2 : (p.funcs.any fun p => !funcR p) = !p.funcs.all funcR := by rw [List.not_all_eq_any_not]
  rw [e1] at ha
  rw [e2] at hf
  unfold rightR
  generalize p.arrays.all arrR = x at *
  generalize p.funcs.all funcR = y at *
  clear e1 e2 hcl z1 z2 z3
  (simp [*, F20, encProg, parrs, funcs]) <;> (repeat' ((first | refine sP _ ?_ ?_ | refine gP _ ?_ ?_ | refine sN _ ?_ ?_ | refine gN _ ?_ ?_ | refine sM _ ?_ ?_ | refine gM _ ?_ ?_ | refine sB _ ?_ ?_ | refine gB _ ?_ ?_) <;> intro hc <;> simp [*, F20, encProg, parrs, funcs]))
end PE.U

/-
  Types: variables, places, operators.
-/
namespace PE.U
open Go PE

structure Vr where
  name : List UInt8
  type : Int
  depth : Int
def encVs : List Vr → PV
  | [] => .nilp
  | v :: r => .iptr [.str v.name, .int .i64 v.type, encVs r, .int .i64 v.depth] 0
@[simp] theorem encVs_nil : encVs [] = .nilp := Eq.trans rfl rfl
theorem encVs_cons (v : Vr) (r : List Vr) : encVs (v :: r) = .iptr [.str v.name, .int .i64 v.type, encVs r, .int .i64 v.depth] 0 := Eq.trans rfl rfl
section
variable (l : List Vr)
@[simp high] theorem isCell_vs : isCell (encVs l) = true := by cases l <;> rfl
@[simp high] theorem isVar_vs : isVar (encVs l) = true := by cases l <;> rfl
@[simp high] theorem canon1_vs : canon1 (encVs l) = encVs l := by cases l <;> rfl
@[simp high] theorem strip_vs : strip (encVs l) = encVs l := by cases l <;> rfl
@[simp high] theorem stripA_vs : stripA (encVs l) = encVs l := by cases l <;> rfl
@[simp high] theorem isOwn_vs : isOwn (encVs l) = none := by cases l <;> rfl
@[simp high] theorem cellsOf_vs : cellsOf (encVs l) = [encVs l] := by cases l <;> rfl
@[simp high] theorem avoids_vs (dead : List Nat) : avoids dead (encVs l) = true := by cases l <;> rfl
@[simp high] theorem fr1_vs (n : Nat) (st : Store) : freeze1 n st (encVs l) = encVs l := by cases l <;> rfl
@[simp high] theorem frA_vs (n : Nat) (st : Store) : freezeA n st (encVs l) = encVs l := by cases l <;> rfl
@[simp high] theorem below_vs (n : Nat) : belowV n (encVs l) = true := by
  induction l with
  | nil => rfl
  | cons v r ih => rw [encVs_cons]; simp [ih]
@[simp] theorem vs_eq_nil (ks : List Nat) : binSem 3 ks .eql (encVs l) .nilp = some (.bool (decide (l = []))) := by cases l <;> simp [encVs_cons]
@[simp] theorem vs_ne_nil (ks : List Nat) : binSem 3 ks .neq (encVs l) .nilp = some (.bool (!decide (l = []))) := by cases l <;> simp [encVs_cons]
end

def findV (s : List Vr) (nm : List UInt8) : List Vr := s.dropWhile fun v => decide (¬ v.name = nm)
theorem findV_cons (v : Vr) (r : List Vr) (nm : List UInt8) : findV (v :: r) nm = if v.name = nm then v :: r else findV r nm := by
  unfold findV
  by_cases h : v.name = nm <;> simp [h]

theorem find_spec (s : List Vr) (nm : List UInt8) (σ : Store) : pcall E 93 [encVs s, .str nm] σ = some (.ret (encVs (findV s nm)), σ) := by
  refine pcall_wp rfl rfl rfl (by simp) ?_
  simp [F93]
  refine wp_while K93_0 B93_0 (fun c : List Vr => c.length) (fun c => [(0, encVs c)]) (fun c => []) (fun c => σ) (fun c => findV c nm = findV s nm) s (by simp) ?_
  rintro c s1 hc h1 h2 h3 h4 h5
  simp at h1 h3 h5
  clear h2 h4
  cases c with
  | nil =>
    rw [← hc]
    simp at h3
    clear hc
    simp [*, findV]
  | cons v r =>
    rw [encVs_cons] at h3
    rw [findV_cons] at hc
    by_cases hn : v.name = nm
    · rw [if_pos hn] at hc
      rw [← hc, encVs_cons]
      replace hn := eqp hn
      clear hc
      (simp [*]) <;> (repeat' (first | ((first | refine sP _ ?_ ?_ | refine gP _ ?_ ?_ | refine sN _ ?_ ?_ | refine gN _ ?_ ?_) <;> intro hc <;> (first | replace hc := eqn hc | replace hc := eqp hc) <;> simp [*]) | ((first | refine sM _ ?_ ?_ | refine gM _ ?_ ?_ | refine sB _ ?_ ?_ | refine gB _ ?_ ?_) <;> intro hc <;> simp [*])))
    · rw [if_neg hn] at hc
      replace hn := eqn hn
      simp [*]
      exact ⟨r, by simp, rfl, hc⟩

theorem with_spec (s : List Vr) (p : Par) (d : Int) (σ : Store) : pcall E 60 [encVs s, encPar p, .int .i64 d] σ = some (.ret (encVs (⟨p.name, p.type, d⟩ :: s)), σ) := by
  refine pcall_wp rfl rfl rfl (by simp [encPar]) ?_
  simp [F60, encPar, encVs_cons]

def scopedV (l : List Par) : List Vr := l.foldl (fun s p => ⟨p.name, p.type, 0⟩ :: s) []
theorem scopedV_snoc (l : List Par) (p : Par) : scopedV (l ++ [p]) = ⟨p.name, p.type, 0⟩ :: scopedV l := by simp [scopedV]

theorem scoped_spec (l : List Par) (σ : Store) (hl : l.length < 1099511627776) : pcall E 24 [parsV l] σ = some (.ret (encVs (scopedV l)), σ) := by
  refine pcall_wp rfl rfl rfl (by simp [parsV]) ?_
  simp [F24, parsV]
  refine wp_each l K24_0 B24_0 (fun d => [(2, encVs (scopedV d)), (7, .int .i64 d.length)]) (fun _ => σ) (fun d => True) (by omega) (by simp [scopedV]) ?_ ?_
  · intros d x r s1 hl' hlt hget hget' hw hp h1 h2 h3 h4
    simp at h1 h2 h3
    have hwi := with_spec (scopedV d) x 0 σ
    simp [encPar] at hwi
    simp [*, encPar, scopedV_snoc]
  · intros s1 hp h1 h2 h3 h4
    simp at h1 h2 h3
    simp [*]

theorem fine_spec (ok : Bool) (e : Int) (σ : Store) : pcall E 80 [.bool ok, .int .i64 e] σ = some (.ret (.int .i64 (if ok then 0 else e)), σ) := by
  refine pcall_wp rfl rfl rfl (by simp) ?_
  (simp [*, F80]) <;> (repeat' ((first | refine sP _ ?_ ?_ | refine gP _ ?_ ?_ | refine sN _ ?_ ?_ | refine gN _ ?_ ?_ | refine sM _ ?_ ?_ | refine gM _ ?_ ?_ | refine sB _ ?_ ?_ | refine gB _ ?_ ?_) <;> intro hc <;> simp [*, F80]))

def takesT (op t : Int) : Int × Bool :=
  if op = 18 ∨ op = 19 ∨ op = 22 then (2, decide (t = 2))
  else if op = 16 ∨ op = 17 then (2, true)
  else if op = 12 ∨ op = 13 ∨ op = 14 ∨ op = 15 then (2, decide (t = 1))
  else (1, decide (t = 1))
set_option maxHeartbeats 1000000 in
theorem takes_spec (op t : Int) (σ : Store) : pcall E 94 [.int .i64 op, .int .i64 t] σ = some (.ret (.tup [.int .i64 (takesT op t).1, .bool (takesT op t).2]), σ) := by
  refine pcall_wp rfl rfl rfl (by simp) ?_
  unfold takesT
  (simp [*, F94]) <;> (repeat' (first | ((first | refine sP _ ?_ ?_ | refine gP _ ?_ ?_ | refine sN _ ?_ ?_ | refine gN _ ?_ ?_) <;> intro hc <;> (first | replace hc := eqn hc | replace hc := eqp hc) <;> simp [*, F94]) | ((first | refine sM _ ?_ ?_ | refine gM _ ?_ ?_ | refine sB _ ?_ ?_ | refine gB _ ?_ ?_) <;> intro hc <;> simp [*, F94])))

/-! ### Places -/

theorem idx_cases {α : Type} (p : α → Bool) (l : List α) : (idx p l = -1 ∧ l.find? p = none) ∨ ∃ (n : Nat) (f : α), idx p l = n ∧ l[n]? = some f ∧ l.find? p = some f ∧ n < l.length ∧ p f = true := by
  induction l with
  | nil => left; exact ⟨rfl, rfl⟩
  | cons x r ih =>
    cases hx : p x
    · rcases ih with ⟨h1, h2⟩ | ⟨n, f, h1, h2, h3, h4, h5⟩
      · left
        refine ⟨?_, by simp [hx, h2]⟩
        refine idx_none fun y hy => ?_
        rcases List.mem_cons.1 hy with rfl | hy
        · exact hx
        · have := List.find?_eq_none.1 h2 y hy; simpa using this
      · right
        refine ⟨n + 1, f, ?_, by simpa using h2, by simp [hx, h3], by simp; omega, h5⟩
        have : (x :: r).findIdx? p = (r.findIdx? p).map (· + 1) := by simp [List.findIdx?_cons, hx]
        unfold idx at h1 ⊢
        rw [this]
        cases h : r.findIdx? p with
        | none => rw [h] at h1; simp at h1 <;> omega
        | some i => rw [h] at h1; simp at h1 ⊢ <;> omega
    · right
      refine ⟨0, x, ?_, rfl, by simp [hx], by simp, hx⟩
      unfold idx
      simp [List.findIdx?_cons, hx]

def placeM (p : Prog) (nm : List UInt8) : Int := idx (fun f : Func => decide (f.name = nm)) p.funcs
def arrayM (p : Prog) (nm : List UInt8) : Int := idx (fun f : PArr => decide (f.name = nm)) p.arrays
theorem place_spec (p : Prog) (nm : List UInt8) (σ : Store) (hl : p.funcs.length < 1099511627776) : pcall E 18 [encProg p, .str nm] σ = some (.ret (.int .i64 (placeM p nm)), σ) := by
  refine pcall_wp rfl rfl rfl (by simp [encProg]) ?_
  have hcl : ∀ x ∈ p.funcs, pcall E 50 ([] ++ [encFunc x] ++ [.iptr [.str nm] 0]) σ = some (.ret (.bool (decide (x.name = nm))), σ) := by
    intro x hx
    refine pcall_wp rfl rfl rfl (by simp [encFunc]) ?_
    simp [F50, encFunc]
  have h := indexFuncFunc p.funcs _ 50 [] [.iptr [.str nm] 0] σ hl hcl
  clear hcl
  simp [*, F18, encProg, parrs, funcs, placeM]
theorem array_spec (p : Prog) (nm : List UInt8) (σ : Store) (hl : p.arrays.length < 1099511627776) : pcall E 19 [encProg p, .str nm] σ = some (.ret (.int .i64 (arrayM p nm)), σ) := by
  refine pcall_wp rfl rfl rfl (by simp [encProg]) ?_
  have hcl : ∀ x ∈ p.arrays, pcall E 52 ([] ++ [encPArr x] ++ [.iptr [.str nm] 0]) σ = some (.ret (.bool (decide (x.name = nm))), σ) := by
    intro x hx
    refine pcall_wp rfl rfl rfl (by simp [encPArr]) ?_
    simp [F52, encPArr]
  have h := indexFuncPArr p.arrays _ 52 [] [.iptr [.str nm] 0] σ hl hcl
  clear hcl
  simp [*, F19, encProg, parrs, funcs, arrayM]
end PE.U
