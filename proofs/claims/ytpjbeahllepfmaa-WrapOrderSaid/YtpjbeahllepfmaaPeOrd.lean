/-
  A region whose order is drawn: every order that its edges leave makes what the text's makes.
-/
import Derived.Test.YtpjbeahllepfmaaPeDraw
set_option linter.unusedVariables false
set_option linter.unusedSimpArgs false
namespace PE
open Go

noncomputable def runL (cf : CallF) (gops : List GOp) : List Nat → St → Option SR
  | [], s => some (.ok s)
  | i :: r, s => match gops[i]? with
    | none => none
    | some g => match step cf g s with
      | some (.ok s') => runL cf gops r s'
      | x => x

theorem runL_range' (cf : CallF) (gops : List GOp) : ∀ (n k : Nat) (s : St), k + n = gops.length → runL cf gops (List.range' k n) s = steps cf (gops.drop k) s
  | 0, k, s, h => by
    rw [List.drop_of_length_le (by omega)]; rfl
  | n + 1, k, s, h => by
    have hk : k < gops.length := by omega
    rw [List.range'_succ, List.drop_eq_getElem_cons hk]
    simp only [runL, steps, List.getElem?_eq_getElem hk]
    have ih := fun s => runL_range' cf gops n (k + 1) s (by omega)
    simp only [ih]
    cases step cf gops[k] s with
    | none => rfl
    | some r => cases r <;> rfl

theorem runL_range (cf : CallF) (gops : List GOp) (s : St) : runL cf gops (List.range gops.length) s = steps cf gops s := by
  rw [List.range_eq_range', runL_range' cf gops _ 0 s (by omega)]; rfl

/-- One comes before the other, by the edges. -/
def reach (ops : Array Oper) : Nat → Nat → Nat → Bool
  | 0, _, _ => false
  | n + 1, i, j => match ops[j]? with
    | some o => o.after.any fun e => e.on == i || reach ops n i e.on
    | none => false

def checkDraw (ops : Array Oper) (gops : List GOp) : Bool :=
  !(Region.departs ops) && decide (ops.size = gops.length) &&
  (List.range ops.size).all (fun j => match ops[j]? with
    | some o => o.after.all fun e => decide (e.on < j)
    | none => false) &&
  (List.range ops.size).all (fun j => (List.range j).all fun i => reach ops ops.size i j || match gops[i]?, gops[j]? with
    | some x, some y => indep x y
    | _, _ => false)

def rem (n : Nat) (listed : Array Bool) : List Nat := (List.range n).filter fun i => !listed.getD i true

/-- What is listed has listed what it waits for. -/
def Closed (ops : Array Oper) (listed : Array Bool) : Prop := ∀ j o, listed.getD j false = true → ops[j]? = some o → ∀ e ∈ o.after, listed.getD e.on false = true

section
variable {cf : CallF} {ops : Array Oper} {gops : List GOp}

theorem reach_listed {listed : Array Bool} (hc : Closed ops listed) : ∀ (n i j : Nat), reach ops n i j = true → (∀ o, ops[j]? = some o → ∀ e ∈ o.after, listed.getD e.on false = true) → listed.getD i false = true
  | 0, _, _, h, _ => by cases h
  | n + 1, i, j, h, hj => by
    simp only [reach] at h
    split at h
    case h_2 => cases h
    rename_i o ho
    obtain ⟨e, he, h⟩ := Array.any_eq_true'.1 h
    simp only [Bool.or_eq_true, beq_iff_eq] at h
    have hl := hj o ho e he
    rcases h with rfl | h
    · exact hl
    · exact reach_listed hc n i e.on h fun o' ho' => hc e.on o' hl ho'

theorem swap_many {y : GOp} {i : Nat} (hi : gops[i]? = some y) : ∀ (A : List Nat) (s : St) (B : List Nat) (sr : SR), (∀ a ∈ A, ∃ x, gops[a]? = some x ∧ indep x y = true) →
    runL cf gops (A ++ i :: B) s = some sr → runL cf gops (i :: (A ++ B)) s = some sr
  | [], s, B, sr, _, h => h
  | a :: A, s, B, sr, hA, h => by
    obtain ⟨x, hx, hxy⟩ := hA a List.mem_cons_self
    have hp := hxy
    simp only [indep, Bool.and_eq_true, Bool.not_eq_true'] at hp
    obtain ⟨⟨⟨⟨⟨⟨p1, p2⟩, _⟩, _⟩, _⟩, _⟩, _⟩ := hp
    simp only [List.cons_append, runL, hx] at h
    cases h1 : step cf x s with
    | none => rw [h1] at h; cases h
    | some r1 =>
      cases r1 with
      | pan v st => exact absurd h1 (step_pan p1)
      | ok s1 =>
        rw [h1] at h
        simp only at h
        have ih := swap_many hi A s1 B sr (fun a ha => hA a (List.mem_cons_of_mem _ ha)) h
        simp only [runL, hi] at ih ⊢
        cases h2 : step cf y s1 with
        | none => rw [h2] at ih; cases ih
        | some r2 =>
          cases r2 with
          | pan v st => exact absurd h2 (step_pan p2)
          | ok s2 =>
            rw [h2] at ih
            obtain ⟨s1', e1, e2⟩ := swap_ok hxy h1 h2
            simp only [e1, List.cons_append, runL, hx, e2]
            exact ih

theorem mem_rem {n i : Nat} {listed : Array Bool} : i ∈ rem n listed ↔ i < n ∧ listed.getD i true = false := by
  simp [rem]

theorem rem_split {n i : Nat} {listed : Array Bool} (hn : listed.size = n) (h : i ∈ rem n listed) : ∃ A B, rem n listed = A ++ i :: B ∧ rem n (listed.setIfInBounds i true) = A ++ B ∧ ∀ a ∈ A, a < i ∧ a ∈ rem n listed := by
  have hi := (mem_rem.1 h).1
  have hr : List.range n = List.range i ++ i :: List.range' (i + 1) (n - i - 1) := by
    rw [List.range_eq_range', List.range_eq_range']
    have : n = i + (1 + (n - i - 1)) := by omega
    conv => lhs; rw [this]
    rw [← List.range'_append, ← List.range'_append]
    simp [List.range'_one]
  have hset : ∀ j, j ≠ i → (!(listed.setIfInBounds i true).getD j true) = (!listed.getD j true) := fun j hj => by
    rw [getD_set_ne true (Ne.symm hj)]
  refine ⟨(List.range i).filter fun i => !listed.getD i true, (List.range' (i + 1) (n - i - 1)).filter fun i => !listed.getD i true, ?_, ?_, ?_⟩
  · unfold rem
    rw [hr, List.filter_append, List.filter_cons, if_pos (by simp [(mem_rem.1 h).2])]
  · unfold rem
    rw [hr, List.filter_append, List.filter_cons, if_neg]
    · congr 1
      · apply List.filter_congr
        intro j hj
        have := List.mem_range.1 hj
        exact hset j (by omega)
      · apply List.filter_congr
        intro j hj
        have := List.mem_range'.1 hj
        exact hset j (by omega)
    · have hlt : i < listed.size := by omega
      simp [hlt]
  · intro a ha
    obtain ⟨h1, h2⟩ := List.mem_filter.1 ha
    have := List.mem_range.1 h1
    exact ⟨this, mem_rem.2 ⟨by omega, by simpa using h2⟩⟩

theorem getD_tf {listed : Array Bool} {i : Nat} (h : i < listed.size) (d d' : Bool) : listed.getD i d = listed.getD i d' := by
  simp [h]

theorem go_runL (hck : checkDraw ops gops = true) : ∀ (fuel t : Nat) (listed : Array Bool) (s : St) (sr : SR), listed.size = ops.size → Closed ops listed → (rem ops.size listed).length ≤ fuel →
    runL cf gops (rem ops.size listed) s = some sr → runL cf gops (Region.linearise.go .any ops fuel t listed []) s = some sr
  | 0, t, listed, s, sr, hsz, hc, hf, h => by
    have : rem ops.size listed = [] := List.eq_nil_of_length_eq_zero (by omega)
    rw [this] at h
    exact h
  | fuel + 1, t, listed, s, sr, hsz, hc, hf, h => by
    have hck' := hck
    simp only [checkDraw, Bool.and_eq_true, Bool.not_eq_true', decide_eq_true_eq, List.all_eq_true, List.mem_range] at hck'
    obtain ⟨⟨⟨hdep, hlen⟩, hlow⟩, hind⟩ := hck'
    have hbind : ∀ (j : Nat) o, ops[j]? = some o → ∀ e ∈ o.after, Region.binds .any e = true := by
      intro j o ho e he
      cases hb : Region.binds .any e with
      | true => rfl
      | false =>
        have : Region.departs ops = true := Array.any_eq_true'.2 ⟨o, Array.mem_of_getElem? ho, Array.any_eq_true'.2 ⟨e, he, by simp [hb]⟩⟩
        rw [hdep] at this; cases this
    have hgo : Region.linearise.go .any ops (fuel + 1) t listed [] = (match (Region.ready .any ops listed)[t % (Region.ready .any ops listed).length]? with
      | some i => Region.linearise.go .any ops fuel (t / (Region.ready .any ops listed).length) (listed.setIfInBounds i true) [i]
      | none => [].reverse) := rfl
    rw [hgo]
    have hready : ∀ i, i ∈ rem ops.size listed → (∀ o, ops[i]? = some o → ∀ e ∈ o.after, listed.getD e.on false = true) → i ∈ Region.ready .any ops listed := by
      intro i hi hall
      obtain ⟨h1, h2⟩ := mem_rem.1 hi
      exact mem_ready.2 ⟨h2, _, Array.getElem?_eq_getElem h1, fun e he _ => hall _ (Array.getElem?_eq_getElem h1) e he⟩
    cases hpick : (Region.ready .any ops listed)[t % (Region.ready .any ops listed).length]? with
    | none =>
      have hnil : Region.ready .any ops listed = [] := by
        cases hr : Region.ready .any ops listed with
        | nil => rfl
        | cons x xs =>
          rw [hr] at hpick
          have hlt : t % (x :: xs).length < (x :: xs).length := Nat.mod_lt _ (by simp)
          simp at hpick
          simp at hlt
          omega
      have hrem : rem ops.size listed = [] := by
        cases hrm : rem ops.size listed with
        | nil => rfl
        | cons i r =>
          exfalso
          have hi : i ∈ rem ops.size listed := by rw [hrm]; exact List.mem_cons_self
          have hlt := (mem_rem.1 hi).1
          have := hready i hi fun o ho e he => by
            have h1 := hlow i hlt
            rw [ho] at h1
            have h2 := Array.all_eq_true_iff_forall_mem.1 h1 e he
            simp only [decide_eq_true_eq] at h2
            cases hl : listed.getD e.on false with
            | true => rfl
            | false =>
              have he' : e.on ∈ rem ops.size listed := mem_rem.2 ⟨by omega, by rw [getD_tf (by omega) true false]; exact hl⟩
              obtain ⟨A, B, e1, _, e3⟩ := rem_split hsz he'
              -- the first of what remains is the smallest
              have hsorted : (rem ops.size listed).Pairwise (· < ·) := by
                unfold rem
                exact List.Pairwise.filter _ List.pairwise_lt_range
              rw [hrm] at he' hsorted
              rcases List.mem_cons.1 he' with h3 | h3
              · omega
              · have := (List.pairwise_cons.1 hsorted).1 _ h3
                omega
          rw [hnil] at this
          cases this
      rw [hrem] at h
      exact h
    | some i =>
      simp only
      rw [linearise_go_acc, List.reverse_singleton, List.singleton_append]
      obtain ⟨hu, o, ho, hall⟩ := mem_ready.1 (List.mem_of_getElem? hpick)
      have hi : i < ops.size := (Array.getElem?_eq_some_iff.1 ho).1
      have hirem : i ∈ rem ops.size listed := mem_rem.2 ⟨hi, hu⟩
      have hpre : ∀ o, ops[i]? = some o → ∀ e ∈ o.after, listed.getD e.on false = true := fun o' ho' e he => by
        rw [ho] at ho'; cases ho'
        exact hall e he (hbind i o ho e he)
      obtain ⟨A, B, e1, e2, e3⟩ := rem_split hsz hirem
      have hgi : i < gops.length := by omega
      rw [e1] at h
      have hsw := swap_many (cf := cf) (List.getElem?_eq_getElem hgi) A s B sr (fun a ha => by
        obtain ⟨q1, q2⟩ := e3 a ha
        have h1 := hind i hi a q1
        have hga : a < gops.length := by omega
        simp only [List.getElem?_eq_getElem hga, List.getElem?_eq_getElem hgi, Bool.or_eq_true] at h1
        rcases h1 with h1 | h1
        · have := reach_listed hc _ _ _ h1 hpre
          have hq := (mem_rem.1 q2)
          rw [getD_tf (by omega) true false] at hq
          rw [hq.2] at this; cases this
        · exact ⟨_, List.getElem?_eq_getElem hga, h1⟩) h
      simp only [runL, List.getElem?_eq_getElem hgi] at hsw ⊢
      cases hst : step cf gops[i] s with
      | none => rw [hst] at hsw; cases hsw
      | some r =>
        cases r with
        | pan v st => rw [hst] at hsw; exact hsw
        | ok s1 =>
          rw [hst] at hsw
          simp only at hsw ⊢
          refine go_runL hck fuel _ _ s1 sr (by simpa using hsz) ?_ ?_ (by rw [e2]; exact hsw)
          · intro j o' hj ho' e he
            by_cases hji : j = i
            · subst hji
              exact getD_set_true (hpre o' ho' e he)
            · rw [getD_set_ne false (Ne.symm hji)] at hj
              exact getD_set_true (hc j o' hj ho' e he)
          · rw [e2]
            rw [e1] at hf
            simp only [List.length_append, List.length_cons] at hf ⊢
            omega

theorem draw_runL (hck : checkDraw ops gops = true) {s : St} {sr : SR} (h : steps cf gops s = some sr) (mixed : Bool) (t : Nat) : runL cf gops (Region.schedule mixed ops t) s = some sr := by
  have hck' := hck
  simp only [checkDraw, Bool.and_eq_true, Bool.not_eq_true', decide_eq_true_eq] at hck'
  obtain ⟨⟨⟨hdep, hlen⟩, _⟩, _⟩ := hck'
  have hsch : Region.schedule mixed ops t = Region.linearise .any ops t := by
    simp [Region.schedule, hdep]
  rw [hsch]
  unfold Region.linearise
  have hrem : rem ops.size (Array.replicate ops.size false) = List.range gops.length := by
    unfold rem
    rw [hlen]
    apply List.filter_eq_self.2
    intro i hi
    have := List.mem_range.1 hi
    simp [this]
  refine go_runL hck _ _ _ s sr (by simp) ?_ ?_ ?_
  · intro j o hj
    by_cases hlt : j < ops.size
    · simp [hlt] at hj
    · simp [hlt] at hj
  · rw [hrem]; simp [hlen]
  · rw [hrem, runL_range]; exact h

end
end PE
