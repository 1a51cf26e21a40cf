/-
  What plain code makes, the machine makes: regions, loops, functions.
-/
import Derived.Test.YtpjbeahllepfmaaPeStep
import Derived.Test.YtpjbeahllepfmaaPeOrd
set_option linter.unusedVariables false
set_option linter.unusedSimpArgs false
namespace PE
open Go

section
variable {P : Program} {G G' : Gh} {N : Nat} {s : St} {a : Act} {w w' : World} {oper : Oper} {cf : CallF}

theorem run_sound (hcf : Good P cf) {op : IOp} (hS : Sim G N s a w) (hd : ∀ t, oper.dst = some t → t < N) (hdn : op.needsDst = true → oper.dst ≠ none) (hc : checkOp P oper.op op = true)
    {sr : SR} (h : runOp cf oper.dst op s = some sr) {K : Act → World → Prop} {Q : Exit → Act → World → Prop}
    (hK : ∀ s', sr = .ok s' → ∀ G' a' w', Sim G' N s' a' w' → Ext G s.st w G' s'.st w' → K a' w')
    (hQ : ∀ v st', sr = .pan v st' → ∀ G' w' mv, SimS G' st' w' → Ext G s.st w G' st' w' → VR (G'.im w') (locOf G'.loc st') v mv → Q (.panic [{ v := mv, recovered := false }]) a w') :
    oper.wp P a w K Q := by
  have gen : (∀ pk f args, op ≠ .call pk f args) → (∀ x, op ≠ .panic x) → oper.wp P a w K Q := by
    intro h1 h2
    have hr : runOp cf oper.dst op s = (match op.sem s.fr (getBx s.bx op.box?) s.st with
      | some (v, b', st') => some (.ok { fr := setDst (stripAll s.fr op.takes) oper.dst v, bx := setBx s.bx op.box? b', st := st' })
      | none => none) := by
      cases op <;> first
        | rfl
        | exact absurd rfl (h1 _ _ _)
        | exact absurd rfl (h2 _)
    rw [hr] at h
    split at h
    · rename_i v b' st' hsem
      cases h
      exact upon_good (op_sound hS hd hdn hc hsem) (fun G' a' w' q1 q2 => hK _ rfl G' a' w' q1 q2)
    · cases h
  cases op with
  | call pk f args => exact call_sound hcf hS hd hc h hK hQ
  | panic x => exact panic_sound hS hc h hQ
  | _ => exact gen (fun _ _ _ e => by cases e) (fun _ e => by cases e)

theorem step_sound (hcf : Good P cf) {ops : Array Oper} {i : Nat} {o : Oper} {g : GOp} (hi : ops[i]? = some o) (hg : checkOper P N ops o g = true) (hS : Sim G N s a w)
    {sr : SR} (h : step cf g s = some sr) {K : Act → World → Prop} {Q : Exit → Act → World → Prop}
    (hK : ∀ s', sr = .ok s' → ∀ G' a' w', Sim G' N s' a' w' → Ext G s.st w G' s'.st w' → K a' w')
    (hQ : ∀ v st', sr = .pan v st' → ∀ G' w' mv, SimS G' st' w' → Ext G s.st w G' st' w' → VR (G'.im w') (locOf G'.loc st') v mv → Q (.panic [{ v := mv, recovered := false }]) a w') :
    wpOp P ops Q i K a w := by
  obtain ⟨h1, h2, h3, h4, h5⟩ := checkOper_dst hg
  obtain ⟨g1, g2⟩ := guard_wanted hS h4
  unfold wpOp
  simp only [hi]
  unfold step at h
  cases hgd : g.g with
  | none =>
    rw [hgd] at h
    simp only [g1 hgd, if_true]
    rw [← h1] at h
    exact .inl (run_sound hcf hS h2 h3 h5 h hK hQ)
  | some x =>
    obtain ⟨t, v⟩ := x
    rw [hgd] at h
    simp only at h
    split at h
    case h_3 => cases h
    · rename_i hb
      rw [g2 t v true hgd hb]
      simp only [if_true]
      rw [← h1] at h
      exact .inl (run_sound hcf hS h2 h3 h5 h hK hQ)
    · rename_i hb
      rw [g2 t v false hgd hb]
      simp only [Bool.false_eq_true, if_false]
      cases h
      refine hK _ rfl G _ w ?_ (Ext.refl _ _ _)
      have := hS.put h2 (v := .tup []) (mv := Go.undef) (fun t _ => VR.tr (.tup (vs := #[]) rfl (fun j c v h => by simp at h))) (fun k off e => by cases e)
      rw [h1] at this ⊢
      exact this

def opersOk (P : Program) (N : Nat) (ops : Array Oper) : List Oper → List GOp → Bool
  | [], [] => true
  | o :: os, g :: gs => checkOper P N ops o g && opersOk P N ops os gs
  | _, _ => false

theorem opersOk_get {ops : Array Oper} : ∀ (os : List Oper) (gs : List GOp), opersOk P N ops os gs = true → os.length = gs.length ∧ ∀ (i : Nat) o g, os[i]? = some o → gs[i]? = some g → checkOper P N ops o g = true
  | [], [], _ => ⟨rfl, fun i o g h => by simp at h⟩
  | [], _ :: _, h => by cases h
  | _ :: _, [], h => by cases h
  | o :: os, g :: gs, h => by
    simp only [opersOk, Bool.and_eq_true] at h
    obtain ⟨e1, e2⟩ := opersOk_get os gs h.2
    refine ⟨by simp [e1], fun i o' g' ho hg => ?_⟩
    cases i with
    | zero => simp at ho hg; subst ho; subst hg; exact h.1
    | succ i => exact e2 i o' g' (by simpa using ho) (by simpa using hg)

theorem ops_sound (hcf : Good P cf) {ops : Array Oper} {gops : List GOp} (hck : opersOk P N ops ops.toList gops = true) {Q : Exit → Act → World → Prop} :
    ∀ (l : List Nat) (s : St) (G : Gh) (a : Act) (w : World) (sr : SR), runL cf gops l s = some sr → Sim G N s a w →
    (∀ s', sr = .ok s' → ∀ G' a' w', Sim G' N s' a' w' → Ext G s.st w G' s'.st w' → Q .normal a' w') →
    (∀ v st', sr = .pan v st' → ∀ G' a' w' mv, a'.defers = [] → SimS G' st' w' → Ext G s.st w G' st' w' → VR (G'.im w') (locOf G'.loc st') v mv → Q (.panic [{ v := mv, recovered := false }]) a' w') →
    wpOps P ops Q l a w
  | [], s, G, a, w, sr, h, hS, hK, hQ => by
    cases h
    exact hK s rfl G a w hS (Ext.refl _ _ _)
  | i :: l, s, G, a, w, sr, h, hS, hK, hQ => by
    obtain ⟨e1, e2⟩ := opersOk_get _ _ hck
    simp only [runL] at h
    cases hg : gops[i]? with
    | none => rw [hg] at h; cases h
    | some g =>
      rw [hg] at h
      simp only at h
      have hlt : i < ops.size := by
        have := (List.getElem?_eq_some_iff.1 hg).1
        simp at e1; omega
      have ho : ops[i]? = some ops[i] := Array.getElem?_eq_getElem hlt
      have hck1 := e2 i ops[i] g (by simp [hlt]) hg
      rw [wpOps_cons]
      cases hst : step cf g s with
      | none => rw [hst] at h; cases h
      | some r =>
        rw [hst] at h
        refine step_sound hcf ho hck1 hS hst (sr := r) ?_ ?_
        · intro s1 e G1 a1 w1 hS1 hE1
          subst e
          simp only at h
          exact ops_sound hcf hck l s1 G1 a1 w1 sr h hS1 (fun s' e G' a' w' q1 q2 => hK s' e G' a' w' q1 (hE1.trans q2))
            (fun v st' e G' a' w' mv q0 q1 q2 q3 => hQ v st' e G' a' w' mv q0 q1 (hE1.trans q2) q3)
        · intro v st' e G' w' mv q1 q2 q3
          subst e
          cases h
          exact hQ v st' rfl G' a w' mv hS.defers q1 q2 q3

/-! ### Code -/

def checkC (P : Program) (N : Nat) : Code → ICode → Bool
  | .skip, .skip => true
  | .region _ ops draw, .region gops => opersOk P N ops ops.toList gops && (!draw || checkDraw ops gops)
  | .seq a b, .seq a' b' => checkC P N a a' && checkC P N b b'
  | .cond c a b, .cond c' a' b' => okArg c c' && checkC P N a a' && checkC P N b b'
  | .block id b, .block id' b' => decide (id = id') && checkC P N b b'
  | .loop b, .loop _ _ b' => checkC P N b b'
  | .exit id, .exit id' => decide (id = id')
  | .ret, .ret => true
  | _, .bad => true
  | _, _ => false

def Post (G : Gh) (N : Nat) (st : Store) (w : World) (e : Ex) (s' : St) (Q : Exit → Act → World → Prop) : Prop :=
  match e with
  | .normal => ∀ G' a' w', Sim G' N s' a' w' → Ext G st w G' s'.st w' → Q .normal a' w'
  | .exit id => ∀ G' a' w', Sim G' N s' a' w' → Ext G st w G' s'.st w' → Q (.exit id) a' w'
  | .ret => ∀ G' a' w', Sim G' N s' a' w' → Ext G st w G' s'.st w' → Q .ret a' w'
  | .pan v => ∀ G' a' w' mv, a'.defers = [] → SimS G' s'.st w' → Ext G st w G' s'.st w' → VR (G'.im w') (locOf G'.loc s'.st) v mv → Q (.panic [{ v := mv, recovered := false }]) a' w'

theorem Post.after {st st1 : Store} {G1 : Gh} {w1 : World} {e : Ex} {s' : St} {Q : Exit → Act → World → Prop} (hE : Ext G st w G1 st1 w1) (h : Post G N st w e s' Q) : Post G1 N st1 w1 e s' Q := by
  cases e with
  | normal => exact fun G' a' w' q1 q2 => h G' a' w' q1 (hE.trans q2)
  | exit id => exact fun G' a' w' q1 q2 => h G' a' w' q1 (hE.trans q2)
  | ret => exact fun G' a' w' q1 q2 => h G' a' w' q1 (hE.trans q2)
  | pan v => exact fun G' a' w' mv q0 q1 q2 q3 => h G' a' w' mv q0 q1 (hE.trans q2) q3

theorem Post.then {st : Store} {e : Ex} {s' : St} {K : Act → World → Prop} {Q : Exit → Act → World → Prop} (hne : e ≠ .normal) (h : Post G N st w e s' Q) : Post G N st w e s' (Exit.then K Q) := by
  cases e with
  | normal => exact absurd rfl hne
  | exit id => exact h
  | ret => exact h
  | pan v => exact h

/-- A loop's next round. -/
def Again (P : Program) (c : Code) (Q : Exit → Act → World → Prop) (a : Act) (w : World) : Prop :=
  ∀ (b : Frame) (k : List Item) (cs : List Frame), ∃ e a' w', Q e a' w' ∧ Arrives P (lone (b.at a (.code c :: .inLoop c :: k)) cs w) b k cs e a' w'

theorem again_round {c : Code} {Q : Exit → Act → World → Prop} (h : c.wp P (Exit.then (Again P c Q) Q) a w) : Again P c Q a w := by
  intro b k cs
  obtain ⟨e, a₁, w₁, hq, harr⟩ := h b (.inLoop c :: k) cs
  cases e with
  | normal =>
    obtain ⟨e₂, a₂, w₂, hq₂, harr₂⟩ := hq b k cs
    exact ⟨e₂, a₂, w₂, hq₂, .of_steps (Steps.trans harr (.one step_inLoop)) harr₂⟩
  | exit id => exact ⟨_, a₁, w₁, hq, .pass (x := .inLoop c) rfl (fun _ _ => .inl (by simp)) harr⟩
  | goto l => exact ⟨_, a₁, w₁, hq, .pass (x := .inLoop c) rfl (fun _ _ => .inl (by simp)) harr⟩
  | ret => exact ⟨_, a₁, w₁, hq, .pass (x := .inLoop c) rfl (fun _ _ => .inl (by simp)) harr⟩
  | panic ch => exact ⟨_, a₁, w₁, hq, .pass (x := .inLoop c) rfl (fun _ _ => .inl (by simp)) harr⟩
  | outgrown => exact ⟨_, a₁, w₁, hq, .pass (x := .inLoop c) rfl (fun _ _ => .inl (by simp)) harr⟩

theorem wp_loop_of {c : Code} {Q : Exit → Act → World → Prop} (h : Again P c Q a w) : (Code.loop c).wp P Q a w :=
  fun b k cs => let ⟨e, a', w', q, r⟩ := h b k cs; ⟨e, a', w', q, .of_steps (.one step_loop) r⟩

theorem keepFr_at (fr : Fr) : ∀ (l : List Nat) (t : Nat), keepFr fr l t = if t ∈ l then fr t else .undef
  | [], t => by simp [keepFr]
  | x :: l, t => by
    simp only [keepFr, upd, keepFr_at fr l, List.mem_cons]
    by_cases h : t = x
    · subst h; simp
    · simp [h]

theorem dropBx_at (bx : Bxs) : ∀ (l : List Nat) (k : Nat), dropBx bx l k = if k ∈ l then .no else bx k
  | [], t => by simp [dropBx]
  | x :: l, t => by
    simp only [dropBx, upd, dropBx_at bx l, List.mem_cons]
    by_cases h : t = x
    · subst h; simp
    · simp [h]

theorem havoc_sound {keep dead : List Nat} {s1 : St} (hS : Sim G N s a w) (h : havoc keep dead s = some s1) : Sim G N s1 a w ∧ s1.st = s.st := by
  unfold havoc at h
  split at h
  case isFalse => cases h
  rename_i hk
  cases h
  refine ⟨⟨hS.defers, hS.size, ?_, ?_, ?_, ?_, hS.store⟩, rfl⟩
  · intro t ht
    simp only [keepFr_at]
    split
    · exact hS.tmp t ht
    · exact VR.undef _
  · intro t ht
    simp only [keepFr_at]
    split
    · exact hS.hi t ht
    · rfl
  · intro t k off e
    simp only [keepFr_at] at e
    split at e
    · rename_i hmem
      have h1 := List.all_eq_true.1 hk t hmem
      rw [e] at h1
      simp only [avoids, Bool.not_eq_true'] at h1
      simp only [dropBx_at]
      rw [if_neg (by simpa using h1)]
      exact hS.lp t k off e
    · cases e
  · intro k
    simp only [dropBx_at]
    split
    · trivial
    · exact hS.box k

theorem exec_sound (hcf : Good P cf) : ∀ (n : Nat),
    (∀ (c : Code) (ic : ICode) (s : St) (e : Ex) (s' : St) (G : Gh) (a : Act) (w : World) (Q : Exit → Act → World → Prop), execF cf n ic s = some (e, s') → checkC P N c ic = true → Sim G N s a w →
      Post G N s.st w e s' Q → c.wp P Q a w) ∧
    (∀ (c : Code) (keep dead : List Nat) (b : ICode) (s : St) (e : Ex) (s' : St) (G : Gh) (a : Act) (w : World) (Q : Exit → Act → World → Prop), execF cf n (.loop keep dead b) s = some (e, s') → checkC P N c b = true → Sim G N s a w →
      Post G N s.st w e s' Q → Again P c Q a w) := by
  intro n
  induction n with
  | zero => exact ⟨fun c ic s e s' G a w Q h => by simp [execF] at h, fun c keep dead b s e s' G a w Q h => by simp [execF] at h⟩
  | succ n ih =>
    obtain ⟨ihA, ihB⟩ := ih
    have hB : ∀ (c : Code) (keep dead : List Nat) (b : ICode) (s : St) (e : Ex) (s' : St) (G : Gh) (a : Act) (w : World) (Q : Exit → Act → World → Prop), execF cf (n + 1) (.loop keep dead b) s = some (e, s') → checkC P N c b = true → Sim G N s a w →
        Post G N s.st w e s' Q → Again P c Q a w := by
      intro c keep dead b s e s' G a w Q h hck hS hpost
      simp only [execF] at h
      cases hh : havoc keep dead s with
      | none => rw [hh] at h; cases h
      | some s1 =>
        rw [hh] at h
        simp only at h
        obtain ⟨hS1, hst⟩ := havoc_sound hS hh
        apply again_round
        cases hb : execF cf n b s1 with
        | none => rw [hb] at h; cases h
        | some r =>
          obtain ⟨e1, s2⟩ := r
          rw [hb] at h
          cases e1 with
          | normal =>
            simp only at h
            refine ihA c b s1 .normal s2 G a w _ hb hck hS1 ?_
            intro G' a' w' q1 q2
            rw [hst] at q2
            exact ihB c keep dead b s2 e s' G' a' w' Q h hck q1 (hpost.after q2)
          | exit id => cases h; exact ihA c b s1 _ _ G a w _ hb hck hS1 (by rw [hst]; exact Post.then (fun q => by cases q) hpost)
          | ret => cases h; exact ihA c b s1 _ _ G a w _ hb hck hS1 (by rw [hst]; exact Post.then (fun q => by cases q) hpost)
          | pan v => cases h; exact ihA c b s1 _ _ G a w _ hb hck hS1 (by rw [hst]; exact Post.then (fun q => by cases q) hpost)
    refine ⟨?_, hB⟩
    intro c ic s e s' G a w Q h hck hS hpost
    cases ic with
    | bad => simp [execF] at h
    | skip =>
      cases c <;> simp only [checkC] at hck <;> try (cases hck; done)
      simp only [execF] at h; cases h
      exact wp_skip (hpost G a w hS (Ext.refl _ _ _))
    | ret =>
      cases c <;> simp only [checkC] at hck <;> try (cases hck; done)
      simp only [execF] at h; cases h
      exact wp_ret (hpost G a w hS (Ext.refl _ _ _))
    | exit id =>
      cases c <;> simp only [checkC, decide_eq_true_eq] at hck <;> try (cases hck; done)
      subst hck
      simp only [execF] at h; cases h
      exact wp_exit (hpost G a w hS (Ext.refl _ _ _))
    | region gops =>
      cases c <;> simp only [checkC, Bool.and_eq_true, Bool.or_eq_true, Bool.not_eq_true'] at hck <;> try (cases hck; done)
      rename_i id ops draw
      obtain ⟨hck1, hck2⟩ := hck
      simp only [execF] at h
      have hlen : ops.size = gops.length := by
        have := (opersOk_get _ _ hck1).1
        simpa using this
      cases hst : steps cf gops s with
      | none => rw [hst] at h; cases h
      | some r =>
        rw [hst] at h
        have fin : ∀ (l : List Nat) (w1 : World), Sim G N s a w1 → Ext G s.st w G s.st w1 → runL cf gops l s = some r → wpOps P ops Q l a w1 := by
          intro l w1 hS1 hE1 hl
          cases r with
          | ok s1 =>
            cases h
            refine ops_sound hcf hck1 l s G a w1 _ hl hS1 ?_ (fun v st' e => by cases e)
            intro s2 e G' a' w' q1 q2
            cases e
            exact hpost G' a' w' q1 (hE1.trans q2)
          | pan v st1 =>
            cases h
            refine ops_sound hcf hck1 l s G a w1 _ hl hS1 (fun v e => by cases e) ?_
            intro v' st' e G' a' w' mv q0 q1 q2 q3
            cases e
            exact hpost G' a' w' mv q0 q1 (hE1.trans q2) q3
        cases draw with
        | false =>
          refine wp_region (fin _ w hS (Ext.refl _ _ _) ?_)
          rw [hlen, runL_range]; exact hst
        | true =>
          have hck2' : checkDraw ops gops = true := by
            rcases hck2 with h' | h'
            · cases h'
            · exact h'
          refine wp_region_draw fun t => ?_
          exact fin _ w.drew hS.drew ⟨fun _ _ _ x => x, fun _ _ x => x, fun _ x => ⟨x, rfl, rfl⟩, Nat.le_refl _, rfl, rfl, fun _ => rfl⟩ (draw_runL hck2' hst _ t)
    | seq x y =>
      cases c <;> simp only [checkC, Bool.and_eq_true] at hck <;> try (cases hck; done)
      rename_i cx cy
      simp only [execF] at h
      apply wp_seq
      cases hx : execF cf n x s with
      | none => rw [hx] at h; cases h
      | some r =>
        obtain ⟨e1, s1⟩ := r
        rw [hx] at h
        cases e1 with
        | normal =>
          simp only at h
          refine ihA cx x s .normal s1 G a w _ hx hck.1 hS ?_
          intro G' a' w' q1 q2
          exact ihA cy y s1 e s' G' a' w' Q h hck.2 q1 (hpost.after q2)
        | exit id => cases h; exact ihA cx x s _ _ G a w _ hx hck.1 hS (hpost.then (by simp))
        | ret => cases h; exact ihA cx x s _ _ G a w _ hx hck.1 hS (hpost.then (by simp))
        | pan v => cases h; exact ihA cx x s _ _ G a w _ hx hck.1 hS (hpost.then (by simp))
    | cond b x y =>
      cases c <;> simp only [checkC, Bool.and_eq_true] at hck <;> try (cases hck; done)
      rename_i cb cx cy
      obtain ⟨⟨h1, h2⟩, h3⟩ := hck
      simp only [execF] at h
      split at h
      · rename_i hb
        exact wp_cond (arg_bool hS h1 hb) (ihA cx x s e s' G a w Q h h2 hS hpost)
      · rename_i hb
        exact wp_cond (arg_bool hS h1 hb) (ihA cy y s e s' G a w Q h h3 hS hpost)
      · cases h
    | block id x =>
      cases c <;> simp only [checkC, Bool.and_eq_true, decide_eq_true_eq] at hck <;> try (cases hck; done)
      rename_i id' cx
      obtain ⟨rfl, hck⟩ := hck
      simp only [execF] at h
      apply wp_block
      cases hx : execF cf n x s with
      | none => rw [hx] at h; cases h
      | some r =>
        obtain ⟨e1, s1⟩ := r
        rw [hx] at h
        cases e1 with
        | normal => cases h; exact ihA cx x s _ _ G a w _ hx hck hS hpost
        | exit id =>
          simp only at h
          refine ihA cx x s _ _ G a w _ hx hck hS ?_
          split at h
          · rename_i e1
            cases h
            intro G' a' w' q1 q2
            simp only [Exit.inBlock, e1, if_true]
            exact hpost G' a' w' q1 q2
          · rename_i e1
            cases h
            intro G' a' w' q1 q2
            simp only [Exit.inBlock, e1, if_false]
            exact hpost G' a' w' q1 q2
        | ret => cases h; exact ihA cx x s _ _ G a w _ hx hck hS hpost
        | pan v => cases h; exact ihA cx x s _ _ G a w _ hx hck hS hpost
    | loop keep dead x =>
      cases c <;> simp only [checkC] at hck <;> try (cases hck; done)
      exact wp_loop_of (hB _ keep dead x s e s' G a w Q h hck hS hpost)

end
end PE
