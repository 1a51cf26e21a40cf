/-
  Texts joined by program: A7V7, A7V8, A7V9, A7V10, A7Q1, A7Q2, A7Q3, A7Q4, A7Q5, PeHand, A7V11, A7Q6, A7T12, A7J1, A7J4, A7J5, A7J6, A7J7, A7J8, A7J9, A7J10, A7M14, PeEnd, PeRead.
-/
import Derived.Test.YtojkcioiciehfaaGreatR05
import Derived.WalkKit
import Derived.ProofKit
import Derived.OpenShut
import Derived.ShutString
import Derived.ChangeOld
import Derived.Below
set_option linter.unusedVariables false
set_option linter.unusedSectionVars false
set_option linter.unusedSimpArgs false
namespace PE.U
open Go PE
theorem vshort_of {p : Prog} {w : Nat} (hE : SpecE p w) {e : Expr} {S : RS} {v : Int} {T : ze} {m r : Nat} {B : List Bnd} (hS : FitS p S) (hf : S.fuel <= w) (ho : okE p (B.map (·.name)) e) (hk : e.kind = 5) (hw : wtE e < capE) (hF : FR p T m r B) (hT : WT p T) :
  PC (zi E 160 [.ptr 1 0 0, zw e, .mp (nb p + r)] (sto p S v T)) (isE p T (shortW (evF p w) e (zF B) S)) := by
 rw [okE_eq] at ho
 obtain ⟨o1, _, _, _, o5⟩ := ho
 rw [hk] at o1
 have hl : e.args.length = 2 := by
  simp only [zCd] at o1
  simp at o1
  exact o1.2.2.2
 obtain ⟨x, y, hxy⟩ : ∃ x y, e.args = [x, y] := by
  match h : e.args, hl with
  | [x, y], _ => exact ⟨x, y, rfl⟩
 rw [zEd, hxy] at hw
 simp only [wtEs] at hw
 rw [hxy, okEs, okEs] at o5
 have h1 := hE.expr x S v T m r B hS hf o5.1 (by omega) hF hT
 have m1 := (zOd p w).expr x (zF B) S
 refine zpa rfl rfl rfl (by simp [za]) ?_
 unfold shortW
 have e0 : arg0 e.args = x := by rw [hxy]; rfl
 have e1 : arg1 e.args = y := by rw [hxy]; rfl
 rw [e0, e1]
 have g0 : e.args[0]? = some x := by rw [hxy]; rfl
 have g1 : e.args[1]? = some y := by rw [hxy]; rfl
 generalize (evF p w).expr x (zF B) S = q at *
 obtain ⟨a, S1⟩ := q
 obtain ⟨v1, h1⟩ := zXd h1
 rw [za x] at h1
 cases a with
 | stop k =>
  clear hE hF hT hw hxy o1 o5 m1 hl e0 e1
  simp [zd] at h1
  simp [*, F160, za, zd]
 | ok n =>
  have h2 := hE.expr y S1 v1 T m r B (hS.mono m1.1) (Nat.le_trans m1.1.fuel hf) o5.2.1 (by omega) hF hT
  simp only
  generalize (evF p w).expr y (zF B) S1 = q at *
  obtain ⟨b, S2⟩ := q
  obtain ⟨v2, h2⟩ := zXd h2
  rw [za y] at h2
  clear hE hF hT hw hxy o1 o5 m1 hl e0 e1
  simp [zd] at h1
  by_cases hc : decide (n = 0) = decide (e.op = 18)
  ·simp only [hc, if_true]
   have hb : (decide (n = 0) == decide (e.op = 18)) = true := by rw [hc]; simp
   clear h2 hc
   simp [*, F160, za, zd]
  ·simp only [hc, if_false]
   have hb : (decide (n = 0) == decide (e.op = 18)) = false := by simpa using hc
   cases b <;> simp [zd] at h2 <;> simp [*, F160, za, zd]
structure BlockSpec (p : Prog) (w : Nat) : Prop where
 block : ∀ l S v T m r B loop, FitS p S -> S.fuel <= w -> okB p (B.map (·.name)) loop l -> wtSs l < capE -> FR p T m r B -> WT p T →
  PC (zi E 95 [.ptr 1 0 0, zh l, .mp (nb p + r)] (sto p S v T)) (isBk p T m r B (zZ (evF p w) l (zF B) S))
def zza (b : Nat) : List Par -> List (PV × PV)
 | [] => []
 | x :: r => (.str x.name, .ptr b 0 0) :: zza (b + 1) r
def zZa (l : List Int) : ze := l.map boxO
theorem parEnt_snoc (x : Par) : ∀ (d : List Par) (b : Nat), zza b (d ++ [x]) = zza b d ++ [(.str x.name, .ptr (b + d.length) 0 0)]
 | [], b => by simp [zza]
 | y :: d, b => by
  simp only [List.cons_append, zza, parEnt_snoc x d, List.length_cons]
  rw [show b + 1 + d.length = b + (d.length + 1) from by omega]
theorem zfe (nm : List UInt8) (u : PV) : ∀ (d : List Par) (b : Nat), nm ∉ d.map (·.name) -> zLb true (.str nm) u (zza b d) = some (zza b d ++ [(.str nm, u)])
 | [], b, _ => rfl
 | y :: d, b, h => by
  simp only [List.map_cons, List.mem_cons, not_or] at h
  have ih := zfe nm u d (b + 1) h.2
  simp only [zza, zLb, zRc, if_true, h.1, decide_false]
  rw [ih]; rfl
theorem parEnt_find (x : List UInt8) : ∀ (d : List Par) (b : Nat), zV true (.str x) (zza b d) = some ((d.findIdx? (fun q => decide (q.name = x))).map fun i => .ptr (b + i) 0 0)
 | [], b => rfl
 | y :: d, b => by
  rw [zza, List.findIdx?_cons]
  by_cases h : y.name = x
  ·simp [h]
  ·have h' : ¬ x = y.name := fun e => h e.symm
   simp only [zV, zRc, if_true, h', decide_false, h]
   rw [parEnt_find x d (b + 1)]
   cases d.findIdx? (fun q => decide (q.name = x)) with
   | none => rfl
   | some i => simp; omega
def zJe (b : Nat) : List Par -> List Int -> List Bnd
 | [], _ => []
 | _, [] => []
 | x :: r, n :: l => zJe (b + 1) r l ++ [⟨x.name, b, n⟩]
theorem vals_bind : ∀ (ps : List Par) (l : List Int) (b : Nat), zF (zJe b ps l) = bindV ps l
 | [], l, b => by simp [zJe, bindV, zF]
 | x :: r, [], b => by simp [zJe, bindV, zF]
 | x :: r, n :: l, b => by
  have ih := vals_bind r l (b + 1)
  simp only [zJe, bindV, zF, List.map_append, List.map_cons, List.map_nil, List.zip_cons_cons, List.reverse_cons] at ih ⊢
  rw [ih]
theorem names_bind : ∀ (ps : List Par) (l : List Int) (b : Nat), l.length = ps.length -> (zJe b ps l).map (·.name) = (ps.map (·.name)).reverse
 | [], l, b, _ => rfl
 | x :: r, [], b, h => by simp at h
 | x :: r, n :: l, b, h => by
  simp only [zJe, List.map_append, List.map_cons, List.map_nil, List.reverse_cons]
  rw [names_bind r l (b + 1) (by simpa using h)]
theorem bind_box : ∀ (ps : List Par) (l : List Int) (b : Nat), ∀ q ∈ zJe b ps l, b <= q.box /\ q.box < b + l.length /\ l[q.box - b]? = some q.val /\ (ps[q.box - b]?).map (·.name) = some q.name
 | [], l, b, q, h => by simp [zJe] at h
 | x :: r, [], b, q, h => by simp [zJe] at h
 | x :: r, n :: l, b, q, h => by
  simp only [zJe, List.mem_append, List.mem_singleton] at h
  rcases h with h | rfl
  ·obtain ⟨h1, h2, h3, h4⟩ := bind_box r l (b + 1) q h
   have e : q.box - b = q.box - (b + 1) + 1 := by omega
   refine ⟨by omega, by simp only [List.length_cons]; omega, ?_, ?_⟩
   ·rw [e, List.getElem?_cons_succ]; exact h3
   ·rw [e, List.getElem?_cons_succ]; exact h4
  ·exact ⟨Nat.le_refl _, by simp only [List.length_cons]; omega, by simp, by simp⟩
theorem bind_nd : ∀ (ps : List Par) (l : List Int) (b : Nat), ((zJe b ps l).map (·.box)).Nodup
 | [], l, b => by simp [zJe]
 | x :: r, [], b => by simp [zJe]
 | x :: r, n :: l, b => by
  simp only [zJe, List.map_append, List.map_cons, List.map_nil]
  rw [List.nodup_append]
  refine ⟨bind_nd r l (b + 1), by simp, ?_⟩
  intro a ha c hc
  simp only [List.mem_singleton] at hc
  obtain ⟨q, hq, rfl⟩ := List.mem_map.1 ha
  have := (bind_box r l (b + 1) q hq).1
  omega
theorem lookB_mem {nm : List UInt8} {B : List Bnd} {b : Bnd} (h : zcd nm B = some b) : b ∈ B /\ b.name = nm := by
 induction B with
 | nil => cases h
 | cons c r ih =>
  simp only [zcd] at h
  split at h
  ·cases h; exact ⟨by simp, by assumption⟩
  ·have := ih h; exact ⟨by simp [this.1], this.2⟩
theorem lookB_none {nm : List UInt8} {B : List Bnd} (h : zcd nm B = none) : nm ∉ B.map (·.name) := by
 intro hm
 obtain ⟨b, hb, _⟩ := lookB_of hm
 rw [h] at hb; cases hb
theorem bind_look {ps : List Par} {l : List Int} {b : Nat} (hl : l.length = ps.length) (hn : (ps.map (·.name)).Nodup) (x : List UInt8) : (ps.findIdx? (fun q => decide (q.name = x))).map (fun i => b + i) = (zcd x (zJe b ps l)).map (·.box) := by
 cases h : zcd x (zJe b ps l) with
 | none =>
  have h1 := lookB_none h
  rw [names_bind _ _ _ hl, List.mem_reverse] at h1
  have : ps.findIdx? (fun q => decide (q.name = x)) = none := by
   rw [List.findIdx?_eq_none_iff]
   intro q hq
   rw [decide_eq_false_iff_not]
   rintro rfl
   exact h1 (List.mem_map.2 ⟨q, hq, rfl⟩)
  rw [this]; rfl
 | some q =>
  obtain ⟨q1, q2⟩ := lookB_mem h
  obtain ⟨b1, b2, b3, b4⟩ := bind_box ps l b q q1
  rw [Option.map_some]
  have hi : ps.findIdx? (fun q => decide (q.name = x)) = some (q.box - b) := by
   rw [List.findIdx?_eq_some_iff_getElem]
   rw [Option.map_eq_some_iff] at b4
   obtain ⟨z, z1, z2⟩ := b4
   obtain ⟨z3, z4⟩ := List.getElem?_eq_some_iff.1 z1
   refine ⟨z3, by rw [z4]; simp [z2, q2], ?_⟩
   intro j hj
   simp only [Bool.not_eq_true, decide_eq_false_iff_not]
   intro e
   have h2 : (ps.map (·.name))[j]'(by simp; omega) = (ps.map (·.name))[q.box - b]'(by simpa using z3) := by
    simp only [List.getElem_map]
    rw [e, z4, z2, q2]
   exact absurd h2 (List.pairwise_iff_getElem.1 hn j (q.box - b) _ _ (by omega))
  rw [hi]
  simp; omega
theorem parEnt_str : ∀ (ps : List Par) (b : Nat), strK (zza b ps)
 | [], b => fun q h => by cases h
 | x :: r, b => fun q h => by
  rcases List.mem_cons.1 h with rfl | h
  ·exact ⟨_, rfl⟩
  ·exact parEnt_str r (b + 1) q h
theorem FR_bind {p : Prog} {T : ze} {ps : List Par} {l : List Int} (hl : l.length = ps.length) (hn : (ps.map (·.name)).Nodup) : FR p (T ++ [.mp (zza (nb p + (T.length + 1)) ps)] ++ zZa l) T.length T.length (zJe (T.length + 1) ps l) := by
 refine ⟨⟨_, by rw [List.getElem?_append_left (by simp), List.getElem?_append_right (Nat.le_refl _)]; simp; rfl, parEnt_str _ _, ?_⟩, ?_, bind_nd _ _ _, Nat.le_refl _⟩
 ·intro x
  rw [parEnt_find]
  have := bind_look (b := T.length + 1) hl hn x
  congr 1
  have e1 : (ps.findIdx? fun q => decide (q.name = x)).map (fun i => PV.ptr (nb p + (T.length + 1) + i) 0 0) = ((ps.findIdx? fun q => decide (q.name = x)).map (fun i => T.length + 1 + i)).map (fun i => PV.ptr (nb p + i) 0 0) := by
   rw [Option.map_map]
   congr 1
   funext i
   simp only [Function.comp_apply, Nat.add_assoc]
  rw [e1, this, Option.map_map]
  rfl
 ·intro q hq
  obtain ⟨b1, b2, b3, b4⟩ := bind_box _ _ _ q hq
  refine ⟨?_, by omega⟩
  rw [List.getElem?_append_right (by simp; omega)]
  simp only [List.length_append, List.length_cons, List.length_nil]
  simp only [zZa, List.getElem?_map]
  have : q.box - (T.length + (0 + 1)) = q.box - (T.length + 1) := by omega
  rw [this, b3]; rfl
theorem parEnt_below (n : Nat) : ∀ (ps : List Par) (b : Nat), b + ps.length <= n -> zad n (zza b ps) = true
 | [], b, _ => rfl
 | x :: r, b, h => by
  simp only [List.length_cons] at h
  simp only [zza, zad, below_str, below_ptr, Bool.true_and, Bool.and_eq_true, decide_eq_true_eq]
  exact ⟨by omega, parEnt_below n r (b + 1) (by omega)⟩
mutual
theorem belowV_le {n k : Nat} (h : n <= k) : ∀ x : PV, zy n x = true -> zy k x = true
 | .ptr l i o, q => by simp at q ⊢; omega
 | .mslice l i o z, q => by simp at q ⊢; omega
 | .mp l, q => by simp at q ⊢; omega
 | .iptr cs o, q => by simp at q ⊢; exact zWc h cs q
 | .slice _ _ cs, q => by simp at q ⊢; exact zWc h cs q
 | .agg cs, q => by simp at q ⊢; exact zWc h cs q
 | .tup cs, q => by simp at q ⊢; exact zWc h cs q
 | .fn _ a b, q => by simp at q ⊢; exact ⟨zWc h a q.1, zWc h b q.2⟩
 | .iface _ x, q => by simp at q ⊢; exact belowV_le h x q
 | .undef, _ => rfl
 | .bool _, _ => rfl
 | .int _ _, _ => rfl
 | .str _, _ => rfl
 | .nilp, _ => rfl
 | .lptr _ _, _ => rfl
 | .nilfn, _ => rfl
 | .nilmap, _ => rfl
 | .nilif, _ => rfl
theorem zWc {n k : Nat} (h : n <= k) : ∀ l : List PV, zT n l = true -> zT k l = true
 | [], _ => rfl
 | x :: r, q => by simp at q ⊢; exact ⟨belowV_le h x q.1, zWc h r q.2⟩
end
theorem belowP_le {n k : Nat} (h : n <= k) : ∀ l : List (PV × PV), zad n l = true -> zad k l = true
 | [], _ => rfl
 | (x, y) :: r, q => by simp [zad] at q ⊢; exact ⟨⟨belowV_le h x q.1.1, belowV_le h y q.1.2⟩, belowP_le h r q.2⟩
theorem below_le {n k : Nat} (h : n <= k) (o : Obj) (q : o.below n = true) : o.below k = true := by
 cases o with
 | arr sz es => exact zWc h es q
 | mp es => exact belowP_le h es q
 | dead _ => rfl
theorem wf_le {n k : Nat} (h : n <= k) {T : ze} (q : ze.wf n T = true) : ze.wf k T = true := by
 unfold ze.wf at q ⊢
 rw [List.all_eq_true] at q ⊢
 exact fun o ho => below_le h o (q o ho)
theorem wf_app {n : Nat} {A B : ze} : ze.wf n (A ++ B) = (ze.wf n A && ze.wf n B) := by simp [ze.wf]
theorem wf_box (n : Nat) (l : List Int) : ze.wf n (zZa l) = true := by
 simp only [ze.wf, List.all_eq_true, zZa, List.mem_map]
 rintro o ⟨x, _, rfl⟩
 simp [boxO, Obj.below]
theorem Keep.wf {m : Nat} {T T' : ze} {n : Nat} (h : Keep m none T T') (hT : ze.wf n T = true) : ze.wf n (T'.take T.length) = true := by
 unfold ze.wf at hT ⊢
 rw [List.all_eq_true] at hT ⊢
 intro o ho
 obtain ⟨j, hj, rfl⟩ := List.getElem_of_mem ho
 simp only [List.length_take] at hj
 have hj' : j < T.length := by omega
 rcases h.2 j hj' (by simp) with q | ⟨_, a, b, _, q⟩
 ·rw [List.getElem_take]
  have e1 : T'[j]? = some T'[j] := List.getElem?_eq_getElem (by omega)
  have e2 : T[j]? = some T[j] := List.getElem?_eq_getElem hj'
  rw [e1, e2, Option.some.injEq] at q
  rw [q]
  exact hT _ (List.getElem_mem hj')
 ·rw [List.getElem_take]
  have e1 : T'[j]? = some T'[j] := List.getElem?_eq_getElem (by omega)
  rw [e1, Option.some.injEq] at q
  rw [q]; rfl
theorem Keep.same {m : Nat} {A L T' : ze} (h : Keep m none (A ++ L) T') (hm : A.length <= m) : T'.take A.length = A := by
 apply List.ext_getElem?
 intro j
 rw [List.getElem?_take]
 split
 ·rename_i hj
  rcases h.2 j (by simp; omega) (by simp) with q | ⟨q, _⟩
  ·rw [q, List.getElem?_append_left hj]
  ·omega
 ·rename_i hj
  rw [List.getElem?_eq_none (by omega)]
end PE.U

namespace PE.U
open Go PE
structure CS where
 rest : List Expr
 acc : List Int
 S : RS
 v : Int
theorem isBk_get {p : Prog} {T : ze} {m r : Nat} {B : List Bnd} {q : Rt (How × Vs) × RS} {x : Option (CRes × ze)} (h : PC x (isBk p T m r B q)) : ∃ v T', x = some (outH q.1, sto p q.2 v T') /\ Keep m none T T' /\ T'.length = T.length ∧
  ∀ h V1, q.1 = .ok (h, V1) -> (∀ n, h = .ret n -> v = n) /\ BkR p T T' m r B V1 (fun a => a = []) := by
 obtain ⟨r, st, e, v, T', rfl, rfl, h1, h2, h3⟩ := PC_iff.1 h
 exact ⟨v, T', e, h1, h2, h3⟩
set_option maxHeartbeats 2000000 in
theorem vcall_of {p : Prog} (hP : OkP p) {w : Nat} (hB : BlockSpec p w) {f : Func} (hf : f ∈ p.funcs) {S : RS} {v : Int} {T : ze} {l : List Int} (hS : FitS p S) (hw : S.fuel <= w) (hl : l.length = f.params.length) (hT : WT p T) :
  PC (zi E 68 [.ptr 1 0 0, zm f, ints l] (sto p S v T)) (isE p T (callW (evF p w) f l S)) := by
 obtain ⟨z1, z2, z3⟩ := hP.sz
 obtain ⟨f1, f2⟩ := z3 f hf
 obtain ⟨ok1, ok2, ok3⟩ := hP.fn f hf
 have hlen := zmd (v := v) (T := T) hS
 have hfr := FR_bind (p := p) (T := T) hl ok3
 have hbw : WT p (T ++ [.mp (zza (nb p + (T.length + 1)) f.params)] ++ zZa l) := by
  unfold WT
  rw [wf_app, wf_app, wf_box, Bool.and_true, Bool.and_eq_true]
  refine ⟨wf_le (by simp) hT, ?_⟩
  simp only [ze.wf, List.all_cons, List.all_nil, Bool.and_true, Obj.below]
  exact parEnt_below _ _ _ (by simp [zZa]; omega)
 have hblk := hB.block f.body S v _ T.length T.length (zJe (T.length + 1) f.params l) false hS hw (by rw [names_bind _ _ _ hl]; exact ok1) (by unfold capE; omega) hfr hbw
 rw [vals_bind] at hblk
 have hret := blockW_ret (evF_fx p w) f.body _ (bindV f.params l) S ok1 ok2
 have hmono := (zKc (zOd p w) f.body (bindV f.params l) S).1
 refine zpa rfl rfl rfl (by simp [zm]) ?_
 unfold callW
 generalize zZ (evF p w) f.body (bindV f.params l) S = q at *
 obtain ⟨a, S1⟩ := q
 obtain ⟨v1, T1, h1, h2, h3, h4⟩ := isBk_get hblk
 have hsame : T1.take T.length = T := by
  have := h2
  rw [List.append_assoc] at this
  exact Keep.same this (Nat.le_refl _)
 have hS1 := hS.mono hmono
 have htk : (sto p S1 v1 T1).take (nb p + T.length) = sto p S1 v1 T := by rw [sto_take hS1, hsame]
 have hwf : ze.wf (nb p + T.length) (sto p S1 v1 T) = true := sto_wf hS1 (by omega) hT
 have hle : nb p + T.length <= (sto p S1 v1 T1).length := by
  rw [zmd hS1, h3]; simp
 have hv : ∀ n V1, a = .ok (.ret n, V1) -> v1 = n := fun n V1 e => (h4 _ _ e).1 n rfl
 have hgo : (∃ k, a = .stop k) \/ ∃ n V1, a = .ok (.ret n, V1) := by
  cases a with
  | stop k => exact .inl ⟨k, rfl⟩
  | ok x =>
   obtain ⟨h, V1⟩ := x
   obtain ⟨n, hn⟩ := hret h V1 rfl
   exact .inr ⟨n, V1, by rw [hn]⟩
 clear hblk hret hmono h2 h3 h4 hsame hbw hfr
 simp [F68, zm, parsV, ints, zCc]
 refine zG f.params K68_0 B68_0 (fun d => [(15, .int .i64 d.length)]) (fun d => sto p S v (T ++ [.mp (zza (nb p + (T.length + 1)) d)] ++ zZa (l.take d.length))) (fun d => (d.map (·.name)).Nodup) (by omega) (by simp [zza, zZa]) ?_ ?_
 ·intros d x r s1 hl' hlt hget hget' hwr hp g1 g2 g3 g4
  simp at g1 g3
  have hx : x.name ∉ d.map (·.name) /\ ((d ++ [x]).map (·.name)).Nodup := by
   have h := ok3
   rw [hl'.eq] at h
   simp only [List.map_append, List.map_cons] at h ⊢
   rw [List.nodup_append] at h
   obtain ⟨h1, h2, h3⟩ := h
   have hx : x.name ∉ d.map (·.name) := fun hm => h3 _ hm _ (by simp) rfl
   refine ⟨hx, ?_⟩
   rw [List.nodup_append]
   exact ⟨h1, by simp, fun a ha b hb => by simp at hb; rintro rfl; exact hx (hb ▸ ha)⟩
  have hms := zfe x.name (.ptr (nb p + (T.length + 1 + d.length)) 0 0) d (nb p + (T.length + 1)) hx.1
  have hln : d.length < l.length := by omega
  obtain ⟨n, hn⟩ : ∃ n, l[d.length]? = some n := ⟨_, List.getElem?_eq_getElem hln⟩
  have htk1 : l.take (d.length + 1) = l.take d.length ++ [n] := by
   rw [List.take_add_one, hn]; rfl
  have hpb : zZa (l.take d.length) ++ [.arr 1 [.int .i64 n]] = zZa (l.take d.length ++ [n]) := by simp [zZa, boxO]
  have hbl : (zZa (l.take d.length)).length = d.length := by simp [zZa]; omega
  have hL : (sto p S v (T ++ [.mp (zza (nb p + (T.length + 1)) d)] ++ zZa (l.take d.length))).length = nb p + (T.length + 1 + d.length) := by
   rw [zmd hS]; simp [hbl]; omega
  have hps := parEnt_snoc x d (nb p + (T.length + 1))
  rw [show nb p + (T.length + 1) + d.length = nb p + (T.length + 1 + d.length) from by omega] at hps
  rw [<- hps] at hms
  have hset1 : (sto p S v (T ++ [.mp (zza (nb p + (T.length + 1)) d)] ++ zZa (l.take d.length) ++ [.arr 1 [.int .i64 0]])).set (nb p + (T.length + 1 + d.length)) (.arr 1 [.int .i64 n]) = sto p S v (T ++ [.mp (zza (nb p + (T.length + 1)) d)] ++ zZa (l.take d.length) ++ [.arr 1 [.int .i64 n]]) := by
   have e : T.length + 1 + d.length = (T ++ [Obj.mp (zza (nb p + (T.length + 1)) d)] ++ zZa (l.take d.length)).length := by simp [hbl]; omega
   rw [sto_set hS, e, List.set_append_right _ _ (Nat.le_refl _)]
   simp
  have hget1 : (sto p S v (T ++ [.mp (zza (nb p + (T.length + 1)) d)] ++ zZa (l.take d.length) ++ [.arr 1 [.int .i64 0]]))[nb p + (T.length + 1 + d.length)]? = some (.arr 1 [.int .i64 0]) := by
   have e : T.length + 1 + d.length = (T ++ [Obj.mp (zza (nb p + (T.length + 1)) d)] ++ zZa (l.take d.length)).length := by simp [hbl]; omega
   rw [zVd hS, e, List.getElem?_append_right (Nat.le_refl _)]
   simp
  have hget2 : (sto p S v (T ++ [.mp (zza (nb p + (T.length + 1)) d)] ++ zZa (l.take d.length) ++ [.arr 1 [.int .i64 n]]))[nb p + T.length]? = some (.mp (zza (nb p + (T.length + 1)) d)) := by
   rw [zVd hS, List.getElem?_append_left (by simp), List.getElem?_append_left (by simp), List.getElem?_append_right (Nat.le_refl _)]
   simp
  have hset2 : (sto p S v (T ++ [.mp (zza (nb p + (T.length + 1)) d)] ++ zZa (l.take d.length) ++ [.arr 1 [.int .i64 n]])).set (nb p + T.length) (.mp (zza (nb p + (T.length + 1)) (d ++ [x]))) = sto p S v (T ++ [.mp (zza (nb p + (T.length + 1)) (d ++ [x]))] ++ zZa (l.take (d.length + 1))) := by
   rw [sto_set hS, htk1]
   congr 1
   rw [List.append_assoc, List.append_assoc, List.set_append_right _ _ (Nat.le_refl _), hpb]
   simp
  have hfin : sto p S v (T ++ [.mp (zza (nb p + (T.length + 1)) (d ++ [x]))] ++ zZa (l.take (d.length + 1))) = sto p S v (T ++ [.mp (zza (nb p + (T.length + 1)) (d ++ [x]))] ++ zZa (l.take (d.length + 1))) := rfl
  generalize hA3 : (T ++ [.mp (zza (nb p + (T.length + 1)) (d ++ [x]))] ++ zZa (l.take (d.length + 1))) = A3 at hset2
  generalize hA2 : (T ++ [.mp (zza (nb p + (T.length + 1)) d)] ++ zZa (l.take d.length) ++ [.arr 1 [.int .i64 n]]) = A2 at hset1 hget2 hset2
  generalize hA : (T ++ [.mp (zza (nb p + (T.length + 1)) d)] ++ zZa (l.take d.length)) = A at hset1 hget1 hL g4
  simp at hA3
  have hx2 := hx.2
  simp only [List.map_append, List.map_cons, List.map_nil] at hx2
  have hdec : decide (d.length < f.params.length) = true := decide_eq_true hlt
  clear hx hS1 htk hwf hle hv hgo h1 hl' hps ok1 ok2 ok3 hT hf hB hP hln hbl htk1 hpb hfin hA2 hA hget' hlt hp f1 f2 z1 z2 z3 hw hl
  simp [*, encPar, zCc]
 ·intros s1 hp g1 g2 g3 g4
  simp at g1 g3
  have e1 : l.take f.params.length = l := by rw [<- hl]; exact List.take_length
  rw [e1] at g4
  clear hT hf hB hP ok1 ok2 ok3 hp
  rcases hgo with ⟨k, hgo⟩ | ⟨n, V1, hgo⟩
  ·subst hgo
   clear hv
   simp [outH] at h1
   simp [*, finPan, endV_below]
  ·have hv1 := hv n V1 hgo
   clear hv
   subst hgo
   subst hv1
   simp [outH, howN] at h1
   simp [*, fin]
theorem vmade_of {p : Prog} (hP : OkP p) {w : Nat} (hB : BlockSpec p w) {e : Expr} {S : RS} {v : Int} {T : ze} {l : List Int} {ns : List (List UInt8)} (hS : FitS p S) (hw : S.fuel <= w) (hl : l.length = e.args.length) (ho : okE p ns e) (hk : ¬ (e.kind = 1 \/ e.kind = 2 \/ e.kind = 3)) (hT : WT p T) :
  PC (zi E 161 [.ptr 1 0 0, zw e, ints l] (sto p S v T)) (isE p T (madeW p (evF p w) e l S)) := by
 rw [okE_eq] at ho
 obtain ⟨o1, _, o6, o7, _⟩ := ho
 refine zpa rfl rfl rfl (by simp [za, ints]) ?_
 unfold madeW
 by_cases k4 : e.kind = 4
 ·rw [if_pos k4]
  have h1 : l.length = 1 := by
   rw [k4] at o1; simp [zCd] at o1; omega
  obtain ⟨x, hx⟩ := List.length_eq_one_iff.1 h1
  subst hx
  have hone := one_spec e.op x []
  rw [one_eqC] at hone
  have e0 : at0 [x] = x := rfl
  rw [e0]
  replace k4 := eqp k4
  clear o1 o6 o7 hk
  simp [*, F161, za, ints, zd]
 rw [if_neg k4]
 by_cases k6 : e.kind = 6
 ·rw [if_pos k6]
  have h1 : l.length = 1 := by
   rw [k6] at o1; simp [zCd] at o1; omega
  obtain ⟨x, hx⟩ := List.length_eq_one_iff.1 h1
  subst hx
  have e0 : at0 [x] = x := rfl
  rw [e0]
  obtain ⟨i, row, a1, a2, a3, a4⟩ := arr_at hS (o6 k6)
  have hc := cell_spec (v := v) (T := T) x a3 a4
  have hr := sto_row (v := v) (T := T) (p := p) a3
  unfold cellAt
  rw [a1]
  simp only [Int.toNat_natCast, a3, Option.bind_some]
  by_cases hx : 0 <= x /\ x < row.length
  ·rw [if_pos hx] at hc
   have hn : ¬ x < 0 := by omega
   have hlt : x.toNat < row.length := by omega
   rw [if_neg hn]
   obtain ⟨y, hy⟩ : ∃ y, row[x.toNat]? = some y := ⟨_, List.getElem?_eq_getElem hlt⟩
   rw [hy]
   replace k6 := eqp k6
   replace k4 := eqn k4
   clear o1 o6 o7 hk hx hn hlt
   simp [*, F161, za, ints, zd]
  ·rw [if_neg hx] at hc
   have hnone : (if x < 0 then none else row[x.toNat]?) = none := by
    split
    ·rfl
    ·rw [List.getElem?_eq_none]; omega
   rw [hnone]
   replace k6 := eqp k6
   replace k4 := eqn k4
   clear o1 o6 o7 hk hx hnone
   simp [*, F161, za, ints, zd]
 rw [if_neg k6]
 by_cases k8 : e.kind = 8
 ·rw [if_pos k8]
  have hr := read_spec p S v T
  replace k4 := eqn k4
  replace k6 := eqn k6
  replace k8 := eqp k8
  clear o1 o6 o7 hk
  cases hi : S.inp with
  | nil => rw [hi] at hr; simp [*, F161, za, ints, zd]
  | cons n r => rw [hi] at hr; simp [*, F161, za, ints, zd]
 rw [if_neg k8]
 by_cases k7 : e.kind = 7
 ·rw [if_pos k7]
  obtain ⟨f, hf, hfl⟩ := o7 k7
  have hpl := zde p e.name [] (by have := hP.sz.2.1; omega)
  rcases zTb (fun f : Func => decide (f.name = e.name)) p.funcs with ⟨a1, a2⟩ | ⟨n, g, a1, a2, a3, a4, a5⟩
  ·have a2 : zAa p e.name = none := a2
   rw [a2] at hf; cases hf
  have a3 : zAa p e.name = some g := a3
  have a1 : zsa p e.name = n := a1
  rw [a3, Option.some.injEq] at hf
  subst hf
  rw [a3]
  simp only
  rw [a1] at hpl
  have hcall := vcall_of hP hB (List.mem_of_getElem? a2) (v := v) hS hw (hl.trans hfl.symm) hT
  generalize callW (evF p w) g l S = q at *
  obtain ⟨a, S1⟩ := q
  obtain ⟨v1, hcall⟩ := zXd hcall
  simp [zm, ints] at hcall
  simp [zf, funcs] at hpl
  replace k4 := eqn k4
  replace k6 := eqn k6
  replace k8 := eqn k8
  replace k7 := eqp k7
  clear o1 o6 o7 hk a3 a4 a5 a1 hB hP
  cases a <;> simp at hcall <;> simp [*, F161, za, ints, zd, zm, funcs]
 rw [if_neg k7]
 have k5 : e.kind = 5 := by
  by_cases k5 : e.kind = 5
  ·exact k5
  ·exfalso
   unfold zCd at o1
   rw [if_neg (by omega), if_neg (by omega), if_neg (by omega), if_neg k4, if_neg k5, if_neg k6, if_neg k7, if_neg k8] at o1
   cases o1
 have h2 : l.length = 2 := by
  rw [k5] at o1; simp [zCd] at o1; omega
 obtain ⟨x, y, hxy⟩ : ∃ x y, l = [x, y] := by
  match h : l, h2 with
  | [x, y], _ => exact ⟨x, y, rfl⟩
 subst hxy
 have e0 : at0 [x, y] = x := rfl
 have e1 : at1 [x, y] = y := rfl
 rw [e0, e1]
 have htwo := two_spec e.op x y []
 rw [two_eqC] at htwo
 have hst := stop_spec 2 (sto p S v T)
 generalize twoC e.op x y = q at *
 obtain ⟨n, ok⟩ := q
 simp only at htwo ⊢
 replace k4 := eqn k4
 replace k6 := eqn k6
 replace k8 := eqn k8
 replace k7 := eqn k7
 clear o1 o6 o7 hk k5
 cases ok <;> simp [*, F161, za, ints, zd]
theorem argsW_len {ev : Ev} {V : Vs} : ∀ (l : List Expr) (acc : List Int) (S : RS) (m : List Int) (S1 : RS), zDd ev V l acc S = (.ok m, S1) -> m.length = acc.length + l.length
 | [], acc, S, m, S1, h => by cases h; rfl
 | x :: r, acc, S, m, S1, h => by
  unfold zDd at h
  split at h
  ·have := argsW_len r _ _ _ _ h
   rw [this]; simp; omega
  ·cases h
set_option maxHeartbeats 4000000 in
theorem vexpr_of {p : Prog} (hP : OkP p) {w : Nat} (hE : SpecE p w) (hB : BlockSpec p w) : SpecE p (w + 1) := by
 refine ⟨fun e S v T m r B hS hf ho hw hF hT => ?_⟩
 have hstep := step_spec p S v T (by have := hS.2; omega)
 have hoe := ho
 rw [okE_eq] at ho
 obtain ⟨o1, o3, o6, o7, oa⟩ := ho
 have hla := zvc e.args
 have hwe := zEd e
 refine zpa rfl rfl rfl (by simp [za]) ?_
 simp only [evF]
 cases hfu : S.fuel with
 | zero =>
  rw [hfu] at hstep
  clear o1 o3 o6 o7 oa
  simp [*, F143, za, zd]
 | succ k =>
  rw [hfu] at hstep
  simp only at hstep ⊢
  have hS0 : FitS p { S with fuel := k } := hS.mono ⟨by simp only; omega, by simp only; omega, rfl⟩
  have hf0 : ({ S with fuel := k } : RS).fuel <= w := by simp only; omega
  generalize hSS : ({ S with fuel := k } : RS) = S0 at *
  clear hSS hfu hf hS
  unfold exprW
  by_cases k1 : e.kind = 1
  ·rw [if_pos (.inl k1)]
   replace k1 := eqp k1
   clear o1 o3 o6 o7 oa
   simp [*, F143, za, zd]
  by_cases k2 : e.kind = 2
  ·rw [if_pos (.inr k2)]
   replace k1 := eqn k1
   replace k2 := eqp k2
   clear o1 o3 o6 o7 oa
   simp [*, F143, za, zd]
  rw [if_neg (by omega)]
  by_cases k3 : e.kind = 3
  ·rw [if_pos k3]
   obtain ⟨es, b, f1, f2, f3, f4⟩ := hF.look (o3 k3)
   have g1 := zVd (v := v) (T := T) hS0 r
   have g2 := zVd (v := v) (T := T) hS0 b.box
   rw [f1] at g1
   rw [f3] at g2
   unfold boxO at g2
   replace k1 := eqn k1
   replace k2 := eqn k2
   replace k3 := eqp k3
   clear o1 o3 o6 o7 oa f1 f3 f4
   simp [*, F143, za, zd]
  rw [if_neg k3]
  by_cases k5 : e.kind = 5 /\ (e.op = 18 \/ e.op = 19)
  ·rw [if_pos k5]
   have hsh := vshort_of hE (v := v) hS0 hf0 hoe k5.1 hw hF hT
   generalize shortW (evF p w) e (zF B) S0 = q at *
   obtain ⟨a, S1⟩ := q
   obtain ⟨v1, hsh⟩ := zXd hsh
   rw [za] at hsh
   replace k1 := eqn k1
   replace k2 := eqn k2
   replace k3 := eqn k3
   obtain ⟨k5, hop⟩ := k5
   replace k5 := eqp k5
   clear o1 o3 o6 o7 oa hoe hE hB hP
   rcases hop with hop | hop
   ·replace hop := eqp hop
    cases a <;> simp [zd, hop] at hsh <;> simp [*, F143, za, zd]
   ·have h18 : (e.op = 18) = False := eqn (by omega)
    replace hop := eqp hop
    cases a <;> simp [zd, hop] at hsh <;> simp [*, F143, za, zd]
  rw [if_neg k5]
  have hop : (e.kind = 5) = False \/ ((e.kind = 5) = True /\ (e.op = 18) = False /\ (e.op = 19) = False) := by
   by_cases h : e.kind = 5
   ·exact .inr ⟨eqp h, eqn (fun h' => k5 ⟨h, .inl h'⟩), eqn (fun h' => k5 ⟨h, .inr h'⟩)⟩
   ·exact .inl (eqn h)
  have hmade : ∀ l S1 v1, zDd (evF p w) (zF B) e.args [] S0 = (.ok l, S1) -> PC (zi E 161 [.ptr 1 0 0, zw e, ints l] (sto p (zaa S1) v1 T)) (isE p T (madeW p (evF p w) e l (zaa S1))) := by
   intro l S1 v1 h
   have hm := (argsW_mono (zOd p w) (zF B) e.args [] S0).1
   rw [h] at hm
   exact vmade_of hP hB (hS0.mono hm).cost (Nat.le_trans hm.fuel hf0) (by have := argsW_len _ _ _ _ _ h; simpa using this) hoe (by omega) hT
  have hin : ∀ x ∈ e.args, ∀ S1 v1, FitS p S1 -> S1.fuel <= w -> PC (zi E 143 [.ptr 1 0 0, zw x, .mp (nb p + r)] (sto p S1 v1 T)) (isE p T ((evF p w).expr x (zF B) S1)) := by
   intro x hx S1 v1 h1 h2
   have := zAb hx
   exact hE.expr x S1 v1 T m r B h1 h2 (okEs_mem oa hx) (by omega) hF hT
  replace k1 := eqn k1
  replace k2 := eqn k2
  replace k3 := eqn k3
  clear o1 o3 o6 o7 oa hoe hE hB hP hF hT k5
  -- the loop through the parts
  have key : ∀ {cf : zC} (h5 : (e.kind = 5) = False \/ ((e.kind = 5) = True /\ (e.op = 18) = False /\ (e.op = 19) = False)), True := fun _ => trivial
  clear key
  rcases hop with k5 | ⟨k5, k18, k19⟩
  all_goals
   simp [*, F143, za, zd]
   refine zvb K143_0 B143_0 (fun c : CS => c.rest.length) (fun c => [(7, acc 1 (c.acc.map (PV.int .i64))), (52, .int .i64 c.acc.length)]) (fun c => []) (fun c => sto p c.S c.v T)
    (fun c => ∃ d, e.args = d ++ c.rest /\ d.length = c.acc.length /\ zDd (evF p w) (zF B) e.args [] S0 = zDd (evF p w) (zF B) c.rest c.acc c.S /\ FitS p c.S /\ c.S.fuel <= w) ⟨e.args, [], S0, v⟩ ?_ ?_
   ·simp [hS0, hf0]
   ·rintro ⟨rest, ac, S1, v1⟩ s1 ⟨d, d1, d2, d3, d4, d5⟩ g1 g2 g3 g4 g5
    simp at d1 d2 d3 d4 d5 g1 g2 g3 g4 g5
    cases rest with
    | nil =>
     have hlen : ac.length = e.args.length := by rw [d1, <- d2]; simp
     have d3' : zDd (evF p w) (zF B) e.args [] S0 = (.ok ac, S1) := d3
     have hm := hmade ac S1 v1 d3'
     rw [d3']
     simp only
     generalize madeW p (evF p w) e ac (zaa S1) = q at *
     obtain ⟨a, S2⟩ := q
     obtain ⟨v2, hm⟩ := zXd hm
     rw [za] at hm
     clear hmade hin d1 d2 d3 d3' d4 d5 hstep
     cases a <;> simp [zd, ints] at hm <;> simp [*, zd]
    | cons x rest =>
     have hx : e.args[ac.length]? = some x := by rw [d1, <- d2]; simp
     have hlt : (ac.length : Int) < e.args.length := by rw [d1, <- d2]; simp; omega
     have hc := hin x (by rw [d1]; simp) S1 v1 d4 d5
     have hm := ((zOd p w).expr x (zF B) S1).1
     have hwr : zB .i64 ((ac.length : Int) + 1) = (ac.length : Int) + 1 := zj (by omega) (by unfold capE at hw; omega)
     have hroom : (ac.length + 1) * 8 <= zu := by simp only [zu]; unfold capE at hw; omega
     have d3' : zDd (evF p w) (zF B) e.args [] S0 = (match (evF p w).expr x (zF B) S1 with
      | (.ok n, S2) => zDd (evF p w) (zF B) rest (ac ++ [n]) S2
      | (.stop k, S2) => (.stop k, S2)) := d3
     generalize (evF p w).expr x (zF B) S1 = q at *
     obtain ⟨a, S2⟩ := q
     obtain ⟨v2, hc⟩ := zXd hc
     rw [za] at hc
     have d6 := d4.mono hm
     have d7 : S2.fuel <= w := Nat.le_trans hm.fuel d5
     clear hmade hin d3 d4 d5 hm hstep
     cases a with
     | stop k =>
      simp only at d3'
      rw [d3']
      simp [zd] at hc
      clear d1 d2 d3'
      simp [*, za, zd]
     | ok n =>
      simp only at d3'
      simp [zd] at hc
      replace hlt := eqp hlt
      have hex : ∃ d', e.args = d' ++ rest /\ d'.length = ac.length + 1 := ⟨d ++ [x], by rw [d1]; simp, by simp [d2]⟩
      clear d1 d2
      simp [*, za, zd]
      refine ⟨⟨rest, ac ++ [n], S2, v2⟩, ?_⟩
      simp [*]
end PE.U

namespace PE.U
open Go PE
theorem clone_spec {r : Nat} {es : List (PV × PV)} {σ : ze} (h : σ[r]? = some (.mp es)) : zi E 119 [.mp r] σ = some (.ret (.mp σ.length), σ ++ [.mp es]) := by
 rw [pcall_ext (E := E) (f := 119) (g := cloneX) rfl]
 simp [cloneX, h]
theorem isS_get {p : Prog} {T : ze} {m r : Nat} {B : List Bnd} {q : Rt (How × Vs) × RS} {x : Option (CRes × ze)} (h : PC x (isS p T m r B q)) : ∃ v T', x = some (outH q.1, sto p q.2 v T') /\ Keep m (some r) T T' ∧
  ∀ h V1, q.1 = .ok (h, V1) -> (∀ n, h = .ret n -> v = n) /\ BkR p T T' m r B V1 (fun _ => True) := by
 obtain ⟨r, st, e, v, T', rfl, rfl, h1, h2⟩ := PC_iff.1 h
 exact ⟨v, T', e, h1, h2⟩
structure BSt where
 rest : List Stmt
 S : RS
 v : Int
 T : ze
 B : List Bnd
theorem FR_back {p : Prog} {T T' : ze} {m r : Nat} {B B' : List Bnd} {es : List (PV × PV)} (hF : FR p T m r B) (hk : Keep m none T T') (hF' : FR p T' m T.length B') {a : List (List UInt8 × Nat)} (ha : zib B' = a ++ zib B) :
  FR p (T'.take T.length) m r (B'.drop (B'.length - B.length)) /\ zib (B'.drop (B'.length - B.length)) = zib B := by
 have hl : B'.length = a.length + B.length := by
  have := congrArg List.length ha
  simpa [zib] using this
 have hkeys : zib (B'.drop (B'.length - B.length)) = zib B := by
  have : zib (B'.drop (B'.length - B.length)) = (zib B').drop (B'.length - B.length) := by simp [zib, List.map_drop]
  rw [this, ha, hl]
  have : a.length + B.length - B.length = a.length := by omega
  rw [this, List.drop_left]
 refine ⟨⟨?_, ?_, ?_, hF.lo⟩, hkeys⟩
 ·obtain ⟨es, h1, hs, h2⟩ := hF.map
  have hr := (List.getElem?_eq_some_iff.1 h1).1
  refine ⟨es, ?_, hs, fun x => ?_⟩
  ·rw [List.getElem?_take, if_pos hr]
   rcases hk.2 r hr (by simp) with q | ⟨_, a, b, q, _⟩
   ·rw [q, h1]
   ·rw [h1] at q; simp [boxO] at q
  ·rw [h2]
   have := lookB_box hkeys x
   congr 1
   have e1 : (zcd x B).map (fun b => PV.ptr (nb p + b.box) 0 0) = ((zcd x B).map (·.box)).map (fun i => PV.ptr (nb p + i) 0 0) := by rw [Option.map_map]; rfl
   have e2 : (zcd x (B'.drop (B'.length - B.length))).map (fun b => PV.ptr (nb p + b.box) 0 0) = ((zcd x (B'.drop (B'.length - B.length))).map (·.box)).map (fun i => PV.ptr (nb p + i) 0 0) := by rw [Option.map_map]; rfl
   rw [e1, e2, this]
 ·intro b hb
  obtain ⟨h1, h2⟩ := hF'.val b (List.mem_of_mem_drop hb)
  refine ⟨?_, h2⟩
  have hbk : (b.name, b.box) ∈ zib B := by rw [<- hkeys]; exact List.mem_map.2 ⟨b, hb, rfl⟩
  obtain ⟨c, hc, hcb⟩ := List.mem_map.1 hbk
  have := (hF.val c hc).1
  have hlt := (List.getElem?_eq_some_iff.1 this).1
  have e : c.box = b.box := congrArg Prod.snd hcb
  rw [List.getElem?_take, if_pos (by omega)]
  exact h1
 ·have h := hF'.nd
  exact List.Nodup.sublist (List.Sublist.map _ (List.drop_sublist _ _)) h
theorem FR_clone {p : Prog} {T : ze} {m r : Nat} {B : List Bnd} {es : List (PV × PV)} (hF : FR p T m r B) (h : T[r]? = some (.mp es)) : FR p (T ++ [.mp es]) m T.length B := by
 obtain ⟨es', h1, hs, h2⟩ := hF.map
 rw [h, Option.some.injEq, Obj.mp.injEq] at h1
 subst h1
 refine ⟨⟨es, by simp, hs, h2⟩, ?_, hF.nd, ?_⟩
 ·intro b hb
  obtain ⟨h3, h4⟩ := hF.val b hb
  have := (List.getElem?_eq_some_iff.1 h3).1
  exact ⟨by rw [List.getElem?_append_left this]; exact h3, h4⟩
 ·have := hF.lo; have := hF.lt; omega
theorem WT_clone {p : Prog} {T : ze} {r : Nat} {es : List (PV × PV)} (hT : WT p T) (h : T[r]? = some (.mp es)) : WT p (T ++ [.mp es]) := by
 unfold WT
 rw [wf_app, Bool.and_eq_true]
 refine ⟨wf_le (by simp) hT, ?_⟩
 have : (Obj.mp es).below (nb p + T.length) = true := by
  unfold WT ze.wf at hT
  rw [List.all_eq_true] at hT
  exact hT _ (List.mem_of_getElem? h)
 simp only [ze.wf, List.all_cons, List.all_nil, Bool.and_true]
 exact below_le (by simp) _ this
theorem Keep.take' {m : Nat} {T T' : ze} (h : Keep m none T T') : Keep m none T (T'.take T.length) := by
 refine ⟨by have := h.1; simp; omega, fun j hj hx => ?_⟩
 rw [List.getElem?_take, if_pos hj]
 exact h.2 j hj hx
theorem Keep.then {m : Nat} {T T1 T2 : ze} (h : Keep m none T T1) (k : Keep m (some T.length) T1 T2) : Keep m none T T2 := by
 refine ⟨Nat.le_trans h.1 k.1, fun j hj _ => ?_⟩
 have h1 := h.2 j hj (by simp)
 have h2 := k.2 j (by have := h.1; omega) (by simp; omega)
 rcases h1 with h1 | ⟨hm, a, b, h1, h1'⟩ <;> rcases h2 with h2 | ⟨hm', c, d, h2, h2'⟩
 ·exact .inl (h2.trans h1)
 ·exact .inr ⟨hm', c, d, by rw [<- h1]; exact h2, h2'⟩
 ·exact .inr ⟨hm, a, b, h1, by rw [h2]; exact h1'⟩
 ·exact .inr ⟨hm, a, d, h1, h2'⟩
theorem vals_drop (B : List Bnd) (n : Nat) : zF (B.drop n) = (zF B).drop n := by simp [zF, List.map_drop]
theorem vals_len (B : List Bnd) : (zF B).length = B.length := by simp [zF]
theorem wt_mem' {x : Stmt} {l : List Stmt} (h : x ∈ l) (hw : wtSs l < capE) : wtS x < capE := by
 have := zSd h; omega
set_option maxHeartbeats 4000000 in
theorem vblock_of {p : Prog} {w : Nat} (hX : SpecS p w) : BlockSpec p w := by
 refine ⟨fun l S v T m r B loop hS hf ho hw hF hT => ?_⟩
 have hlen := zva l
 obtain ⟨es, he1, _, he2⟩ := hF.map
 have hg := zVd (v := v) (T := T) hS r
 rw [he1] at hg
 have hcl := clone_spec hg
 rw [zmd hS, zCc] at hcl
 have hF0 := FR_clone hF he1
 have hT0 := WT_clone hT he1
 refine zpa rfl rfl rfl (by simp [zh]) ?_
 have hsl := zmd (v := v) (T := T) hS
 -- the end: what is told
 have hend : ∀ (S1 : RS) (v1 : Int) (T1 : ze), FitS p S1 -> Keep m none T T1 -> (sto p S1 v1 T1).take (nb p + T.length) = sto p S1 v1 (T1.take T.length) /\ ze.wf (nb p + T.length) (sto p S1 v1 (T1.take T.length)) = true /\ nb p + T.length <= (sto p S1 v1 T1).length := by
  intro S1 v1 T1 h1 h2
  refine ⟨sto_take h1 _, sto_wf h1 (by omega) (h2.wf hT), ?_⟩
  rw [zmd h1]; have := h2.1; omega
 have hstop : ∀ (k : Int) (S1 : RS) (v1 : Int) (T1 : ze), Keep m none T T1 -> isBk p T m r B (.stop k, S1) (.pan (endV k)) (sto p S1 v1 (T1.take T.length)) := by
  intro k S1 v1 T1 h
  exact ⟨v1, _, rfl, rfl, h.take', by have := h.1; simp; omega, fun _ _ e => by cases e⟩
 have hok : ∀ (h : How) (S1 : RS) (v1 : Int) (T1 : ze) (B1 : List Bnd) (a : List (List UInt8 × Nat)), Keep m none T T1 -> (∀ n, h = .ret n -> v1 = n) -> FR p T1 m T.length B1 -> zib B1 = a ++ zib B →
   isBk p T m r B (.ok (h, (zF B1).drop ((zF B1).length - (zF B).length)), S1) (.ret (.int .i64 (howN h))) (sto p S1 v1 (T1.take T.length)) := by
  intro h S1 v1 T1 B1 a hk hv hF1 ha
  obtain ⟨q1, q2⟩ := FR_back hF hk hF1 ha (es := es)
  refine ⟨v1, _, rfl, rfl, hk.take', by have := hk.1; simp; omega, ?_⟩
  intro h' V1 e
  cases e
  refine ⟨hv, ⟨_, [], ?_, q1, q2, rfl⟩, ?_⟩
  ·rw [vals_drop, vals_len, vals_len]
  ·have := hk.wf hT
   unfold WT
   rw [List.length_take]
   have := hk.1
   rw [Nat.min_eq_left this]
   assumption
 have hrs : ∀ x ∈ l, ∀ S1 v1 T1 B1 loop, FitS p S1 -> S1.fuel <= w -> okS p (B1.map (·.name)) loop x -> FR p T1 m T.length B1 -> WT p T1 -> PC (zi E 120 [.ptr 1 0 0, zda x, .mp (nb p + T.length)] (sto p S1 v1 T1)) (isS p T1 m T.length B1 ((evF p w).stmt x (zF B1) S1)) := by
  intro x hx S1 v1 T1 B1 loop h1 h2 h3 h4 h5
  exact hX.stmt x S1 v1 T1 m T.length B1 loop h1 h2 h3 (wt_mem' hx hw) h4 h5
 have hr : T.length = T.length := rfl
 clear hX hg
 unfold capE at hw
 simp [*, F95, zh]
 refine zvb K95_0 B95_0 (fun c : BSt => c.rest.length) (fun c => [(14, .int .i64 ((l.length - c.rest.length : Nat) : Int))]) (fun c => []) (fun c => sto p c.S c.v c.T)
  (fun c => (∃ d, l = d ++ c.rest) /\ zFa (evF p w) l (zF B) S = zFa (evF p w) c.rest (zF c.B) c.S /\ FitS p c.S /\ c.S.fuel <= w /\ Keep m none T c.T /\ FR p c.T m T.length c.B /\ WT p c.T /\ (∃ a, zib c.B = a ++ zib B) /\ okB p (c.B.map (·.name)) loop c.rest) ⟨l, S, v, T ++ [.mp es], B⟩ ?_ ?_
 ·have hk0 : Keep m none T (T ++ [.mp es]) := ⟨by simp, fun j hj _ => .inl (List.getElem?_append_left hj)⟩
  simp [*]
 ·rintro ⟨rest, S1, v1, T1, B1⟩ s1 ⟨⟨d, d1⟩, d2, d3, d4, d5, d6, d7, ⟨a, d8⟩, d9⟩ g1 g2 g3 g4 g5
  simp at d1 d2 d3 d4 d5 d6 d7 d8 d9 g1 g2 g3 g4 g5
  obtain ⟨e1, e2, e3⟩ := hend S1 v1 T1 d3 d5
  cases rest with
  | nil =>
   have hi : ((l.length - 0 : Nat) : Int) = l.length := by simp
   have hb : zZ (evF p w) l (zF B) S = (.ok (.on, (zF B1).drop ((zF B1).length - (zF B).length)), S1) := by
    unfold zZ; rw [d2]; rfl
   rw [hb]
   have hfin := hok .on S1 v1 T1 B1 a d5 (fun _ h => by cases h) d6 d8
   simp [howN] at hfin
   clear hend hstop hok hrs d2 d3 d4 d5 d6 d7 d8 d9 hF0 hT0 hF hT hb he1 he2
   simp [*, fin]
  | cons x rest =>
   have hdl : l.length - (rest.length + 1) = d.length := by rw [d1]; simp
   have hdl2 : l.length - rest.length = d.length + 1 := by rw [d1]; simp; omega
   have hx : l[d.length]? = some x := by rw [d1]; simp
   have hlt : (d.length : Int) < l.length := by rw [d1]; simp; omega
   rw [okB] at d9
   have hc := hrs x (by rw [d1]; simp) S1 v1 T1 B1 loop d3 d4 d9.1 d6 d7
   have hm := ((zOd p w).stmt x (zF B1) S1)
   have hwr : zB .i64 ((d.length : Int) + 1) = (d.length : Int) + 1 := zj (by omega) (by omega)
   have d2' : zFa (evF p w) l (zF B) S = (match (evF p w).stmt x (zF B1) S1 with
    | (.ok (.on, V1), S2) => zFa (evF p w) rest V1 S2
    | (.ok (h, V1), S2) => (.ok (h, V1), S2)
    | (.stop k, S2) => (.stop k, S2)) := d2
   generalize (evF p w).stmt x (zF B1) S1 = q at *
   obtain ⟨y, S2⟩ := q
   obtain ⟨v2, T2, hc, hk2, hc2⟩ := isS_get hc
   rw [zb] at hc
   have d6' := d3.mono hm.1
   have d7' : S2.fuel <= w := Nat.le_trans hm.1.fuel d4
   have hkk : Keep m none T T2 := d5.then hk2
   obtain ⟨e4, e5, e6⟩ := hend S2 v2 T2 d6' hkk
   have hstop2 := fun k => hstop k S2 v2 T2 hkk
   have hok2 := fun h B2 a => hok h S2 v2 T2 B2 a hkk
   clear hrs hend hstop hok he1 he2 hF0 hT0 hF hT d5 hk2 d2 d3 d4 d6 d7 e1 e2 e3 hS hf ho hcl hsl
   cases y with
   | stop k =>
    simp only at d2'
    have hb : zZ (evF p w) l (zF B) S = (.stop k, S2) := by
     unfold zZ; rw [d2']
    rw [hb]
    have := hstop2 k
    simp [outH, zd, zh] at hc
    clear hc2 hok2 hstop2 d1 d8 d9 d2' hb hm hdl2
    simp [*, zb, zd, zh, finPan, endV_below]
   | ok y =>
    obtain ⟨h, V1⟩ := y
    obtain ⟨hv, ⟨B2, a2, b1, b2, b3, _⟩, hT2⟩ := hc2 h V1 rfl
    subst b1
    have hnm := (hm.2 h (zF B2) rfl).2
    rw [names_valsB, names_valsB] at hnm
    have b4 : ∃ a, zib B2 = a ++ zib B := ⟨a2 ++ a, by rw [b3, d8]; simp⟩
    have hfin : h ≠ .on -> isBk p T m r B (zZ (evF p w) l (zF B) S) (.ret (.int .i64 (howN h))) (sto p S2 v2 (T2.take T.length)) := by
     intro hne
     have hb : zZ (evF p w) l (zF B) S = (.ok (h, (zF B2).drop ((zF B2).length - (zF B).length)), S2) := by
      unfold zZ; rw [d2']
      cases h <;> first | exact absurd rfl hne | rfl
     rw [hb]
     obtain ⟨a3, b4⟩ := b4
     exact hok2 h B2 a3 hv b2 b4
    have d9' : okB p (B2.map (·.name)) loop rest := by rw [hnm]; exact d9.2
    clear hc2 hok2 hstop2 hv hm
    have hdd : ∃ d', l = d' ++ rest := ⟨d ++ [x], by rw [d1]; simp⟩
    cases h with
    | on =>
     simp [outH, howN, zd, zh] at hc
     simp only at d2'
     clear hfin d1 d8 d9 b3 hnm
     simp [*, zb, zd, zh]
     refine ⟨⟨rest, S2, v2, T2, B2⟩, ?_⟩
     simp [*]
    | brk =>
     replace hfin := hfin (by simp)
     simp [outH, howN, zd, zh] at hc hfin
     clear d1 d8 d9 b3 d2' hdd b4 d9'
     generalize zZ (evF p w) l (zF B) S = z at *
     simp [*, zb, zd, zh, fin]
    | cont =>
     replace hfin := hfin (by simp)
     simp [outH, howN, zd, zh] at hc hfin
     clear d1 d8 d9 b3 d2' hdd b4 d9'
     generalize zZ (evF p w) l (zF B) S = z at *
     simp [*, zb, zd, zh, fin]
    | ret n =>
     replace hfin := hfin (by simp)
     simp [outH, howN, zd, zh] at hc hfin
     clear d1 d8 d9 b3 d2' hdd b4 d9'
     generalize zZ (evF p w) l (zF B) S = z at *
     simp [*, zb, zd, zh, fin]
end PE.U

namespace PE.U
open Go PE
structure LSt where
 k : Nat
 S : RS
 v : Int
 T : ze
 B : List Bnd
structure LoopSpec (p : Prog) (w : Nat) : Prop where
 loop : ∀ s S v T m r B loop, FitS p S -> S.fuel <= w -> s.kind = 5 -> okS p (B.map (·.name)) loop s -> wtS s < capE -> FR p T m r B -> WT p T →
  PC (zi E 142 [.ptr 1 0 0, zda s, .mp (nb p + r)] (sto p S v T)) (isBk p T m r B (zQc (evF p w) (arg0 s.args) s.thn (w + 1) (zF B) S))
theorem arg0_one {l : List Expr} (h : l.length = 1) : l[0]? = some (arg0 l) /\ arg0 l ∈ l := by
 obtain ⟨x, rfl⟩ := List.length_eq_one_iff.1 h
 simp [arg0]
theorem isBk_ret {p : Prog} {T T1 : ze} {m r : Nat} {B B1 : List Bnd} {h : How} {S1 : RS} {v1 : Int} (hk : Keep m none T T1) (hl : T1.length = T.length) (hv : ∀ n, h = .ret n -> v1 = n) (hF : FR p T1 m r B1) (hT : WT p T1) (ha : zib B1 = zib B) :
  isBk p T m r B (.ok (h, zF B1), S1) (.ret (.int .i64 (howN h))) (sto p S1 v1 T1) :=
 ⟨v1, T1, rfl, rfl, hk, hl, fun h' V1 e => by cases e; exact ⟨hv, ⟨B1, [], rfl, hF, ha, rfl⟩, hT⟩⟩
theorem isBk_stop {p : Prog} {T T1 : ze} {m r : Nat} {B : List Bnd} {k : Int} {S1 : RS} {v1 : Int} (hk : Keep m none T T1) (hl : T1.length = T.length) :
  isBk p T m r B (.stop k, S1) (.pan (endV k)) (sto p S1 v1 T1) :=
 ⟨v1, T1, rfl, rfl, hk, hl, fun h' V1 e => by cases e⟩
set_option maxHeartbeats 4000000 in
theorem vloop_of {p : Prog} {w : Nat} (hE : SpecE p w) (hB : BlockSpec p w) : LoopSpec p w := by
 refine ⟨fun s S v T m r B loop hS hf hk ho hw hF hT => ?_⟩
 rw [okS_eq] at ho
 obtain ⟨_, o2, o3, _, _, _, o7, _⟩ := ho
 have hl1 : s.args.length = 1 := by rw [hk] at o2; simp [zQ] at o2; omega
 obtain ⟨g0, gm⟩ := arg0_one hl1
 have hwe := zAb gm
 rw [zJa] at hw
 have oe := okEs_mem o3 gm
 have hadd : zBc s = [] := if_neg (by omega)
 rw [hadd, List.nil_append] at o7
 clear o2 o3 gm
 generalize arg0 s.args = c0 at *
 have hex : ∀ S1 v1 T1 B1, FitS p S1 -> S1.fuel <= w -> zib B1 = zib B -> FR p T1 m r B1 -> WT p T1 -> PC (zi E 143 [.ptr 1 0 0, zw c0, .mp (nb p + r)] (sto p S1 v1 T1)) (isE p T1 ((evF p w).expr c0 (zF B1) S1)) := by
  intro S1 v1 T1 B1 h1 h2 h3 h4 h5
  exact hE.expr c0 S1 v1 T1 m r B1 h1 h2 (by rw [keysB_names h3]; exact oe) (by omega) h4 h5
 have hbl : ∀ S1 v1 T1 B1, FitS p S1 -> S1.fuel <= w -> zib B1 = zib B -> FR p T1 m r B1 -> WT p T1 -> PC (zi E 95 [.ptr 1 0 0, zh s.thn, .mp (nb p + r)] (sto p S1 v1 T1)) (isBk p T1 m r B1 (zZ (evF p w) s.thn (zF B1) S1)) := by
  intro S1 v1 T1 B1 h1 h2 h3 h4 h5
  exact hB.block s.thn S1 v1 T1 m r B1 _ h1 h2 (by rw [keysB_names h3]; exact o7) (by omega) h4 h5
 clear hE hB o7 oe hwe hw hl1
 refine zpa rfl rfl rfl (by simp [zb]) ?_
 simp [F142, zb, zd]
 refine zvb K142_0 B142_0 (fun c : LSt => c.S.fuel) (fun c => []) (fun c => []) (fun c => sto p c.S c.v c.T)
  (fun c => c.S.fuel < c.k /\ zQc (evF p w) c0 s.thn (w + 1) (zF B) S = zQc (evF p w) c0 s.thn c.k (zF c.B) c.S /\ FitS p c.S /\ c.S.fuel <= w /\ Keep m none T c.T /\ c.T.length = T.length /\ FR p c.T m r c.B /\ WT p c.T /\ zib c.B = zib B) ⟨w + 1, S, v, T, B⟩ ?_ ?_
 ·have := Keep.refl m none T
  have : S.fuel < w + 1 := by omega
  simp [*]
 ·rintro ⟨k, S1, v1, T1, B1⟩ s1 ⟨d1, d2, d3, d4, d5, d5', d6, d7, d8⟩ q1 q2 q3 q4 q5
  simp at d1 d2 d3 d4 d5 d5' d6 d7 d8 q1 q2 q3 q4 q5
  obtain ⟨k, rfl⟩ : ∃ k', k = k' + 1 := ⟨k - 1, by omega⟩
  have hc := hex S1 v1 T1 B1 d3 d4 d8 d6 d7
  have hm := (zOd p w).expr c0 (zF B1) S1
  have d2' : zQc (evF p w) c0 s.thn (w + 1) (zF B) S = (match (evF p w).expr c0 (zF B1) S1 with
   | (.stop j, S1) => (.stop j, S1)
   | (.ok n, S1) => if n = 0 then (.ok (.on, zF B1), S1) else
    match zZ (evF p w) s.thn (zF B1) S1 with
    | (.ok (.brk, V1), S2) => (.ok (.on, V1), S2)
    | (.ok (.ret m, V1), S2) => (.ok (.ret m, V1), S2)
    | (.ok (_, V1), S2) => zQc (evF p w) c0 s.thn k V1 S2
    | (.stop j, S2) => (.stop j, S2)) := d2
  generalize (evF p w).expr c0 (zF B1) S1 = q at *
  obtain ⟨a, S2⟩ := q
  obtain ⟨v2, hc⟩ := zXd hc
  rw [za] at hc
  obtain ⟨m1, m2⟩ := hm
  have e3 := d3.mono m1
  cases a with
  | stop j =>
   simp only at d2'
   have hfin := isBk_stop (p := p) (r := r) (B := B) (k := j) (S1 := S2) (v1 := v2) d5 d5'
   rw [<- d2'] at hfin
   simp [zd] at hc
   clear hex hbl d1 d2 d2' d3 d4 d5 d6 d7 d8 m1 m2 e3
   simp [*, za, zd]
  | ok n =>
   simp only at d2'
   replace m2 := m2 n rfl
   simp only at m2
   simp [zd] at hc
   by_cases hn : n = 0
   ·rw [if_pos hn] at d2'
    have hfin := isBk_ret (S1 := S2) (v1 := v2) (h := .on) d5 d5' (fun n h => by cases h) d6 d7 d8
    rw [<- d2'] at hfin
    simp [howN] at hfin
    replace hn := eqp hn
    clear hex hbl d1 d2 d2' d3 d4 d5 d6 d7 d8 m1 m2 e3
    generalize zQc (evF p w) c0 s.thn (w + 1) (zF B) S = z at *
    simp [*, za, zd]
   ·rw [if_neg hn] at d2'
    have hb := hbl S2 v2 T1 B1 e3 (Nat.le_trans m1.fuel d4) d8 d6 d7
    have hbm := (zKc (zOd p w) s.thn (zF B1) S2).1
    generalize zZ (evF p w) s.thn (zF B1) S2 = q at *
    obtain ⟨b, S3⟩ := q
    obtain ⟨v3, T3, hb, hk3, hl3, hb3⟩ := isBk_get hb
    have e5 := d5.trans hk3
    have e5' : T3.length = T.length := hl3.trans d5'
    have e4 := e3.mono hbm
    have f3 : S3.fuel <= w := Nat.le_trans hbm.fuel (Nat.le_trans m1.fuel d4)
    have f4 : S3.fuel < S1.fuel := by have := hbm.fuel; simp only at this; omega
    have f5 : S3.fuel < k := by omega
    replace hn := eqn hn
    clear hex hbl d2 d3 d4 d5 d5' d6 d7 hk3 hl3 m1 hbm e3
    cases b with
    | stop j =>
     simp only at d2'
     have hfin := isBk_stop (p := p) (r := r) (B := B) (k := j) (S1 := S3) (v1 := v3) e5 e5'
     rw [<- d2'] at hfin
     simp [outH] at hb
     clear hb3 d1 d2' e4 e5 e5' f3 f4 f5 d8 m2
     generalize zQc (evF p w) c0 s.thn (w + 1) (zF B) S = z at *
     simp [*, za, zd]
    | ok y =>
     obtain ⟨h, V1⟩ := y
     obtain ⟨hv, ⟨B3, a3, b1, b2, b3, b4⟩, hT3⟩ := hb3 h V1 rfl
     subst b1
     rw [b4, List.nil_append] at b3
     replace b3 := b3.trans d8
     clear hb3 b4 d1 d8 m2
     cases h with
     | on =>
      simp [outH, howN] at hb
      simp only at d2'
      clear hv
      simp [*, za, zd]
      refine ⟨⟨k, S3, v3, T3, B3⟩, ?_⟩
      simp [*]
     | cont =>
      simp [outH, howN] at hb
      simp only at d2'
      clear hv
      simp [*, za, zd]
      refine ⟨⟨k, S3, v3, T3, B3⟩, ?_⟩
      simp [*]
     | brk =>
      simp [outH, howN] at hb
      simp only at d2'
      have hfin := isBk_ret (S1 := S3) (v1 := v3) (h := .on) e5 e5' (fun n h => by cases h) b2 hT3 b3
      rw [<- d2'] at hfin
      simp [howN] at hfin
      clear d2' e4 e5 e5' f3 f4 f5 b2 hT3 b3 hv
      generalize zQc (evF p w) c0 s.thn (w + 1) (zF B) S = z at *
      simp [*, za, zd]
     | ret n' =>
      simp [outH, howN] at hb
      simp only at d2'
      have hfin := isBk_ret (S1 := S3) (v1 := v3) (h := .ret n') e5 e5' hv b2 hT3 b3
      rw [<- d2'] at hfin
      simp [howN] at hfin
      clear d2' e4 e5 e5' f3 f4 f5 b2 hT3 b3 hv
      generalize zQc (evF p w) c0 s.thn (w + 1) (zF B) S = z at *
      simp [*, za, zd]
theorem isS_of_isBk {p : Prog} {T : ze} {m r : Nat} {B : List Bnd} {q : Rt (How × Vs) × RS} {res : CRes} {st : ze} (h : isBk p T m r B q res st) : isS p T m r B q res st := by
 obtain ⟨v, T', e1, e2, h1, h2, h3⟩ := h
 refine ⟨v, T', e1, e2, h1.weaken, fun h V1 e => ?_⟩
 obtain ⟨g1, ⟨B1, a, g2, g3, g4, g5⟩, g6⟩ := h3 h V1 e
 exact ⟨g1, ⟨B1, a, g2, g3, g4, trivial⟩, g6⟩
theorem isS_stop {p : Prog} {T T1 : ze} {m r : Nat} {B : List Bnd} {k : Int} {S1 : RS} {v1 : Int} (hk : Keep m (some r) T T1) :
  isS p T m r B (.stop k, S1) (.pan (endV k)) (sto p S1 v1 T1) :=
 ⟨v1, T1, rfl, rfl, hk, fun h' V1 e => by cases e⟩
theorem isS_ret {p : Prog} {T T1 : ze} {m r : Nat} {B B1 : List Bnd} {h : How} {S1 : RS} {v1 : Int} (hk : Keep m (some r) T T1) (hv : ∀ n, h = .ret n -> v1 = n) (hF : FR p T1 m r B1) (hT : WT p T1) (ha : ∃ a, zib B1 = a ++ zib B) :
  isS p T m r B (.ok (h, zF B1), S1) (.ret (.int .i64 (howN h))) (sto p S1 v1 T1) :=
 ⟨v1, T1, rfl, rfl, hk, fun h' V1 e => by cases e; obtain ⟨a, ha⟩ := ha; exact ⟨hv, ⟨B1, a, rfl, hF, ha, trivial⟩, hT⟩⟩
theorem FR_app {p : Prog} {T L : ze} {m r : Nat} {B : List Bnd} (hF : FR p T m r B) : FR p (T ++ L) m r B := by
 obtain ⟨es, h1, hs, h2⟩ := hF.map
 refine ⟨⟨es, by rw [List.getElem?_append_left (List.getElem?_eq_some_iff.1 h1).1]; exact h1, hs, h2⟩, ?_, hF.nd, hF.lo⟩
 intro b hb
 obtain ⟨h3, h4⟩ := hF.val b hb
 exact ⟨by rw [List.getElem?_append_left (List.getElem?_eq_some_iff.1 h3).1]; exact h3, h4⟩
theorem WT_box {p : Prog} {T : ze} (n : Int) (hT : WT p T) : WT p (T ++ [boxO n]) := by
 unfold WT
 rw [wf_app, Bool.and_eq_true]
 exact ⟨wf_le (by simp) hT, by simp [ze.wf, boxO, Obj.below]⟩
theorem Keep_app {m : Nat} {ex : Option Nat} {T L : ze} : Keep m ex T (T ++ L) := ⟨by simp, fun j hj _ => .inl (List.getElem?_append_left hj)⟩
theorem FR_set {p : Prog} {T : ze} {m r : Nat} {B : List Bnd} {nm : List UInt8} {b : Bnd} (n : Int) (hF : FR p T m r B) (hb : zcd nm B = some b) : FR p (T.set b.box (boxO n)) m r (setB nm n B) := by
 obtain ⟨es, h1, hs, h2⟩ := hF.map
 obtain ⟨bm, bn⟩ := lookB_mem hb
 have hbb := (hF.val b bm).1
 have hne : r ≠ b.box := by rintro rfl; rw [h1] at hbb; simp [boxO] at hbb
 refine ⟨⟨es, ?_, hs, fun x => ?_⟩, ?_, ?_, hF.lo⟩
 ·rw [List.getElem?_set_ne (Ne.symm hne)]; exact h1
 ·rw [h2]
  have := lookB_box (keys_set nm n B) x
  congr 1
  have e1 : ∀ C : List Bnd, (zcd x C).map (fun b => PV.ptr (nb p + b.box) 0 0) = ((zcd x C).map (·.box)).map (fun i => PV.ptr (nb p + i) 0 0) := fun C => by rw [Option.map_map]; rfl
  rw [e1, e1, this]
 ·have hnd := hF.nd
  have hval := hF.val
  have hlt : b.box < T.length := (List.getElem?_eq_some_iff.1 hbb).1
  clear hF h1 h2 hs hne hbb bm
  intro c hc
  induction B with
  | nil => cases hc
  | cons d q ih =>
   simp only [zcd] at hb
   simp only [setB] at hc
   simp only [List.map_cons, List.nodup_cons] at hnd
   split at hb
   ·rename_i hd
    cases hb
    rw [if_pos hd] at hc
    rcases List.mem_cons.1 hc with rfl | hc
    ·exact ⟨by rw [List.getElem?_set_self hlt], (hval b (by simp)).2⟩
    ·obtain ⟨v1, v2⟩ := hval c (by simp [hc])
     have : b.box ≠ c.box := fun e => hnd.1 (List.mem_map.2 ⟨c, hc, e.symm⟩)
     exact ⟨by rw [List.getElem?_set_ne this]; exact v1, v2⟩
   ·rename_i hd
    rw [if_neg hd] at hc
    rcases List.mem_cons.1 hc with rfl | hc
    ·obtain ⟨v1, v2⟩ := hval c (by simp)
     have : b.box ≠ c.box := fun e => hnd.1 (List.mem_map.2 ⟨b, (lookB_mem hb).1, e⟩)
     exact ⟨by rw [List.getElem?_set_ne this]; exact v1, v2⟩
    ·exact ih hb hnd.2 (fun z hz => hval z (by simp [hz])) hc
 ·have := hF.nd
  have e : (setB nm n B).map (·.box) = B.map (·.box) := by
   have := congrArg (List.map Prod.snd) (keys_set nm n B)
   simpa [zib, List.map_map, Function.comp_def] using this
  rw [e]; exact this
theorem wf_set {n j : Nat} {T : ze} {o : Obj} (hT : ze.wf n T = true) (ho : o.below n = true) : ze.wf n (T.set j o) = true := by
 unfold ze.wf at hT ⊢
 rw [List.all_eq_true] at hT ⊢
 intro x hx
 rcases List.mem_or_eq_of_mem_set hx with h | rfl
 ·exact hT x h
 ·exact ho
theorem WT_set {p : Prog} {T : ze} {j : Nat} {n : Int} (hT : WT p T) : WT p (T.set j (boxO n)) := by
 unfold WT
 rw [List.length_set]
 exact wf_set hT (by simp [boxO, Obj.below])
theorem Keep_set {m : Nat} {ex : Option Nat} {T : ze} {j : Nat} {a n : Int} (h : T[j]? = some (boxO a)) (hm : m <= j) : Keep m ex T (T.set j (boxO n)) := by
 refine ⟨by simp, fun i hi _ => ?_⟩
 by_cases e : j = i
 ·subst e
  exact .inr ⟨hm, a, n, h, by rw [List.getElem?_set_self hi]⟩
 ·exact .inl (List.getElem?_set_ne e)
theorem zsd (nm : List UInt8) (u : PV) : ∀ (es : List (PV × PV)), strK es -> ∃ es', zLb true (.str nm) u es = some es' /\ strK es' /\ (∀ n, zad n es = true -> zy n u = true -> zad n es' = true) /\ ∀ x, zV true (.str x) es' = if nm = x then some (some u) else zV true (.str x) es
 | [], _ => ⟨_, rfl, fun q h => by simp at h; exact ⟨nm, by rw [h]⟩, fun n _ h => by simp [zad, h], fun x => by by_cases h : nm = x <;> simp [zV, zRc, h, eq_comm]⟩
 | (k, u0) :: r, hk => by
  obtain ⟨s, hs⟩ := hk (k, u0) (by simp)
  simp only at hs
  subst hs
  by_cases hs : nm = s
  ·subst hs
   refine ⟨(.str nm, u) :: r, by simp [zLb, zRc], ?_, ?_, fun x => ?_⟩
   ·intro q hq
    rcases List.mem_cons.1 hq with rfl | hq
    ·exact ⟨nm, rfl⟩
    ·exact hk q (by simp [hq])
   ·intro n h1 h2
    simp [zad] at h1 ⊢
    exact ⟨h2, h1.2⟩
   ·by_cases hx : nm = x
    ·subst hx; simp [zV, zRc]
    ·have hx' : ¬ x = nm := fun e => hx e.symm
     rw [if_neg hx]
     simp [zV, zRc, hx']
  ·obtain ⟨es', e1, e2, e3, e4⟩ := zsd nm u r (fun q hq => hk q (by simp [hq]))
   refine ⟨(.str s, u0) :: es', by simp [zLb, zRc, hs, e1], ?_, ?_, fun x => ?_⟩
   ·intro q hq
    rcases List.mem_cons.1 hq with rfl | hq
    ·exact ⟨s, rfl⟩
    ·exact e2 q hq
   ·intro n h1 h2
    simp [zad] at h1 ⊢
    exact ⟨h1.1, e3 n h1.2 h2⟩
   ·by_cases hx : x = s
    ·subst hx
     rw [if_neg hs]
     simp [zV, zRc]
    ·simp [zV, zRc, hx, e4]
theorem FR_let {p : Prog} {T : ze} {m r : Nat} {B : List Bnd} {nm : List UInt8} {n : Int} (hF : FR p T m r B) (hT : WT p T) (hm : m <= T.length) : ∃ es es', T[r]? = some (.mp es) /\ zLb true (.str nm) (.ptr (nb p + T.length) 0 0) es = some es' ∧
  FR p ((T ++ [boxO n]).set r (.mp es')) m r (⟨nm, T.length, n⟩ :: B) /\ WT p ((T ++ [boxO n]).set r (.mp es')) /\ Keep m (some r) T ((T ++ [boxO n]).set r (.mp es')) := by
 obtain ⟨es, h1, hs, h2⟩ := hF.map
 have hr := (List.getElem?_eq_some_iff.1 h1).1
 obtain ⟨es', e1, e2, e3, e4⟩ := zsd nm (.ptr (nb p + T.length) 0 0) es hs
 refine ⟨es, es', h1, e1, ⟨⟨es', ?_, e2, fun x => ?_⟩, ?_, ?_, hF.lo⟩, ?_, ?_⟩
 ·rw [List.getElem?_set_self (by simp; omega)]
 ·rw [e4]
  by_cases hx : nm = x
  ·simp [hx, zcd]
  ·rw [if_neg hx, h2]; simp [hx, zcd]
 ·intro b hb
  rcases List.mem_cons.1 hb with rfl | hb
  ·refine ⟨?_, hm⟩
   rw [List.getElem?_set_ne (by simp only; omega), List.getElem?_append_right (Nat.le_refl _)]
   simp
  ·obtain ⟨h3, h4⟩ := hF.val b hb
   have hlt := (List.getElem?_eq_some_iff.1 h3).1
   have hne : r ≠ b.box := by rintro rfl; rw [h1] at h3; simp [boxO] at h3
   exact ⟨by rw [List.getElem?_set_ne hne, List.getElem?_append_left hlt]; exact h3, h4⟩
 ·simp only [List.map_cons, List.nodup_cons]
  refine ⟨?_, hF.nd⟩
  intro h
  obtain ⟨b, hb, e⟩ := List.mem_map.1 h
  have := (List.getElem?_eq_some_iff.1 (hF.val b hb).1).1
  omega
 ·unfold WT
  rw [List.length_set]
  refine wf_set (WT_box n hT) ?_
  have : (Obj.mp es).below (nb p + T.length) = true := by
   have hT' := hT
   unfold WT ze.wf at hT'
   rw [List.all_eq_true] at hT'
   exact hT' _ (List.mem_of_getElem? h1)
  exact e3 _ (belowP_le (by simp) es this) (by simp)
 ·refine ⟨by simp, fun j hj hne => .inl ?_⟩
  have hne : r ≠ j := fun e => hne (by rw [e])
  rw [List.getElem?_set_ne hne, List.getElem?_append_left hj]
theorem arg1_two {l : List Expr} (h : l.length = 2) : l[1]? = some (arg1 l) /\ arg1 l ∈ l /\ l[0]? = some (arg0 l) /\ arg0 l ∈ l := by
 match l, h with
 | [x, y], _ => simp [arg0, arg1]
theorem put_row {p : Prog} {S : RS} {v : Int} {T : ze} {i : Nat} {l : List Int} (h : S.arrs[i]? = some l) (k : Nat) (m : Int) : (sto p S v T).set (i + 2) (.arr 1 ((l.map (PV.int .i64)).set k (.int .i64 m))) = sto p { S with arrs := S.arrs.set i (l.set k m) } v T := by
 have : (l.map (PV.int .i64)).set k (.int .i64 m) = (l.set k m).map (PV.int .i64) := by rw [List.map_set]
 rw [this]
 exact sto_setrow h _
theorem set_out {p : Prog} {S : RS} {v : Int} {T : ze} (l : List Int) : (sto p S v T).set 1 (.arr 10 [.agg [zka p.arrays, funcs p.funcs, ints S.inp, .mp 0, .int .i64 0, .int .i64 0, acc 1 (l.map (PV.int .i64)), .int .i64 S.cost, .int .i64 S.fuel, .int .i64 v]]) = sto p { S with out := l } v T := rfl
set_option maxHeartbeats 8000000 in
theorem vstmt_of {p : Prog} (hP : OkP p) {w : Nat} (hE : SpecE p w) (hB : BlockSpec p w) : SpecS p (w + 1) := by
 refine ⟨fun s S v T m r B loop hS hf ho hw hF hT => ?_⟩
 have hL := vloop_of hE hB
 have hstep := step_spec p S v T (by have := hS.2; omega)
 have hoe := ho
 rw [okS_eq] at ho
 obtain ⟨⟨o0, o0'⟩, o2, o3, o4, o5, o6, o7, o8⟩ := ho
 have hws := hw
 rw [zJa] at hw
 refine zpa rfl rfl rfl (by simp [zb]) ?_
 simp only [evF]
 cases hfu : S.fuel with
 | zero =>
  rw [hfu] at hstep
  have hfin := isS_stop (p := p) (B := B) (k := 0) (S1 := S) (v1 := v) (Keep.refl m (some r) T)
  clear o0 o0' o2 o3 o4 o5 o6 o7 o8 hoe
  simp [*, F120, zb, zd, zh]
 | succ k =>
  rw [hfu] at hstep
  simp only at hstep ⊢
  have hS0 : FitS p { S with fuel := k } := hS.mono ⟨by simp only; omega, by simp only; omega, rfl⟩
  have hf0 : ({ S with fuel := k } : RS).fuel <= w := by simp only; omega
  generalize hSS : ({ S with fuel := k } : RS) = S0 at *
  clear hSS hfu hf hS
  have hkr := Keep.refl m (some r) T
  unfold stmtW
  by_cases k5 : s.kind = 5
  ·rw [if_pos k5]
   have hc := hL.loop s S0 v T m r B loop hS0 hf0 k5 hoe hws hF hT
   replace k5 := eqp k5
   generalize zQc (evF p w) (arg0 s.args) s.thn (w + 1) (zF B) S0 = q at *
   obtain ⟨v1, T1, h1, h2, h3, h4⟩ := isBk_get hc
   have hfin : isS p T m r B q (outH q.1) (sto p q.2 v1 T1) := isS_of_isBk ⟨v1, T1, rfl, rfl, h2, h3, h4⟩
   obtain ⟨a, S1⟩ := q
   rw [zb] at h1
   simp [zd, zh] at h1 hfin
   clear o0 o0' o2 o3 o4 o5 o6 o7 o8 hoe hL hE hB hP hF hT h2 h3 h4 hkr hw hws
   cases a with
   | stop j => simp [outH] at h1 hfin; simp [*, F120, zb, zd, zh]
   | ok y => simp [outH] at h1 hfin; simp [*, F120, zb, zd, zh]
  rw [if_neg k5]
  by_cases k6 : s.kind = 6
  ·rw [if_pos k6]
   have hfin := isS_ret (B := B) (h := .brk) (S1 := S0) (v1 := v) hkr (fun n h => by cases h) hF hT ⟨[], rfl⟩
   simp [howN] at hfin
   replace k5 := eqn k5
   replace k6 := eqp k6
   clear o0 o0' o2 o3 o4 o5 o6 o7 o8 hoe hL hE hB hP hF hT hkr hw hws
   simp [*, F120, zb, zd, zh]
  rw [if_neg k6]
  by_cases k7 : s.kind = 7
  ·rw [if_pos k7]
   have hfin := isS_ret (B := B) (h := .cont) (S1 := S0) (v1 := v) hkr (fun n h => by cases h) hF hT ⟨[], rfl⟩
   simp [howN] at hfin
   replace k5 := eqn k5
   replace k6 := eqn k6
   replace k7 := eqp k7
   clear o0 o0' o2 o3 o4 o5 o6 o7 o8 hoe hL hE hB hP hF hT hkr hw hws
   simp [*, F120, zb, zd, zh]
  rw [if_neg k7]
  have hl1 : 1 <= (s.args.length : Int) := by
   rw [o2]; unfold zQ
   repeat' (first | rw [if_neg (by omega)] | split)
   all_goals (first | decide | (simp; done) | omega)
  have gm := arg0_mem hl1
  have g0 : s.args[0]? = some (arg0 s.args) := by
   revert hl1
   cases s.args with
   | nil => intro h; simp at h
   | cons x r => intro _; rfl
  have hwe := zAb gm
  have hc := hE.expr (arg0 s.args) S0 v T m r B hS0 hf0 (okEs_mem o3 gm) (by omega) hF hT
  have hm := (zOd p w).expr (arg0 s.args) (zF B) S0
  generalize he0 : arg0 s.args = x0 at *
  generalize (evF p w).expr x0 (zF B) S0 = q at *
  obtain ⟨a, S1⟩ := q
  obtain ⟨v1, hc⟩ := zXd hc
  rw [za] at hc
  obtain ⟨m1, _⟩ := hm
  have hS1 := hS0.mono m1
  have hf1 : S1.fuel <= w := Nat.le_trans m1.fuel hf0
  replace k5 := eqn k5
  replace k6 := eqn k6
  replace k7 := eqn k7
  cases a with
  | stop j =>
   have hfin := isS_stop (p := p) (B := B) (k := j) (S1 := S1) (v1 := v1) hkr
   simp [zd] at hc
   clear o0 o0' o2 o3 o4 o5 o6 o7 o8 hoe hL hE hB hP hF hT hkr hw hws hl1 gm hwe m1 hS1 hf1 he0
   simp [*, F120, zb, za, zd, zh]
  | ok n =>
   simp only
   simp [zd] at hc
   -- the box
   have hlen := zmd (v := v1) (T := T) hS1
   have hget : (sto p S1 v1 (T ++ [.arr 1 [.int .i64 0]]))[nb p + T.length]? = some (.arr 1 [.int .i64 0]) := by
    rw [zVd hS1]; simp
   have hset : (sto p S1 v1 (T ++ [.arr 1 [.int .i64 0]])).set (nb p + T.length) (.arr 1 [.int .i64 n]) = sto p S1 v1 (T ++ [boxO n]) := by
    rw [sto_set hS1, List.set_append_right _ _ (Nat.le_refl _)]; simp [boxO]
   have hread : ∀ S2 v2, FitS p S2 -> (sto p S2 v2 (T ++ [boxO n]))[nb p + T.length]? = some (.arr 1 [.int .i64 n]) := by
    intro S2 v2 h
    rw [zVd h]; simp [boxO]
   have hr1 := hread S1 v1 hS1
   have hFb := FR_app (L := [boxO n]) hF
   have hTb := WT_box n hT
   have hKb : Keep m (some r) T (T ++ [boxO n]) := Keep_app
   unfold zPc
   by_cases k1 : s.kind = 1
   ·rw [if_pos k1]
    obtain ⟨es, es', e1, e2, e3, e4, e5⟩ := FR_let (nm := s.name) (n := n) hF hT (by have := hF.lo; have := hF.lt; omega)
    have hgm : (sto p S1 v1 (T ++ [boxO n]))[nb p + r]? = some (.mp es) := by
     rw [zVd hS1, List.getElem?_append_left hF.lt]; exact e1
    have hsm : (sto p S1 v1 (T ++ [boxO n])).set (nb p + r) (.mp es') = sto p S1 v1 ((T ++ [boxO n]).set r (.mp es')) := sto_set hS1 _ _
    have hfin := isS_ret (B := B) (h := .on) (S1 := S1) (v1 := v1) e5 (fun n h => by cases h) e3 e4 ⟨[(s.name, T.length)], rfl⟩
    simp only [howN, zF, List.map_cons] at hfin
    replace k1 := eqp k1
    clear o0 o0' o2 o3 o4 o5 o6 o7 o8 hoe hL hE hB hP hF hT hkr hw hws hl1 gm hwe m1 hS1 hf1 he0 hread hr1 hFb hTb hKb e1 e3 e4 e5
    generalize ((T ++ [boxO n]).set r (.mp es')) = T9 at *
    generalize T ++ [boxO n] = T8 at *
    simp [*, F120, zb, za, zd, zh, zCc, zF]
   rw [if_neg k1]
   by_cases k2 : s.kind = 2
   ·rw [if_pos k2]
    obtain ⟨es, b, e1, e2, e3, e4⟩ := hFb.look (o4 k2)
    have hgm : (sto p S1 v1 (T ++ [boxO n]))[nb p + r]? = some (.mp es) := by rw [zVd hS1]; exact e1
    have hgb : (sto p S1 v1 (T ++ [boxO n]))[nb p + b.box]? = some (.arr 1 [.int .i64 (getV s.name (zF B))]) := by rw [zVd hS1]; exact e3
    have hsm : (sto p S1 v1 (T ++ [boxO n])).set (nb p + b.box) (.arr 1 [.int .i64 n]) = sto p S1 v1 ((T ++ [boxO n]).set b.box (boxO n)) := sto_set hS1 _ _
    have hfin := isS_ret (B := B) (h := .on) (S1 := S1) (v1 := v1) (hKb.trans (Keep_set (n := n) e3 (hFb.val b (lookB_mem e4).1).2)) (fun n h => by cases h) (FR_set n hFb e4) (WT_set hTb) ⟨[], keys_set _ _ _⟩
    rw [vals_set] at hfin
    simp only [howN] at hfin
    replace k1 := eqn k1
    replace k2 := eqp k2
    clear o0 o0' o2 o3 o4 o5 o6 o7 o8 hoe hL hE hB hP hF hT hkr hw hws hl1 gm hwe m1 hS1 hf1 he0 hread hFb hTb hKb e1 e3 e4
    generalize ((T ++ [boxO n]).set b.box (boxO n)) = T9 at *
    generalize T ++ [boxO n] = T8 at *
    simp [*, F120, zb, za, zd, zh, zCc]
   rw [if_neg k2]
   by_cases k3 : s.kind = 3
   ·rw [if_pos k3]
    have hl2 : s.args.length = 2 := by rw [k3] at o2; simp [zQ] at o2; omega
    obtain ⟨g1, gm1, _, _⟩ := arg1_two hl2
    have hwe1 := zAb gm1
    have hc1 := hE.expr (arg1 s.args) S1 v1 (T ++ [boxO n]) m r B hS1 hf1 (okEs_mem o3 gm1) (by omega) hFb hTb
    have hm1 := (zOd p w).expr (arg1 s.args) (zF B) S1
    generalize arg1 s.args = x1 at *
    generalize (evF p w).expr x1 (zF B) S1 = q at *
    obtain ⟨a, S2⟩ := q
    obtain ⟨v2, hc1⟩ := zXd hc1
    rw [za] at hc1
    have hS2 := hS1.mono hm1.1
    replace k1 := eqn k1
    replace k2 := eqn k2
    replace k3 := eqp k3
    cases a with
    | stop j =>
     have hfin := isS_stop (p := p) (B := B) (k := j) (S1 := S2) (v1 := v2) hKb
     simp [zd] at hc1
     clear o0 o0' o2 o3 o4 o5 o6 o7 o8 hoe hL hE hB hP hF hT hkr hw hws hl1 gm hwe m1 hS1 hf1 he0 hread hFb hTb hKb hl2 gm1 hwe1 hm1 hS2
     generalize T ++ [boxO n] = T8 at *
     simp [*, F120, zb, za, zd, zh, zCc]
    | ok y =>
     simp only
     simp [zd] at hc1
     obtain ⟨i, row, a1, a2, a3, a4⟩ := arr_at hS2.cost (o5 (of_eq_true k3))
     have hcell := cell_spec (p := p) (v := v2) (T := T ++ [boxO n]) n a3 a4
     have hrow := sto_row (p := p) (v := v2) (T := T ++ [boxO n]) a3
     have hr2 := hread (zaa S2) v2 hS2.cost
     unfold putAt
     rw [a1]
     simp only [Int.toNat_natCast, a3, Option.bind_some]
     by_cases hx : 0 <= n /\ n < row.length
     ·rw [if_pos hx] at hcell
      rw [if_neg (by omega), if_pos (by omega)]
      have hlt : n.toNat < row.length := by omega
      obtain ⟨z, hz⟩ : ∃ z, row[n.toNat]? = some z := ⟨_, List.getElem?_eq_getElem hlt⟩
      have hput := put_row (p := p) (v := v2) (T := T ++ [boxO n]) a3 n.toNat y
      have hfin := isS_ret (B := B) (h := .on) (S1 := { zaa S2 with arrs := (zaa S2).arrs.set i (row.set n.toNat y) }) (v1 := v2) hKb (fun n h => by cases h) hFb hTb ⟨[], rfl⟩
      simp only [howN] at hfin
      clear o0 o0' o2 o3 o4 o5 o6 o7 o8 hoe hL hE hB hP hF hT hkr hw hws hl1 gm hwe m1 hS1 hf1 he0 hread hFb hTb hKb hl2 gm1 hwe1 hm1 hS2 hx hlt a1 a2 a3 a4
      generalize T ++ [boxO n] = T8 at *
      simp [*, F120, zb, za, zd, zh, zCc]
     ·rw [if_neg hx] at hcell
      have hnone : (if n < 0 then none else if n.toNat < row.length then some { zaa S2 with arrs := (zaa S2).arrs.set i (row.set n.toNat y) } else none : Option RS) = none := by
       split
       ·rfl
       ·rw [if_neg (by omega)]
      rw [hnone]
      have hfin := isS_stop (p := p) (B := B) (k := 3) (S1 := zaa S2) (v1 := v2) hKb
      clear o0 o0' o2 o3 o4 o5 o6 o7 o8 hoe hL hE hB hP hF hT hkr hw hws hl1 gm hwe m1 hS1 hf1 he0 hread hFb hTb hKb hl2 gm1 hwe1 hm1 hS2 hx a1 a2 a3 a4 hnone hrow
      generalize T ++ [boxO n] = T8 at *
      simp [*, F120, zb, za, zd, zh, zCc]
   rw [if_neg k3]
   by_cases k4 : s.kind = 4
   ·rw [if_pos k4]
    have hadd : zBc s = [] := if_neg k1
    rw [hadd, List.nil_append] at o7 o8
    have hblk : ∀ l, (l = s.els \/ l = s.thn) -> PC (zi E 95 [.ptr 1 0 0, zh l, .mp (nb p + r)] (sto p S1 v1 (T ++ [boxO n]))) (isBk p (T ++ [boxO n]) m r B (zZ (evF p w) l (zF B) S1)) := by
     rintro l (rfl | rfl)
     ·exact hB.block _ S1 v1 _ m r B _ hS1 hf1 o8 (by omega) hFb hTb
     ·exact hB.block _ S1 v1 _ m r B _ hS1 hf1 o7 (by omega) hFb hTb
    have hfinB : ∀ q v2 T2, Keep m none (T ++ [boxO n]) T2 -> T2.length = (T ++ [boxO n]).length -> (∀ h V1, q.1 = .ok (h, V1) -> (∀ n, h = .ret n -> v2 = n) /\ BkR p (T ++ [boxO n]) T2 m r B V1 (fun a => a = [])) -> isS p T m r B q (outH q.1) (sto p q.2 v2 T2) := by
     intro q v2 T2 h1 h2 h3
     refine ⟨v2, T2, rfl, rfl, hKb.trans h1.weaken, fun h V1 e => ?_⟩
     obtain ⟨g1, ⟨B1, a, g2, g3, g4, g5⟩, g6⟩ := h3 h V1 e
     exact ⟨g1, ⟨B1, a, g2, g3, g4, trivial⟩, g6⟩
    have hc2 := hblk (if n = 0 then s.els else s.thn) (by split <;> simp)
    replace k1 := eqn k1
    replace k2 := eqn k2
    replace k3 := eqn k3
    replace k4 := eqp k4
    clear o0 o0' o2 o3 o4 o5 o6 o7 o8 hoe hL hE hB hP hF hT hkr hw hws hl1 gm hwe m1 hS1 hf1 he0 hread hFb hTb hblk
    by_cases hn : n = 0
    ·rw [if_pos hn] at hc2 ⊢
     generalize zZ (evF p w) s.els (zF B) S1 = q at *
     obtain ⟨v2, T2, h1, h2, h3, h4⟩ := isBk_get hc2
     have hfin := hfinB q v2 T2 h2 h3 h4
     replace hn := eqp hn
     clear hfinB h2 h3 h4 hKb hc2
     obtain ⟨a, S2⟩ := q
     simp only at h1 hfin
     generalize T ++ [boxO n] = T8 at *
     simp [zh] at h1
     cases a <;> simp [outH] at h1 hfin <;> simp [*, F120, zb, za, zd, zh, zCc]
    ·rw [if_neg hn] at hc2 ⊢
     generalize zZ (evF p w) s.thn (zF B) S1 = q at *
     obtain ⟨v2, T2, h1, h2, h3, h4⟩ := isBk_get hc2
     have hfin := hfinB q v2 T2 h2 h3 h4
     replace hn := eqn hn
     clear hfinB h2 h3 h4 hKb hc2
     obtain ⟨a, S2⟩ := q
     simp only at h1 hfin
     generalize T ++ [boxO n] = T8 at *
     simp [zh] at h1
     cases a <;> simp [outH] at h1 hfin <;> simp [*, F120, zb, za, zd, zh, zCc]
   rw [if_neg k4]
   by_cases k8 : s.kind = 8
   ·rw [if_pos k8]
    have hfin := isS_ret (B := B) (h := .ret n) (S1 := S1) (v1 := n) hKb (fun z h => by cases h; rfl) hFb hTb ⟨[], rfl⟩
    simp only [howN] at hfin
    replace k1 := eqn k1
    replace k2 := eqn k2
    replace k3 := eqn k3
    replace k4 := eqn k4
    replace k8 := eqp k8
    clear o0 o0' o2 o3 o4 o5 o6 o7 o8 hoe hL hE hB hP hF hT hkr hw hws hl1 gm hwe m1 hS1 hf1 he0 hread hFb hTb hKb
    generalize T ++ [boxO n] = T8 at *
    simp [*, F120, zb, za, zd, zh, zCc]
   rw [if_neg k8]
   by_cases k9 : s.kind = 9
   ·rw [if_pos k9]
    have hfin := isS_ret (B := B) (h := .on) (S1 := { zaa S1 with out := S1.out ++ [n] }) (v1 := v1) hKb (fun z h => by cases h) hFb hTb ⟨[], rfl⟩
    simp only [howN] at hfin
    have hr2 := hread (zaa S1) v1 hS1.cost
    have hso := set_out (p := p) (S := zaa S1) (v := v1) (T := T ++ [boxO n]) (S1.out ++ [n])
    have hroom : (S1.out.length + 1) * 8 <= zu := by have := hS1.2; simp only at this; simp only [zu]; omega
    have hr3 : ∀ X, ((sto p (zaa S1) v1 (T ++ [boxO n])).set 1 X)[nb p + T.length]? = some (.arr 1 [.int .i64 n]) := by
     intro X
     rw [List.getElem?_set_ne (by unfold nb; omega)]; exact hr2
    have hr4 : ∀ X, ((sto p (zaa S1) v1 (T ++ [boxO n])).set 1 X)[1]? = some X := by
     intro X
     rw [List.getElem?_set_self (by rw [zmd hS1.cost]; unfold nb; omega)]
    have hao : acc 1 ((S1.out ++ [n]).map (PV.int .i64)) = .slice .own 1 (S1.out.map (PV.int .i64) ++ [.int .i64 n]) := by
     rw [acc_ne (by simp)]; simp
    have hio : isOwn (acc 1 (S1.out.map (PV.int .i64) ++ [.int .i64 n])) = some (1, S1.out.map (PV.int .i64) ++ [.int .i64 n]) := by
     rw [acc_ne (by simp)]; rfl
    rw [hao] at hso
    have hco : (zaa S1).out = S1.out := rfl
    replace k1 := eqn k1
    replace k2 := eqn k2
    replace k3 := eqn k3
    replace k4 := eqn k4
    replace k8 := eqn k8
    replace k9 := eqp k9
    clear o0 o0' o2 o3 o4 o5 o6 o7 o8 hoe hL hE hB hP hF hT hkr hw hws hl1 gm hwe m1 hS1 hf1 he0 hread hFb hTb hKb hao hr1 hr2
    generalize T ++ [boxO n] = T8 at *
    simp [*, F120, zb, za, zd, zh, zCc]
   rw [if_neg k9]
   have hfin := isS_ret (B := B) (h := .on) (S1 := S1) (v1 := v1) hKb (fun z h => by cases h) hFb hTb ⟨[], rfl⟩
   simp only [howN] at hfin
   replace k1 := eqn k1
   replace k2 := eqn k2
   replace k3 := eqn k3
   replace k4 := eqn k4
   replace k8 := eqn k8
   replace k9 := eqn k9
   clear o0 o0' o2 o3 o4 o5 o6 o7 o8 hoe hL hE hB hP hF hT hkr hw hws hl1 gm hwe m1 hS1 hf1 he0 hread hFb hTb hKb
   generalize T ++ [boxO n] = T8 at *
   simp [*, F120, zb, za, zd, zh, zCc]
theorem spec0 (p : Prog) : SpecE p 0 /\ SpecS p 0 := by
 constructor
 ·refine ⟨fun e S v T m r B hS hf ho hw hF hT => ?_⟩
  have h0 : S.fuel = 0 := by omega
  have hstep := step_spec p S v T (by omega)
  rw [h0] at hstep
  refine zpa rfl rfl rfl (by simp [za]) ?_
  simp only [evF]
  clear ho hF
  simp [*, F143, za, zd]
 ·refine ⟨fun s S v T m r B loop hS hf ho hw hF hT => ?_⟩
  have h0 : S.fuel = 0 := by omega
  have hstep := step_spec p S v T (by omega)
  rw [h0] at hstep
  have hfin := isS_stop (p := p) (B := B) (k := 0) (S1 := S) (v1 := v) (Keep.refl m (some r) T)
  refine zpa rfl rfl rfl (by simp [zb]) ?_
  simp only [evF]
  clear ho hF
  simp [*, F120, zb, zd, zh]
theorem specs {p : Prog} (hP : OkP p) : ∀ w, SpecE p w /\ SpecS p w
 | 0 => spec0 p
 | w + 1 => by
  obtain ⟨h1, h2⟩ := specs hP w
  have hB := vblock_of h2
  exact ⟨vexpr_of hP h1 hB, vstmt_of hP h1 hB⟩
end PE.U

namespace PE.U
open Go PE
def rptrs (k : Nat) : List PArr -> List PV
 | [] => []
 | a :: r => .mslice k 0 a.size.toNat 1 :: rptrs (k + 1) r
def stK : Option Int -> Int
 | none => 0
 | some k => k
def spK : Option Int -> Bool
 | none => false
 | some k => decide (k = 0)
def runR (p : Prog) (S : RS) (h : Option Int) : Obj := .arr 10 [.agg [zka p.arrays, funcs p.funcs, ints S.inp, acc 1 (rptrs 1 p.arrays), .int .i64 (stK h), .int .i64 0, acc 1 (S.out.map (PV.int .i64)), .int .i64 S.cost, .int .i64 S.fuel, .bool (spK h)]]
def stR (p : Prog) (S : RS) (h : Option Int) (T : ze) : ze := runR p S h :: (rowsO S.arrs ++ T)
def goH {α : Type} : Rt α -> Option Int
 | .ok _ => none
 | .stop k => some k
@[simp] theorem goH_ok {α : Type} (a : α) : goH (.ok a) = none := rfl
@[simp] theorem goH_stop {α : Type} (k : Int) : goH (.stop k : Rt α) = some k := rfl
section
variable (p : Prog) (S : RS) (h : Option Int) (T : ze)
@[simp] theorem stR_0 : (stR p S h T)[0]? = some (.arr 10 [.agg [zka p.arrays, funcs p.funcs, ints S.inp, acc 1 (rptrs 1 p.arrays), .int .i64 (stK h), .int .i64 0, acc 1 (S.out.map (PV.int .i64)), .int .i64 S.cost, .int .i64 S.fuel, .bool (spK h)]]) := rfl
@[simp] theorem stK_none : stK none = 0 := rfl
@[simp] theorem spK_none : spK none = false := rfl
@[simp] theorem stK_some (k : Int) : stK (some k) = k := rfl
@[simp] theorem spK_some (k : Int) : spK (some k) = decide (k = 0) := rfl
@[simp] theorem setR_fuel (k : Nat) : (stR p S none T).set 0 (.arr 10 [.agg [zka p.arrays, funcs p.funcs, ints S.inp, acc 1 (rptrs 1 p.arrays), .int .i64 0, .int .i64 0, acc 1 (S.out.map (PV.int .i64)), .int .i64 S.cost, .int .i64 k, .bool false]]) = stR p { S with fuel := k } none T := rfl
@[simp] theorem setR_spent : (stR p S none T).set 0 (.arr 10 [.agg [zka p.arrays, funcs p.funcs, ints S.inp, acc 1 (rptrs 1 p.arrays), .int .i64 0, .int .i64 0, acc 1 (S.out.map (PV.int .i64)), .int .i64 S.cost, .int .i64 S.fuel, .bool true]]) = stR p S (some 0) T := rfl
@[simp] theorem setR_2 : (stR p S none T).set 0 (.arr 10 [.agg [zka p.arrays, funcs p.funcs, ints S.inp, acc 1 (rptrs 1 p.arrays), .int .i64 2, .int .i64 0, acc 1 (S.out.map (PV.int .i64)), .int .i64 S.cost, .int .i64 S.fuel, .bool false]]) = stR p S (some 2) T := rfl
@[simp] theorem setR_3 : (stR p S none T).set 0 (.arr 10 [.agg [zka p.arrays, funcs p.funcs, ints S.inp, acc 1 (rptrs 1 p.arrays), .int .i64 3, .int .i64 0, acc 1 (S.out.map (PV.int .i64)), .int .i64 S.cost, .int .i64 S.fuel, .bool false]]) = stR p S (some 3) T := rfl
@[simp] theorem setR_4 : (stR p S none T).set 0 (.arr 10 [.agg [zka p.arrays, funcs p.funcs, ints S.inp, acc 1 (rptrs 1 p.arrays), .int .i64 4, .int .i64 0, acc 1 (S.out.map (PV.int .i64)), .int .i64 S.cost, .int .i64 S.fuel, .bool false]]) = stR p S (some 4) T := rfl
@[simp] theorem setR_inp (l : List Int) : (stR p S none T).set 0 (.arr 10 [.agg [zka p.arrays, funcs p.funcs, .slice .plain 1 (l.map (PV.int .i64)), acc 1 (rptrs 1 p.arrays), .int .i64 0, .int .i64 0, acc 1 (S.out.map (PV.int .i64)), .int .i64 S.cost, .int .i64 S.fuel, .bool false]]) = stR p { S with inp := l } none T := rfl
end
def encPl (x : List UInt8 × Int) : PV := .agg [.str x.1, .int .i64 x.2]
def rowV (V : Vs) : List PV := .agg [.str [], .int .i64 0] :: V.reverse.map encPl
def nbR (p : Prog) : Nat := p.arrays.length + 1
structure FRr (p : Prog) (T : ze) (m k : Nat) (V : Vs) (h n : Int) : Prop where
 lo : m <= k
 row : ∃ j junk, m <= j /\ j ≠ k /\ T[k]? = some (.arr 3 [.agg [.mslice (nbR p + j) 0 (V.length + 1) 2, .int .i64 h, .int .i64 n]]) /\ T[j]? = some (.arr 2 (rowV V ++ junk))
def WTr (p : Prog) (T : ze) : Prop := ze.wf (nbR p + T.length) T = true
end PE.U

namespace PE.U
open Go PE
def isER (p : Prog) (T : ze) (q : Rt Int × RS) : CRes -> ze -> Prop := fun res st => ∃ x, res = .ret (.int .i64 x) /\ (∀ n, q.1 = .ok n -> x = n) /\ st = stR p q.2 (goH q.1) T
def capV : Nat := 5000000000000
structure SpecER (p : Prog) (w : Nat) : Prop where
 expr : ∀ e S T m k V h n, FitS p S -> S.fuel <= w -> okE p (zJ V) e -> wtE e < capE -> V.length < capV -> FRr p T m k V h n -> WTr p T →
  PC (zi E 125 [.ptr 0 0 0, .ptr (nbR p + k) 0 0, zw e] (stR p S none T)) (isER p T ((evF p w).expr e V S))
def isSR (p : Prog) (T : ze) (m k : Nat) (V : Vs) (q : Rt (How × Vs) × RS) : CRes -> ze -> Prop := fun res st => ∃ T' V1 h n, res = .ret (.tup []) /\ st = stR p q.2 (goH q.1) T' /\ T.length <= T'.length /\ (∀ j, j < m -> T'[j]? = T[j]?) /\ WTr p T' /\ FRr p T' m k V1 h n /\ V.length <= V1.length ∧
 ∀ hh V2, q.1 = .ok (hh, V2) -> V1 = V2 /\ h = howN hh /\ ∀ x, hh = .ret x -> n = x
structure BlockR (p : Prog) (w : Nat) : Prop where
 block : ∀ l S T m k V n loop, FitS p S -> S.fuel <= w -> okB p (zJ V) loop l -> wtSs l < capE -> V.length + wtSs l < capV -> FRr p T m k V 0 n -> WTr p T →
  PC (zi E 74 [.ptr 0 0 0, .ptr (nbR p + k) 0 0, zh l] (stR p S none T)) (isSR p T m k V (zZ (evF p w) l V S))
structure CSr where
 d : Nat
 T : ze
end PE.U

namespace PE.U
open Go PE
structure ARs where
 rest : List Expr
 acc : List Int
 S : RS
end PE.U

namespace PE.U
open Go PE
structure SpecSR (p : Prog) (w : Nat) : Prop where
 stmt : ∀ s S T m k V n loop, FitS p S -> S.fuel <= w -> okS p (zJ V) loop s -> wtS s < capE -> V.length + 1 + wtS s < capV -> FRr p T m k V 0 n -> WTr p T →
  PC (zi E 101 [.ptr 0 0 0, .ptr (nbR p + k) 0 0, zda s] (stR p S none T)) (isSR p T m k V ((evF p w).stmt s V S))
structure BSr where
 rest : List Stmt
 q : Rt (How × Vs) × RS
 T : ze
 V : Vs
 h : Int
 n : Int
structure LSr where
 k : Nat
 S : RS
 T : ze
 V : Vs
 n : Int
structure LoopR (p : Prog) (w : Nat) : Prop where
 loop : ∀ s S T m k V n loop, FitS p S -> S.fuel <= w -> s.kind = 5 -> okS p (zJ V) loop s -> wtS s < capE -> V.length + 1 + wtS s < capV -> FRr p T m k V 0 n -> WTr p T →
  PC (zi E 124 [.ptr 0 0 0, .ptr (nbR p + k) 0 0, zda s] (stR p S none T)) (isSR p T m k V (zQc (evF p w) (arg0 s.args) s.thn (w + 1) V S))
end PE.U

namespace PE.U
open Go PE
end PE.U

namespace PE
open Go
def hendQ (n : Nat) (R : CRes -> ze -> Prop) : Ex -> St -> Prop
 | .normal, s => ze.wf n (s.st.take n) = true /\ n <= s.st.length /\ R (.ret (.tup [])) (s.st.take n)
 | .ret, s => ze.wf n (s.st.take n) = true /\ n <= s.st.length /\ R (.ret (.tup [])) (s.st.take n)
 | _, _ => False
def hrestQ (K : PV × ze -> Prop) : Ex -> St -> Prop
 | .normal, s => K (.nilif, s.st)
 | .ret, s => K (.nilif, s.st)
 | .pan (.iface t v), s => K (.iface t v, s.st)
 | _, _ => False
noncomputable def hpreQ (E : Env) (H : HFn) (n : Nat) (R : CRes -> ze -> Prop) : Ex -> St -> Prop
 | .normal, s1 => (zo s1.fr H.caps).all zE = true /\ zja (exec (zi E) H.rest { s1 with fr := upd s1.fr H.d (.fn H.k [] (zo s1.fr H.caps)) }) (hrestQ fun q => zja (exec (zi E) H.code (handSt H (zo s1.fr H.caps) q)) (hendQ n R))
 | _, _ => False
section
variable (n : Nat) (R : CRes -> ze -> Prop) (s : St) (K : PV × ze -> Prop) (E : Env) (H : HFn)
@[simp] theorem hendQ_normal : hendQ n R .normal s = (ze.wf n (s.st.take n) = true /\ n <= s.st.length /\ R (.ret (.tup [])) (s.st.take n)) := Eq.trans rfl rfl
@[simp] theorem hrestQ_normal : hrestQ K .normal s = K (.nilif, s.st) := Eq.trans rfl rfl
@[simp] theorem hrestQ_pan (t : Nat) (v : PV) : hrestQ K (.pan (.iface t v)) s = K (.iface t v, s.st) := Eq.trans rfl rfl
@[simp] theorem hpreQ_normal : hpreQ E H n R .normal s = ((zo s.fr H.caps).all zE = true /\ zja (exec (zi E) H.rest { s with fr := upd s.fr H.d (.fn H.k [] (zo s.fr H.caps)) }) (hrestQ fun q => zja (exec (zi E) H.code (handSt H (zo s.fr H.caps) q)) (hendQ n R))) := Eq.trans rfl rfl
@[simp] theorem handSt_eq (cv : List PV) (q : PV × ze) : handSt H cv q = { fr := upd (upd (frOf cv 0) H.r1 q.1) H.r2 q.1, bx := fun _ => .no, st := q.2 } := Eq.trans rfl rfl
end
theorem hand_wp {E : Env} {f : Nat} {H : HFn} {args : List PV} {st : ze} {R : CRes -> ze -> Prop} (hx : E.ext f = none) (hh : E.hand f = some H) (hl : args.length = H.nargs) (hv : args.all zE = true)
  (h : zja (exec (zi E) H.pre { fr := frOf args 0, bx := fun _ => .no, st := st }) (hpreQ E H st.length R)) : PC (zi E f args st) R := by
 rw [holds_iff] at h
 obtain ⟨e1, s1, h1, h2⟩ := h
 have : e1 = .normal := by cases e1 <;> first | rfl | exact h2.elim
 subst this
 rw [hpreQ_normal] at h2
 obtain ⟨h3, h4⟩ := h2
 rw [holds_iff] at h4
 obtain ⟨e2, s2, h5, h6⟩ := h4
 have hq : ∃ q, thrown (some (e2, s2)) = some q /\ zja (exec (zi E) H.code (handSt H (zo s1.fr H.caps) q)) (hendQ st.length R) := by
  cases e2 with
  | normal => exact ⟨_, rfl, h6⟩
  | ret => exact ⟨_, rfl, h6⟩
  | exit i => exact h6.elim
  | pan v => cases v <;> first | exact ⟨_, rfl, h6⟩ | exact h6.elim
 obtain ⟨q, hq1, hq2⟩ := hq
 rw [holds_iff] at hq2
 obtain ⟨e3, s3, h7, h8⟩ := hq2
 have hr : ∃ st', handEnd st.length (some (e3, s3)) = some (.ret (.tup []), st') /\ R (.ret (.tup [])) st' := by
  cases e3 with
  | normal =>
   obtain ⟨w1, w2, w3⟩ := h8
   exact ⟨_, by simp only [handEnd]; rw [if_pos (by rw [w1]; simp [w2])], w3⟩
  | ret =>
   obtain ⟨w1, w2, w3⟩ := h8
   exact ⟨_, by simp only [handEnd]; rw [if_pos (by rw [w1]; simp [w2])], w3⟩
  | exit i => exact h8.elim
  | pan v => exact h8.elim
 obtain ⟨st', hr1, hr2⟩ := hr
 have : zi E f args st = some (.ret (.tup []), st') := by
  refine pcall_hand hx hh ?_
  unfold handF
  rw [if_pos ⟨hl, hv⟩, h1]
  simp only
  rw [if_pos h3, h5, hq1]
  simp only
  rw [h7, hr1]
 rw [this]
 exact hr2
end PE

namespace PE.U
open Go PE
def encRn (r : Rn) : PV := .agg [.int .i64 r.status, .int .i64 r.code, ints r.out, .int .i64 r.cost, .int .i64 r.fuel]
def endO (p : Prog) (q : Rt Int × RS) (v : Int) : Obj := .arr 10 [.agg [zka p.arrays, funcs p.funcs, ints q.2.inp, .mp 0, .int .i64 (runEnd q).status, .int .i64 (runEnd q).code, acc 1 (q.2.out.map (PV.int .i64)), .int .i64 q.2.cost, .int .i64 q.2.fuel, .int .i64 v]]
theorem main_spec {p : Prog} (hP : OkP p) (S : RS) (v : Int) (hS : FitS p S) : PC (zi E 32 [.ptr 1 0 0] (sto p S v [])) (fun res st => res = .ret (.tup []) /\ ∃ v1, FitS p (mainW p S).2 /\ st = (sto p (mainW p S).2 v1 []).set 1 (endO p (mainW p S) v1)) := by
 obtain ⟨f, hf, hfp⟩ := hP.main
 have hpl := zde p zzc [] (by have := hP.sz.2.1; omega)
 rcases zTb (fun f : Func => decide (f.name = zzc)) p.funcs with ⟨a1, a2⟩ | ⟨n, g, a1, a2, a3, a4, a5⟩
 ·have a2 : zAa p zzc = none := a2
  rw [a2] at hf; cases hf
 have a3 : zAa p zzc = some g := a3
 have a1 : zsa p zzc = n := a1
 rw [a3, Option.some.injEq] at hf
 subst hf
 rw [a1] at hpl
 have hB := vblock_of (specs hP S.fuel).2
 have hc := vcall_of hP hB (List.mem_of_getElem? a2) (v := v) (T := []) (l := []) hS (Nat.le_refl _) (by rw [hfp]; rfl) rfl
 have hm := callW_mono (zOd p S.fuel) g [] S
 have hmw : mainW p S = callW (evF p S.fuel) g [] S := by unfold mainW; rw [a3]
 rw [hmw]
 generalize callW (evF p S.fuel) g [] S = q at *
 obtain ⟨a, S1⟩ := q
 obtain ⟨v1, hc⟩ := zXd hc
 have hS1 := hS.mono hm
 have hlen0 := zmd (v := v) (T := []) hS
 have hlen1 := zmd (v := v1) (T := []) hS1
 have htake : ∀ X, ((sto p S1 v1 []).set 1 X).take (nb p) = (sto p S1 v1 []).set 1 X := by
  intro X
  rw [List.take_of_length_le]
  rw [List.length_set, hlen1]; simp
 have hwf0 : ze.wf (nb p) (sto p S1 v1 []) = true := sto_wf hS1 (Nat.le_refl _) rfl
 have hwf : ∀ c d, ze.wf (nb p) ((sto p S1 v1 []).set 1 (.arr 10 [.agg [zka p.arrays, funcs p.funcs, ints S1.inp, .mp 0, .int .i64 c, .int .i64 d, acc 1 (S1.out.map (PV.int .i64)), .int .i64 S1.cost, .int .i64 S1.fuel, .int .i64 v1]])) = true := by
  intro c d
  refine wf_set hwf0 ?_
  have h0 : 0 < nb p := by unfold nb; omega
  simp [Obj.below, belowL_acc, h0]
 have hr4 : ∀ X, ((sto p S1 v1 []).set 1 X)[1]? = some X := by
  intro X
  rw [List.getElem?_set_self (by rw [hlen1]; unfold nb; omega)]
 simp [zf, funcs, zzc] at hpl
 simp [zm, ints] at hc hlen0 hlen1
 refine hand_wp rfl rfl rfl rfl ?_
 clear hB hP hm hmw hS hwf0 a1 a3 a4 a5 hfp
 have hfw : FitS p S1 := hS1
 cases a with
 | stop j =>
  simp at hc
  simp [*, H32, funcs, endV, zm]
  exact ⟨hwf _ _, v1, rfl⟩
 | ok n =>
  simp at hc
  simp [*, H32, funcs, endV, zm]
  exact ⟨hwf _ _, v1, rfl⟩
theorem mapSet_arr (nm : List UInt8) (u : PV) : ∀ (d : List PArr) (b : Nat), nm ∉ d.map (·.name) -> zLb true (.str nm) u (zub b d) = some (zub b d ++ [(.str nm, u)])
 | [], b, _ => rfl
 | y :: d, b, h => by
  simp only [List.map_cons, List.mem_cons, not_or] at h
  have ih := mapSet_arr nm u d (b + 1) h.2
  simp only [zub, zLb, zRc, if_true, h.1, decide_false]
  rw [ih]; rfl
theorem arrFrom_snoc (x : PArr) : ∀ (d : List PArr) (b : Nat), zub b (d ++ [x]) = zub b d ++ [(.str x.name, .mslice (b + d.length) 0 x.size.toNat 1)]
 | [], b => by simp [zub]
 | y :: d, b => by
  simp only [List.cons_append, zub, arrFrom_snoc x d, List.length_cons]
  rw [show b + 1 + d.length = b + (d.length + 1) from by omega]
set_option maxHeartbeats 4000000 in
theorem zUc (p : Prog) (hz : PSz p) (inp : List Int) (fu : Int) (hf : fu <= 100000000000) : zi E 17 [zf p, ints inp, .int .i64 fu] [] = some (.ret (encRn (evalM p inp fu)), []) := by
 have hck := check_spec p hz
 refine zc rfl rfl rfl (by simp [zf, ints]) ?_
 unfold evalM
 by_cases h0 : (zjc p).1 = 0
 ·rw [if_pos h0]
  have hP := checkT_ok hz h0
  have hS0 : FitS p (run0 p inp fu) := by
   refine ⟨?_, ?_⟩
   ·simp [run0, List.map_map, Function.comp_def]
   ·simp [run0]; omega
  have hms := main_spec hP (run0 p inp fu) 0 hS0
  obtain ⟨r, st, hm, rfl, v1, hS1, rfl⟩ := PC_iff.1 hms
  generalize mainW p (run0 p inp fu) = q at *
  obtain ⟨a, S1⟩ := q
  have hr4 : ∀ X, ((sto p S1 v1 []).set 1 X)[1]? = some X := by
   intro X
   rw [List.getElem?_set_self (by rw [zmd hS1]; unfold nb; omega)]
  have hmx : (if fu < 0 then 0 else fu) = max fu 0 := by split <;> omega
  generalize zjc p = ck at *
  obtain ⟨c0, c1, c2⟩ := ck
  simp only at h0
  subst h0
  simp [zf, zwa, zka] at hck
  unfold sto at hm
  simp [runO, runCells, run0, rowsO, zka, ints, endO] at hm
  simp [*, F17, zf, zka, ints]
  refine zG p.arrays K17_0 B17_0 (fun d => [(31, .int .i64 d.length)]) (fun d => .mp (zub 2 d) :: .arr 10 [.agg [.slice .plain 2 (p.arrays.map zR), funcs p.funcs, .slice .plain 1 (inp.map (PV.int .i64)), .mp 0, .int .i64 0, .int .i64 0, .slice .fit 1 [], .int .i64 0, .int .i64 (max fu 0), .int .i64 0]] :: d.map (fun x => intO (List.replicate x.size.toNat 0))) (fun d => (d.map (·.name)).Nodup) (by have := hz.1; omega) (by simp [zub]) ?_ ?_
  ·intros d x r s1 hl' hlt hget hget' hwr hp g1 g2 g3 g4
   simp at g1 g3
   have hx : x.name ∉ d.map (·.name) /\ ((d ++ [x]).map (·.name)).Nodup := by
    have h := hP.names
    rw [hl'.eq] at h
    simp only [List.map_append, List.map_cons] at h ⊢
    rw [List.nodup_append] at h
    obtain ⟨h1, h2, h3⟩ := h
    have hx : x.name ∉ d.map (·.name) := fun hm => h3 _ hm _ (by simp) rfl
    refine ⟨hx, ?_⟩
    rw [List.nodup_append]
    exact ⟨h1, by simp, fun a ha b hb => by simp at hb; rintro rfl; exact hx (hb ▸ ha)⟩
   have hsz := hP.size x hl'.mem
   have hms2 := mapSet_arr x.name (.mslice (2 + d.length) 0 x.size.toNat 1) d 2 hx.1
   rw [<- arrFrom_snoc] at hms2
   rw [show 2 + d.length = d.length + 1 + 1 from by omega] at hms2
   have hx2 := hx.2
   simp only [List.map_append, List.map_cons, List.map_nil] at hx2
   have hdec : decide (d.length < p.arrays.length) = true := decide_eq_true hlt
   have hs1 : (x.size < 0) = False := eqn (by omega)
   have hs2 : (0 <= x.size) = True := eqp (by omega)
   have hs3 : (x.size <= 9223372036854775807) = True := eqp (by omega)
   have hs4 : (8 * x.size <= 281474976710656) = True := eqp (by omega)
   have hrow : Obj.arr 1 (List.replicate x.size.toNat (PV.int .i64 0)) = intO (List.replicate x.size.toNat 0) := by simp [intO]
   clear hx hl' hget' hlt hp hsz hP hS0 hm hms hr4 hck hS1
   simp [*, zR]
  ·intros s1 hp g1 g2 g3 g4
   simp at g1 g3
   have hdec : (p.arrays.map (fun x => intO (List.replicate x.size.toNat 0))) = List.map (intO ∘ fun a => List.replicate a.size.toNat 0) p.arrays := rfl
   rw [hdec] at g4
   clear hdec hP hS0 hp hck hms hr4
   have hre : (runEnd (a, S1)).out = S1.out /\ (runEnd (a, S1)).cost = S1.cost /\ (runEnd (a, S1)).fuel = S1.fuel := by cases a <;> exact ⟨rfl, rfl, rfl⟩
   simp [*, encRn, ints]
 ·rw [if_neg h0]
  generalize zjc p = ck at *
  obtain ⟨c0, c1, c2⟩ := ck
  simp only at h0
  simp [zf, zwa] at hck
  replace h0 := eqn h0
  simp [*, F17, zf, encRn, ints]
end PE.U

namespace PE.U
open Go PE
end PE.U

namespace PE.U
open Go PE
def u8s (l : List UInt8) : PV := .slice .plain 1 (l.map fun b => .int .u8 b.toNat)
section
variable (l : List UInt8)
@[simp high] theorem isVar_u8s : zE (u8s l) = true := Eq.trans rfl rfl
@[simp high] theorem strip_u8s : strip (u8s l) = u8s l := Eq.trans rfl rfl
@[simp high] theorem stripA_u8s : stripA (u8s l) = u8s l := Eq.trans rfl rfl
@[simp high] theorem bl_u8 (n : Nat) : zT n (l.map fun b => PV.int .u8 b.toNat) = true := zlc _ _ _ (fun _ => rfl)
@[simp high] theorem below_u8s (n : Nat) : zy n (u8s l) = true := by simp [u8s]
end
theorem remNat (a b : Nat) : remK (a : Int) (b : Int) = ((a % b : Nat) : Int) := by rw [remK_eq]; rfl
end PE.U

namespace PE.U
open Go PE
def outSame (a b : List Int) : Bool := decide (a = b)
theorem sameOut_spec (a b : List Int) (ha : a.length < 1099511627776) (hb : b.length < 1099511627776) : zi E 30 [ints a, ints b] [] = some (.ret (.bool (outSame a b)), []) := by
 refine zc rfl rfl rfl (by simp [ints]) ?_
 unfold outSame
 by_cases hl : a.length = b.length
 ·have hl' : ((a.length : Int) = b.length) = True := eqp (by omega)
  simp [*, F30, ints]
  refine zG a K30_0 B30_0 (fun d => [(5, .int .i64 d.length)]) (fun _ => []) (fun d => b.take d.length = d) (by omega) (by simp) ?_ ?_
  ·intros d x r s1 hs hlt hget hget' hwr hp g1 g2 g3 g4
   simp at g1 g3
   obtain ⟨y, hy⟩ : ∃ y, b[d.length]? = some y := ⟨_, List.getElem?_eq_getElem (by omega)⟩
   have hdec : decide (d.length < a.length) = true := decide_eq_true (by omega)
   have htk : b.take (d.length + 1) = d ++ [y] := by rw [List.take_add_one, hy, hp]; rfl
   by_cases hxy : x = y
   ·subst hxy
    clear hs hlt hget' hl hl' hp
    simp [*]
   ·have hne : ¬ a = b := by
     rintro rfl
     rw [hget] at hy
     exact hxy (Option.some.inj hy)
    have h1 : (x = y) = False := eqn hxy
    clear hs hlt hget' hl hl' hp htk
    simp [*]
  ·intros s1 hp g1 g2 g3 g4
   simp at g1 g3
   have : a = b := by rw [<- hp, hl, List.take_length]
   subst this
   clear hp
   simp [*]
 ·have hne : ¬ a = b := by rintro rfl; exact hl rfl
  have hl' : ((a.length : Int) = b.length) = False := eqn (by omega)
  clear hl
  simp [*, F30, ints]
def sameRn (a b : Rn) : Bool := decide (a.status = b.status) && (decide (a.code = b.code) && (outSame a.out b.out && (decide (a.cost = b.cost) && decide (a.fuel = b.fuel))))
theorem sameRn_self (a : Rn) : sameRn a a = true := by simp [sameRn, outSame]
set_option maxHeartbeats 1000000 in
theorem sameR_spec (a b : Rn) (ha : a.out.length < 1099511627776) (hb : b.out.length < 1099511627776) : zi E 16 [encRn a, encRn b] [] = some (.ret (.bool (sameRn a b)), []) := by
 have ho := sameOut_spec a.out b.out ha hb
 refine zc rfl rfl rfl (by simp [encRn]) ?_
 unfold sameRn
 generalize outSame a.out b.out = so at *
 clear ha hb
 (simp [*, F16, encRn]) <;> (repeat' (first | ((first | refine sP _ ?_ ?_ | refine gP _ ?_ ?_ | refine sN _ ?_ ?_ | refine gN _ ?_ ?_) <;> intro hc <;> (first | replace hc := eqn hc | replace hc := eqp hc) <;> simp [*, F16, encRn]) | ((first | refine sM _ ?_ ?_ | refine gM _ ?_ ?_ | refine sB _ ?_ ?_ | refine gB _ ?_ ?_) <;> intro hc <;> simp [*, F16, encRn])))
theorem evalM_out (p : Prog) (inp : List Int) (fu : Int) (h : fu <= 100000000000) : (evalM p inp fu).out.length < 1099511627776 := by
 unfold evalM
 split
 ·have hm : (mainW p (run0 p inp fu)).2.out.length <= fu.toNat := by
   unfold mainW
   split
   ·rename_i f hf
    have := (callW_mono (zOd p (run0 p inp fu).fuel) f [] (run0 p inp fu)).out
    simp only [run0, List.length_nil] at this ⊢
    omega
   ·simp [run0]
  have : (runEnd (mainW p (run0 p inp fu))).out = (mainW p (run0 p inp fu)).2.out := by
   generalize mainW p (run0 p inp fu) = q
   obtain ⟨a, S⟩ := q
   cases a <;> rfl
  rw [this]; omega
 ·simp
theorem ins_spec (l : List Int) (hl : l.length <= 9223372036854775807) : zi E 18 [ints l] [] = some (.ret (ints (l.take 10)), []) := by
 refine zc rfl rfl rfl (by simp) ?_
 by_cases h : 10 < l.length
 ·have h1 : ((10 : Int) < l.length) = True := eqp (by omega)
  have h2 : (10 <= l.length) = True := eqp (by omega)
  clear hl h
  simp [*, F18, ints]
 ·have h1 : ((10 : Int) < l.length) = False := eqn (by omega)
  have h2 : l.take 10 = l := List.take_of_length_le (by omega)
  rw [h2]
  clear hl h h2
  simp [*, F18, ints]
def aw71 : List UInt8 := [105, 110, 116, 32, 109, 97, 105, 110, 40, 41, 32, 123, 32, 112, 114, 105, 110, 116, 40, 54, 32, 42, 32, 55, 41, 59, 32, 114, 101, 116, 117, 114, 110, 32, 49, 32, 47, 32, 48, 59, 32, 125]
def aw72 : List UInt8 := [105, 110, 116, 32, 102, 40, 105, 110, 116, 32, 110, 41, 32, 123, 32, 105, 102, 32, 40, 110, 32, 60, 32, 50, 41, 32, 123, 32, 114, 101, 116, 117, 114, 110, 32, 49, 59, 32, 125, 32, 114, 101, 116, 117, 114, 110, 32, 110, 32, 42, 32, 102, 40, 110, 32, 45, 32, 49, 41, 59, 32, 125, 32, 105, 110, 116, 32, 109, 97, 105, 110, 40, 41, 32, 123, 32, 114, 101, 116, 117, 114, 110, 32, 102, 40, 114, 101, 97, 100, 40, 41, 41, 59, 32, 125]
theorem aw71_ok : (evalM (zUa aw71).1 [] 100).status = 2 /\ (evalM (zUa aw71).1 [] 100).out = [42] /\ (evalM (zUa aw71).1 [] 100).cost = 3 := by decide +kernel
theorem aw72_ok : (evalM (zUa aw72).1 [5] 200).status = 1 /\ (evalM (zUa aw72).1 [5] 200).code = 120 /\ (evalM (zUa aw72).1 [5] 20).status = 0 /\ (evalM (zUa aw72).1 [5] 20).fuel = 0 := by decide +kernel
set_option maxHeartbeats 1000000 in
theorem awake07_spec : zi E 15 [] [] = some (.ret (.bool true), []) := by
 refine zc rfl rfl rfl (by simp) ?_
 have p1 := parse_spec aw71
 have p2 := parse_spec aw72
 have r1 := zUc _ (parse_psz aw71) [] 100 (by omega)
 have r2 := zUc _ (parse_psz aw72) [5] 200 (by omega)
 have r3 := zUc _ (parse_psz aw72) [5] 20 (by omega)
 obtain ⟨a1, a2, a3⟩ := aw71_ok
 obtain ⟨b1, b2, b3, b4⟩ := aw72_ok
 generalize evalM (zUa aw71).1 [] 100 = m1 at *
 generalize evalM (zUa aw72).1 [5] 200 = m2 at *
 generalize evalM (zUa aw72).1 [5] 20 = m3 at *
 generalize zUa aw71 = q1 at *
 generalize zUa aw72 = q2 at *
 obtain ⟨⟨ar1, fs1⟩, e1, n1⟩ := q1
 obtain ⟨⟨ar2, fs2⟩, e2, n2⟩ := q2
 obtain ⟨s1, c1, o1, k1, f1⟩ := m1
 obtain ⟨s2, c2, o2, k2, f2⟩ := m2
 obtain ⟨s3, c3, o3, k3, f3⟩ := m3
 simp only at a1 a2 a3 b1 b2 b3 b4
 subst a1 a2 a3 b1 b2 b3 b4
 simp [zEe, zf, aw71, aw72, encRn, ints] at p1 p2 r1 r2 r3
 simp [*, F15, ints]
end PE.U

namespace PE.U
open Go PE
def mob (l : List UInt8) (i : Nat) : ze := [.arr 2 [.agg [u8s l, .int .i64 i]]]
def pickM (l : List UInt8) (i n : Nat) : Nat := if l.length < i + 1 \/ 120 < i + 1 then 0 else (l[i]?.getD 0).toNat % n
theorem pick_spec (l : List UInt8) (i n : Nat) (hn : 0 < n /\ n <= 1000) (hi : i <= 1000000000000) (hl : l.length <= 9223372036854775807) :
  zi E 75 [.ptr 0 0 0, .int .i64 n] (mob l i) = some (.ret (.int .i64 (pickM l i n)), mob l (i + 1)) := by
 refine zc rfl rfl rfl (by simp) ?_
 have hw : zB .i64 ((i : Int) + 1) = (i : Int) + 1 := zj (by omega) (by omega)
 by_cases h1 : l.length < i + 1
 ·have k1 : ((l.length : Int) < (i : Int) + 1) = True := eqp (by omega)
  have h2 : pickM l i n = 0 := by simp [pickM, h1]
  clear h1
  simp [*, F75, mob, u8s]
 ·have k1 : ((l.length : Int) < (i : Int) + 1) = False := eqn (by omega)
  by_cases h3 : 120 < i + 1
  ·have k3 : ((120 : Int) < (i : Int) + 1) = True := eqp (by omega)
   have h2 : pickM l i n = 0 := by simp only [pickM, h3, or_true, if_true]
   clear h1 h3
   simp [*, F75, mob, u8s]
  ·have k3 : ((120 : Int) < (i : Int) + 1) = False := eqn (by omega)
   obtain ⟨b, hb⟩ : ∃ b, l[i]? = some b := ⟨_, List.getElem?_eq_getElem (by omega)⟩
   have h2 : pickM l i n = b.toNat % n := by simp only [pickM, h1, h3, or_self, if_false, hb, Option.getD_some]
   have hr : remK (b.toNat : Int) (n : Int) = ((b.toNat % n : Nat) : Int) := remNat _ _
   have hw2 : zB .i64 (i : Int) = (i : Int) := zj (by omega) (by omega)
   have hn0 : (n = 0) = False := eqn (by omega)
   clear h1 h3 hl
   simp [*, F75, mob, u8s]
theorem zCb (l : List UInt8) (i n : Nat) (hn : 0 < n /\ n <= 1000) (hi : i <= 1000000000000) (hl : l.length <= 9223372036854775807) :
  ∃ k : Nat, k < n /\ zi E 75 [.ptr 0 0 0, .int .i64 n] (mob l i) = some (.ret (.int .i64 k), mob l (i + 1)) := by
 refine ⟨_, ?_, pick_spec l i n hn hi hl⟩
 unfold pickM
 split
 ·omega
 ·exact Nat.mod_lt _ hn.1
end PE.U

namespace PE.U
open Go PE
theorem aI {cf : zC} {s0 s : St} {r : List GOp} {Q : Ex -> St -> Prop} {a : _} {b : _} {o : _} {x : _} {c : Prop} [Decidable c] (hc : c) (h : after cf s0 r Q (doOp a b o s (some x))) : after cf s0 r Q (doOp a b o s (if c then some x else none)) := by rw [if_pos hc]; exact h
def BN : Nat -> Nat
 | 0 => 100
 | d + 1 => 2 * BN d + 100
def isStr (l : List UInt8) (i b : Nat) (r : CRes) (st : ze) : Prop := ∃ s i', r = .ret (.str s) /\ st = mob l i' /\ s.length <= b /\ i' <= i + b
@[simp] theorem isStr_str (l : List UInt8) (i b : Nat) (s : List UInt8) (st : ze) : isStr l i b (.ret (.str s)) st = ∃ i', st = mob l i' /\ s.length <= b /\ i' <= i + b := by
 unfold isStr
 apply propext
 constructor
 ·rintro ⟨s', i', h, h2⟩
  cases h
  exact ⟨i', h2⟩
 ·rintro ⟨i', h2⟩
  exact ⟨s, i', rfl, h2⟩
@[simp] theorem mob_inj (l : List UInt8) (i j : Nat) : (mob l i = mob l j) = (i = j) := by
 apply propext
 constructor
 ·intro h; simp [mob] at h; omega
 ·rintro rfl; rfl
structure NT (l : List UInt8) (d : Nat) : Prop where
 num : ∀ i v b, i + BN d <= 900000000000 -> v.length <= 4 -> b.length <= 4 -> PC (zi E 38 [.ptr 0 0 0, .str v, .str b, .int .i64 d] (mob l i)) (isStr l i (BN d))
 truth : ∀ i v b, i + BN d <= 900000000000 -> v.length <= 4 -> b.length <= 4 -> PC (zi E 39 [.ptr 0 0 0, .str v, .str b, .int .i64 d] (mob l i)) (isStr l i (BN d))
theorem NT.num' {l : List UInt8} {d : Nat} (S : NT l d) (i : Nat) (v b : List UInt8) (hi : i + BN d <= 900000000000) (hv : v.length <= 4) (hb : b.length <= 4) :
  ∃ s i', zi E 38 [.ptr 0 0 0, .str v, .str b, .int .i64 d] (mob l i) = some (.ret (.str s), mob l i') /\ s.length <= BN d /\ i' <= i + BN d := by
 obtain ⟨r, st, h, s, i', rfl, rfl, h1, h2⟩ := PC_iff.1 (S.num i v b hi hv hb)
 exact ⟨s, i', h, h1, h2⟩
theorem NT.truth' {l : List UInt8} {d : Nat} (S : NT l d) (i : Nat) (v b : List UInt8) (hi : i + BN d <= 900000000000) (hv : v.length <= 4) (hb : b.length <= 4) :
  ∃ s i', zi E 39 [.ptr 0 0 0, .str v, .str b, .int .i64 d] (mob l i) = some (.ret (.str s), mob l i') /\ s.length <= BN d /\ i' <= i + BN d := by
 obtain ⟨r, st, h, s, i', rfl, rfl, h1, h2⟩ := PC_iff.1 (S.truth i v b hi hv hb)
 exact ⟨s, i', h, h1, h2⟩
theorem one_of (ls : List (List UInt8)) (m : Nat) (h : ls.all (fun t => t.length <= m) = true) (j : Nat) (hj : j < ls.length) : ∃ t, t.length <= m /\ (ls.map PV.str)[j]'(by simpa using hj) = PV.str t := by
 refine ⟨ls[j], ?_, by simp⟩
 have := List.all_eq_true.1 h ls[j] (List.getElem_mem hj)
 simpa using this
def numsL : List (List UInt8) := [[48], [49], [50], [55], [50, 53, 53], [54, 52]]
def onesL : List (List UInt8) := [[45], [126], [105, 56], [117, 49, 54], [105, 51, 50]]
def twosL : List (List UInt8) := [[43], [45], [42], [47], [37], [38], [124], [94], [60, 60], [62, 62], [62, 62, 62]]
def trusL : List (List UInt8) := [[116, 114, 117, 101], [102, 97, 108, 115, 101]]
def cmpsL : List (List UInt8) := [[60], [60, 61], [62], [62, 61], [61, 61], [33, 61]]
set_option maxHeartbeats 4000000 in
theorem num0 (l : List UInt8) (hl : l.length <= 9223372036854775807) : ∀ i v b, i + BN 0 <= 900000000000 -> v.length <= 4 -> b.length <= 4 -> PC (zi E 38 [.ptr 0 0 0, .str v, .str b, .int .i64 0] (mob l i)) (isStr l i (BN 0)) := by
 intro i v b hi hv hb
 refine zpa rfl rfl rfl (by simp) ?_
 have hB : BN 0 = 100 := rfl
 rw [hB] at hi
 obtain ⟨k, k1, hk⟩ := zCb l i 14 (by omega) (by omega) hl
 have hr : remK (k : Int) 6 = ((k % 6 : Nat) : Int) := remNat k 6
 simp at hk
 have hm : k % 6 < 6 := Nat.mod_lt _ (by omega)
 generalize k % 6 = z at *
 clear k1
 obtain ⟨j, j1, hj⟩ := zCb l (i + 1) 6 (by omega) (by omega) hl
 obtain ⟨t, t1, ht⟩ := one_of numsL 3 (by decide) j j1
 simp [numsL] at hj ht
 have m1 : v.length + 7 <= 9223372036854775807 := by omega
 have m2 : 2 + v.length <= 9223372036854775807 := by omega
 have : z = 0 \/ z = 1 \/ z = 2 \/ z = 3 \/ z = 4 \/ z = 5 := by omega
 clear hl hm
 rcases this with rfl | rfl | rfl | rfl | rfl | rfl <;> (simp [*, F38]) <;> (repeat' (refine aI (by omega) ?_ <;> simp [*, F38])) <;> (try omega)
set_option maxHeartbeats 4000000 in
theorem numS (l : List UInt8) (hl : l.length <= 9223372036854775807) (d : Nat) (hd : BN d <= 1000000) (hd2 : d <= 100) (S : NT l d) : ∀ i v b, i + BN (d + 1) <= 900000000000 -> v.length <= 4 -> b.length <= 4 -> PC (zi E 38 [.ptr 0 0 0, .str v, .str b, .int .i64 (d + 1 : Nat)] (mob l i)) (isStr l i (BN (d + 1))) := by
 intro i v b hi hv hb
 refine zpa rfl rfl rfl (by simp) ?_
 have hB : BN (d + 1) = 2 * BN d + 100 := rfl
 rw [hB] at hi
 obtain ⟨k, k1, hk⟩ := zCb l i 14 (by omega) (by omega) hl
 simp at hk
 have q1 : ((d : Int) + 1 < 1) = False := eqn (by omega)
 have q2 : ((d : Int) < 0) = False := eqn (by omega)
 have q3 : zB .i64 (d : Int) = d := zj (by omega) (by omega)
 have hkk : k < 2 \/ k = 2 \/ k = 3 \/ k = 4 \/ k = 5 \/ k = 6 \/ k = 7 \/ (8 <= k /\ k < 11) \/ k = 11 \/ k = 12 \/ k = 13 := by omega
 have m1 : v.length + 7 <= 9223372036854775807 := by omega
 have m2 : 2 + v.length <= 9223372036854775807 := by omega
 clear k1
 rcases hkk with hkk | hkk
 ·obtain ⟨j, j1, hj⟩ := zCb l (i + 1) 6 (by omega) (by omega) hl
  obtain ⟨t, t1, ht⟩ := one_of numsL 3 (by decide) j j1
  simp [numsL] at hj ht
  have n1 : ((k : Int) < 2) = True := eqp (by omega)
  clear hl hkk
  (simp [*, F38]) <;> (repeat' (refine aI (by omega) ?_ <;> simp [*, F38])) <;> (try omega)
 have n1 : ((k : Int) < 2) = False := eqn (by omega)
 by_cases hk5 : k < 5
 ·have n2 : ((k : Int) < 5) = True := eqp (by omega)
  clear hl hkk hk5
  (simp [*, F38]) <;> (repeat' (refine aI (by omega) ?_ <;> simp [*, F38])) <;> (try omega)
 have n2 : ((k : Int) < 5) = False := eqn (by omega)
 by_cases hk8 : 8 <= k /\ k < 11
 ·obtain ⟨s1, i1, h1, b1, c1⟩ := S.num' (i + 1) v b (by omega) hv hb
  obtain ⟨j, j1, hj⟩ := zCb l i1 11 (by omega) (by omega) hl
  obtain ⟨t, t1, ht⟩ := one_of twosL 3 (by decide) j j1
  obtain ⟨s2, i2, h2, b2, c2⟩ := S.num' (i1 + 1) v b (by omega) hv hb
  simp [twosL] at hj ht
  have n3 : ((k : Int) < 11) = True := eqp (by omega)
  have n4 : ((k : Int) = 5) = False := eqn (by omega)
  have n5 : ((k : Int) = 6) = False := eqn (by omega)
  have n6 : ((k : Int) = 7) = False := eqn (by omega)
  clear hl hkk hk5 hk8
  (simp [*, F38]) <;> (repeat' (refine aI (by omega) ?_ <;> simp [*, F38])) <;> (try omega)
 have hkk : k = 5 \/ k = 6 \/ k = 7 \/ k = 11 \/ k = 12 \/ k = 13 := by omega
 rcases hkk with rfl | rfl | rfl | rfl | rfl | rfl
 ·clear hl hk5 hk8 n1 n2
  simp at hk
  (simp [*, F38]) <;> (repeat' (refine aI (by omega) ?_ <;> simp [*, F38])) <;> (try omega)
 ·obtain ⟨s1, i1, h1, b1, c1⟩ := S.num' (i + 1) v b (by omega) hv hb
  clear hl hk5 hk8 n1 n2
  simp at hk
  (simp [*, F38]) <;> (repeat' (refine aI (by omega) ?_ <;> simp [*, F38])) <;> (try omega)
 ·obtain ⟨j, j1, hj⟩ := zCb l (i + 1) 5 (by omega) (by omega) hl
  obtain ⟨t, t1, ht⟩ := one_of onesL 3 (by decide) j j1
  obtain ⟨s1, i1, h1, b1, c1⟩ := S.num' (i + 1 + 1) v b (by omega) hv hb
  simp [onesL] at hj ht
  clear hl hk5 hk8 n1 n2
  simp at hk
  (simp [*, F38]) <;> (repeat' (refine aI (by omega) ?_ <;> simp [*, F38])) <;> (try omega)
 ·clear hl hk5 hk8 n1 n2
  simp at hk
  simp [*, F38]
 ·clear hl hk5 hk8 n1 n2
  simp at hk
  (simp [*, F38]) <;> (repeat' (refine aI (by omega) ?_ <;> simp [*, F38])) <;> (try omega)
 ·obtain ⟨s1, i1, h1, b1, c1⟩ := S.num' (i + 1) v b (by omega) hv hb
  obtain ⟨s2, i2, h2, b2, c2⟩ := S.truth' i1 v b (by omega) hv hb
  clear hl hk5 hk8 n1 n2
  simp at hk
  (simp [*, F38]) <;> (repeat' (refine aI (by omega) ?_ <;> simp [*, F38])) <;> (try omega)
end PE.U

namespace PE.U
open Go PE
set_option maxHeartbeats 4000000 in
theorem truth0 (l : List UInt8) (hl : l.length <= 9223372036854775807) : ∀ i v b, i + BN 0 <= 900000000000 -> v.length <= 4 -> b.length <= 4 -> PC (zi E 39 [.ptr 0 0 0, .str v, .str b, .int .i64 0] (mob l i)) (isStr l i (BN 0)) := by
 intro i v b hi hv hb
 refine zpa rfl rfl rfl (by simp) ?_
 have hB : BN 0 = 100 := rfl
 rw [hB] at hi
 obtain ⟨k, k1, hk⟩ := zCb l i 10 (by omega) (by omega) hl
 have hr : remK (k : Int) 3 = ((k % 3 : Nat) : Int) := remNat k 3
 simp at hk
 have hm : k % 3 < 3 := Nat.mod_lt _ (by omega)
 generalize k % 3 = z at *
 clear k1
 obtain ⟨j, j1, hj⟩ := zCb l (i + 1) 2 (by omega) (by omega) hl
 obtain ⟨t, t1, ht⟩ := one_of trusL 5 (by decide) j j1
 simp [trusL] at hj ht
 have : z = 0 \/ z = 1 \/ z = 2 := by omega
 clear hl hm
 rcases this with rfl | rfl | rfl <;> (simp [*, F39]) <;> (repeat' (refine aI (by omega) ?_ <;> simp [*, F39])) <;> (try omega)
set_option maxHeartbeats 4000000 in
theorem truthS (l : List UInt8) (hl : l.length <= 9223372036854775807) (d : Nat) (hd : BN d <= 1000000) (hd2 : d <= 100) (S : NT l d) : ∀ i v b, i + BN (d + 1) <= 900000000000 -> v.length <= 4 -> b.length <= 4 -> PC (zi E 39 [.ptr 0 0 0, .str v, .str b, .int .i64 (d + 1 : Nat)] (mob l i)) (isStr l i (BN (d + 1))) := by
 intro i v b hi hv hb
 refine zpa rfl rfl rfl (by simp) ?_
 have hB : BN (d + 1) = 2 * BN d + 100 := rfl
 rw [hB] at hi
 obtain ⟨k, k1, hk⟩ := zCb l i 10 (by omega) (by omega) hl
 simp at hk
 have q1 : ((d : Int) + 1 < 1) = False := eqn (by omega)
 have q2 : ((d : Int) < 0) = False := eqn (by omega)
 have q3 : zB .i64 (d : Int) = d := zj (by omega) (by omega)
 by_cases hk3 : k < 3
 ·have : k = 0 \/ k = 1 \/ k = 2 := by omega
  obtain ⟨j, j1, hj⟩ := zCb l (i + 1) 2 (by omega) (by omega) hl
  obtain ⟨t, t1, ht⟩ := one_of trusL 5 (by decide) j j1
  simp [trusL] at hj ht
  clear hl k1 hk3
  rcases this with rfl | rfl | rfl <;> simp at hk <;> (simp [*, F39]) <;> (repeat' (refine aI (by omega) ?_ <;> simp [*, F39])) <;> (try omega)
 have n0 : ((k : Int) < 3) = False := eqn (by omega)
 by_cases hk7 : 4 <= k /\ k < 7
 ·obtain ⟨s1, i1, h1, b1, c1⟩ := S.num' (i + 1) v b (by omega) hv hb
  obtain ⟨j, j1, hj⟩ := zCb l i1 6 (by omega) (by omega) hl
  obtain ⟨t, t1, ht⟩ := one_of cmpsL 3 (by decide) j j1
  obtain ⟨s2, i2, h2, b2, c2⟩ := S.num' (i1 + 1) v b (by omega) hv hb
  simp [cmpsL] at hj ht
  have n3 : ((k : Int) < 7) = True := eqp (by omega)
  have n4 : ((k : Int) = 0) = False := eqn (by omega)
  have n5 : ((k : Int) = 3) = False := eqn (by omega)
  have n6 : (k = 0) = False := eqn (by omega)
  clear hl k1 hk3 hk7
  (simp [*, F39]) <;> (repeat' (refine aI (by omega) ?_ <;> simp [*, F39])) <;> (try omega)
 have hkk : k = 3 \/ k = 7 \/ k = 8 \/ k = 9 := by omega
 rcases hkk with rfl | rfl | rfl | rfl
 ·clear hl k1 hk3 hk7 n0
  simp at hk
  (simp [*, F39]) <;> (repeat' (refine aI (by omega) ?_ <;> simp [*, F39])) <;> (try omega)
 ·obtain ⟨s1, i1, h1, b1, c1⟩ := S.truth' (i + 1) v b (by omega) hv hb
  obtain ⟨s2, i2, h2, b2, c2⟩ := S.truth' i1 v b (by omega) hv hb
  clear hl k1 hk3 hk7 n0
  simp at hk
  (simp [*, F39]) <;> (repeat' (refine aI (by omega) ?_ <;> simp [*, F39])) <;> (try omega)
 ·obtain ⟨s1, i1, h1, b1, c1⟩ := S.truth' (i + 1) v b (by omega) hv hb
  obtain ⟨s2, i2, h2, b2, c2⟩ := S.truth' i1 v b (by omega) hv hb
  clear hl k1 hk3 hk7 n0
  simp at hk
  (simp [*, F39]) <;> (repeat' (refine aI (by omega) ?_ <;> simp [*, F39])) <;> (try omega)
 ·obtain ⟨s1, i1, h1, b1, c1⟩ := S.num' (i + 1) v b (by omega) hv hb
  clear hl k1 hk3 hk7 n0
  simp at hk
  (simp [*, F39]) <;> (repeat' (refine aI (by omega) ?_ <;> simp [*, F39])) <;> (try omega)
theorem nt (l : List UInt8) (hl : l.length <= 9223372036854775807) : ∀ d, d <= 3 -> NT l d := by
 intro d
 induction d with
 | zero => intro _; exact ⟨num0 l hl, truth0 l hl⟩
 | succ d ih =>
  intro h
  have hb : BN d <= 1000000 := by
   have : d = 0 \/ d = 1 \/ d = 2 := by omega
   rcases this with rfl | rfl | rfl <;> decide
  exact ⟨numS l hl d hb (by omega) (ih (by omega)), truthS l hl d hb (by omega) (ih (by omega))⟩
end PE.U

namespace PE.U
open Go PE
def SB : Nat -> Nat
 | 0 => 2000
 | d + 1 => 8 * SB d + 3000
structure ST (l : List UInt8) (d : Nat) : Prop where
 stmt : ∀ i v b loop, i + SB d <= 800000000000 -> v.length <= 4 -> b.length <= 4 -> PC (zi E 76 [.ptr 0 0 0, .str v, .str b, .int .i64 d, .bool loop] (mob l i)) (isStr l i (SB d))
theorem ST.to {l : List UInt8} {d : Nat} (S : ST l d) (i : Nat) (v b : List UInt8) (loop : Bool) (hi : i + SB d <= 800000000000) (hv : v.length <= 4) (hb : b.length <= 4) :
  ∃ s i', zi E 76 [.ptr 0 0 0, .str v, .str b, .int .i64 d, .bool loop] (mob l i) = some (.ret (.str s), mob l i') /\ s.length <= SB d /\ i' <= i + SB d := by
 obtain ⟨r, st, h, s, i', rfl, rfl, h1, h2⟩ := PC_iff.1 (S.stmt i v b loop hi hv hb)
 exact ⟨s, i', h, h1, h2⟩
structure BkS where
 m : Nat
 s : List UInt8
 j : Nat
set_option maxHeartbeats 4000000 in
theorem mblock_of (l : List UInt8) (hl : l.length <= 9223372036854775807) (d : Nat) (hd : SB d <= 10000000) (hd2 : d <= 100) (S : ST l d) (i : Nat) (v b : List UInt8) (loop : Bool) (hi : i + (4 * SB d + 10) <= 800000000000) (hv : v.length <= 4) (hb : b.length <= 4) :
  PC (zi E 37 [.ptr 0 0 0, .str v, .str b, .int .i64 d, .bool loop] (mob l i)) (isStr l i (4 * SB d + 10)) := by
 refine zpa rfl rfl rfl (by simp) ?_
 obtain ⟨k, k1, hk⟩ := zCb l i 5 (by omega) (by omega) hl
 simp at hk
 simp [hk, F37]
 have hkm : k * SB d <= 4 * SB d := Nat.mul_le_mul_right _ (by omega)
 refine zvb K37_0 B37_0 (fun c : BkS => c.m) (fun c => [(11, .str c.s), (12, .int .i64 c.m)]) (fun _ => []) (fun c => mob l c.j) (fun c => c.m <= 4 /\ c.s.length + c.m * SB d <= 4 * SB d /\ c.j + c.m * SB d <= i + 1 + 4 * SB d) ⟨k, [], i + 1⟩ ⟨by simp, by simp, by simp, by simp only [List.length_nil]; omega⟩ ?_
 rintro ⟨m, s, j⟩ s1 ⟨hm, hs, hj⟩ h1 h2 h3 h4 h5
 simp only at hm hs hj
 simp at h1 h3 h5
 clear hk h2 h4 hkm
 cases m with
 | zero =>
  simp at h3 hs hj
  simp [*]
  omega
 | succ m =>
  rw [Nat.succ_mul] at hs hj
  generalize hX : m * SB d = X at *
  obtain ⟨t, j', ht, t1, t2⟩ := S.to j v b loop (by omega) hv hb
  have q1 : ((m : Int) + 1 > 0) = True := eqp (by omega)
  have q2 : ((0 : Int) < (m : Int) + 1) = True := eqp (by omega)
  have q3 : zB .i64 (m : Int) = m := zj (by omega) (by omega)
  have q4 : s.length + t.length <= 9223372036854775807 := by omega
  simp at h3
  clear hl S
  simp [*]
  refine ⟨⟨m, s ++ t, j'⟩, by simp, ?_⟩
  simp only [List.length_append]
  simp [*]
  omega
end PE.U

namespace PE.U
open Go PE
def BkOk (l : List UInt8) (d : Nat) : Prop := ∀ i v b loop, i + (4 * SB d + 10) <= 800000000000 -> v.length <= 4 -> b.length <= 4 →
  ∃ s i', zi E 37 [.ptr 0 0 0, .str v, .str b, .int .i64 d, .bool loop] (mob l i) = some (.ret (.str s), mob l i') /\ s.length <= 4 * SB d + 10 /\ i' <= i + (4 * SB d + 10)
theorem SB_le : ∀ d, 2000 <= SB d
 | 0 => by decide
 | d + 1 => by have := SB_le d; simp only [SB]; omega
set_option maxHeartbeats 8000000 in
theorem stmt_plain (l : List UInt8) (hl : l.length <= 9223372036854775807) (d : Nat) (hd2 : d <= 100) (i : Nat) (v b : List UInt8) (loop : Bool) (hi : i + SB d <= 800000000000) (hv : v.length <= 4) (hb : b.length <= 4) (k : Nat) (k1 : k < 13)
  (hk : zi E 75 [.ptr 0 0 0, .int .i64 13] (mob l i) = some (.ret (.int .i64 k), mob l (i + 1))) (hc : d = 0 \/ k < 6 \/ (k = 6 /\ loop = true) \/ k = 12) :
  PC (zi E 76 [.ptr 0 0 0, .str v, .str b, .int .i64 d, .bool loop] (mob l i)) (isStr l i (SB d)) := by
 refine zpa rfl rfl rfl (by simp) ?_
 have hB := SB_le d
 have hB1 : BN 1 = 300 := rfl
 have hB2 : BN 2 = 700 := rfl
 have S1 := nt l hl 1 (by omega)
 have S2 := nt l hl 2 (by omega)
 have hkk : k = 0 \/ k = 1 \/ k = 2 \/ k = 3 \/ k = 4 \/ k = 5 \/ k = 6 \/ k = 7 \/ k = 8 \/ k = 9 \/ k = 10 \/ k = 11 \/ k = 12 := by omega
 obtain ⟨s1, i1, h1, b1, c1⟩ := S2.num' (i + 1) v b (by omega) hv hb
 obtain ⟨s2, i2, h2, b2, c2⟩ := S2.truth' (i + 1) v b (by omega) hv hb
 obtain ⟨s3, i3, h3, b3, c3⟩ := S1.num' (i + 1) v b (by omega) hv hb
 obtain ⟨s4, i4, h4, b4, c4⟩ := S2.num' i3 v b (by omega) hv hb
 obtain ⟨j, j1, hj⟩ := zCb l (i + 1) 4 (by omega) (by omega) hl
 rw [hB1] at b3 c3
 rw [hB2] at b1 c1 b2 c2 b4 c4
 simp at h1 h2 h3 h4 hj
 clear S1 S2 hl hB1 hB2
 have hz : d = 0 \/ 0 < d := by omega
 rcases hkk with rfl | rfl | rfl | rfl | rfl | rfl | rfl | rfl | rfl | rfl | rfl | rfl | rfl
 case inr.inr.inr.inr.inr.inr.inl =>
  simp at hk
  cases loop
  ·have : d = 0 := by simpa using hc
   subst this
   clear hc hz k1
   (simp [*, F76]) <;> (repeat' (refine aI (by omega) ?_ <;> simp [*, F76])) <;> (try omega)
  ·have : j = 0 \/ j = 1 \/ j = 2 \/ j = 3 := by omega
   clear j1 hc hz k1
   rcases this with rfl | rfl | rfl | rfl <;> simp at hj <;> (simp [*, F76]) <;> (repeat' (refine aI (by omega) ?_ <;> simp [*, F76])) <;> (try omega)
 case inr.inr.inr.inr.inr.inr.inr.inr.inr.inr.inr.inr =>
  have : j = 0 \/ j = 1 \/ j = 2 \/ j = 3 := by omega
  clear hc hz k1 j1
  simp at hk
  by_cases hvz : v = [122]
  ·subst hvz
   (simp [*, F76]) <;> (repeat' (refine aI (by omega) ?_ <;> simp [*, F76])) <;> (try omega)
  ·rcases this with rfl | rfl | rfl | rfl <;> simp at hj <;> (simp [*, F76]) <;> (repeat' (refine aI (by omega) ?_ <;> simp [*, F76])) <;> (try omega)
 case inl | inr.inl | inr.inr.inl | inr.inr.inr.inl | inr.inr.inr.inr.inl | inr.inr.inr.inr.inr.inl =>
  clear hc hz k1 j1 hj
  simp at hk
  (simp [*, F76]) <;> (repeat' (refine aI (by omega) ?_ <;> simp [*, F76])) <;> (try omega)
 all_goals
  have : d = 0 := by omega
  subst this
  clear hc hz k1 j1 hj
  simp at hk
  (simp [*, F76]) <;> (repeat' (refine aI (by omega) ?_ <;> simp [*, F76])) <;> (try omega)
set_option maxHeartbeats 8000000 in
theorem stmt_deep (l : List UInt8) (hl : l.length <= 9223372036854775807) (d : Nat) (hd : SB d <= 10000000) (hd2 : d <= 100) (hbk : BkOk l d) (i : Nat) (v b : List UInt8) (loop : Bool) (hi : i + SB (d + 1) <= 800000000000) (hv : v.length <= 4) (hb : b.length <= 4) (k : Nat) (k1 : k < 13)
  (hk : zi E 75 [.ptr 0 0 0, .int .i64 13] (mob l i) = some (.ret (.int .i64 k), mob l (i + 1))) (hc : (k = 6 /\ loop = false) \/ k = 7 \/ k = 8 \/ k = 9 \/ k = 10 \/ k = 11) :
  PC (zi E 76 [.ptr 0 0 0, .str v, .str b, .int .i64 (d + 1 : Nat), .bool loop] (mob l i)) (isStr l i (SB (d + 1))) := by
 refine zpa rfl rfl rfl (by simp) ?_
 have hB : SB (d + 1) = 8 * SB d + 3000 := rfl
 rw [hB] at hi
 have hB1 : BN 1 = 300 := rfl
 have hB2 : BN 2 = 700 := rfl
 have S1 := nt l hl 1 (by omega)
 have S2 := nt l hl 2 (by omega)
 have q1 : ((d : Int) + 1 > 0) = True := eqp (by omega)
 have q2 : ((0 : Int) < (d : Int) + 1) = True := eqp (by omega)
 have q3 : zB .i64 (d : Int) = d := zj (by omega) (by omega)
 by_cases k7 : k = 7
 ·subst k7
  obtain ⟨s1, i1, h1, b1, c1⟩ := S1.num' (i + 1) v b (by omega) hv hb
  obtain ⟨s2, i2, h2, b2, c2⟩ := S1.truth' i1 [122] b (by omega) (by simp) hb
  obtain ⟨s3, i3, h3, b3, c3⟩ := hbk i2 [122] [119] loop (by omega) (by simp) (by simp)
  rw [hB1] at b1 c1 b2 c2
  simp at h1 h2 hk
  clear S1 S2 hl hB1 hB2 hbk hc k1
  (simp [*, F76]) <;> (repeat' (refine aI (by omega) ?_ <;> simp [*, F76])) <;> (try omega)
 by_cases k9 : k <= 9
 ·obtain ⟨s1, i1, h1, b1, c1⟩ := S2.truth' (i + 1) v b (by omega) hv hb
  obtain ⟨s2, i2, h2, b2, c2⟩ := hbk i1 v b loop (by omega) hv hb
  obtain ⟨j, j1, hj⟩ := zCb l i2 2 (by omega) (by omega) hl
  obtain ⟨s3, i3, h3, b3, c3⟩ := hbk (i2 + 1) v b loop (by omega) hv hb
  have hj2 : j = 0 \/ j = 1 := by omega
  have : k = 6 /\ loop = false \/ k = 8 \/ k = 9 := by
   rcases hc with h | h | h | h | h | h
   ·exact .inl h
   all_goals omega
  rw [hB2] at b1 c1
  simp at h1 hj
  clear S1 S2 hl hB1 hB2 hbk hc k1 k7 k9 j1
  rcases this with ⟨rfl, rfl⟩ | rfl | rfl <;> simp at hk <;> rcases hj2 with rfl | rfl <;> simp at hj <;> (simp [*, F76]) <;> (repeat' (refine aI (by omega) ?_ <;> simp [*, F76])) <;> (try omega)
 obtain ⟨s1, i1, h1, b1, c1⟩ := S1.truth' (i + 1) v b (by omega) hv hb
 obtain ⟨s2, i2, h2, b2, c2⟩ := hbk i1 v b true (by omega) hv hb
 obtain ⟨j, j1, hj⟩ := zCb l i2 3 (by omega) (by omega) hl
 obtain ⟨t, t1, ht⟩ := one_of [[52], [57], [51, 48]] 3 (by decide) j j1
 have : k = 10 \/ k = 11 := by omega
 rw [hB1] at b1 c1
 simp at h1 hj ht
 clear S1 S2 hl hB1 hB2 hbk hc k1 k7 k9
 rcases this with rfl | rfl <;> simp at hk <;> (simp [*, F76]) <;> (repeat' (refine aI (by omega) ?_ <;> simp [*, F76])) <;> (try omega)
theorem st (l : List UInt8) (hl : l.length <= 9223372036854775807) : ∀ d, d <= 3 -> ST l d /\ BkOk l d := by
 intro d
 induction d with
 | zero =>
  intro _
  have S : ST l 0 := ⟨fun i v b loop hi hv hb => by
   obtain ⟨k, k1, hk⟩ := zCb l i 13 (by omega) (by omega) hl
   exact stmt_plain l hl 0 (by omega) i v b loop hi hv hb k k1 hk (.inl rfl)⟩
  refine ⟨S, fun i v b loop hi hv hb => ?_⟩
  obtain ⟨r, st, h, s, i', rfl, rfl, h1, h2⟩ := PC_iff.1 (mblock_of l hl 0 (by decide) (by omega) S i v b loop hi hv hb)
  exact ⟨s, i', h, h1, h2⟩
 | succ d ih =>
  intro hd
  obtain ⟨_, B⟩ := ih (by omega)
  have hb : SB d <= 10000000 /\ SB (d + 1) <= 10000000 := by
   have : d = 0 \/ d = 1 \/ d = 2 := by omega
   rcases this with rfl | rfl | rfl <;> decide
  have S : ST l (d + 1) := ⟨fun i v b loop hi hv hb' => by
   obtain ⟨k, k1, hk⟩ := zCb l i 13 (by omega) (by omega) hl
   by_cases hc : d + 1 = 0 \/ k < 6 \/ (k = 6 /\ loop = true) \/ k = 12
   ·exact stmt_plain l hl (d + 1) (by omega) i v b loop hi hv hb' k k1 hk hc
   ·exact stmt_deep l hl d hb.1 (by omega) B i v b loop hi hv hb' k k1 hk (by cases loop <;> simp at hc ⊢ <;> omega)⟩
  refine ⟨S, fun i v b loop hi hv hb' => ?_⟩
  obtain ⟨r, st, h, s, i', rfl, rfl, h1, h2⟩ := PC_iff.1 (mblock_of l hl (d + 1) hb.2 (by omega) S i v b loop hi hv hb')
  exact ⟨s, i', h, h1, h2⟩
end PE.U

namespace PE.U
open Go PE
theorem bad_parse : (zUa [120]).1 = ⟨[], []⟩ := by kernel_rfl
set_option maxHeartbeats 8000000 in
set_option maxRecDepth 20000 in
theorem good_of (l : List UInt8) (hl : l.length <= 9223372036854775807) :
  PC (zi E 20 [u8s l] []) (fun r st => st = [] /\ ∃ s, r = .ret (zf (zUa s).1)) := by
 refine zpa rfl rfl rfl (by simp [u8s]) ?_
 have hB1 : SB 1 = 19000 := rfl
 have hB2 : SB 2 = 155000 := rfl
 have hB3 : SB 3 = 1243000 := rfl
 have hN : BN 2 = 700 := rfl
 have S2 := nt l hl 2 (by omega)
 obtain ⟨s1, i1, h1, b1, c1⟩ := (st l hl 2 (by omega)).2 0 [120] [98] false (by omega) (by simp) (by simp)
 obtain ⟨s2, i2, h2, b2, c2⟩ := S2.num' i1 [120] [98] (by omega) (by simp) (by simp)
 obtain ⟨s3, i3, h3, b3, c3⟩ := (st l hl 1 (by omega)).2 i2 [120] [98] false (by omega) (by simp) (by simp)
 obtain ⟨s4, i4, h4, b4, c4⟩ := S2.truth' i3 [120] [98] (by omega) (by simp) (by simp)
 obtain ⟨s5, i5, h5, b5, c5⟩ := (st l hl 3 (by omega)).2 i4 [120] [98] false (by omega) (by simp) (by simp)
 obtain ⟨s6, i6, h6, b6, c6⟩ := S2.num' i5 [120] [98] (by omega) (by simp) (by simp)
 rw [hB2] at b1 c1
 rw [hN] at b2 c2 b4 c4 b6 c6
 rw [hB1] at b3 c3
 rw [hB3] at b5 c5
 have hp : ∀ s, zi E 13 [.str s] [] = some (.ret (.tup [.agg [zka (zUa s).1.arrays, funcs (zUa s).1.funcs], .int .i64 (zUa s).2.1, .int .i64 (zUa s).2.2]), []) := fun s => by rw [parse_spec]; rfl
 simp only [zka, funcs] at hp
 simp [mob, u8s] at h1 h2 h3 h4 h5 h6
 have hz : (0 : Nat) <= 0 := Nat.le_refl 0
 clear S2 hB1 hB2 hB3 hN hl
 simp [*, F20, u8s]
 repeat' (refine aI (by omega) ?_; simp [*, F20, u8s])
 (first | refine sP _ ?_ ?_ | refine sN _ ?_ ?_ | refine sM _ ?_ ?_ | refine sB _ ?_ ?_) <;> intro hc <;> simp [hc, F20]
 ·exact ⟨[120], by rw [bad_parse]; rfl⟩
 ·exact ⟨_, rfl⟩
end PE.U

namespace PE.U
open Go PE
end PE.U

namespace PE.U
open Go PE
theorem parse_psm (s : List UInt8) : PSm (zUa s).1 := by
 have h0 : PSm ⟨[], []⟩ := ⟨by simp, by simp, by simp⟩
 unfold zUa
 split
 ·rename_i h
  obtain ⟨v, p', e, I', hz⟩ := parse_run s h
  rw [e]
  have hz2 : PSm v := by
   have I := tokens_inv s h
   have hc := tokens_count s h
   have hS := tokens_short s
   have hf : fuel (zD s).1 <= 6400164 := by unfold fuel; omega
   obtain ⟨a1, a2, a3⟩ := prog_wt hS _ _ _ _ _ _ (by omega) I e (fuel (zD s).1) (Nat.le_refl _) (by simp)
   have hm : 100008 * (zD s).1.length <= 100008 * 100001 := Nat.mul_le_mul_left _ hc
   refine ⟨hz.1, hz.2.1, fun f hff => ?_⟩
   obtain ⟨b1, b2⟩ := a3 f hff
   exact ⟨by omega, by omega⟩
  simp only
  split
  ·exact h0
  split
  ·exact h0
  split
  ·exact hz2
  ·exact h0
 ·exact h0
set_option maxHeartbeats 1000000 in
theorem evalRenamed_spec (l : List UInt8) (inp : List Int) (fu : Int) (hl : l.length <= 9223372036854775807) (hi : inp.length <= 9223372036854775807) (hf : 0 <= fu /\ fu <= 255) : zi E 8 [u8s l, ints inp, .int .u8 fu] [] = some (.ret (.bool true), []) := by
 refine zc rfl rfl rfl (by simp) ?_
 have ha := awake07_spec
 have hin := ins_spec inp hi
 have hw : zB .i64 fu = fu := zj (by omega) (by omega)
 have hw2 : zB .i64 (4 * fu) = 4 * fu := zj (by omega) (by omega)
 obtain ⟨r, st, hg, rfl, s, rfl⟩ := PC_iff.1 (good_of l hl)
 have hz := parse_psz s
 have hsm := parse_psm s
 generalize (zUa s).1 = p at *
 generalize inp.take 10 = i10 at *
 have hrn := rename_spec p hz
 unfold renM at hrn
 by_cases h0 : (zjc p).1 = 0
 ·rw [if_pos h0] at hrn
  have h1 := zUc p hz i10 (4 * fu) (by omega)
  have h2 := zUc (renP p) (psz_ren p hsm) i10 (4 * fu) (by omega)
  rw [evalM_ren p (checkT_ok hz h0) h0 (check_ren p hz h0)] at h2
  have ho := evalM_out p i10 (4 * fu) (by omega)
  have hsame := sameR_spec _ _ ho ho
  rw [sameRn_self] at hsame
  generalize evalM p i10 (4 * fu) = a at *
  generalize renP p = q at *
  obtain ⟨ar, fs⟩ := p
  obtain ⟨ar2, fs2⟩ := q
  obtain ⟨st, co, ou, cs, fl⟩ := a
  clear hl hi hf hz hsm h0 ho
  simp [encRn, zf, encRen, ints] at h1 h2 hsame hg hin hrn
  simp [*, F8, ints]
 ·rw [if_neg h0] at hrn
  obtain ⟨ar, fs⟩ := p
  clear hl hi hf hz hsm h0
  simp [zf, encRen, ints] at hg hin hrn
  simp [*, F8, ints]
end PE.U

namespace PE
open Go Go.RowKit
def Kept (w w' : World) : Prop := Grown w w' /\ ∀ k, k < w.heap.size -> w'.heap[k]? = w.heap[k]?
theorem kept_of_ext {w w' : World} {G' : Gh} {st' : ze} (h : Ext (gh0 w) [] w G' st' w') : Kept w w' :=
 ⟨grown_of_ext h, fun k hk => (h.prot k (by simp [gh0, hk])).2.2⟩
theorem Kept.same {W w' : World} (h : Kept W w') {p : MemPlace} (hp : p.block < W.heap.size) : W.sameAt w' p := by
 cases p with
 | cell b o => exact World.cell?_of_block (w := W) (h.2 b hp)
 | map b => exact h.2 b hp
theorem Kept.trod {H : Type} {enc : TypeId × Value -> H} {P : Program} {t : TypeId} (hl : laidOutB P = true) (hr : P.readableRec t = true) (hrow : t < P.types.size) {W W' : World} {v : Value} {d : DataW H} {ps : List MemPlace}
  (h : DataW.Trod enc P W 0 (fun _ => true) true t v d ps) (hb : Kept W W') (hlt : ∀ x ∈ ps, x.block < W.heap.size) :
  DataW.Trod enc P W' 0 (fun b => decide (b < W.heap.size)) true t v d ps :=
 WideElems.Trod_stays hl hr hrow h (fun x hx => hb.same (hlt x hx)) (fun x hx => by simpa using hlt x hx)
theorem walk_kept {P : Program} {E : Env} (hE : EnvOk P E) {f : Nat} {args : List PV} {margs : Array Value} {w : World} {st' : ze}
  (h : zi E f args [] = some (.ret (.bool true), st')) (hsz : margs.size = args.length)
  (hv : ∀ (j : Nat) c x, args[j]? = some c -> margs[j]? = some x -> VR ((gh0 w).im w) (fun _ => none) c x) :
  Calls P f margs w fun e w' => e = .returned (.bool true) /\ Kept w w' := by
 obtain ⟨n, hn⟩ := zpd.1 h
 have hloc : zl (gh0 w).lc [] = fun _ => none := by funext l; simp [zl]
 refine ((callF_good hE n _ _ _ _ _ hn (gh0 w) w margs rfl (gh0_sim w) hsz (by rw [hloc]; exact hv)).2).mono ?_
 intro e w' he
 cases e with
 | returned mv =>
  obtain ⟨G', q1, q2, q3⟩ := he
  exact ⟨by rw [VR.bool_inv q3], kept_of_ext q2⟩
 | panicked ch => exact he.elim
 | outgrown => exact he.elim
def IsRow (k : IntKind) (w : World) (a : Option Addr) (len cap : Nat) (zs : List Int) : Prop :=
 (a = none /\ len = 0 /\ cap = 0 /\ zs = []) ∨
 ∃ x, a = some x /\ len <= cap /\ cap <= maxLen /\ zs.length = cap /\ (∀ i, i < zs.length -> w.cell? (x.add i) = some (.int k (zs.getD i 0))) /\ ∀ n ∈ zs, (Lit.int k n).wf = true
theorem row_vr {k : IntKind} {w : World} {a : Option Addr} {len cap : Nat} {zs : List Int} (h : IsRow k w a len cap zs) : VR ((gh0 w).im w) (fun _ => none) (.slice .plain 1 ((zs.take len).map (PV.int k))) (.slice a len cap) := by
 rcases h with ⟨rfl, rfl, rfl, rfl⟩ | ⟨x, rfl, hl, hm, hz, hcell, hwz⟩
 ·exact .slice0 _ _ _ _ (by simp) (by simp)
 ·by_cases h0 : len = 0
  ·subst h0
   exact .slice0 _ _ _ _ (by simp) (by simp)
  ·obtain ⟨b, off, spot⟩ := x
   have hc := hcell 0 (by omega)
   have hspot : spot = none := by simpa [Addr.add] using World.cell?_spot hc
   subst hspot
   have hlen : ((zs.take len).map (PV.int k)).length = len := by simp; omega
   have hget : ∀ (i : Nat) e, ((zs.take len).map (PV.int k))[i]? = some e -> i < len /\ e = .int k (zs.getD i 0) := by
    intro i e he
    rw [List.getElem?_map, Option.map_eq_some_iff] at he
    obtain ⟨n, hn, rfl⟩ := he
    rw [List.getElem?_take] at hn
    split at hn
    ·rename_i hi
     refine ⟨hi, ?_⟩
     rw [List.getD_eq_getElem?_getD, hn]; rfl
    ·cases hn
   have := VR.slice (I := (gh0 w).im w) (L := fun _ => none) (k := .plain) (sz := 1) (l := (zs.take len).map (PV.int k)) (b := b) (o := off) (cap := cap)
    (by simp) (by simp) (by rw [hlen]; exact hl) (fun i _ => .int k (zs.getD i 0)) ?_ ?_ ?_
   ·rw [hlen] at this; exact this
   ·intro i e he
    obtain ⟨_, rfl⟩ := hget i e he
    exact ⟨rfl, rfl⟩
   ·intro i e j c he hc
    obtain ⟨hi, rfl⟩ := hget i e he
    cases j with
    | zero =>
     refine ⟨gh0_im ?_, rfl⟩
     have := hcell i (by omega)
     have e : (⟨b, off, none⟩ : Addr).add i = ⟨b, off + i * 1 + 0, none⟩ := by
      unfold Addr.add
      by_cases hi0 : i = 0 <;> simp [hi0]
     rw [<- e]; exact this
    | succ j => simp [cellsOf] at hc
   ·intro i e j c he hc
    obtain ⟨hi, rfl⟩ := hget i e he
    cases j with
    | zero => simp [cellsOf] at hc; subst hc; exact .int _ _
    | succ j => simp [cellsOf] at hc
theorem row_len {k : IntKind} {w : World} {a : Option Addr} {len cap : Nat} {zs : List Int} (h : IsRow k w a len cap zs) : (zs.take len).length <= maxLen := by
 rcases h with ⟨rfl, rfl, rfl, rfl⟩ | ⟨x, rfl, hl, hm, hz, hcell, hwz⟩
 ·simp
 ·rw [List.length_take]; omega
def bytesOf (zs : List Int) : List UInt8 := zs.map fun n => UInt8.ofNat n.toNat
theorem row_u8 {w : World} {a : Option Addr} {len cap : Nat} {zs : List Int} (h : IsRow .u8 w a len cap zs) : VR ((gh0 w).im w) (fun _ => none) (.slice .plain 1 ((bytesOf (zs.take len)).map fun b => .int .u8 b.toNat)) (.slice a len cap) := by
 have hv := row_vr h
 have : (bytesOf (zs.take len)).map (fun b => PV.int .u8 b.toNat) = (zs.take len).map (PV.int .u8) := by
  unfold bytesOf
  rw [List.map_map]
  apply List.map_congr_left
  intro n hn
  have hwf : (Lit.int .u8 n).wf = true := by
   rcases h with ⟨rfl, rfl, rfl, rfl⟩ | ⟨x, rfl, hl, hm, hz, hcell, hwz⟩
   ·simp at hn
   ·exact hwz n (List.mem_of_mem_take hn)
  have hb : 0 <= n /\ n <= 255 := by
   simp only [Lit.wf, Bool.and_eq_true, decide_eq_true_eq] at hwf
   exact hwf
  simp only [Function.comp_apply, PV.int.injEq, true_and]
  have : (UInt8.ofNat n.toNat).toNat = n.toNat := by
   rw [UInt8.toNat_ofNat']; omega
  omega
 rw [this]; exact hv
theorem bytes_len {w : World} {a : Option Addr} {len cap : Nat} {zs : List Int} (h : IsRow .u8 w a len cap zs) : (bytesOf (zs.take len)).length <= maxLen := by
 unfold bytesOf; rw [List.length_map]; exact row_len h
theorem str_vr (I : Im) (L : Loc) {b : ByteArray} : VR I L (.str b.data.toList) (.string b) := VR.str b.data.toList
theorem str_len {b : ByteArray} (h : b.size <= maxLen) : b.data.toList.length <= maxLen := by
 rw [Array.length_toList]; exact h
theorem maxLen_eq : maxLen = 9223372036854775807 := by decide
end PE

namespace PE
open Go Go.RowKit
def packT (P : Program) (e : TypeId) (l : List PV) : PV := match P.underlying e with
 | some (.struct _) => .agg l
 | _ => l.headD .undef
def CellsT (P : Program) : Nat -> TypeId -> List PV -> Prop
 | 0, _, _ => False
 | n + 1, t, l => match P.underlying t with
  | some (.int k) => ∃ z, l = [.int k z] /\ (Lit.int k z).wf = true
  | some .bool => ∃ b, l = [.bool b]
  | some .string => ∃ s : List UInt8, l = [.str s] /\ s.length <= maxLen
  | some (.struct fs) => l.length = P.cellsOf t /\ ∀ f ∈ fs.toList, CellsT P n f.type ((l.drop f.offset).take (P.cellsOf f.type))
  | some (.slice e) => ∃ es : List (List PV), l = [.slice .plain (P.cellsOf e) (es.map (packT P e))] /\ es.length <= maxLen /\ ∀ c ∈ es, CellsT P n e c
  | _ => False
def layB (P : Program) : List Field -> Nat -> Nat -> Bool
 | [], o, total => o == total
 | f :: r, o, total => f.offset == o && layB P r (o + P.cellsOf f.type) total
def plainB (P : Program) (S : List TypeId) : Bool := S.all fun t => match P.underlying t with
 | some (.int _) => P.cellsOf t == 1
 | some .bool => P.cellsOf t == 1
 | some .string => P.cellsOf t == 1
 | some (.struct fs) => fs.toList.all (fun f => S.contains f.type) && layB P fs.toList 0 (P.cellsOf t)
 | some (.slice e) => S.contains e && decide (0 < P.cellsOf e) && (P.cellsOf t == 1)
 | _ => false
def R1 (w : World) (c : PV) (v : Value) : Prop := VR ((gh0 w).im w) (fun _ => none) c v /\ zhe c = true /\ v.oneCell' = true
def Rs (w : World) (l : List PV) (cs : List Value) : Prop := l.length = cs.length /\ ∀ (j : Nat) c v, l[j]? = some c -> cs[j]? = some v -> R1 w c v
theorem Rs.one {w : World} {c : PV} {v : Value} (h : R1 w c v) : Rs w [c] [v] := by
 refine ⟨rfl, fun j c' v' hc hv => ?_⟩
 cases j with
 | zero => cases hc; cases hv; exact h
 | succ j => simp at hc
theorem Rs.append {w : World} {l l' : List PV} {cs cs' : List Value} (h : Rs w l cs) (h' : Rs w l' cs') : Rs w (l ++ l') (cs ++ cs') := by
 refine ⟨by simp [h.1, h'.1], fun j c v hc hv => ?_⟩
 by_cases hj : j < l.length
 ·rw [List.getElem?_append_left hj] at hc
  rw [List.getElem?_append_left (by rw [<- h.1]; exact hj)] at hv
  exact h.2 j c v hc hv
 ·rw [List.getElem?_append_right (by omega)] at hc
  rw [List.getElem?_append_right (by rw [<- h.1]; omega)] at hv
  rw [<- h.1] at hv
  exact h'.2 _ c v hc hv
theorem lay_join {P : Program} {w : World} {n : Nat} {cs : List Value} : ∀ (fs : List Field) (o total : Nat), layB P fs o total = true -> total = cs.length →
  (∀ f ∈ fs, ∃ l, Rs w l ((cs.drop f.offset).take (P.cellsOf f.type)) /\ CellsT P n f.type l) →
  ∃ l, Rs w l (cs.drop o) /\ ∀ f ∈ fs, o <= f.offset /\ CellsT P n f.type ((l.drop (f.offset - o)).take (P.cellsOf f.type)) := by
 intro fs
 induction fs with
 | nil =>
  intro o total hl ht _
  simp only [layB, beq_iff_eq] at hl
  refine ⟨[], ⟨?_, fun j c v hc => by simp at hc⟩, fun f hf => by simp at hf⟩
  simp; omega
 | cons f r ih =>
  intro o total hl ht hf
  simp only [layB, Bool.and_eq_true, beq_iff_eq] at hl
  obtain ⟨ho, hl⟩ := hl
  obtain ⟨l1, h1, c1⟩ := hf f (by simp)
  obtain ⟨l2, h2, c2⟩ := ih _ _ hl ht (fun g hg => hf g (by simp [hg]))
  have hle : ∀ (fs : List Field) (o total : Nat), layB P fs o total = true -> o <= total := by
   intro fs
   induction fs with
   | nil => intro o total h; simp only [layB, beq_iff_eq] at h; omega
   | cons g s ihs =>
    intro o total h
    simp only [layB, Bool.and_eq_true, beq_iff_eq] at h
    have := ihs _ _ h.2; omega
  have hn := hle _ _ _ hl
  have hlen1 : l1.length = P.cellsOf f.type := by
   rw [h1.1, List.length_take, List.length_drop, ho]; omega
  refine ⟨l1 ++ l2, ?_, ?_⟩
  ·have : cs.drop o = (cs.drop f.offset).take (P.cellsOf f.type) ++ cs.drop (o + P.cellsOf f.type) := by
    rw [ho, <- List.drop_drop, List.take_append_drop]
   rw [this]
   exact h1.append h2
  ·intro g hg
   rcases List.mem_cons.1 hg with rfl | hg
   ·refine ⟨by omega, ?_⟩
    rw [ho, Nat.sub_self, List.drop_zero, List.take_append_of_le_length (by omega), <- hlen1, List.take_length]
    exact c1
   ·obtain ⟨h3, h4⟩ := c2 g hg
    refine ⟨by omega, ?_⟩
    have : (l1 ++ l2).drop (g.offset - o) = l2.drop (g.offset - (o + P.cellsOf f.type)) := by
     rw [List.drop_append, List.drop_of_length_le (by omega), List.nil_append]
     congr 1; omega
    rw [this]; exact h4
theorem cells_packed {P : Program} {n : Nat} {e : TypeId} {l : List PV} {w : World} {cs : List Value} (hr : Rs w l cs) (h : CellsT P n e l) (hsz : cs.length = P.cellsOf e) : cellsOf (packT P e l) = l /\ zE (packT P e l) = true := by
 cases n with
 | zero => exact h.elim
 | succ n =>
  unfold CellsT at h
  unfold packT
  split at h
  ·rename_i hu; rw [hu]; obtain ⟨z, rfl, _⟩ := h; exact ⟨rfl, rfl⟩
  ·rename_i hu; rw [hu]; obtain ⟨z, rfl⟩ := h; exact ⟨rfl, rfl⟩
  ·rename_i hu; rw [hu]; obtain ⟨z, rfl, _⟩ := h; exact ⟨rfl, rfl⟩
  ·rename_i hu; rw [hu]; exact ⟨rfl, rfl⟩
  ·rename_i hu; rw [hu]; obtain ⟨z, rfl, _⟩ := h; exact ⟨rfl, rfl⟩
  ·exact h.elim
theorem cells?_get {w : World} {a : Addr} {n : Nat} {cs : List Value} (h : w.cells? 0 a n = some cs) : cs.length = n /\ ∀ (j : Nat) v, cs[j]? = some v -> w.cell? (a.add j) = some v := by
 unfold World.cells? at h
 rw [if_pos (Nat.zero_le _)] at h
 have hl := mapM_some_length h
 rw [List.length_range] at hl
 refine ⟨hl, fun j v hv => ?_⟩
 have hj : j < n := by rw [<- hl]; exact (List.getElem?_eq_some_iff.1 hv).1
 have := mapM_some_get h j j (by rw [List.getElem?_range hj])
 rw [this, hv]
theorem add_add (a : Addr) (ha : a.spot = none) (x : Nat) : a.add x = ⟨a.block, a.off + x, none⟩ := by
 obtain ⟨b, o, s⟩ := a
 simp only at ha
 subst ha
 unfold Addr.add
 by_cases h : x = 0 <;> simp [h]
theorem read_cells {P : Program} {S : List TypeId} (hp : plainB P S = true) {H : Type} {enc : TypeId × Value -> H} {w : World} {sp : Nat -> Bool} : ∀ (n : Nat) (t : TypeId) (cs : List Value) (x : DataW H × List MemPlace), t ∈ S →
  DataW.trod enc P w 0 sp true n t cs = some x -> ∃ l, Rs w l cs /\ CellsT P n t l /\ cs.length = P.cellsOf t := by
 intro n
 induction n with
 | zero => intro t cs x _ h; simp [DataW.trod] at h
 | succ n ih =>
  intro t cs x ht h
  have hp' := List.all_eq_true.1 hp t ht
  split at hp'
  ·rename_i k hu
   obtain ⟨z, rfl, _, hw⟩ := DataW.trod_int hu h
   simp only [beq_iff_eq] at hp'
   exact ⟨[.int k z], Rs.one ⟨.int _ _, rfl, rfl⟩, by unfold CellsT; rw [hu]; exact ⟨z, rfl, hw⟩, by simp [hp']⟩
  ·rename_i hu
   obtain ⟨z, rfl, _⟩ := DataW.trod_bool hu h
   simp only [beq_iff_eq] at hp'
   exact ⟨[.bool z], Rs.one ⟨.bool _, rfl, rfl⟩, by unfold CellsT; rw [hu]; exact ⟨z, rfl⟩, by simp [hp']⟩
  ·rename_i hu
   obtain ⟨s, rfl, _, hm⟩ := DataW.trod_string hu h
   simp only [beq_iff_eq] at hp'
   exact ⟨[.str s.data.toList], Rs.one ⟨str_vr _ _, rfl, rfl⟩, by unfold CellsT; rw [hu]; exact ⟨_, rfl, str_len hm⟩, by simp [hp']⟩
  ·rename_i fs hu
   simp only [Bool.and_eq_true, List.all_eq_true, List.contains_iff_mem] at hp'
   obtain ⟨hS, hlay⟩ := hp'
   obtain ⟨xs, m, hm, _, hlen, hxs, hget⟩ := DataW.trod_struct hu h
   cases hm
   obtain ⟨l, hl, hc⟩ := lay_join (w := w) (n := n) (cs := cs) fs.toList 0 _ hlay hlen.symm (by
    intro f hf
    obtain ⟨i, hi⟩ := List.getElem?_of_mem hf
    have hi' : fs[i]? = some f := by simpa using hi
    have hg := hget i f hi'
    have hlt : i < xs.length := by rw [hxs]; simpa using (List.getElem?_eq_some_iff.1 hi).1
    rw [List.getElem?_eq_getElem hlt] at hg
    obtain ⟨l, h1, h2, _⟩ := ih _ _ _ (hS f hf) hg
    exact ⟨l, h1, h2⟩)
   rw [List.drop_zero] at hl
   refine ⟨l, hl, ?_, hlen⟩
   unfold CellsT
   rw [hu]
   exact ⟨by rw [hl.1, hlen], fun f hf => by have := (hc f hf).2; rwa [Nat.sub_zero] at this⟩
  ·rename_i e hu
   simp only [Bool.and_eq_true, List.contains_iff_mem, decide_eq_true_eq, beq_iff_eq] at hp'
   obtain ⟨⟨hS, hpos⟩, h1⟩ := hp'
   rcases DataW.trod_slice hu h with ⟨rfl, _⟩ | ⟨a, len, cap, elems, rest, m, hm, rfl, _, _, hle, hcap, hel, hget, _, _⟩
   ·exact ⟨[.slice .plain (P.cellsOf e) []], Rs.one ⟨.slice0 _ _ _ _ (by simp) (by simp), rfl, rfl⟩, by unfold CellsT; rw [hu]; exact ⟨[], rfl, by simp, by simp⟩, by simp [h1]⟩
   ·cases hm
    have key : ∀ i, i < len -> ∃ l : List PV, l.length = P.cellsOf e /\ CellsT P n e l /\ cellsOf (packT P e l) = l /\ zE (packT P e l) = true /\ ∀ (j : Nat) c, l[j]? = some c -> ∃ v, w.cell? ((a.add (i * P.cellsOf e)).add j) = some v /\ R1 w c v := by
     intro i hi
     have hg := hget i hi
     have hlt : i < elems.length := by omega
     rw [List.getElem?_eq_getElem hlt, Option.bind_eq_some_iff] at hg
     obtain ⟨cs', h2, h3⟩ := hg
     obtain ⟨l, h4, h5, h6⟩ := ih _ _ _ hS h3
     obtain ⟨h7, h8⟩ := cells?_get h2
     obtain ⟨h9, h10⟩ := cells_packed h4 h5 h6
     refine ⟨l, by rw [h4.1, h6], h5, h9, h10, fun j c hc => ?_⟩
     have hj : j < cs'.length := by rw [<- h4.1]; exact (List.getElem?_eq_some_iff.1 hc).1
     exact ⟨cs'[j], h8 j _ (List.getElem?_eq_getElem hj), h4.2 j c _ hc (List.getElem?_eq_getElem hj)⟩
    let g : Nat -> List PV := fun i => if hi : i < len then (key i hi).choose else []
    have hg : ∀ i, i < len -> (g i).length = P.cellsOf e /\ CellsT P n e (g i) /\ cellsOf (packT P e (g i)) = g i /\ zE (packT P e (g i)) = true /\ ∀ (j : Nat) c, (g i)[j]? = some c -> ∃ v, w.cell? ((a.add (i * P.cellsOf e)).add j) = some v /\ R1 w c v := by
     intro i hi
     have := (key i hi).choose_spec
     simp only [g, dif_pos hi]
     exact this
    have hel' : ∀ (i : Nat) x, (((List.range len).map g).map (packT P e))[i]? = some x -> i < len /\ x = packT P e (g i) := by
     intro i x hx
     rw [List.map_map, List.getElem?_map, Option.map_eq_some_iff] at hx
     obtain ⟨k, hk, rfl⟩ := hx
     obtain ⟨hk1, hk2⟩ := List.getElem?_eq_some_iff.1 hk
     rw [List.length_range] at hk1
     rw [List.getElem_range] at hk2
     subst hk2
     exact ⟨hk1, rfl⟩
    refine ⟨[.slice .plain (P.cellsOf e) (((List.range len).map g).map (packT P e))], Rs.one ⟨?_, rfl, rfl⟩, ?_, by simp [h1]⟩
    ·by_cases h0 : len = 0
     ·subst h0
      exact .slice0 _ _ _ _ (by simp) (by simp)
     ·obtain ⟨q1, q2, q3, q4, q5⟩ := hg 0 (by omega)
      have hspot : a.spot = none := by
       have hlt : 0 < (g 0).length := by omega
       obtain ⟨v, hv, _⟩ := q5 0 _ (List.getElem?_eq_getElem hlt)
       have hsp := World.cell?_spot hv
       obtain ⟨b, o, s⟩ := a
       simpa [Addr.add] using hsp
      obtain ⟨b, o, s⟩ := a
      simp only at hspot
      subst hspot
      have hcell : ∀ (i : Nat) x (j : Nat) c, (((List.range len).map g).map (packT P e))[i]? = some x -> (cellsOf x)[j]? = some c -> ∃ v, (gh0 w).im w b (o + i * P.cellsOf e + j) = some v /\ R1 w c v := by
       intro i x j c hx hc
       obtain ⟨hi, rfl⟩ := hel' i x hx
       obtain ⟨r1, r2, r3, r4, r5⟩ := hg i hi
       rw [r3] at hc
       obtain ⟨v, hv, hr⟩ := r5 j c hc
       refine ⟨v, gh0_im ?_, hr⟩
       rw [add_add ⟨b, o, none⟩ rfl, add_add ⟨b, o + i * P.cellsOf e, none⟩ rfl] at hv
       exact hv
      have hlen : (((List.range len).map g).map (packT P e)).length = len := by simp
      have := VR.slice (I := (gh0 w).im w) (L := fun _ => none) (k := .plain) (sz := P.cellsOf e) (l := ((List.range len).map g).map (packT P e)) (b := b) (o := o) (cap := cap)
       (by simp) (by simp) (by rw [hlen]; exact hle) (fun i j => ((gh0 w).im w b (o + i * P.cellsOf e + j)).getD (.bool false)) ?_ ?_ ?_
      ·rw [hlen] at this; exact this
      ·intro i x hx
       obtain ⟨hi, rfl⟩ := hel' i x hx
       obtain ⟨r1, r2, r3, r4, r5⟩ := hg i hi
       exact ⟨by rw [r3, r1], r4⟩
      ·intro i x j c hx hc
       obtain ⟨v, hv, hr⟩ := hcell i x j c hx hc
       simp only [hv, Option.getD_some]
       exact ⟨trivial, hr.2.2⟩
      ·intro i x j c hx hc
       obtain ⟨v, hv, hr⟩ := hcell i x j c hx hc
       simp only [hv, Option.getD_some]
       exact hr.1
    ·unfold CellsT
     rw [hu]
     refine ⟨(List.range len).map g, rfl, by simp; omega, ?_⟩
     intro c hc
     rw [List.mem_map] at hc
     obtain ⟨i, hi, rfl⟩ := hc
     exact (hg i (List.mem_range.1 hi)).2.1
  ·cases hp'
theorem packT_struct {P : Program} {e : TypeId} {fs : Array Field} (hu : P.underlying e = some (.struct fs)) (l : List PV) : packT P e l = .agg l := by
 unfold packT; rw [hu]
theorem le_max {n : Nat} (h : n <= maxLen) : n <= 9223372036854775807 := by rw [maxLen_eq] at h; exact h
theorem read_row {P : Program} {S : List TypeId} (hp : plainB P S = true) {H : Type} {enc : TypeId × Value -> H} {w : World} {sp : Nat -> Bool} {t e : TypeId} (hu : P.underlying t = some (.slice e)) (ht : t ∈ S) {v : Value} {d : DataW H} {ps : List MemPlace} (h : DataW.Trod enc P w 0 sp true t v d ps) {a : Option Addr} {len cap : Nat} (hv : v = .slice a len cap) :
  ∃ (n : Nat) (es : List (List PV)), VR ((gh0 w).im w) (fun _ => none) (.slice .plain (P.cellsOf e) (es.map (packT P e))) v /\ es.length <= maxLen /\ ∀ c ∈ es, CellsT P n e c := by
 subst hv
 obtain ⟨n, hf⟩ := h
 obtain ⟨l, h1, h2, h3⟩ := read_cells hp n t _ _ ht hf
 cases n with
 | zero => exact h2.elim
 | succ n =>
  unfold CellsT at h2
  rw [hu] at h2
  obtain ⟨es, rfl, hm, hc⟩ := h2
  exact ⟨n, es, (h1.2 0 _ _ rfl (by simp [Value.cells])).1, hm, hc⟩
end PE
