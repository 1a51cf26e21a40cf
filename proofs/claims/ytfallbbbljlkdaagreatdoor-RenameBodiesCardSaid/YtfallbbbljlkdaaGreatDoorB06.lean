/-
  Texts joined by program: A6S3a, A6S3, A6Z6, PfEnd, PfRead.
-/
import Derived.Test.YtfallbbbljlkdaaGreatDoorB05
import Derived.WalkKit
import Derived.ProofKit
import Derived.OpenShut
import Derived.ShutString
import Derived.ChangeOld
import Derived.Below
set_option linter.unusedVariables false
set_option linter.unusedSectionVars false
set_option linter.unusedSimpArgs false
namespace PE.U
open Go PE
def idN (N : Nm) : Prop := ∀ x ∈ N, x.1 = x.2
theorem findN_id {N : Nm} (h : idN N) (nm : List UInt8) : zfa nm N = nm := by
 induction N with
 | nil => rfl
 | cons x r ih =>
  unfold zfa
  split
  ·rename_i e; rw [<- h x (by simp)]; exact e
  ·exact ih fun y hy => h y (by simp [hy])
mutual
theorem renE_id {N : Nm} (h : idN N) : ∀ (e : Expr), renE N e = e
 | ⟨k, o, n, nm, ar⟩ => by
  rw [renE, findN_id h, renEs_id h ar]
  split <;> rfl
theorem renEs_id {N : Nm} (h : idN N) : ∀ (l : List Expr), zX N l = l
 | [] => by rw [zX]
 | x :: r => by rw [zX, renE_id h x, renEs_id h r]
end
mutual
theorem renS_again : ∀ (s : Stmt) (N : Nm) (c : Nat) (N' : Nm), idN N' -> (renS (renS s N c).1 N' c).1 = (renS s N c).1 /\ idN (renS (renS s N c).1 N' c).2.1 /\ (renS (renS s N c).1 N' c).2.2 = (renS s N c).2.2
 | ⟨k, ty, nm, ar, th, el⟩, N, c, N', h => by
  by_cases hk : k = 1
  ·subst hk
   have hf : zfa nm ((nm, newN c) :: N) = newN c := by simp [zfa]
   simp only [renS, if_true, true_or, hf]
   have hid : idN ((newN c, newN c) :: N') := by
    intro x hx
    rcases List.mem_cons.1 hx with rfl | hx
    ·rfl
    ·exact h x hx
   have e1 := zUc th ((nm, newN c) :: N) (c + 1) ((newN c, newN c) :: N') hid
   have e2 := zUc el ((nm, newN c) :: N) (renB th ((nm, newN c) :: N) (c + 1)).2.2 ((newN c, newN c) :: N') hid
   rw [e1.1, e1.2.2, e2.1, e2.2.2, renEs_id h, findN_id hid]
   exact ⟨rfl, hid, rfl⟩
  ·simp only [renS, hk, if_false, false_or]
   have e1 := zUc th N c N' h
   have e2 := zUc el N (renB th N c).2.2 N' h
   rw [e1.1, e1.2.2, e2.1, e2.2.2, renEs_id h]
   refine ⟨?_, h, rfl⟩
   split
   ·rw [findN_id h]
   ·rfl
theorem zUc : ∀ (l : List Stmt) (N : Nm) (c : Nat) (N' : Nm), idN N' -> (renB (renB l N c).1 N' c).1 = (renB l N c).1 /\ idN (renB (renB l N c).1 N' c).2.1 /\ (renB (renB l N c).1 N' c).2.2 = (renB l N c).2.2
 | [], N, c, N', h => by simp only [renB]; exact ⟨trivial, h, trivial⟩
 | x :: r, N, c, N', h => by
  have e1 := renS_again x N c N' h
  have e2 := zUc r (renS x N c).2.1 (renS x N c).2.2 (renS (renS x N c).1 N' c).2.1 e1.2.1
  simp only [renB]
  rw [e1.2.2, e1.1]
  rw [e2.1, e2.2.2]
  exact ⟨rfl, e2.2.1, rfl⟩
end
theorem renPs_again : ∀ (ps : List Par) (N : Nm) (c : Nat) (N' : Nm), idN N' -> (zx (zx ps N c).1 N' c).1 = (zx ps N c).1 /\ idN (zx (zx ps N c).1 N' c).2.1 /\ (zx (zx ps N c).1 N' c).2.2 = (zx ps N c).2.2
 | [], N, c, N', h => by simp only [zx]; exact ⟨trivial, h, trivial⟩
 | x :: r, N, c, N', h => by
  have hid : idN ((newN c, newN c) :: N') := by
   intro x hx
   rcases List.mem_cons.1 hx with rfl | hx
   ·rfl
   ·exact h x hx
  have e := renPs_again r ((x.name, newN c) :: N) (c + 1) _ hid
  simp only [zx]
  rw [e.1, e.2.2]
  exact ⟨rfl, e.2.1, rfl⟩
theorem renF_again (f : Func) : renF (renF f) = renF f := by
 have e := renPs_again f.params [] 0 [] (fun x h => by simp at h)
 have e2 := zUc f.body (zx f.params [] 0).2.1 (zx f.params [] 0).2.2 (zx (zx f.params [] 0).1 [] 0).2.1 e.2.1
 show Func.mk f.name f.type (zx (zx f.params [] 0).1 [] 0).1 (renB (renB f.body (zx f.params [] 0).2.1 (zx f.params [] 0).2.2).1 (zx (zx f.params [] 0).1 [] 0).2.1 (zx (zx f.params [] 0).1 [] 0).2.2).1 = _
 rw [e.1, e.2.2, e2.1]
 rfl
theorem renP_again (p : Prog) : renP (renP p) = renP p := by
 show Prog.mk p.arrays ((p.funcs.map renF).map renF) = Prog.mk p.arrays (p.funcs.map renF)
 rw [List.map_map]
 congr 2
 funext f
 exact renF_again f
mutual
def let1 : Stmt -> List (List UInt8)
 | ⟨k, _, nm, _, th, el⟩ => (if k = 1 then [nm] else []) ++ (zea th ++ zea el)
def zea : List Stmt -> List (List UInt8)
 | [] => []
 | x :: r => let1 x ++ zea r
end
theorem let1_eq (s : Stmt) : let1 s = (if s.kind = 1 then [s.name] else []) ++ (zea s.thn ++ zea s.els) := by cases s; rw [let1]
theorem letsM_append (a b : List Stmt) : zea (a ++ b) = zea a ++ zea b := by
 induction a with
 | nil => simp [zea]
 | cons x r ih => simp [zea, ih]
mutual
theorem let1_len : ∀ (s : Stmt), (let1 s).length <= wtS s
 | ⟨k, ty, nm, ar, th, el⟩ => by
  have h1 := zgd th
  have h2 := zgd el
  rw [let1, wtS]
  simp only [List.length_append]
  split <;> simp <;> omega
theorem zgd : ∀ (l : List Stmt), (zea l).length <= wtSs l
 | [] => by simp [zea]
 | x :: r => by
  have h1 := let1_len x
  have h2 := zgd r
  rw [zea, wtSs, List.length_append]; omega
end
def news (c k : Nat) : List (List UInt8) := (List.range' c k).map newN
theorem zvc (c a b : Nat) : news c a ++ news (c + a) b = news c (a + b) := by
 unfold news
 rw [<- List.map_append, List.range'_append_1]
mutual
theorem let1_ren : ∀ (s : Stmt) (N : Nm) (c : Nat), ∃ k, (renS s N c).2.2 = c + k /\ let1 (renS s N c).1 = news c k
 | ⟨k, ty, nm, ar, th, el⟩, N, c => by
  by_cases hk : k = 1
  ·subst hk
   have hf : zfa nm ((nm, newN c) :: N) = newN c := by simp [zfa]
   obtain ⟨k1, a1, a2⟩ := zRd th ((nm, newN c) :: N) (c + 1)
   obtain ⟨k2, b1, b2⟩ := zRd el ((nm, newN c) :: N) (c + 1 + k1)
   simp only [renS, if_true, true_or, hf, let1, a1, a2, b1, b2]
   refine ⟨1 + (k1 + k2), by omega, ?_⟩
   rw [zvc, <- zvc c 1 (k1 + k2)]
   rfl
  ·obtain ⟨k1, a1, a2⟩ := zRd th N c
   obtain ⟨k2, b1, b2⟩ := zRd el N (c + k1)
   simp only [renS, hk, if_false, false_or, let1, a1, a2, b1, b2]
   refine ⟨k1 + k2, by omega, ?_⟩
   rw [List.nil_append, zvc]
theorem zRd : ∀ (l : List Stmt) (N : Nm) (c : Nat), ∃ k, (renB l N c).2.2 = c + k /\ zea (renB l N c).1 = news c k
 | [], N, c => ⟨0, by simp [renB], by simp [renB, zea, news]⟩
 | x :: r, N, c => by
  obtain ⟨k1, a1, a2⟩ := let1_ren x N c
  obtain ⟨k2, b1, b2⟩ := zRd r (renS x N c).2.1 (c + k1)
  simp only [renB, zea, a1, a2, b1, b2]
  exact ⟨k1 + k2, by omega, zvc c k1 k2⟩
end
theorem pars_ren_names : ∀ (ps : List Par) (N : Nm) (c : Nat), (zx ps N c).1.map (·.name) = news c ps.length
 | [], N, c => by simp [zx, news]
 | x :: r, N, c => by
  simp only [zx, List.map_cons, pars_ren_names r, List.length_cons]
  have : r.length + 1 = 1 + r.length := by omega
  rw [this, <- zvc c 1 r.length]
  rfl
def declM (f : Func) : List (List UInt8) := f.params.map (·.name) ++ zea f.body
theorem declM_ren (f : Func) (h : wtSs f.body < 1099508000000) (hp : f.params.length < 1099509000000) : (declM (renF f)).Nodup := by
 have hl := zob f.params [] 0
 have hb := zTb f.body (zx f.params [] 0).2.1 (zx f.params [] 0).2.2
 obtain ⟨k, a1, a2⟩ := zRd f.body (zx f.params [] 0).2.1 (zx f.params [] 0).2.2
 have e : declM (renF f) = news 0 (f.params.length + k) := by
  show (zx f.params [] 0).1.map (·.name) ++ zea (renB f.body (zx f.params [] 0).2.1 (zx f.params [] 0).2.2).1 = _
  rw [pars_ren_names, a2, hl.2.2, zvc]
 rw [e]
 unfold news
 have hk : f.params.length + k < 10000000000000 := by omega
 rw [List.Nodup, List.pairwise_map]
 have := List.nodup_range' (s := 0) (n := f.params.length + k) (step := 1)
 refine List.Pairwise.imp_of_mem ?_ this
 intro a b ha hb hab heq
 rw [List.mem_range'_1] at ha hb
 exact hab (newN_inj (by omega) (by omega) heq)
end PE.U

namespace PE.U
open Go PE
def strsV (l : List (List UInt8)) : PV := .slice .plain 1 (l.map PV.str)
set_option maxHeartbeats 4000000 in
theorem lets_spec : ∀ (w : Nat) (l : List Stmt), wtSs l <= w -> w < 1099508000000 -> zi E 14 [zg l] [] = some (.ret (strsV (zea l)), []) := by
 intro w
 induction w using Nat.strongRecOn with
 | _ w IH =>
 intro l h hw
 refine zc rfl rfl rfl (by simp [zg]) ?_
 have hlen := zha l
 simp [F14, zg, strsV]
 refine zz l K14_0 B14_0 (fun d => [(3, acc 1 ((zea d).map PV.str)), (4, .int .i64 d.length)]) (fun _ => []) (fun d => True) (by omega) (by simp [zea]) ?_ ?_
 ·intros d x r s1 hl' hlt hget hget' hw1 hp h1 h2 h3 h4
  simp at h1 h3
  have hwx := zLc hl'.mem
  have hwe := zOa x
  have hsum : wtSs l = wtSs d + (1 + wtS x) + wtSs r := by rw [hl'.eq, zrc]; simp [wtSs]; omega
  have l0 := zgd d
  have l1 := zgd x.thn
  have l2 := zgd x.els
  have ih1 := IH (wtSs x.thn) (by omega) x.thn (Nat.le_refl _) (by omega)
  have ih2 := IH (wtSs x.els) (by omega) x.els (Nat.le_refl _) (by omega)
  have hap : zea (d ++ [x]) = zea d ++ ((if x.kind = 1 then [x.name] else []) ++ (zea x.thn ++ zea x.els)) := by
   rw [letsM_append, zea, zea, let1_eq, List.append_nil]
  rw [hap]
  have hdec : decide (d.length < l.length) = true := decide_eq_true hlt
  obtain ⟨k, ty, nm, ar, th, el⟩ := x
  simp only at hwe l1 l2 ih1 ih2 ⊢
  have m1 : ((zea d).length + 1) * 16 <= zn := by simp only [zn]; omega
  have m2 : ((zea d).length + 1 + (zea th).length) * 16 <= zn := by simp only [zn]; omega
  have m3 : ((zea d).length + 1 + (zea th).length + (zea el).length) * 16 <= zn := by simp only [zn]; omega
  have m4 : ((zea d).length + (zea th).length) * 16 <= zn := by simp only [zn]; omega
  have m5 : ((zea d).length + (zea th).length + (zea el).length) * 16 <= zn := by simp only [zn]; omega
  have m2' : ((zea d).length + ((zea th).length + 1)) * 16 <= zn := by simp only [zn]; omega
  have m3' : ((zea d).length + ((zea th).length + 1) + (zea el).length) * 16 <= zn := by simp only [zn]; omega
  have m3'' : ((zea d).length + ((zea th).length + ((zea el).length + 1))) * 16 <= zn := by simp only [zn]; omega
  have m5' : ((zea d).length + ((zea th).length + (zea el).length)) * 16 <= zn := by simp only [zn]; omega
  simp [zg, strsV] at ih1 ih2
  generalize zea d = A at *
  generalize zea th = B at *
  generalize zea el = C at *
  clear IH hl' hwx hwe h h2 hsum hap l0 l1 l2 hlen hw
  by_cases hk : k = 1
  ·subst hk
   simp [*, zb, zg]
  ·replace hk := eqn hk
   simp [*, zb, zg]
 ·intros s1 hp h1 h2 h3 h4
  simp at h1 h3
  cases hL : zea l <;> rw [hL] at h3 <;> simp [*]
theorem acc_cases (l : List PV) : (l = [] /\ acc 1 l = .slice .fit 1 []) \/ (l ≠ [] /\ acc 1 l = .slice .own 1 l) := by
 by_cases h : l = []
 ·subst h; exact .inl ⟨rfl, rfl⟩
 ·exact .inr ⟨h, acc_ne h⟩
theorem nodup_ne {L : List (List UInt8)} (h : L.Nodup) {i j : Nat} {a b : List UInt8} (hij : i < j) (hi : L[i]? = some a) (hj : L[j]? = some b) : ¬ a = b := by
 rintro rfl
 obtain ⟨q1, e1⟩ := List.getElem?_eq_some_iff.1 hi
 obtain ⟨q2, e2⟩ := List.getElem?_eq_some_iff.1 hj
 exact (List.pairwise_iff_getElem.1 h) i j q1 q2 hij (e1.trans e2.symm)
set_option maxHeartbeats 8000000 in
theorem renameAgain_spec (l : List UInt8) (hl : l.length <= 9223372036854775807) : zi E 5 [u8s l] [] = some (.ret (.bool true), []) := by
 refine zc rfl rfl rfl (by simp) ?_
 have ha := awake06_spec
 obtain ⟨r, st, hg, rfl, s, rfl⟩ := PC_iff.1 (good_of l hl)
 have hz := parse_psz s
 have hs := parse_psm s
 generalize (zbb s).1 = p at *
 have h1 := pren_spec p hz
 unfold renM at h1
 by_cases h0 : (zdc p).1 = 0
 ·rw [if_pos h0] at h1
  have hc := check_ren p hz h0
  have hz2 := psz_ren p hs
  have h2 := pren_spec (renP p) hz2
  unfold renM at h2
  rw [if_pos hc, renP_again] at h2
  have h3 := rcheckP_spec (renP p) hz2
  have h4 := zae (renP p) hz2
  have hnd : ∀ f ∈ (renP p).funcs, (declM f).Nodup := by
   intro f hf
   obtain ⟨g, hgm, rfl⟩ := List.mem_map.1 hf
   exact declM_ren g (hz.2.2 g hgm).1 (hz.2.2 g hgm).2
  have hsz : ∀ f ∈ (renP p).funcs, wtSs f.body < 1099508000000 /\ f.params.length < 1099509000000 := hz2.2.2
  have hfl := hz2.2.1
  generalize zdc (renP p) = q at *
  obtain ⟨e, n⟩ := q
  simp only at hc
  subst hc
  generalize renP p = q at *
  obtain ⟨ar0, fs0⟩ := p
  obtain ⟨ars, fs⟩ := q
  simp only at hnd hsz hfl
  clear hz hs h0 hz2 hl
  simp [zd, encRen, zva, funcs, zra] at hg h1 h2 h3 h4
  simp [*, F5, zva, funcs]
  clear h1 h2 h3 hg ha
  refine zz fs K5_3 B5_3 (fun d => [(11, .int .i64 d.length)]) (fun _ => []) (fun d => True) (by omega) (by simp) ?_ ?_
  ·intros d x r s1 hl' hlt hget hget' hw1 hp k1 k2 k3 k4
   simp at k1 k2 k3
   have hndx := hnd x hl'.mem
   have hszx := hsz x hl'.mem
   have hdec : decide (d.length < fs.length) = true := decide_eq_true hlt
   obtain ⟨fnm, fty, ps, body⟩ := x
   simp only at hszx
   have hle := lets_spec (wtSs body) body (Nat.le_refl _) hszx.1
   have hll := zgd body
   simp only [declM] at hndx
   simp [zg, strsV] at hle
   clear hnd hsz hl' h4
   simp [*, zm, parsV, zg]
   refine zz ps K5_0 B5_0 (fun e => [(12, acc 1 (e.map fun y => PV.str y.name)), (13, .int .i64 e.length)]) (fun _ => []) (fun _ => True) (by omega) (by simp) ?_ ?_
   ·intros e y r' s2 jl jlt jget jget' jw1 jp j1 j2 j3 j4
    simp at j1 j2 j3
    have jdec : decide (e.length < ps.length) = true := decide_eq_true jlt
    have hroom : (e.length + 1) * 16 <= zn := by simp only [zn]; omega
    obtain ⟨ynm, yty⟩ := y
    clear jl hszx hndx hle
    simp [*, zm, parsV, zg, encPar]
   ·intros s2 jp j1 j2 j3 j4
    simp at j1 j2 j3
    have hroom : (ps.length + (zea body).length) * 16 <= zn := by simp only [zn]; omega
    have hrow : Nonempty (PLift (List.map (fun y : Par => PV.str y.name) ps ++ List.map PV.str (zea body) = (ps.map (·.name) ++ zea body).map PV.str)) := ⟨⟨by simp⟩⟩
    have hLlen : (ps.map (·.name) ++ zea body).length <= 9000000000000 := by simp; omega
    simp [*, zm, parsV, zg]
    generalize ps.map (·.name) ++ zea body = L at *
    refine zza K5_2 B5_2 (fun k : Nat => L.length - k) (fun k => [(14, .int .i64 k)]) (fun _ => []) (fun _ => []) (fun k => k <= L.length) 0 ⟨by simp, by simp, by simp, by omega⟩ ?_
    intro k s3 hk q1 q2 q3 q4 q5
    simp at q1 q2 q3
    obtain ⟨⟨hrow⟩⟩ := hrow
    rw [hrow] at q1
    clear hle hll hszx j4 q4 hroom
    replace hrow := Nonempty.intro (PLift.up hrow)
    by_cases hkl : k < L.length
    ·obtain ⟨b, hb⟩ : ∃ b, L[k]? = some b := ⟨_, List.getElem?_eq_getElem hkl⟩
     have kdec : ((k : Int) < L.length) = True := eqp (by omega)
     have hb2 : L[k]'hkl = b := (List.getElem?_eq_some_iff.1 hb).2
     have hwk : zN .i64 ((k : Int) + 1) = (k : Int) + 1 := by rw [zj] <;> omega
     have hL : L.map PV.str ≠ [] := by intro e; rw [List.map_eq_nil_iff] at e; subst e; simp at hkl
     rw [acc_ne hL] at q1
     simp [*]
     refine zza K5_1 B5_1 (fun j : Nat => k - j) (fun j => [(15, .int .i64 j)]) (fun _ => []) (fun _ => []) (fun j => j <= k) 0 ⟨by simp, by simp, by simp, by omega⟩ ?_
     intro j s4 hj p1 p2 p3 p4 p5
     simp at p1 p2 p3
     by_cases hjk : j < k
     ·obtain ⟨a, ha⟩ : ∃ a, L[j]? = some a := ⟨_, List.getElem?_eq_getElem (by omega)⟩
      have hne := eqn (nodup_ne hndx hjk ha hb)
      have jdec : ((j : Int) < k) = True := eqp (by omega)
      have hwj : zN .i64 ((j : Int) + 1) = (j : Int) + 1 := by rw [zj] <;> omega
      clear hndx hL
      simp [*]
      exact ⟨j + 1, by omega, rfl, by omega⟩
     ·have jdec : ((j : Int) < k) = False := eqn (by omega)
      clear hndx
      replace hL := Nonempty.intro (PLift.up hL)
      simp [*]
      obtain ⟨⟨hL⟩⟩ := hL
      obtain ⟨⟨hrow⟩⟩ := hrow
      exact ⟨k + 1, by omega, by rw [hrow, acc_ne hL], rfl, by omega⟩
    ·have kdec : ((k : Int) < L.length) = False := eqn (by omega)
     clear hndx
     rcases acc_cases (L.map PV.str) with ⟨hL, hacc⟩ | ⟨hL, hacc⟩
     ·rw [hacc] at q1
      rw [List.map_eq_nil_iff] at hL
      subst hL
      obtain rfl : k = 0 := by simpa using hk
      clear hacc kdec
      simp [*]
     ·rw [hacc] at q1
      clear hacc hL
      simp [*]
  ·intros s1 hp k1 k2 k3 k4
   simp at k1 k2 k3
   clear hnd hsz
   simp [*]
 ·rw [if_neg h0] at h1
  have h4 := zae ⟨[], []⟩ psz_nil
  obtain ⟨ar0, fs0⟩ := p
  clear hz hs h0 hl
  simp [zd, encRen, zva, funcs] at hg h1 h4
  simp [*, F5, zva, funcs]
end PE.U

namespace PE.U
open Go PE Go.Proofs
theorem start_tab {w : World} (h : Lib.TabIs Tryz.prog w "internal/strconv.uint64pow10" .u64 Lib.pow10Tab) : tabs.In (gh0 w) w := by
 have hg : Tryz.prog.globalNamed "internal/strconv.uint64pow10" = some 0 := by kernel_rfl
 unfold Lib.TabIs World.var? at h
 rw [hg] at h
 simp only [Option.bind_some] at h
 intro x hx
 rw [show tabs = [(0, tab10)] from rfl, List.mem_singleton] at hx
 subst hx
 split at h
 ·rename_i cs e fr hc
  have hcs : cs = tab10 := Option.some.inj h
  subst hcs
  refine ⟨?_, e, fr, hc⟩
  have hlt : 0 < w.heap.size := by
   rcases Nat.lt_or_ge 0 w.heap.size with h' | h'
   ·exact h'
   ·rw [Array.getElem?_eq_none h'] at hc; cases hc
  simp [gh0, hlt]
 ·cases h
end PE.U

namespace PE
open Go Go.RowKit
def Kept (w w' : World) : Prop := w.keptBut w' (fun _ => False) /\ ∀ k, k < w.heap.size -> w'.heap[k]? = w.heap[k]?
theorem Kept.frame {w w' : World} (h : Kept w w') (X : MemPlace -> Prop) : w.keptBut w' X := World.keptBut_mono (fun p hp => hp.elim) h.1
theorem kept_of_ext {w w' : World} {G' : Gh} {st' : zf} (h : Ext (gh0 w) [] w G' st' w') : Kept w w' :=
 ⟨by
  refine ⟨h.os, h.output, fun i hi => ?_⟩
  have hb := (h.prot i (by simp [gh0, hi])).2.2
  rw [hb]
  cases w.heap[i]? with
  | none => rfl
  | some o => cases o <;> first | exact ⟨rfl, rfl, rfl, fun _ _ => rfl⟩ | exact .inr ⟨rfl, rfl⟩ | rfl, fun k hk => (h.prot k (by simp [gh0, hk])).2.2⟩
theorem Kept.same {W w' : World} (h : Kept W w') {p : MemPlace} (hp : p.block < W.heap.size) : W.sameAt w' p := by
 cases p with
 | cell b o => exact World.cell?_of_block (w := W) (h.2 b hp)
 | map b => exact h.2 b hp
theorem Kept.trod {H : Type} {enc : TypeId × Value -> H} {P : Program} {t : TypeId} (hl : laidOutB P = true) (hr : P.readableRec t = true) (hrow : t < P.types.size) {W W' : World} {v : Value} {d : DataW H} {ps : List MemPlace}
  (h : DataW.Trod enc P W 0 (fun _ => true) true t v d ps) (hb : Kept W W') (hlt : ∀ x ∈ ps, x.block < W.heap.size) :
  DataW.Trod enc P W' 0 (fun b => decide (b < W.heap.size)) true t v d ps :=
 WideElems.Trod_stays hl hr hrow h (fun x hx => hb.same (hlt x hx)) (fun x hx => by simpa using hlt x hx)
theorem walk_kept {P : Program} {T : Tabs} {E : Env} (hE : EnvOk P T E) {f : Nat} {args : List PV} {margs : Array Value} {w : World} {st' : zf} (hT : T.In (gh0 w) w)
  (h : zi E f args [] = some (.ret (.bool true), st')) (hsz : margs.size = args.length)
  (hv : ∀ (j : Nat) c x, args[j]? = some c -> margs[j]? = some x -> VR ((gh0 w).im w) (fun _ => none) c x) :
  Calls P f margs w fun e w' => e = .returned (.bool true) /\ Kept w w' := by
 obtain ⟨n, hn⟩ := zad.1 h
 have hloc : zl (gh0 w).lc [] = fun _ => none := by funext l; simp [zl]
 refine ((callF_good hE n _ _ _ _ _ hn (gh0 w) w margs rfl hT (gh0_sim w) hsz (by rw [hloc]; exact hv)).2).mono ?_
 intro e w' he
 cases e with
 | returned mv =>
  obtain ⟨G', q1, q2, q3⟩ := he
  exact ⟨by rw [VR.bool_inv q3], kept_of_ext q2⟩
 | panicked ch => exact he.elim
 | outgrown => exact he.elim
def IsRow (k : IntKind) (w : World) (a : Option Addr) (len cap : Nat) (zs : List Int) : Prop :=
 (a = none /\ len = 0 /\ cap = 0 /\ zs = []) ∨
 ∃ x, a = some x /\ len <= cap /\ cap <= maxLen /\ zs.length = cap /\ (∀ i, i < zs.length -> w.cell? (x.add i) = some (.int k (zs.getD i 0))) /\ ∀ n ∈ zs, (Lit.int k n).wf = true
theorem row_vr {k : IntKind} {w : World} {a : Option Addr} {len cap : Nat} {zs : List Int} (h : IsRow k w a len cap zs) : VR ((gh0 w).im w) (fun _ => none) (.slice .plain 1 ((zs.take len).map (PV.int k))) (.slice a len cap) := by
 rcases h with ⟨rfl, rfl, rfl, rfl⟩ | ⟨x, rfl, hl, hm, hz, hcell, hwz⟩
 ·exact .slice0 _ _ _ _ (by simp) (by simp)
 ·by_cases h0 : len = 0
  ·subst h0
   exact .slice0 _ _ _ _ (by simp) (by simp)
  ·obtain ⟨b, off, spot⟩ := x
   have hc := hcell 0 (by omega)
   have hspot : spot = none := by simpa [Addr.add] using World.cell?_spot hc
   subst hspot
   have hlen : ((zs.take len).map (PV.int k)).length = len := by simp; omega
   have hget : ∀ (i : Nat) e, ((zs.take len).map (PV.int k))[i]? = some e -> i < len /\ e = .int k (zs.getD i 0) := by
    intro i e he
    rw [List.getElem?_map, Option.map_eq_some_iff] at he
    obtain ⟨n, hn, rfl⟩ := he
    rw [List.getElem?_take] at hn
    split at hn
    ·rename_i hi
     refine ⟨hi, ?_⟩
     rw [List.getD_eq_getElem?_getD, hn]; rfl
    ·cases hn
   have := VR.slice (I := (gh0 w).im w) (L := fun _ => none) (k := .plain) (sz := 1) (l := (zs.take len).map (PV.int k)) (b := b) (o := off) (cap := cap)
    (by simp) (by simp) (by rw [hlen]; exact hl) (fun i _ => .int k (zs.getD i 0)) ?_ ?_ ?_
   ·rw [hlen] at this; exact this
   ·intro i e he
    obtain ⟨_, rfl⟩ := hget i e he
    exact ⟨rfl, rfl⟩
   ·intro i e j c he hc
    obtain ⟨hi, rfl⟩ := hget i e he
    cases j with
    | zero =>
     refine ⟨gh0_im ?_, rfl⟩
     have := hcell i (by omega)
     have e : (⟨b, off, none⟩ : Addr).add i = ⟨b, off + i * 1 + 0, none⟩ := by
      unfold Addr.add
      by_cases hi0 : i = 0 <;> simp [hi0]
     rw [<- e]; exact this
    | succ j => simp [cellsOf] at hc
   ·intro i e j c he hc
    obtain ⟨hi, rfl⟩ := hget i e he
    cases j with
    | zero => simp [cellsOf] at hc; subst hc; exact .int _ _
    | succ j => simp [cellsOf] at hc
theorem row_len {k : IntKind} {w : World} {a : Option Addr} {len cap : Nat} {zs : List Int} (h : IsRow k w a len cap zs) : (zs.take len).length <= maxLen := by
 rcases h with ⟨rfl, rfl, rfl, rfl⟩ | ⟨x, rfl, hl, hm, hz, hcell, hwz⟩
 ·simp
 ·rw [List.length_take]; omega
def bytesOf (zs : List Int) : List UInt8 := zs.map fun n => UInt8.ofNat n.toNat
theorem row_u8 {w : World} {a : Option Addr} {len cap : Nat} {zs : List Int} (h : IsRow .u8 w a len cap zs) : VR ((gh0 w).im w) (fun _ => none) (.slice .plain 1 ((bytesOf (zs.take len)).map fun b => .int .u8 b.toNat)) (.slice a len cap) := by
 have hv := row_vr h
 have : (bytesOf (zs.take len)).map (fun b => PV.int .u8 b.toNat) = (zs.take len).map (PV.int .u8) := by
  unfold bytesOf
  rw [List.map_map]
  apply List.map_congr_left
  intro n hn
  have hwf : (Lit.int .u8 n).wf = true := by
   rcases h with ⟨rfl, rfl, rfl, rfl⟩ | ⟨x, rfl, hl, hm, hz, hcell, hwz⟩
   ·simp at hn
   ·exact hwz n (List.mem_of_mem_take hn)
  have hb : 0 <= n /\ n <= 255 := by
   simp only [Lit.wf, Bool.and_eq_true, decide_eq_true_eq] at hwf
   exact hwf
  simp only [Function.comp_apply, PV.int.injEq, true_and]
  have : (UInt8.ofNat n.toNat).toNat = n.toNat := by
   rw [UInt8.toNat_ofNat']; omega
  omega
 rw [this]; exact hv
theorem bytes_len {w : World} {a : Option Addr} {len cap : Nat} {zs : List Int} (h : IsRow .u8 w a len cap zs) : (bytesOf (zs.take len)).length <= maxLen := by
 unfold bytesOf; rw [List.length_map]; exact row_len h
theorem str_vr (I : Im) (L : Loc) {b : ByteArray} : VR I L (.str b.data.toList) (.string b) := VR.str b.data.toList
theorem str_len {b : ByteArray} (h : b.size <= maxLen) : b.data.toList.length <= maxLen := by
 rw [Array.length_toList]; exact h
theorem maxLen_eq : maxLen = 9223372036854775807 := by decide
end PE

namespace PE
open Go Go.RowKit
def packT (P : Program) (e : TypeId) (l : List PV) : PV := match P.underlying e with
 | some (.struct _) => .agg l
 | _ => l.headD .undef
def CellsT (P : Program) : Nat -> TypeId -> List PV -> Prop
 | 0, _, _ => False
 | n + 1, t, l => match P.underlying t with
  | some (.int k) => ∃ z, l = [.int k z] /\ (Lit.int k z).wf = true
  | some .bool => ∃ b, l = [.bool b]
  | some .string => ∃ s : List UInt8, l = [.str s] /\ s.length <= maxLen
  | some (.struct fs) => l.length = P.cellsOf t /\ ∀ f ∈ fs.toList, CellsT P n f.type ((l.drop f.offset).take (P.cellsOf f.type))
  | some (.slice e) => ∃ es : List (List PV), l = [.slice .plain (P.cellsOf e) (es.map (packT P e))] /\ es.length <= maxLen /\ ∀ c ∈ es, CellsT P n e c
  | _ => False
def layB (P : Program) : List Field -> Nat -> Nat -> Bool
 | [], o, total => o == total
 | f :: r, o, total => f.offset == o && layB P r (o + P.cellsOf f.type) total
def plainB (P : Program) (S : List TypeId) : Bool := S.all fun t => match P.underlying t with
 | some (.int _) => P.cellsOf t == 1
 | some .bool => P.cellsOf t == 1
 | some .string => P.cellsOf t == 1
 | some (.struct fs) => fs.toList.all (fun f => S.contains f.type) && layB P fs.toList 0 (P.cellsOf t)
 | some (.slice e) => S.contains e && decide (0 < P.cellsOf e) && (P.cellsOf t == 1)
 | _ => false
def R1 (w : World) (c : PV) (v : Value) : Prop := VR ((gh0 w).im w) (fun _ => none) c v /\ zAd c = true /\ v.oneCell' = true
def Rs (w : World) (l : List PV) (cs : List Value) : Prop := l.length = cs.length /\ ∀ (j : Nat) c v, l[j]? = some c -> cs[j]? = some v -> R1 w c v
theorem Rs.one {w : World} {c : PV} {v : Value} (h : R1 w c v) : Rs w [c] [v] := by
 refine ⟨rfl, fun j c' v' hc hv => ?_⟩
 cases j with
 | zero => cases hc; cases hv; exact h
 | succ j => simp at hc
theorem Rs.append {w : World} {l l' : List PV} {cs cs' : List Value} (h : Rs w l cs) (h' : Rs w l' cs') : Rs w (l ++ l') (cs ++ cs') := by
 refine ⟨by simp [h.1, h'.1], fun j c v hc hv => ?_⟩
 by_cases hj : j < l.length
 ·rw [List.getElem?_append_left hj] at hc
  rw [List.getElem?_append_left (by rw [<- h.1]; exact hj)] at hv
  exact h.2 j c v hc hv
 ·rw [List.getElem?_append_right (by omega)] at hc
  rw [List.getElem?_append_right (by rw [<- h.1]; omega)] at hv
  rw [<- h.1] at hv
  exact h'.2 _ c v hc hv
theorem lay_join {P : Program} {w : World} {n : Nat} {cs : List Value} : ∀ (fs : List Field) (o total : Nat), layB P fs o total = true -> total = cs.length →
  (∀ f ∈ fs, ∃ l, Rs w l ((cs.drop f.offset).take (P.cellsOf f.type)) /\ CellsT P n f.type l) →
  ∃ l, Rs w l (cs.drop o) /\ ∀ f ∈ fs, o <= f.offset /\ CellsT P n f.type ((l.drop (f.offset - o)).take (P.cellsOf f.type)) := by
 intro fs
 induction fs with
 | nil =>
  intro o total hl ht _
  simp only [layB, beq_iff_eq] at hl
  refine ⟨[], ⟨?_, fun j c v hc => by simp at hc⟩, fun f hf => by simp at hf⟩
  simp; omega
 | cons f r ih =>
  intro o total hl ht hf
  simp only [layB, Bool.and_eq_true, beq_iff_eq] at hl
  obtain ⟨ho, hl⟩ := hl
  obtain ⟨l1, h1, c1⟩ := hf f (by simp)
  obtain ⟨l2, h2, c2⟩ := ih _ _ hl ht (fun g hg => hf g (by simp [hg]))
  have hle : ∀ (fs : List Field) (o total : Nat), layB P fs o total = true -> o <= total := by
   intro fs
   induction fs with
   | nil => intro o total h; simp only [layB, beq_iff_eq] at h; omega
   | cons g s ihs =>
    intro o total h
    simp only [layB, Bool.and_eq_true, beq_iff_eq] at h
    have := ihs _ _ h.2; omega
  have hn := hle _ _ _ hl
  have hlen1 : l1.length = P.cellsOf f.type := by
   rw [h1.1, List.length_take, List.length_drop, ho]; omega
  refine ⟨l1 ++ l2, ?_, ?_⟩
  ·have : cs.drop o = (cs.drop f.offset).take (P.cellsOf f.type) ++ cs.drop (o + P.cellsOf f.type) := by
    rw [ho, <- List.drop_drop, List.take_append_drop]
   rw [this]
   exact h1.append h2
  ·intro g hg
   rcases List.mem_cons.1 hg with rfl | hg
   ·refine ⟨by omega, ?_⟩
    rw [ho, Nat.sub_self, List.drop_zero, List.take_append_of_le_length (by omega), <- hlen1, List.take_length]
    exact c1
   ·obtain ⟨h3, h4⟩ := c2 g hg
    refine ⟨by omega, ?_⟩
    have : (l1 ++ l2).drop (g.offset - o) = l2.drop (g.offset - (o + P.cellsOf f.type)) := by
     rw [List.drop_append, List.drop_of_length_le (by omega), List.nil_append]
     congr 1; omega
    rw [this]; exact h4
theorem cells_packed {P : Program} {n : Nat} {e : TypeId} {l : List PV} {w : World} {cs : List Value} (hr : Rs w l cs) (h : CellsT P n e l) (hsz : cs.length = P.cellsOf e) : cellsOf (packT P e l) = l /\ zG (packT P e l) = true := by
 cases n with
 | zero => exact h.elim
 | succ n =>
  unfold CellsT at h
  unfold packT
  split at h
  ·rename_i hu; rw [hu]; obtain ⟨z, rfl, _⟩ := h; exact ⟨rfl, rfl⟩
  ·rename_i hu; rw [hu]; obtain ⟨z, rfl⟩ := h; exact ⟨rfl, rfl⟩
  ·rename_i hu; rw [hu]; obtain ⟨z, rfl, _⟩ := h; exact ⟨rfl, rfl⟩
  ·rename_i hu; rw [hu]; exact ⟨rfl, rfl⟩
  ·rename_i hu; rw [hu]; obtain ⟨z, rfl, _⟩ := h; exact ⟨rfl, rfl⟩
  ·exact h.elim
theorem cells?_get {w : World} {a : Addr} {n : Nat} {cs : List Value} (h : w.cells? 0 a n = some cs) : cs.length = n /\ ∀ (j : Nat) v, cs[j]? = some v -> w.cell? (a.add j) = some v := by
 unfold World.cells? at h
 rw [if_pos (Nat.zero_le _)] at h
 have hl := mapM_some_length h
 rw [List.length_range] at hl
 refine ⟨hl, fun j v hv => ?_⟩
 have hj : j < n := by rw [<- hl]; exact (List.getElem?_eq_some_iff.1 hv).1
 have := mapM_some_get h j j (by rw [List.getElem?_range hj])
 rw [this, hv]
theorem add_add (a : Addr) (ha : a.spot = none) (x : Nat) : a.add x = ⟨a.block, a.off + x, none⟩ := by
 obtain ⟨b, o, s⟩ := a
 simp only at ha
 subst ha
 unfold Addr.add
 by_cases h : x = 0 <;> simp [h]
theorem read_cells {P : Program} {S : List TypeId} (hp : plainB P S = true) {H : Type} {enc : TypeId × Value -> H} {w : World} {sp : Nat -> Bool} : ∀ (n : Nat) (t : TypeId) (cs : List Value) (x : DataW H × List MemPlace), t ∈ S →
  DataW.trod enc P w 0 sp true n t cs = some x -> ∃ l, Rs w l cs /\ CellsT P n t l /\ cs.length = P.cellsOf t := by
 intro n
 induction n with
 | zero => intro t cs x _ h; simp [DataW.trod] at h
 | succ n ih =>
  intro t cs x ht h
  have hp' := List.all_eq_true.1 hp t ht
  split at hp'
  ·rename_i k hu
   obtain ⟨z, rfl, _, hw⟩ := DataW.trod_int hu h
   simp only [beq_iff_eq] at hp'
   exact ⟨[.int k z], Rs.one ⟨.int _ _, rfl, rfl⟩, by unfold CellsT; rw [hu]; exact ⟨z, rfl, hw⟩, by simp [hp']⟩
  ·rename_i hu
   obtain ⟨z, rfl, _⟩ := DataW.trod_bool hu h
   simp only [beq_iff_eq] at hp'
   exact ⟨[.bool z], Rs.one ⟨.bool _, rfl, rfl⟩, by unfold CellsT; rw [hu]; exact ⟨z, rfl⟩, by simp [hp']⟩
  ·rename_i hu
   obtain ⟨s, rfl, _, hm⟩ := DataW.trod_string hu h
   simp only [beq_iff_eq] at hp'
   exact ⟨[.str s.data.toList], Rs.one ⟨str_vr _ _, rfl, rfl⟩, by unfold CellsT; rw [hu]; exact ⟨_, rfl, str_len hm⟩, by simp [hp']⟩
  ·rename_i fs hu
   simp only [Bool.and_eq_true, List.all_eq_true, List.contains_iff_mem] at hp'
   obtain ⟨hS, hlay⟩ := hp'
   obtain ⟨xs, m, hm, _, hlen, hxs, hget⟩ := DataW.trod_struct hu h
   cases hm
   obtain ⟨l, hl, hc⟩ := lay_join (w := w) (n := n) (cs := cs) fs.toList 0 _ hlay hlen.symm (by
    intro f hf
    obtain ⟨i, hi⟩ := List.getElem?_of_mem hf
    have hi' : fs[i]? = some f := by simpa using hi
    have hg := hget i f hi'
    have hlt : i < xs.length := by rw [hxs]; simpa using (List.getElem?_eq_some_iff.1 hi).1
    rw [List.getElem?_eq_getElem hlt] at hg
    obtain ⟨l, h1, h2, _⟩ := ih _ _ _ (hS f hf) hg
    exact ⟨l, h1, h2⟩)
   rw [List.drop_zero] at hl
   refine ⟨l, hl, ?_, hlen⟩
   unfold CellsT
   rw [hu]
   exact ⟨by rw [hl.1, hlen], fun f hf => by have := (hc f hf).2; rwa [Nat.sub_zero] at this⟩
  ·rename_i e hu
   simp only [Bool.and_eq_true, List.contains_iff_mem, decide_eq_true_eq, beq_iff_eq] at hp'
   obtain ⟨⟨hS, hpos⟩, h1⟩ := hp'
   rcases DataW.trod_slice hu h with ⟨rfl, _⟩ | ⟨a, len, cap, elems, rest, m, hm, rfl, _, _, hle, hcap, hel, hget, _, _⟩
   ·exact ⟨[.slice .plain (P.cellsOf e) []], Rs.one ⟨.slice0 _ _ _ _ (by simp) (by simp), rfl, rfl⟩, by unfold CellsT; rw [hu]; exact ⟨[], rfl, by simp, by simp⟩, by simp [h1]⟩
   ·cases hm
    have key : ∀ i, i < len -> ∃ l : List PV, l.length = P.cellsOf e /\ CellsT P n e l /\ cellsOf (packT P e l) = l /\ zG (packT P e l) = true /\ ∀ (j : Nat) c, l[j]? = some c -> ∃ v, w.cell? ((a.add (i * P.cellsOf e)).add j) = some v /\ R1 w c v := by
     intro i hi
     have hg := hget i hi
     have hlt : i < elems.length := by omega
     rw [List.getElem?_eq_getElem hlt, Option.bind_eq_some_iff] at hg
     obtain ⟨cs', h2, h3⟩ := hg
     obtain ⟨l, h4, h5, h6⟩ := ih _ _ _ hS h3
     obtain ⟨h7, h8⟩ := cells?_get h2
     obtain ⟨h9, h10⟩ := cells_packed h4 h5 h6
     refine ⟨l, by rw [h4.1, h6], h5, h9, h10, fun j c hc => ?_⟩
     have hj : j < cs'.length := by rw [<- h4.1]; exact (List.getElem?_eq_some_iff.1 hc).1
     exact ⟨cs'[j], h8 j _ (List.getElem?_eq_getElem hj), h4.2 j c _ hc (List.getElem?_eq_getElem hj)⟩
    let g : Nat -> List PV := fun i => if hi : i < len then (key i hi).choose else []
    have hg : ∀ i, i < len -> (g i).length = P.cellsOf e /\ CellsT P n e (g i) /\ cellsOf (packT P e (g i)) = g i /\ zG (packT P e (g i)) = true /\ ∀ (j : Nat) c, (g i)[j]? = some c -> ∃ v, w.cell? ((a.add (i * P.cellsOf e)).add j) = some v /\ R1 w c v := by
     intro i hi
     have := (key i hi).choose_spec
     simp only [g, dif_pos hi]
     exact this
    have hel' : ∀ (i : Nat) x, (((List.range len).map g).map (packT P e))[i]? = some x -> i < len /\ x = packT P e (g i) := by
     intro i x hx
     rw [List.map_map, List.getElem?_map, Option.map_eq_some_iff] at hx
     obtain ⟨k, hk, rfl⟩ := hx
     obtain ⟨hk1, hk2⟩ := List.getElem?_eq_some_iff.1 hk
     rw [List.length_range] at hk1
     rw [List.getElem_range] at hk2
     subst hk2
     exact ⟨hk1, rfl⟩
    refine ⟨[.slice .plain (P.cellsOf e) (((List.range len).map g).map (packT P e))], Rs.one ⟨?_, rfl, rfl⟩, ?_, by simp [h1]⟩
    ·by_cases h0 : len = 0
     ·subst h0
      exact .slice0 _ _ _ _ (by simp) (by simp)
     ·obtain ⟨q1, q2, q3, q4, q5⟩ := hg 0 (by omega)
      have hspot : a.spot = none := by
       have hlt : 0 < (g 0).length := by omega
       obtain ⟨v, hv, _⟩ := q5 0 _ (List.getElem?_eq_getElem hlt)
       have hsp := World.cell?_spot hv
       obtain ⟨b, o, s⟩ := a
       simpa [Addr.add] using hsp
      obtain ⟨b, o, s⟩ := a
      simp only at hspot
      subst hspot
      have hcell : ∀ (i : Nat) x (j : Nat) c, (((List.range len).map g).map (packT P e))[i]? = some x -> (cellsOf x)[j]? = some c -> ∃ v, (gh0 w).im w b (o + i * P.cellsOf e + j) = some v /\ R1 w c v := by
       intro i x j c hx hc
       obtain ⟨hi, rfl⟩ := hel' i x hx
       obtain ⟨r1, r2, r3, r4, r5⟩ := hg i hi
       rw [r3] at hc
       obtain ⟨v, hv, hr⟩ := r5 j c hc
       refine ⟨v, gh0_im ?_, hr⟩
       rw [add_add ⟨b, o, none⟩ rfl, add_add ⟨b, o + i * P.cellsOf e, none⟩ rfl] at hv
       exact hv
      have hlen : (((List.range len).map g).map (packT P e)).length = len := by simp
      have := VR.slice (I := (gh0 w).im w) (L := fun _ => none) (k := .plain) (sz := P.cellsOf e) (l := ((List.range len).map g).map (packT P e)) (b := b) (o := o) (cap := cap)
       (by simp) (by simp) (by rw [hlen]; exact hle) (fun i j => ((gh0 w).im w b (o + i * P.cellsOf e + j)).getD (.bool false)) ?_ ?_ ?_
      ·rw [hlen] at this; exact this
      ·intro i x hx
       obtain ⟨hi, rfl⟩ := hel' i x hx
       obtain ⟨r1, r2, r3, r4, r5⟩ := hg i hi
       exact ⟨by rw [r3, r1], r4⟩
      ·intro i x j c hx hc
       obtain ⟨v, hv, hr⟩ := hcell i x j c hx hc
       simp only [hv, Option.getD_some]
       exact ⟨trivial, hr.2.2⟩
      ·intro i x j c hx hc
       obtain ⟨v, hv, hr⟩ := hcell i x j c hx hc
       simp only [hv, Option.getD_some]
       exact hr.1
    ·unfold CellsT
     rw [hu]
     refine ⟨(List.range len).map g, rfl, by simp; omega, ?_⟩
     intro c hc
     rw [List.mem_map] at hc
     obtain ⟨i, hi, rfl⟩ := hc
     exact (hg i (List.mem_range.1 hi)).2.1
  ·cases hp'
theorem packT_struct {P : Program} {e : TypeId} {fs : Array Field} (hu : P.underlying e = some (.struct fs)) (l : List PV) : packT P e l = .agg l := by
 unfold packT; rw [hu]
theorem le_max {n : Nat} (h : n <= maxLen) : n <= 9223372036854775807 := by rw [maxLen_eq] at h; exact h
theorem read_row {P : Program} {S : List TypeId} (hp : plainB P S = true) {H : Type} {enc : TypeId × Value -> H} {w : World} {sp : Nat -> Bool} {t e : TypeId} (hu : P.underlying t = some (.slice e)) (ht : t ∈ S) {v : Value} {d : DataW H} {ps : List MemPlace} (h : DataW.Trod enc P w 0 sp true t v d ps) {a : Option Addr} {len cap : Nat} (hv : v = .slice a len cap) :
  ∃ (n : Nat) (es : List (List PV)), VR ((gh0 w).im w) (fun _ => none) (.slice .plain (P.cellsOf e) (es.map (packT P e))) v /\ es.length <= maxLen /\ ∀ c ∈ es, CellsT P n e c := by
 subst hv
 obtain ⟨n, hf⟩ := h
 obtain ⟨l, h1, h2, h3⟩ := read_cells hp n t _ _ ht hf
 cases n with
 | zero => exact h2.elim
 | succ n =>
  unfold CellsT at h2
  rw [hu] at h2
  obtain ⟨es, rfl, hm, hc⟩ := h2
  exact ⟨n, es, (h1.2 0 _ _ rfl (by simp [Value.cells])).1, hm, hc⟩
end PE
