/-
  NARROWER THAN 'FOR EVERY INPUT', by the rows' own cells (each row's printed sentence says how): PlayAny: loops · KnownAny: loops.
  DERIVED. THE GIVEN ROWS OF THIS SEAT. 5 by the template 'for every input the law returns true; each argument reads behind the call as it read before'; 0 by the template 'total and deterministic' (their statements: YtianoihfjikdgaaGreatTotals.lean).
  GIVEN WITH THE SEED: the statements are not yours to turn. If you find one false, say at which input.
  Laid BY PROGRAM, IN A SANDBOX (cutbox-rows.mjs): the forced cells as the released guide's own fill.sh prints them over the translation 913750b2d1a57fd1… (all of the seat's roots in one cut). By AI agents, Wed Nov 11 2026. No macro, syntax, notation, axiom, sorry.
-/
import Derived.Test.YtianoihfjikdgaaGreatChecked
import GoSem.Claim
import GoSem.ClaimJoined
import GoSem.ClaimMapViews
import Derived.JoinedTies
import Derived.KernelRfl
namespace Go.Proofs.YtianoihfjikdgaaGreat
/- THE CELL 'sum', in the pinned program and in every row, IS THE sha256 OF THE DUMP (.gsa) THAT YtianoihfjikdgaaGreatProg.lean LOADS. Nothing in Lean hashes anything: it is a label: what it is worth is what the hold of that sum in a sandbox is worth. -/
noncomputable def Tryz.pinned : Pinned := { name := "ytianoihfjikdgaagreat", sum := "913750b2d1a57fd15fb12f053795427ece25afd1af00ee9df8ba7be935444831", checked := Tryz.checked }
namespace Rows
def none {H : Type} : Left H := { results := [], args := [] }

/-- 'boxhedgelaw10.PlayAny': WHATEVER THE INPUT: true; the input reads as it did. -/
def playAnySpec : ChangeSpec := { name := "playAny", fn := fun _ => fun
  | [d1, d2, d3] => { results := [.lit (.bool true)], args := [d1, d2, d3] }
  | _ => none }
def playAnyRow : OpenClaim := { program := "ytianoihfjikdgaagreat", sum := "913750b2d1a57fd15fb12f053795427ece25afd1af00ee9df8ba7be935444831", func := "boxhedge/boxhedgelaw10.PlayAny", spec := "playAny", unfollowed := true, recurses := true, loops := true, apart := false }
def PlayAnySaid : Prop := playAnyRow.holds Tryz.pinned (OpenSpec.ofChange playAnySpec)

/-- ITS FALSE NEIGHBOUR: 'it returns false'. Refute it at one input. -/
def playAnyWrong : ChangeSpec := { name := "playAny", fn := fun _ => fun
  | [d1, d2, d3] => { results := [.lit (.bool false)], args := [d1, d2, d3] }
  | _ => none }
def PlayAnyWrongFalsely : Prop := playAnyRow.holds Tryz.pinned (OpenSpec.ofChange playAnyWrong)

/-- 'boxhedgelaw10.PlayGood': WHATEVER THE INPUT: true; the input reads as it did. -/
def playGoodSpec : ChangeSpec := { name := "playGood", fn := fun _ => fun
  | [d1, d2, d3] => { results := [.lit (.bool true)], args := [d1, d2, d3] }
  | _ => none }
def playGoodRow : OpenClaim := { program := "ytianoihfjikdgaagreat", sum := "913750b2d1a57fd15fb12f053795427ece25afd1af00ee9df8ba7be935444831", func := "boxhedge/boxhedgelaw10.PlayGood", spec := "playGood", unfollowed := true, recurses := true, apart := false }
def PlayGoodSaid : Prop := playGoodRow.holds Tryz.pinned (OpenSpec.ofChange playGoodSpec)

/-- ITS FALSE NEIGHBOUR: 'it returns false'. Refute it at one input. -/
def playGoodWrong : ChangeSpec := { name := "playGood", fn := fun _ => fun
  | [d1, d2, d3] => { results := [.lit (.bool false)], args := [d1, d2, d3] }
  | _ => none }
def PlayGoodWrongFalsely : Prop := playGoodRow.holds Tryz.pinned (OpenSpec.ofChange playGoodWrong)

/-- 'boxhedgelaw12.KnownAny': WHATEVER THE INPUT: true; the input reads as it did. -/
def knownAnySpec : ChangeSpec := { name := "knownAny", fn := fun _ => fun
  | [d] => { results := [.lit (.bool true)], args := [d] }
  | _ => none }
def knownAnyRow : OpenClaim := { program := "ytianoihfjikdgaagreat", sum := "913750b2d1a57fd15fb12f053795427ece25afd1af00ee9df8ba7be935444831", func := "boxhedge/boxhedgelaw12.KnownAny", spec := "knownAny", unfollowed := true, recurses := true, loops := true, apart := false }
def KnownAnySaid : Prop := knownAnyRow.holds Tryz.pinned (OpenSpec.ofChange knownAnySpec)

/-- ITS FALSE NEIGHBOUR: 'it returns false'. Refute it at one input. -/
def knownAnyWrong : ChangeSpec := { name := "knownAny", fn := fun _ => fun
  | [d] => { results := [.lit (.bool false)], args := [d] }
  | _ => none }
def KnownAnyWrongFalsely : Prop := knownAnyRow.holds Tryz.pinned (OpenSpec.ofChange knownAnyWrong)

/-- 'boxhedgelaw12.KnownDoes': WHATEVER THE INPUT: true; the input reads as it did. -/
def knownDoesSpec : ChangeSpec := { name := "knownDoes", fn := fun _ => fun
  | [d1, d2, d3] => { results := [.lit (.bool true)], args := [d1, d2, d3] }
  | _ => none }
def knownDoesRow : OpenClaim := { program := "ytianoihfjikdgaagreat", sum := "913750b2d1a57fd15fb12f053795427ece25afd1af00ee9df8ba7be935444831", func := "boxhedge/boxhedgelaw12.KnownDoes", spec := "knownDoes", unfollowed := true, recurses := true, apart := false }
def KnownDoesSaid : Prop := knownDoesRow.holds Tryz.pinned (OpenSpec.ofChange knownDoesSpec)

/-- ITS FALSE NEIGHBOUR: 'it returns false'. Refute it at one input. -/
def knownDoesWrong : ChangeSpec := { name := "knownDoes", fn := fun _ => fun
  | [d1, d2, d3] => { results := [.lit (.bool false)], args := [d1, d2, d3] }
  | _ => none }
def KnownDoesWrongFalsely : Prop := knownDoesRow.holds Tryz.pinned (OpenSpec.ofChange knownDoesWrong)

/-- 'boxhedgelaw12.KnownSame': WHATEVER THE INPUT: true; the input reads as it did. -/
def knownSameSpec : ChangeSpec := { name := "knownSame", fn := fun _ => fun
  | [d] => { results := [.lit (.bool true)], args := [d] }
  | _ => none }
def knownSameRow : OpenClaim := { program := "ytianoihfjikdgaagreat", sum := "913750b2d1a57fd15fb12f053795427ece25afd1af00ee9df8ba7be935444831", func := "boxhedge/boxhedgelaw12.KnownSame", spec := "knownSame", unfollowed := true, recurses := true, apart := false }
def KnownSameSaid : Prop := knownSameRow.holds Tryz.pinned (OpenSpec.ofChange knownSameSpec)

/-- ITS FALSE NEIGHBOUR: 'it returns false'. Refute it at one input. -/
def knownSameWrong : ChangeSpec := { name := "knownSame", fn := fun _ => fun
  | [d] => { results := [.lit (.bool false)], args := [d] }
  | _ => none }
def KnownSameWrongFalsely : Prop := knownSameRow.holds Tryz.pinned (OpenSpec.ofChange knownSameWrong)

/- THE SECOND FORM. 'bulk': how many values and letters a reading holds, each counted each time it is reached (what is shared counts as often as it is met; a slice's spare places count too). A statement '..UptoSaid' is the law's where the arguments, and the package variables that the reading takes, are together of bulk at most 1048576: NARROWER than '..Said'. Prove '..Said' where nothing that the law and all that it calls make is longer than what came in: it says more and counts as full. Else prove '..UptoSaid'. A law counts once. -/
mutual
def uptoBulk {H : Type} : DataW H → Nat
  | .lit (.string bytes) => bytes.length + 1
  | .lit _ => 1
  | .nil => 1
  | .ptr d => uptoBulk d + 1
  | .slice elems spare => uptoBulkAll elems + uptoBulkAll spare + 1
  | .agg parts => uptoBulkAll parts + 1
  | .iface _ d => uptoBulk d + 1
  | .map entries => uptoBulkEntries entries + 1
  | .held _ => 1
def uptoBulkAll {H : Type} : List (DataW H) → Nat
  | [] => 0
  | d :: r => uptoBulk d + uptoBulkAll r
def uptoBulkEntries {H : Type} : List (Lit × DataW H) → Nat
  | [] => 0
  | x :: r => uptoBulkEntry x + uptoBulkEntries r
def uptoBulkEntry {H : Type} : Lit × DataW H → Nat
  | (.string bytes, d) => bytes.length + uptoBulk d + 1
  | (_, d) => uptoBulk d + 1
 end
def uptoSmall : (H : Type) → List (DataW H) → Bool := fun _ ds => decide (uptoBulkAll ds ≤ 1048576)
def OpenSpec.upto (s : _root_.Go.ChangeSpec) : _root_.Go.OpenSpec := { _root_.Go.OpenSpec.ofChange s with cond := some uptoSmall }

/-- 'boxhedgelaw10.PlayAny', WHERE WHAT IT READS IS OF BULK AT MOST 1048576: true; the input reads as it did. -/
def playAnyUptoRow : OpenClaim := { program := "ytianoihfjikdgaagreat", sum := "913750b2d1a57fd15fb12f053795427ece25afd1af00ee9df8ba7be935444831", func := "boxhedge/boxhedgelaw10.PlayAny", spec := "playAny", unfollowed := true, recurses := true, loops := true, apart := false, narrowed := true }
def PlayAnyUptoSaid : Prop := playAnyUptoRow.holds Tryz.pinned (OpenSpec.upto playAnySpec)

/-- 'boxhedgelaw10.PlayGood', WHERE WHAT IT READS IS OF BULK AT MOST 1048576: true; the input reads as it did. -/
def playGoodUptoRow : OpenClaim := { program := "ytianoihfjikdgaagreat", sum := "913750b2d1a57fd15fb12f053795427ece25afd1af00ee9df8ba7be935444831", func := "boxhedge/boxhedgelaw10.PlayGood", spec := "playGood", unfollowed := true, recurses := true, apart := false, narrowed := true }
def PlayGoodUptoSaid : Prop := playGoodUptoRow.holds Tryz.pinned (OpenSpec.upto playGoodSpec)

/-- 'boxhedgelaw12.KnownAny', WHERE WHAT IT READS IS OF BULK AT MOST 1048576: true; the input reads as it did. -/
def knownAnyUptoRow : OpenClaim := { program := "ytianoihfjikdgaagreat", sum := "913750b2d1a57fd15fb12f053795427ece25afd1af00ee9df8ba7be935444831", func := "boxhedge/boxhedgelaw12.KnownAny", spec := "knownAny", unfollowed := true, recurses := true, loops := true, apart := false, narrowed := true }
def KnownAnyUptoSaid : Prop := knownAnyUptoRow.holds Tryz.pinned (OpenSpec.upto knownAnySpec)

/-- 'boxhedgelaw12.KnownDoes', WHERE WHAT IT READS IS OF BULK AT MOST 1048576: true; the input reads as it did. -/
def knownDoesUptoRow : OpenClaim := { program := "ytianoihfjikdgaagreat", sum := "913750b2d1a57fd15fb12f053795427ece25afd1af00ee9df8ba7be935444831", func := "boxhedge/boxhedgelaw12.KnownDoes", spec := "knownDoes", unfollowed := true, recurses := true, apart := false, narrowed := true }
def KnownDoesUptoSaid : Prop := knownDoesUptoRow.holds Tryz.pinned (OpenSpec.upto knownDoesSpec)

/-- 'boxhedgelaw12.KnownSame', WHERE WHAT IT READS IS OF BULK AT MOST 1048576: true; the input reads as it did. -/
def knownSameUptoRow : OpenClaim := { program := "ytianoihfjikdgaagreat", sum := "913750b2d1a57fd15fb12f053795427ece25afd1af00ee9df8ba7be935444831", func := "boxhedge/boxhedgelaw12.KnownSame", spec := "knownSame", unfollowed := true, recurses := true, apart := false, narrowed := true }
def KnownSameUptoSaid : Prop := knownSameUptoRow.holds Tryz.pinned (OpenSpec.upto knownSameSpec)

end Rows
end Go.Proofs.YtianoihfjikdgaaGreat
