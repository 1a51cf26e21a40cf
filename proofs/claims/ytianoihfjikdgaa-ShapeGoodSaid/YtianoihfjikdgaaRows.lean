/-
  No cell of these rows narrows 'for every input' (looked for: loops, veiled, ifaces, maps, wideKeys, modest, calm, conditions, laid).
  DERIVED. THE GIVEN ROWS OF THIS SEAT. 5 by the template 'for every input the law returns true; each argument reads behind the call as it read before'; 0 by the template 'total and deterministic' (their statements: YtianoihfjikdgaaTotals.lean).
  GIVEN WITH THE SEED: the statements are not yours to turn. If you find one false, say at which input.
  Laid BY PROGRAM, IN A SANDBOX (cutbox-rows.mjs): the forced cells as the released guide's own fill.sh prints them over the translation e2fea36e9fe652dd… (all of the seat's roots in one cut). By AI agents, Wed Nov 11 2026. No macro, syntax, notation, axiom, sorry.
-/
import Derived.Test.YtianoihfjikdgaaChecked
import GoSem.Claim
import GoSem.ClaimJoined
import GoSem.ClaimMapViews
import Derived.JoinedTies
import Derived.KernelRfl
namespace Go.Proofs.Ytianoihfjikdgaa
/- THE CELL 'sum', in the pinned program and in every row, IS THE sha256 OF THE DUMP (.gsa) THAT YtianoihfjikdgaaProg.lean LOADS. Nothing in Lean hashes anything: it is a label: what it is worth is what the hold of that sum in a sandbox is worth. -/
noncomputable def Try.pinned : Pinned := { name := "ytianoihfjikdgaa", sum := "e2fea36e9fe652dd38ba79f8be90901a7f29ac25dfed06d337aee9c9456a2700", checked := Try.checked }
namespace Rows
def none {H : Type} : Left H := { results := [], args := [] }

/-- 'boxhedgelaw08.ShapeGood': WHATEVER THE INPUT: true; the input reads as it did. -/
def shapeGoodSpec : ChangeSpec := { name := "shapeGood", fn := fun _ => fun
  | [d1, d2, d3, d4] => { results := [.lit (.bool true)], args := [d1, d2, d3, d4] }
  | _ => none }
def shapeGoodRow : OpenClaim := { program := "ytianoihfjikdgaa", sum := "e2fea36e9fe652dd38ba79f8be90901a7f29ac25dfed06d337aee9c9456a2700", func := "boxhedge/boxhedgelaw08.ShapeGood", spec := "shapeGood", unfollowed := true, recurses := true, apart := false }
def ShapeGoodSaid : Prop := shapeGoodRow.holds Try.pinned (OpenSpec.ofChange shapeGoodSpec)

/-- ITS FALSE NEIGHBOUR: 'it returns false'. Refute it at one input. -/
def shapeGoodWrong : ChangeSpec := { name := "shapeGood", fn := fun _ => fun
  | [d1, d2, d3, d4] => { results := [.lit (.bool false)], args := [d1, d2, d3, d4] }
  | _ => none }
def ShapeGoodWrongFalsely : Prop := shapeGoodRow.holds Try.pinned (OpenSpec.ofChange shapeGoodWrong)

/-- 'boxhedgelaw08.ShapeTurned': WHATEVER THE INPUT: true; the input reads as it did. -/
def shapeTurnedSpec : ChangeSpec := { name := "shapeTurned", fn := fun _ => fun
  | [d] => { results := [.lit (.bool true)], args := [d] }
  | _ => none }
def shapeTurnedRow : OpenClaim := { program := "ytianoihfjikdgaa", sum := "e2fea36e9fe652dd38ba79f8be90901a7f29ac25dfed06d337aee9c9456a2700", func := "boxhedge/boxhedgelaw08.ShapeTurned", spec := "shapeTurned", unfollowed := true, recurses := true, apart := false }
def ShapeTurnedSaid : Prop := shapeTurnedRow.holds Try.pinned (OpenSpec.ofChange shapeTurnedSpec)

/-- ITS FALSE NEIGHBOUR: 'it returns false'. Refute it at one input. -/
def shapeTurnedWrong : ChangeSpec := { name := "shapeTurned", fn := fun _ => fun
  | [d] => { results := [.lit (.bool false)], args := [d] }
  | _ => none }
def ShapeTurnedWrongFalsely : Prop := shapeTurnedRow.holds Try.pinned (OpenSpec.ofChange shapeTurnedWrong)

/-- 'boxhedgelaw10.PlayTwo': WHATEVER THE INPUT: true; the input reads as it did. -/
def playTwoSpec : ChangeSpec := { name := "playTwo", fn := fun _ => fun
  | [d1, d2, d3] => { results := [.lit (.bool true)], args := [d1, d2, d3] }
  | _ => none }
def playTwoRow : OpenClaim := { program := "ytianoihfjikdgaa", sum := "e2fea36e9fe652dd38ba79f8be90901a7f29ac25dfed06d337aee9c9456a2700", func := "boxhedge/boxhedgelaw10.PlayTwo", spec := "playTwo", unfollowed := true, recurses := true, apart := false }
def PlayTwoSaid : Prop := playTwoRow.holds Try.pinned (OpenSpec.ofChange playTwoSpec)

/-- ITS FALSE NEIGHBOUR: 'it returns false'. Refute it at one input. -/
def playTwoWrong : ChangeSpec := { name := "playTwo", fn := fun _ => fun
  | [d1, d2, d3] => { results := [.lit (.bool false)], args := [d1, d2, d3] }
  | _ => none }
def PlayTwoWrongFalsely : Prop := playTwoRow.holds Try.pinned (OpenSpec.ofChange playTwoWrong)

/-- 'boxhedgelaw10.PlayMore': WHATEVER THE INPUT: true; the input reads as it did. -/
def playMoreSpec : ChangeSpec := { name := "playMore", fn := fun _ => fun
  | [d1, d2, d3, d4] => { results := [.lit (.bool true)], args := [d1, d2, d3, d4] }
  | _ => none }
def playMoreRow : OpenClaim := { program := "ytianoihfjikdgaa", sum := "e2fea36e9fe652dd38ba79f8be90901a7f29ac25dfed06d337aee9c9456a2700", func := "boxhedge/boxhedgelaw10.PlayMore", spec := "playMore", unfollowed := true, recurses := true, apart := false }
def PlayMoreSaid : Prop := playMoreRow.holds Try.pinned (OpenSpec.ofChange playMoreSpec)

/-- ITS FALSE NEIGHBOUR: 'it returns false'. Refute it at one input. -/
def playMoreWrong : ChangeSpec := { name := "playMore", fn := fun _ => fun
  | [d1, d2, d3, d4] => { results := [.lit (.bool false)], args := [d1, d2, d3, d4] }
  | _ => none }
def PlayMoreWrongFalsely : Prop := playMoreRow.holds Try.pinned (OpenSpec.ofChange playMoreWrong)

/-- 'boxhedgelaw10.PlayReads': WHATEVER THE INPUT: true; the input reads as it did. -/
def playReadsSpec : ChangeSpec := { name := "playReads", fn := fun _ => fun
  | [d1, d2, d3, d4] => { results := [.lit (.bool true)], args := [d1, d2, d3, d4] }
  | _ => none }
def playReadsRow : OpenClaim := { program := "ytianoihfjikdgaa", sum := "e2fea36e9fe652dd38ba79f8be90901a7f29ac25dfed06d337aee9c9456a2700", func := "boxhedge/boxhedgelaw10.PlayReads", spec := "playReads", unfollowed := true, recurses := true, apart := false }
def PlayReadsSaid : Prop := playReadsRow.holds Try.pinned (OpenSpec.ofChange playReadsSpec)

/-- ITS FALSE NEIGHBOUR: 'it returns false'. Refute it at one input. -/
def playReadsWrong : ChangeSpec := { name := "playReads", fn := fun _ => fun
  | [d1, d2, d3, d4] => { results := [.lit (.bool false)], args := [d1, d2, d3, d4] }
  | _ => none }
def PlayReadsWrongFalsely : Prop := playReadsRow.holds Try.pinned (OpenSpec.ofChange playReadsWrong)

/- THE SECOND FORM. 'bulk': how many values and letters a reading holds, each counted each time it is reached (what is shared counts as often as it is met; a slice's spare places count too). A statement '..UptoSaid' is the law's where the arguments, and the package variables that the reading takes, are together of bulk at most 1048576: NARROWER than '..Said'. Prove '..Said' where nothing that the law and all that it calls make is longer than what came in: it says more and counts as full. Else prove '..UptoSaid'. A law counts once. -/
mutual
def uptoBulk {H : Type} : DataW H → Nat
  | .lit (.string bytes) => bytes.length + 1
  | .lit _ => 1
  | .nil => 1
  | .ptr d => uptoBulk d + 1
  | .slice elems spare => uptoBulkAll elems + uptoBulkAll spare + 1
  | .agg parts => uptoBulkAll parts + 1
  | .iface _ d => uptoBulk d + 1
  | .map entries => uptoBulkEntries entries + 1
  | .held _ => 1
def uptoBulkAll {H : Type} : List (DataW H) → Nat
  | [] => 0
  | d :: r => uptoBulk d + uptoBulkAll r
def uptoBulkEntries {H : Type} : List (Lit × DataW H) → Nat
  | [] => 0
  | x :: r => uptoBulkEntry x + uptoBulkEntries r
def uptoBulkEntry {H : Type} : Lit × DataW H → Nat
  | (.string bytes, d) => bytes.length + uptoBulk d + 1
  | (_, d) => uptoBulk d + 1
 end
def uptoSmall : (H : Type) → List (DataW H) → Bool := fun _ ds => decide (uptoBulkAll ds ≤ 1048576)
def OpenSpec.upto (s : _root_.Go.ChangeSpec) : _root_.Go.OpenSpec := { _root_.Go.OpenSpec.ofChange s with cond := some uptoSmall }

/-- 'boxhedgelaw08.ShapeGood', WHERE WHAT IT READS IS OF BULK AT MOST 1048576: true; the input reads as it did. -/
def shapeGoodUptoRow : OpenClaim := { program := "ytianoihfjikdgaa", sum := "e2fea36e9fe652dd38ba79f8be90901a7f29ac25dfed06d337aee9c9456a2700", func := "boxhedge/boxhedgelaw08.ShapeGood", spec := "shapeGood", unfollowed := true, recurses := true, apart := false, narrowed := true }
def ShapeGoodUptoSaid : Prop := shapeGoodUptoRow.holds Try.pinned (OpenSpec.upto shapeGoodSpec)

/-- 'boxhedgelaw08.ShapeTurned', WHERE WHAT IT READS IS OF BULK AT MOST 1048576: true; the input reads as it did. -/
def shapeTurnedUptoRow : OpenClaim := { program := "ytianoihfjikdgaa", sum := "e2fea36e9fe652dd38ba79f8be90901a7f29ac25dfed06d337aee9c9456a2700", func := "boxhedge/boxhedgelaw08.ShapeTurned", spec := "shapeTurned", unfollowed := true, recurses := true, apart := false, narrowed := true }
def ShapeTurnedUptoSaid : Prop := shapeTurnedUptoRow.holds Try.pinned (OpenSpec.upto shapeTurnedSpec)

/-- 'boxhedgelaw10.PlayTwo', WHERE WHAT IT READS IS OF BULK AT MOST 1048576: true; the input reads as it did. -/
def playTwoUptoRow : OpenClaim := { program := "ytianoihfjikdgaa", sum := "e2fea36e9fe652dd38ba79f8be90901a7f29ac25dfed06d337aee9c9456a2700", func := "boxhedge/boxhedgelaw10.PlayTwo", spec := "playTwo", unfollowed := true, recurses := true, apart := false, narrowed := true }
def PlayTwoUptoSaid : Prop := playTwoUptoRow.holds Try.pinned (OpenSpec.upto playTwoSpec)

/-- 'boxhedgelaw10.PlayMore', WHERE WHAT IT READS IS OF BULK AT MOST 1048576: true; the input reads as it did. -/
def playMoreUptoRow : OpenClaim := { program := "ytianoihfjikdgaa", sum := "e2fea36e9fe652dd38ba79f8be90901a7f29ac25dfed06d337aee9c9456a2700", func := "boxhedge/boxhedgelaw10.PlayMore", spec := "playMore", unfollowed := true, recurses := true, apart := false, narrowed := true }
def PlayMoreUptoSaid : Prop := playMoreUptoRow.holds Try.pinned (OpenSpec.upto playMoreSpec)

/-- 'boxhedgelaw10.PlayReads', WHERE WHAT IT READS IS OF BULK AT MOST 1048576: true; the input reads as it did. -/
def playReadsUptoRow : OpenClaim := { program := "ytianoihfjikdgaa", sum := "e2fea36e9fe652dd38ba79f8be90901a7f29ac25dfed06d337aee9c9456a2700", func := "boxhedge/boxhedgelaw10.PlayReads", spec := "playReads", unfollowed := true, recurses := true, apart := false, narrowed := true }
def PlayReadsUptoSaid : Prop := playReadsUptoRow.holds Try.pinned (OpenSpec.upto playReadsSpec)

end Rows
end Go.Proofs.Ytianoihfjikdgaa
