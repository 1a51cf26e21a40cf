/-
  No cell of these rows narrows 'for every input' (looked for: loops, veiled, ifaces, maps, wideKeys, modest, calm, conditions, laid).
  DERIVED. THE GIVEN ROWS OF THIS SEAT. 8 by the template 'for every input the law returns true; each argument reads behind the call as it read before'; 0 by the template 'total and deterministic' (their statements: YtpjbeahllepfmaaTotals.lean).
  GIVEN WITH THE SEED: the statements are not yours to turn. If you find one false, say at which input.
  Laid BY PROGRAM, IN A SANDBOX (cutbox-rows.mjs): the forced cells as the released guide's own fill.sh prints them over the translation d2253c7f41e177ae… (all of the seat's roots in one cut). By AI agents, Wed Nov 11 2026. No macro, syntax, notation, axiom, sorry.
-/
import Derived.Test.YtpjbeahllepfmaaChecked
import GoSem.Claim
import GoSem.ClaimJoined
import GoSem.ClaimMapViews
import Derived.JoinedTies
import Derived.KernelRfl
namespace Go.Proofs.Ytpjbeahllepfmaa
/- THE CELL 'sum', in the pinned program and in every row, IS THE sha256 OF THE DUMP (.gsa) THAT YtpjbeahllepfmaaProg.lean LOADS. Nothing in Lean hashes anything: it is a label: what it is worth is what the hold of that sum in a sandbox is worth. -/
noncomputable def Try.pinned : Pinned := { name := "ytpjbeahllepfmaa", sum := "d2253c7f41e177ae4a8b9442de1292c20f9acf72aeca499659e523c3f730be5e", checked := Try.checked }
namespace Rows
def none {H : Type} : Left H := { results := [], args := [] }

/-- 'boxhedgelaw01.WrapTwo': WHATEVER THE INPUT: true; the input reads as it did. -/
def wrapTwoSpec : ChangeSpec := { name := "wrapTwo", fn := fun _ => fun
  | [d1, d2, d3] => { results := [.lit (.bool true)], args := [d1, d2, d3] }
  | _ => none }
def wrapTwoRow : OpenClaim := { program := "ytpjbeahllepfmaa", sum := "d2253c7f41e177ae4a8b9442de1292c20f9acf72aeca499659e523c3f730be5e", func := "boxhedge/boxhedgelaw01.WrapTwo", spec := "wrapTwo", apart := false }
def WrapTwoSaid : Prop := wrapTwoRow.holds Try.pinned (OpenSpec.ofChange wrapTwoSpec)

/-- ITS FALSE NEIGHBOUR: 'it returns false'. Refute it at one input. -/
def wrapTwoWrong : ChangeSpec := { name := "wrapTwo", fn := fun _ => fun
  | [d1, d2, d3] => { results := [.lit (.bool false)], args := [d1, d2, d3] }
  | _ => none }
def WrapTwoWrongFalsely : Prop := wrapTwoRow.holds Try.pinned (OpenSpec.ofChange wrapTwoWrong)

/-- 'boxhedgelaw01.WrapSmall': WHATEVER THE INPUT: true; the input reads as it did. -/
def wrapSmallSpec : ChangeSpec := { name := "wrapSmall", fn := fun _ => fun
  | [d1, d2, d3] => { results := [.lit (.bool true)], args := [d1, d2, d3] }
  | _ => none }
def wrapSmallRow : OpenClaim := { program := "ytpjbeahllepfmaa", sum := "d2253c7f41e177ae4a8b9442de1292c20f9acf72aeca499659e523c3f730be5e", func := "boxhedge/boxhedgelaw01.WrapSmall", spec := "wrapSmall", apart := false }
def WrapSmallSaid : Prop := wrapSmallRow.holds Try.pinned (OpenSpec.ofChange wrapSmallSpec)

/-- ITS FALSE NEIGHBOUR: 'it returns false'. Refute it at one input. -/
def wrapSmallWrong : ChangeSpec := { name := "wrapSmall", fn := fun _ => fun
  | [d1, d2, d3] => { results := [.lit (.bool false)], args := [d1, d2, d3] }
  | _ => none }
def WrapSmallWrongFalsely : Prop := wrapSmallRow.holds Try.pinned (OpenSpec.ofChange wrapSmallWrong)

/-- 'boxhedgelaw01.WrapOne': WHATEVER THE INPUT: true; the input reads as it did. -/
def wrapOneSpec : ChangeSpec := { name := "wrapOne", fn := fun _ => fun
  | [d1, d2] => { results := [.lit (.bool true)], args := [d1, d2] }
  | _ => none }
def wrapOneRow : OpenClaim := { program := "ytpjbeahllepfmaa", sum := "d2253c7f41e177ae4a8b9442de1292c20f9acf72aeca499659e523c3f730be5e", func := "boxhedge/boxhedgelaw01.WrapOne", spec := "wrapOne", apart := false }
def WrapOneSaid : Prop := wrapOneRow.holds Try.pinned (OpenSpec.ofChange wrapOneSpec)

/-- ITS FALSE NEIGHBOUR: 'it returns false'. Refute it at one input. -/
def wrapOneWrong : ChangeSpec := { name := "wrapOne", fn := fun _ => fun
  | [d1, d2] => { results := [.lit (.bool false)], args := [d1, d2] }
  | _ => none }
def WrapOneWrongFalsely : Prop := wrapOneRow.holds Try.pinned (OpenSpec.ofChange wrapOneWrong)

/-- 'boxhedgelaw01.WrapSigns': WHATEVER THE INPUT: true; the input reads as it did. -/
def wrapSignsSpec : ChangeSpec := { name := "wrapSigns", fn := fun _ => fun
  | [d] => { results := [.lit (.bool true)], args := [d] }
  | _ => none }
def wrapSignsRow : OpenClaim := { program := "ytpjbeahllepfmaa", sum := "d2253c7f41e177ae4a8b9442de1292c20f9acf72aeca499659e523c3f730be5e", func := "boxhedge/boxhedgelaw01.WrapSigns", spec := "wrapSigns", apart := false }
def WrapSignsSaid : Prop := wrapSignsRow.holds Try.pinned (OpenSpec.ofChange wrapSignsSpec)

/-- ITS FALSE NEIGHBOUR: 'it returns false'. Refute it at one input. -/
def wrapSignsWrong : ChangeSpec := { name := "wrapSigns", fn := fun _ => fun
  | [d] => { results := [.lit (.bool false)], args := [d] }
  | _ => none }
def WrapSignsWrongFalsely : Prop := wrapSignsRow.holds Try.pinned (OpenSpec.ofChange wrapSignsWrong)

/-- 'boxhedgelaw01.WrapDivides': WHATEVER THE INPUT: true; the input reads as it did. -/
def wrapDividesSpec : ChangeSpec := { name := "wrapDivides", fn := fun _ => fun
  | [d1, d2] => { results := [.lit (.bool true)], args := [d1, d2] }
  | _ => none }
def wrapDividesRow : OpenClaim := { program := "ytpjbeahllepfmaa", sum := "d2253c7f41e177ae4a8b9442de1292c20f9acf72aeca499659e523c3f730be5e", func := "boxhedge/boxhedgelaw01.WrapDivides", spec := "wrapDivides", apart := false }
def WrapDividesSaid : Prop := wrapDividesRow.holds Try.pinned (OpenSpec.ofChange wrapDividesSpec)

/-- ITS FALSE NEIGHBOUR: 'it returns false'. Refute it at one input. -/
def wrapDividesWrong : ChangeSpec := { name := "wrapDivides", fn := fun _ => fun
  | [d1, d2] => { results := [.lit (.bool false)], args := [d1, d2] }
  | _ => none }
def WrapDividesWrongFalsely : Prop := wrapDividesRow.holds Try.pinned (OpenSpec.ofChange wrapDividesWrong)

/-- 'boxhedgelaw01.WrapConverts': WHATEVER THE INPUT: true; the input reads as it did. -/
def wrapConvertsSpec : ChangeSpec := { name := "wrapConverts", fn := fun _ => fun
  | [d1, d2] => { results := [.lit (.bool true)], args := [d1, d2] }
  | _ => none }
def wrapConvertsRow : OpenClaim := { program := "ytpjbeahllepfmaa", sum := "d2253c7f41e177ae4a8b9442de1292c20f9acf72aeca499659e523c3f730be5e", func := "boxhedge/boxhedgelaw01.WrapConverts", spec := "wrapConverts", apart := false }
def WrapConvertsSaid : Prop := wrapConvertsRow.holds Try.pinned (OpenSpec.ofChange wrapConvertsSpec)

/-- ITS FALSE NEIGHBOUR: 'it returns false'. Refute it at one input. -/
def wrapConvertsWrong : ChangeSpec := { name := "wrapConverts", fn := fun _ => fun
  | [d1, d2] => { results := [.lit (.bool false)], args := [d1, d2] }
  | _ => none }
def WrapConvertsWrongFalsely : Prop := wrapConvertsRow.holds Try.pinned (OpenSpec.ofChange wrapConvertsWrong)

/-- 'boxhedgelaw01.WrapMoves': WHATEVER THE INPUT: true; the input reads as it did. -/
def wrapMovesSpec : ChangeSpec := { name := "wrapMoves", fn := fun _ => fun
  | [d1, d2] => { results := [.lit (.bool true)], args := [d1, d2] }
  | _ => none }
def wrapMovesRow : OpenClaim := { program := "ytpjbeahllepfmaa", sum := "d2253c7f41e177ae4a8b9442de1292c20f9acf72aeca499659e523c3f730be5e", func := "boxhedge/boxhedgelaw01.WrapMoves", spec := "wrapMoves", apart := false }
def WrapMovesSaid : Prop := wrapMovesRow.holds Try.pinned (OpenSpec.ofChange wrapMovesSpec)

/-- ITS FALSE NEIGHBOUR: 'it returns false'. Refute it at one input. -/
def wrapMovesWrong : ChangeSpec := { name := "wrapMoves", fn := fun _ => fun
  | [d1, d2] => { results := [.lit (.bool false)], args := [d1, d2] }
  | _ => none }
def WrapMovesWrongFalsely : Prop := wrapMovesRow.holds Try.pinned (OpenSpec.ofChange wrapMovesWrong)

/-- 'boxhedgelaw01.WrapOrder': WHATEVER THE INPUT: true; the input reads as it did. -/
def wrapOrderSpec : ChangeSpec := { name := "wrapOrder", fn := fun _ => fun
  | [d1, d2] => { results := [.lit (.bool true)], args := [d1, d2] }
  | _ => none }
def wrapOrderRow : OpenClaim := { program := "ytpjbeahllepfmaa", sum := "d2253c7f41e177ae4a8b9442de1292c20f9acf72aeca499659e523c3f730be5e", func := "boxhedge/boxhedgelaw01.WrapOrder", spec := "wrapOrder", apart := false }
def WrapOrderSaid : Prop := wrapOrderRow.holds Try.pinned (OpenSpec.ofChange wrapOrderSpec)

/-- ITS FALSE NEIGHBOUR: 'it returns false'. Refute it at one input. -/
def wrapOrderWrong : ChangeSpec := { name := "wrapOrder", fn := fun _ => fun
  | [d1, d2] => { results := [.lit (.bool false)], args := [d1, d2] }
  | _ => none }
def WrapOrderWrongFalsely : Prop := wrapOrderRow.holds Try.pinned (OpenSpec.ofChange wrapOrderWrong)

/- THE SECOND FORM. 'bulk': how many values and letters a reading holds, each counted each time it is reached (what is shared counts as often as it is met; a slice's spare places count too). A statement '..UptoSaid' is the law's where the arguments, and the package variables that the reading takes, are together of bulk at most 1048576: NARROWER than '..Said'. Prove '..Said' where nothing that the law and all that it calls make is longer than what came in: it says more and counts as full. Else prove '..UptoSaid'. A law counts once. -/
mutual
def uptoBulk {H : Type} : DataW H → Nat
  | .lit (.string bytes) => bytes.length + 1
  | .lit _ => 1
  | .nil => 1
  | .ptr d => uptoBulk d + 1
  | .slice elems spare => uptoBulkAll elems + uptoBulkAll spare + 1
  | .agg parts => uptoBulkAll parts + 1
  | .iface _ d => uptoBulk d + 1
  | .map entries => uptoBulkEntries entries + 1
  | .held _ => 1
def uptoBulkAll {H : Type} : List (DataW H) → Nat
  | [] => 0
  | d :: r => uptoBulk d + uptoBulkAll r
def uptoBulkEntries {H : Type} : List (Lit × DataW H) → Nat
  | [] => 0
  | x :: r => uptoBulkEntry x + uptoBulkEntries r
def uptoBulkEntry {H : Type} : Lit × DataW H → Nat
  | (.string bytes, d) => bytes.length + uptoBulk d + 1
  | (_, d) => uptoBulk d + 1
 end
def uptoSmall : (H : Type) → List (DataW H) → Bool := fun _ ds => decide (uptoBulkAll ds ≤ 1048576)
def OpenSpec.upto (s : _root_.Go.ChangeSpec) : _root_.Go.OpenSpec := { _root_.Go.OpenSpec.ofChange s with cond := some uptoSmall }

/-- 'boxhedgelaw01.WrapTwo', WHERE WHAT IT READS IS OF BULK AT MOST 1048576: true; the input reads as it did. -/
def wrapTwoUptoRow : OpenClaim := { program := "ytpjbeahllepfmaa", sum := "d2253c7f41e177ae4a8b9442de1292c20f9acf72aeca499659e523c3f730be5e", func := "boxhedge/boxhedgelaw01.WrapTwo", spec := "wrapTwo", apart := false, narrowed := true }
def WrapTwoUptoSaid : Prop := wrapTwoUptoRow.holds Try.pinned (OpenSpec.upto wrapTwoSpec)

/-- 'boxhedgelaw01.WrapSmall', WHERE WHAT IT READS IS OF BULK AT MOST 1048576: true; the input reads as it did. -/
def wrapSmallUptoRow : OpenClaim := { program := "ytpjbeahllepfmaa", sum := "d2253c7f41e177ae4a8b9442de1292c20f9acf72aeca499659e523c3f730be5e", func := "boxhedge/boxhedgelaw01.WrapSmall", spec := "wrapSmall", apart := false, narrowed := true }
def WrapSmallUptoSaid : Prop := wrapSmallUptoRow.holds Try.pinned (OpenSpec.upto wrapSmallSpec)

/-- 'boxhedgelaw01.WrapOne', WHERE WHAT IT READS IS OF BULK AT MOST 1048576: true; the input reads as it did. -/
def wrapOneUptoRow : OpenClaim := { program := "ytpjbeahllepfmaa", sum := "d2253c7f41e177ae4a8b9442de1292c20f9acf72aeca499659e523c3f730be5e", func := "boxhedge/boxhedgelaw01.WrapOne", spec := "wrapOne", apart := false, narrowed := true }
def WrapOneUptoSaid : Prop := wrapOneUptoRow.holds Try.pinned (OpenSpec.upto wrapOneSpec)

/-- 'boxhedgelaw01.WrapSigns', WHERE WHAT IT READS IS OF BULK AT MOST 1048576: true; the input reads as it did. -/
def wrapSignsUptoRow : OpenClaim := { program := "ytpjbeahllepfmaa", sum := "d2253c7f41e177ae4a8b9442de1292c20f9acf72aeca499659e523c3f730be5e", func := "boxhedge/boxhedgelaw01.WrapSigns", spec := "wrapSigns", apart := false, narrowed := true }
def WrapSignsUptoSaid : Prop := wrapSignsUptoRow.holds Try.pinned (OpenSpec.upto wrapSignsSpec)

/-- 'boxhedgelaw01.WrapDivides', WHERE WHAT IT READS IS OF BULK AT MOST 1048576: true; the input reads as it did. -/
def wrapDividesUptoRow : OpenClaim := { program := "ytpjbeahllepfmaa", sum := "d2253c7f41e177ae4a8b9442de1292c20f9acf72aeca499659e523c3f730be5e", func := "boxhedge/boxhedgelaw01.WrapDivides", spec := "wrapDivides", apart := false, narrowed := true }
def WrapDividesUptoSaid : Prop := wrapDividesUptoRow.holds Try.pinned (OpenSpec.upto wrapDividesSpec)

/-- 'boxhedgelaw01.WrapConverts', WHERE WHAT IT READS IS OF BULK AT MOST 1048576: true; the input reads as it did. -/
def wrapConvertsUptoRow : OpenClaim := { program := "ytpjbeahllepfmaa", sum := "d2253c7f41e177ae4a8b9442de1292c20f9acf72aeca499659e523c3f730be5e", func := "boxhedge/boxhedgelaw01.WrapConverts", spec := "wrapConverts", apart := false, narrowed := true }
def WrapConvertsUptoSaid : Prop := wrapConvertsUptoRow.holds Try.pinned (OpenSpec.upto wrapConvertsSpec)

/-- 'boxhedgelaw01.WrapMoves', WHERE WHAT IT READS IS OF BULK AT MOST 1048576: true; the input reads as it did. -/
def wrapMovesUptoRow : OpenClaim := { program := "ytpjbeahllepfmaa", sum := "d2253c7f41e177ae4a8b9442de1292c20f9acf72aeca499659e523c3f730be5e", func := "boxhedge/boxhedgelaw01.WrapMoves", spec := "wrapMoves", apart := false, narrowed := true }
def WrapMovesUptoSaid : Prop := wrapMovesUptoRow.holds Try.pinned (OpenSpec.upto wrapMovesSpec)

/-- 'boxhedgelaw01.WrapOrder', WHERE WHAT IT READS IS OF BULK AT MOST 1048576: true; the input reads as it did. -/
def wrapOrderUptoRow : OpenClaim := { program := "ytpjbeahllepfmaa", sum := "d2253c7f41e177ae4a8b9442de1292c20f9acf72aeca499659e523c3f730be5e", func := "boxhedge/boxhedgelaw01.WrapOrder", spec := "wrapOrder", apart := false, narrowed := true }
def WrapOrderUptoSaid : Prop := wrapOrderUptoRow.holds Try.pinned (OpenSpec.upto wrapOrderSpec)

end Rows
end Go.Proofs.Ytpjbeahllepfmaa
