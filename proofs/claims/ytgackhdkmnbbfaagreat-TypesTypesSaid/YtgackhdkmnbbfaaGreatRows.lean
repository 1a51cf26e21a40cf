/-
  No cell of these rows narrows 'for every input' (looked for: loops, veiled, ifaces, maps, wideKeys, modest, calm, conditions, laid).
  DERIVED. THE GIVEN ROWS OF THIS SEAT. 3 by the template 'for every input the law returns true; each argument reads behind the call as it read before'; 0 by the template 'total and deterministic' (their statements: YtgackhdkmnbbfaaGreatTotals.lean).
  GIVEN WITH THE SEED: the statements are not yours to turn. If you find one false, say at which input.
  Laid BY PROGRAM, IN A SANDBOX (cutbox-rows.mjs): the forced cells as the released guide's own fill.sh prints them over the translation b0d2ecb85f60f6cd… (all of the seat's roots in one cut). By AI agents, Wed Nov 11 2026. No macro, syntax, notation, axiom, sorry.
-/
import Derived.Test.YtgackhdkmnbbfaaGreatChecked
import GoSem.Claim
import GoSem.ClaimJoined
import GoSem.ClaimMapViews
import Derived.JoinedTies
import Derived.KernelRfl
namespace Go.Proofs.YtgackhdkmnbbfaaGreat
/- THE CELL 'sum', in the pinned program and in every row, IS THE sha256 OF THE DUMP (.gsa) THAT YtgackhdkmnbbfaaGreatProg.lean LOADS. Nothing in Lean hashes anything: it is a label: what it is worth is what the hold of that sum in a sandbox is worth. -/
noncomputable def Tryz.pinned : Pinned := { name := "ytgackhdkmnbbfaagreat", sum := "b0d2ecb85f60f6cdebe336926436bc151476e4829579cb365a3b8bc928ba07c2", checked := Tryz.checked }
namespace Rows
def none {H : Type} : Left H := { results := [], args := [] }

/-- 'boxhedgelaw05.TypesBodies': WHATEVER THE INPUT: true; the input reads as it did. -/
def typesBodiesSpec : ChangeSpec := { name := "typesBodies", fn := fun _ => fun
  | [d1, d2] => { results := [.lit (.bool true)], args := [d1, d2] }
  | _ => none }
def typesBodiesRow : OpenClaim := { program := "ytgackhdkmnbbfaagreat", sum := "b0d2ecb85f60f6cdebe336926436bc151476e4829579cb365a3b8bc928ba07c2", func := "boxhedge/boxhedgelaw05.TypesBodies", spec := "typesBodies", unfollowed := true, recurses := true, apart := false }
def TypesBodiesSaid : Prop := typesBodiesRow.holds Tryz.pinned (OpenSpec.ofChange typesBodiesSpec)

/-- ITS FALSE NEIGHBOUR: 'it returns false'. Refute it at one input. -/
def typesBodiesWrong : ChangeSpec := { name := "typesBodies", fn := fun _ => fun
  | [d1, d2] => { results := [.lit (.bool false)], args := [d1, d2] }
  | _ => none }
def TypesBodiesWrongFalsely : Prop := typesBodiesRow.holds Tryz.pinned (OpenSpec.ofChange typesBodiesWrong)

/-- 'boxhedgelaw05.TypesEnds': WHATEVER THE INPUT: true; the input reads as it did. -/
def typesEndsSpec : ChangeSpec := { name := "typesEnds", fn := fun _ => fun
  | [d] => { results := [.lit (.bool true)], args := [d] }
  | _ => none }
def typesEndsRow : OpenClaim := { program := "ytgackhdkmnbbfaagreat", sum := "b0d2ecb85f60f6cdebe336926436bc151476e4829579cb365a3b8bc928ba07c2", func := "boxhedge/boxhedgelaw05.TypesEnds", spec := "typesEnds", unfollowed := true, recurses := true, apart := false }
def TypesEndsSaid : Prop := typesEndsRow.holds Tryz.pinned (OpenSpec.ofChange typesEndsSpec)

/-- ITS FALSE NEIGHBOUR: 'it returns false'. Refute it at one input. -/
def typesEndsWrong : ChangeSpec := { name := "typesEnds", fn := fun _ => fun
  | [d] => { results := [.lit (.bool false)], args := [d] }
  | _ => none }
def TypesEndsWrongFalsely : Prop := typesEndsRow.holds Tryz.pinned (OpenSpec.ofChange typesEndsWrong)

/-- 'boxhedgelaw05.TypesTypes': WHATEVER THE INPUT: true; the input reads as it did. -/
def typesTypesSpec : ChangeSpec := { name := "typesTypes", fn := fun _ => fun
  | [d1, d2, d3] => { results := [.lit (.bool true)], args := [d1, d2, d3] }
  | _ => none }
def typesTypesRow : OpenClaim := { program := "ytgackhdkmnbbfaagreat", sum := "b0d2ecb85f60f6cdebe336926436bc151476e4829579cb365a3b8bc928ba07c2", func := "boxhedge/boxhedgelaw05.TypesTypes", spec := "typesTypes", unfollowed := true, recurses := true, apart := false }
def TypesTypesSaid : Prop := typesTypesRow.holds Tryz.pinned (OpenSpec.ofChange typesTypesSpec)

/-- ITS FALSE NEIGHBOUR: 'it returns false'. Refute it at one input. -/
def typesTypesWrong : ChangeSpec := { name := "typesTypes", fn := fun _ => fun
  | [d1, d2, d3] => { results := [.lit (.bool false)], args := [d1, d2, d3] }
  | _ => none }
def TypesTypesWrongFalsely : Prop := typesTypesRow.holds Tryz.pinned (OpenSpec.ofChange typesTypesWrong)

/- THE SECOND FORM. 'bulk': how many values and letters a reading holds, each counted each time it is reached (what is shared counts as often as it is met; a slice's spare places count too). A statement '..UptoSaid' is the law's where the arguments, and the package variables that the reading takes, are together of bulk at most 1048576: NARROWER than '..Said'. Prove '..Said' where nothing that the law and all that it calls make is longer than what came in: it says more and counts as full. Else prove '..UptoSaid'. A law counts once. -/
mutual
def uptoBulk {H : Type} : DataW H → Nat
  | .lit (.string bytes) => bytes.length + 1
  | .lit _ => 1
  | .nil => 1
  | .ptr d => uptoBulk d + 1
  | .slice elems spare => uptoBulkAll elems + uptoBulkAll spare + 1
  | .agg parts => uptoBulkAll parts + 1
  | .iface _ d => uptoBulk d + 1
  | .map entries => uptoBulkEntries entries + 1
  | .held _ => 1
def uptoBulkAll {H : Type} : List (DataW H) → Nat
  | [] => 0
  | d :: r => uptoBulk d + uptoBulkAll r
def uptoBulkEntries {H : Type} : List (Lit × DataW H) → Nat
  | [] => 0
  | x :: r => uptoBulkEntry x + uptoBulkEntries r
def uptoBulkEntry {H : Type} : Lit × DataW H → Nat
  | (.string bytes, d) => bytes.length + uptoBulk d + 1
  | (_, d) => uptoBulk d + 1
 end
def uptoSmall : (H : Type) → List (DataW H) → Bool := fun _ ds => decide (uptoBulkAll ds ≤ 1048576)
def OpenSpec.upto (s : _root_.Go.ChangeSpec) : _root_.Go.OpenSpec := { _root_.Go.OpenSpec.ofChange s with cond := some uptoSmall }

/-- 'boxhedgelaw05.TypesBodies', WHERE WHAT IT READS IS OF BULK AT MOST 1048576: true; the input reads as it did. -/
def typesBodiesUptoRow : OpenClaim := { program := "ytgackhdkmnbbfaagreat", sum := "b0d2ecb85f60f6cdebe336926436bc151476e4829579cb365a3b8bc928ba07c2", func := "boxhedge/boxhedgelaw05.TypesBodies", spec := "typesBodies", unfollowed := true, recurses := true, apart := false, narrowed := true }
def TypesBodiesUptoSaid : Prop := typesBodiesUptoRow.holds Tryz.pinned (OpenSpec.upto typesBodiesSpec)

/-- 'boxhedgelaw05.TypesEnds', WHERE WHAT IT READS IS OF BULK AT MOST 1048576: true; the input reads as it did. -/
def typesEndsUptoRow : OpenClaim := { program := "ytgackhdkmnbbfaagreat", sum := "b0d2ecb85f60f6cdebe336926436bc151476e4829579cb365a3b8bc928ba07c2", func := "boxhedge/boxhedgelaw05.TypesEnds", spec := "typesEnds", unfollowed := true, recurses := true, apart := false, narrowed := true }
def TypesEndsUptoSaid : Prop := typesEndsUptoRow.holds Tryz.pinned (OpenSpec.upto typesEndsSpec)

/-- 'boxhedgelaw05.TypesTypes', WHERE WHAT IT READS IS OF BULK AT MOST 1048576: true; the input reads as it did. -/
def typesTypesUptoRow : OpenClaim := { program := "ytgackhdkmnbbfaagreat", sum := "b0d2ecb85f60f6cdebe336926436bc151476e4829579cb365a3b8bc928ba07c2", func := "boxhedge/boxhedgelaw05.TypesTypes", spec := "typesTypes", unfollowed := true, recurses := true, apart := false, narrowed := true }
def TypesTypesUptoSaid : Prop := typesTypesUptoRow.holds Tryz.pinned (OpenSpec.upto typesTypesSpec)

end Rows
end Go.Proofs.YtgackhdkmnbbfaaGreat
