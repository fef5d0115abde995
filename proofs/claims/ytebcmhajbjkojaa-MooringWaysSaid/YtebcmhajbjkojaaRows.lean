/-
  No cell of these rows narrows 'for every input' (looked for: loops, veiled, ifaces, maps, wideKeys, modest, calm, conditions, laid).
  DERIVED. THE GIVEN ROWS OF THIS SEAT. 11 by the template 'for every input the law returns true; each argument reads behind the call as it read before'; 0 by the template 'total and deterministic' (their statements: YtebcmhajbjkojaaTotals.lean).
  GIVEN WITH THE SEED: the statements are not yours to turn. If you find one false, say at which input.
  Laid BY PROGRAM, IN A SANDBOX (cutbox-rows.mjs): the forced cells as the released guide's own fill.sh prints them over the translation 0e5d9ef60b30ea7c… (all of the seat's roots in one cut). By AI agents, Wed Nov 11 2026. No macro, syntax, notation, axiom, sorry.
-/
import Derived.Test.YtebcmhajbjkojaaChecked
import GoSem.Claim
import GoSem.ClaimJoined
import GoSem.ClaimMapViews
import Derived.JoinedTies
import Derived.KernelRfl
namespace Go.Proofs.Ytebcmhajbjkojaa
/- THE CELL 'sum', in the pinned program and in every row, IS THE sha256 OF THE DUMP (.gsa) THAT YtebcmhajbjkojaaProg.lean LOADS. Nothing in Lean hashes anything: it is a label: what it is worth is what the hold of that sum in a sandbox is worth. -/
noncomputable def Try.pinned : Pinned := { name := "ytebcmhajbjkojaa", sum := "0e5d9ef60b30ea7cae7ee460934a364c52d06ef9facb299bf6489f34b47ae085", checked := Try.checked }
namespace Rows
def none {H : Type} : Left H := { results := [], args := [] }

/-- 'isobathlaw02.MooringCodes': WHATEVER THE INPUT: true; the input reads as it did. -/
def mooringCodesSpec : ChangeSpec := { name := "mooringCodes", fn := fun _ => fun
  | [d1, d2, d3] => { results := [.lit (.bool true)], args := [d1, d2, d3] }
  | _ => none }
def mooringCodesRow : OpenClaim := { program := "ytebcmhajbjkojaa", sum := "0e5d9ef60b30ea7cae7ee460934a364c52d06ef9facb299bf6489f34b47ae085", func := "isobath/isobathlaw02.MooringCodes", spec := "mooringCodes", unfollowed := true, recurses := true, apart := false }
def MooringCodesSaid : Prop := mooringCodesRow.holds Try.pinned (OpenSpec.ofChange mooringCodesSpec)

/-- ITS FALSE NEIGHBOUR: 'it returns false'. Refute it at one input. -/
def mooringCodesWrong : ChangeSpec := { name := "mooringCodes", fn := fun _ => fun
  | [d1, d2, d3] => { results := [.lit (.bool false)], args := [d1, d2, d3] }
  | _ => none }
def MooringCodesWrongFalsely : Prop := mooringCodesRow.holds Try.pinned (OpenSpec.ofChange mooringCodesWrong)

/-- 'isobathlaw02.MooringUnique': WHATEVER THE INPUT: true; the input reads as it did. -/
def mooringUniqueSpec : ChangeSpec := { name := "mooringUnique", fn := fun _ => fun
  | [d1, d2, d3, d4] => { results := [.lit (.bool true)], args := [d1, d2, d3, d4] }
  | _ => none }
def mooringUniqueRow : OpenClaim := { program := "ytebcmhajbjkojaa", sum := "0e5d9ef60b30ea7cae7ee460934a364c52d06ef9facb299bf6489f34b47ae085", func := "isobath/isobathlaw02.MooringUnique", spec := "mooringUnique", unfollowed := true, recurses := true, apart := false }
def MooringUniqueSaid : Prop := mooringUniqueRow.holds Try.pinned (OpenSpec.ofChange mooringUniqueSpec)

/-- ITS FALSE NEIGHBOUR: 'it returns false'. Refute it at one input. -/
def mooringUniqueWrong : ChangeSpec := { name := "mooringUnique", fn := fun _ => fun
  | [d1, d2, d3, d4] => { results := [.lit (.bool false)], args := [d1, d2, d3, d4] }
  | _ => none }
def MooringUniqueWrongFalsely : Prop := mooringUniqueRow.holds Try.pinned (OpenSpec.ofChange mooringUniqueWrong)

/-- 'isobathlaw02.MooringBroken': WHATEVER THE INPUT: true; the input reads as it did. -/
def mooringBrokenSpec : ChangeSpec := { name := "mooringBroken", fn := fun _ => fun
  | [d1, d2] => { results := [.lit (.bool true)], args := [d1, d2] }
  | _ => none }
def mooringBrokenRow : OpenClaim := { program := "ytebcmhajbjkojaa", sum := "0e5d9ef60b30ea7cae7ee460934a364c52d06ef9facb299bf6489f34b47ae085", func := "isobath/isobathlaw02.MooringBroken", spec := "mooringBroken", unfollowed := true, recurses := true, apart := false }
def MooringBrokenSaid : Prop := mooringBrokenRow.holds Try.pinned (OpenSpec.ofChange mooringBrokenSpec)

/-- ITS FALSE NEIGHBOUR: 'it returns false'. Refute it at one input. -/
def mooringBrokenWrong : ChangeSpec := { name := "mooringBroken", fn := fun _ => fun
  | [d1, d2] => { results := [.lit (.bool false)], args := [d1, d2] }
  | _ => none }
def MooringBrokenWrongFalsely : Prop := mooringBrokenRow.holds Try.pinned (OpenSpec.ofChange mooringBrokenWrong)

/-- 'isobathlaw02.MooringFreer': WHATEVER THE INPUT: true; the input reads as it did. -/
def mooringFreerSpec : ChangeSpec := { name := "mooringFreer", fn := fun _ => fun
  | [d1, d2] => { results := [.lit (.bool true)], args := [d1, d2] }
  | _ => none }
def mooringFreerRow : OpenClaim := { program := "ytebcmhajbjkojaa", sum := "0e5d9ef60b30ea7cae7ee460934a364c52d06ef9facb299bf6489f34b47ae085", func := "isobath/isobathlaw02.MooringFreer", spec := "mooringFreer", unfollowed := true, recurses := true, apart := false }
def MooringFreerSaid : Prop := mooringFreerRow.holds Try.pinned (OpenSpec.ofChange mooringFreerSpec)

/-- ITS FALSE NEIGHBOUR: 'it returns false'. Refute it at one input. -/
def mooringFreerWrong : ChangeSpec := { name := "mooringFreer", fn := fun _ => fun
  | [d1, d2] => { results := [.lit (.bool false)], args := [d1, d2] }
  | _ => none }
def MooringFreerWrongFalsely : Prop := mooringFreerRow.holds Try.pinned (OpenSpec.ofChange mooringFreerWrong)

/-- 'isobathlaw02.MooringShapes': WHATEVER THE INPUT: true; the input reads as it did. -/
def mooringShapesSpec : ChangeSpec := { name := "mooringShapes", fn := fun _ => fun
  | [d1, d2, d3] => { results := [.lit (.bool true)], args := [d1, d2, d3] }
  | _ => none }
def mooringShapesRow : OpenClaim := { program := "ytebcmhajbjkojaa", sum := "0e5d9ef60b30ea7cae7ee460934a364c52d06ef9facb299bf6489f34b47ae085", func := "isobath/isobathlaw02.MooringShapes", spec := "mooringShapes", unfollowed := true, recurses := true, apart := false }
def MooringShapesSaid : Prop := mooringShapesRow.holds Try.pinned (OpenSpec.ofChange mooringShapesSpec)

/-- ITS FALSE NEIGHBOUR: 'it returns false'. Refute it at one input. -/
def mooringShapesWrong : ChangeSpec := { name := "mooringShapes", fn := fun _ => fun
  | [d1, d2, d3] => { results := [.lit (.bool false)], args := [d1, d2, d3] }
  | _ => none }
def MooringShapesWrongFalsely : Prop := mooringShapesRow.holds Try.pinned (OpenSpec.ofChange mooringShapesWrong)

/-- 'isobathlaw02.MooringForces': WHATEVER THE INPUT: true; the input reads as it did. -/
def mooringForcesSpec : ChangeSpec := { name := "mooringForces", fn := fun _ => fun
  | [d1, d2, d3] => { results := [.lit (.bool true)], args := [d1, d2, d3] }
  | _ => none }
def mooringForcesRow : OpenClaim := { program := "ytebcmhajbjkojaa", sum := "0e5d9ef60b30ea7cae7ee460934a364c52d06ef9facb299bf6489f34b47ae085", func := "isobath/isobathlaw02.MooringForces", spec := "mooringForces", unfollowed := true, recurses := true, apart := false }
def MooringForcesSaid : Prop := mooringForcesRow.holds Try.pinned (OpenSpec.ofChange mooringForcesSpec)

/-- ITS FALSE NEIGHBOUR: 'it returns false'. Refute it at one input. -/
def mooringForcesWrong : ChangeSpec := { name := "mooringForces", fn := fun _ => fun
  | [d1, d2, d3] => { results := [.lit (.bool false)], args := [d1, d2, d3] }
  | _ => none }
def MooringForcesWrongFalsely : Prop := mooringForcesRow.holds Try.pinned (OpenSpec.ofChange mooringForcesWrong)

/-- 'isobathlaw02.MooringEvery': WHATEVER THE INPUT: true; the input reads as it did. -/
def mooringEverySpec : ChangeSpec := { name := "mooringEvery", fn := fun _ => fun
  | [d1, d2, d3, d4] => { results := [.lit (.bool true)], args := [d1, d2, d3, d4] }
  | _ => none }
def mooringEveryRow : OpenClaim := { program := "ytebcmhajbjkojaa", sum := "0e5d9ef60b30ea7cae7ee460934a364c52d06ef9facb299bf6489f34b47ae085", func := "isobath/isobathlaw02.MooringEvery", spec := "mooringEvery", unfollowed := true, recurses := true, apart := false }
def MooringEverySaid : Prop := mooringEveryRow.holds Try.pinned (OpenSpec.ofChange mooringEverySpec)

/-- ITS FALSE NEIGHBOUR: 'it returns false'. Refute it at one input. -/
def mooringEveryWrong : ChangeSpec := { name := "mooringEvery", fn := fun _ => fun
  | [d1, d2, d3, d4] => { results := [.lit (.bool false)], args := [d1, d2, d3, d4] }
  | _ => none }
def MooringEveryWrongFalsely : Prop := mooringEveryRow.holds Try.pinned (OpenSpec.ofChange mooringEveryWrong)

/-- 'isobathlaw02.MooringBalance': WHATEVER THE INPUT: true; the input reads as it did. -/
def mooringBalanceSpec : ChangeSpec := { name := "mooringBalance", fn := fun _ => fun
  | [d1, d2, d3] => { results := [.lit (.bool true)], args := [d1, d2, d3] }
  | _ => none }
def mooringBalanceRow : OpenClaim := { program := "ytebcmhajbjkojaa", sum := "0e5d9ef60b30ea7cae7ee460934a364c52d06ef9facb299bf6489f34b47ae085", func := "isobath/isobathlaw02.MooringBalance", spec := "mooringBalance", unfollowed := true, recurses := true, apart := false }
def MooringBalanceSaid : Prop := mooringBalanceRow.holds Try.pinned (OpenSpec.ofChange mooringBalanceSpec)

/-- ITS FALSE NEIGHBOUR: 'it returns false'. Refute it at one input. -/
def mooringBalanceWrong : ChangeSpec := { name := "mooringBalance", fn := fun _ => fun
  | [d1, d2, d3] => { results := [.lit (.bool false)], args := [d1, d2, d3] }
  | _ => none }
def MooringBalanceWrongFalsely : Prop := mooringBalanceRow.holds Try.pinned (OpenSpec.ofChange mooringBalanceWrong)

/-- 'isobathlaw02.MooringWays': WHATEVER THE INPUT: true; the input reads as it did. -/
def mooringWaysSpec : ChangeSpec := { name := "mooringWays", fn := fun _ => fun
  | [d1, d2, d3, d4, d5] => { results := [.lit (.bool true)], args := [d1, d2, d3, d4, d5] }
  | _ => none }
def mooringWaysRow : OpenClaim := { program := "ytebcmhajbjkojaa", sum := "0e5d9ef60b30ea7cae7ee460934a364c52d06ef9facb299bf6489f34b47ae085", func := "isobath/isobathlaw02.MooringWays", spec := "mooringWays", unfollowed := true, recurses := true, apart := false }
def MooringWaysSaid : Prop := mooringWaysRow.holds Try.pinned (OpenSpec.ofChange mooringWaysSpec)

/-- ITS FALSE NEIGHBOUR: 'it returns false'. Refute it at one input. -/
def mooringWaysWrong : ChangeSpec := { name := "mooringWays", fn := fun _ => fun
  | [d1, d2, d3, d4, d5] => { results := [.lit (.bool false)], args := [d1, d2, d3, d4, d5] }
  | _ => none }
def MooringWaysWrongFalsely : Prop := mooringWaysRow.holds Try.pinned (OpenSpec.ofChange mooringWaysWrong)

/-- 'isobathlaw02.MooringSearches': WHATEVER THE INPUT: true; the input reads as it did. -/
def mooringSearchesSpec : ChangeSpec := { name := "mooringSearches", fn := fun _ => fun
  | [d1, d2, d3] => { results := [.lit (.bool true)], args := [d1, d2, d3] }
  | _ => none }
def mooringSearchesRow : OpenClaim := { program := "ytebcmhajbjkojaa", sum := "0e5d9ef60b30ea7cae7ee460934a364c52d06ef9facb299bf6489f34b47ae085", func := "isobath/isobathlaw02.MooringSearches", spec := "mooringSearches", unfollowed := true, recurses := true, apart := false }
def MooringSearchesSaid : Prop := mooringSearchesRow.holds Try.pinned (OpenSpec.ofChange mooringSearchesSpec)

/-- ITS FALSE NEIGHBOUR: 'it returns false'. Refute it at one input. -/
def mooringSearchesWrong : ChangeSpec := { name := "mooringSearches", fn := fun _ => fun
  | [d1, d2, d3] => { results := [.lit (.bool false)], args := [d1, d2, d3] }
  | _ => none }
def MooringSearchesWrongFalsely : Prop := mooringSearchesRow.holds Try.pinned (OpenSpec.ofChange mooringSearchesWrong)

/-- 'isobathlaw02.MooringFound': WHATEVER THE INPUT: true; the input reads as it did. -/
def mooringFoundSpec : ChangeSpec := { name := "mooringFound", fn := fun _ => fun
  | [d1, d2, d3, d4, d5] => { results := [.lit (.bool true)], args := [d1, d2, d3, d4, d5] }
  | _ => none }
def mooringFoundRow : OpenClaim := { program := "ytebcmhajbjkojaa", sum := "0e5d9ef60b30ea7cae7ee460934a364c52d06ef9facb299bf6489f34b47ae085", func := "isobath/isobathlaw02.MooringFound", spec := "mooringFound", unfollowed := true, recurses := true, apart := false }
def MooringFoundSaid : Prop := mooringFoundRow.holds Try.pinned (OpenSpec.ofChange mooringFoundSpec)

/-- ITS FALSE NEIGHBOUR: 'it returns false'. Refute it at one input. -/
def mooringFoundWrong : ChangeSpec := { name := "mooringFound", fn := fun _ => fun
  | [d1, d2, d3, d4, d5] => { results := [.lit (.bool false)], args := [d1, d2, d3, d4, d5] }
  | _ => none }
def MooringFoundWrongFalsely : Prop := mooringFoundRow.holds Try.pinned (OpenSpec.ofChange mooringFoundWrong)

/- THE SECOND FORM. 'bulk': how many values and letters a reading holds, each counted each time it is reached (what is shared counts as often as it is met; a slice's spare places count too). A statement '..UptoSaid' is the law's where the arguments, and the package variables that the reading takes, are together of bulk at most 1048576: NARROWER than '..Said'. Prove '..Said' where nothing that the law and all that it calls make is longer than what came in: it says more and counts as full. Else prove '..UptoSaid'. A law counts once. -/
mutual
def uptoBulk {H : Type} : DataW H → Nat
  | .lit (.string bytes) => bytes.length + 1
  | .lit _ => 1
  | .nil => 1
  | .ptr d => uptoBulk d + 1
  | .slice elems spare => uptoBulkAll elems + uptoBulkAll spare + 1
  | .agg parts => uptoBulkAll parts + 1
  | .iface _ d => uptoBulk d + 1
  | .map entries => uptoBulkEntries entries + 1
  | .held _ => 1
def uptoBulkAll {H : Type} : List (DataW H) → Nat
  | [] => 0
  | d :: r => uptoBulk d + uptoBulkAll r
def uptoBulkEntries {H : Type} : List (Lit × DataW H) → Nat
  | [] => 0
  | x :: r => uptoBulkEntry x + uptoBulkEntries r
def uptoBulkEntry {H : Type} : Lit × DataW H → Nat
  | (.string bytes, d) => bytes.length + uptoBulk d + 1
  | (_, d) => uptoBulk d + 1
 end
def uptoSmall : (H : Type) → List (DataW H) → Bool := fun _ ds => decide (uptoBulkAll ds ≤ 1048576)
def OpenSpec.upto (s : _root_.Go.ChangeSpec) : _root_.Go.OpenSpec := { _root_.Go.OpenSpec.ofChange s with cond := some uptoSmall }

/-- 'isobathlaw02.MooringCodes', WHERE WHAT IT READS IS OF BULK AT MOST 1048576: true; the input reads as it did. -/
def mooringCodesUptoRow : OpenClaim := { program := "ytebcmhajbjkojaa", sum := "0e5d9ef60b30ea7cae7ee460934a364c52d06ef9facb299bf6489f34b47ae085", func := "isobath/isobathlaw02.MooringCodes", spec := "mooringCodes", unfollowed := true, recurses := true, apart := false, narrowed := true }
def MooringCodesUptoSaid : Prop := mooringCodesUptoRow.holds Try.pinned (OpenSpec.upto mooringCodesSpec)

/-- 'isobathlaw02.MooringUnique', WHERE WHAT IT READS IS OF BULK AT MOST 1048576: true; the input reads as it did. -/
def mooringUniqueUptoRow : OpenClaim := { program := "ytebcmhajbjkojaa", sum := "0e5d9ef60b30ea7cae7ee460934a364c52d06ef9facb299bf6489f34b47ae085", func := "isobath/isobathlaw02.MooringUnique", spec := "mooringUnique", unfollowed := true, recurses := true, apart := false, narrowed := true }
def MooringUniqueUptoSaid : Prop := mooringUniqueUptoRow.holds Try.pinned (OpenSpec.upto mooringUniqueSpec)

/-- 'isobathlaw02.MooringBroken', WHERE WHAT IT READS IS OF BULK AT MOST 1048576: true; the input reads as it did. -/
def mooringBrokenUptoRow : OpenClaim := { program := "ytebcmhajbjkojaa", sum := "0e5d9ef60b30ea7cae7ee460934a364c52d06ef9facb299bf6489f34b47ae085", func := "isobath/isobathlaw02.MooringBroken", spec := "mooringBroken", unfollowed := true, recurses := true, apart := false, narrowed := true }
def MooringBrokenUptoSaid : Prop := mooringBrokenUptoRow.holds Try.pinned (OpenSpec.upto mooringBrokenSpec)

/-- 'isobathlaw02.MooringFreer', WHERE WHAT IT READS IS OF BULK AT MOST 1048576: true; the input reads as it did. -/
def mooringFreerUptoRow : OpenClaim := { program := "ytebcmhajbjkojaa", sum := "0e5d9ef60b30ea7cae7ee460934a364c52d06ef9facb299bf6489f34b47ae085", func := "isobath/isobathlaw02.MooringFreer", spec := "mooringFreer", unfollowed := true, recurses := true, apart := false, narrowed := true }
def MooringFreerUptoSaid : Prop := mooringFreerUptoRow.holds Try.pinned (OpenSpec.upto mooringFreerSpec)

/-- 'isobathlaw02.MooringShapes', WHERE WHAT IT READS IS OF BULK AT MOST 1048576: true; the input reads as it did. -/
def mooringShapesUptoRow : OpenClaim := { program := "ytebcmhajbjkojaa", sum := "0e5d9ef60b30ea7cae7ee460934a364c52d06ef9facb299bf6489f34b47ae085", func := "isobath/isobathlaw02.MooringShapes", spec := "mooringShapes", unfollowed := true, recurses := true, apart := false, narrowed := true }
def MooringShapesUptoSaid : Prop := mooringShapesUptoRow.holds Try.pinned (OpenSpec.upto mooringShapesSpec)

/-- 'isobathlaw02.MooringForces', WHERE WHAT IT READS IS OF BULK AT MOST 1048576: true; the input reads as it did. -/
def mooringForcesUptoRow : OpenClaim := { program := "ytebcmhajbjkojaa", sum := "0e5d9ef60b30ea7cae7ee460934a364c52d06ef9facb299bf6489f34b47ae085", func := "isobath/isobathlaw02.MooringForces", spec := "mooringForces", unfollowed := true, recurses := true, apart := false, narrowed := true }
def MooringForcesUptoSaid : Prop := mooringForcesUptoRow.holds Try.pinned (OpenSpec.upto mooringForcesSpec)

/-- 'isobathlaw02.MooringEvery', WHERE WHAT IT READS IS OF BULK AT MOST 1048576: true; the input reads as it did. -/
def mooringEveryUptoRow : OpenClaim := { program := "ytebcmhajbjkojaa", sum := "0e5d9ef60b30ea7cae7ee460934a364c52d06ef9facb299bf6489f34b47ae085", func := "isobath/isobathlaw02.MooringEvery", spec := "mooringEvery", unfollowed := true, recurses := true, apart := false, narrowed := true }
def MooringEveryUptoSaid : Prop := mooringEveryUptoRow.holds Try.pinned (OpenSpec.upto mooringEverySpec)

/-- 'isobathlaw02.MooringBalance', WHERE WHAT IT READS IS OF BULK AT MOST 1048576: true; the input reads as it did. -/
def mooringBalanceUptoRow : OpenClaim := { program := "ytebcmhajbjkojaa", sum := "0e5d9ef60b30ea7cae7ee460934a364c52d06ef9facb299bf6489f34b47ae085", func := "isobath/isobathlaw02.MooringBalance", spec := "mooringBalance", unfollowed := true, recurses := true, apart := false, narrowed := true }
def MooringBalanceUptoSaid : Prop := mooringBalanceUptoRow.holds Try.pinned (OpenSpec.upto mooringBalanceSpec)

/-- 'isobathlaw02.MooringWays', WHERE WHAT IT READS IS OF BULK AT MOST 1048576: true; the input reads as it did. -/
def mooringWaysUptoRow : OpenClaim := { program := "ytebcmhajbjkojaa", sum := "0e5d9ef60b30ea7cae7ee460934a364c52d06ef9facb299bf6489f34b47ae085", func := "isobath/isobathlaw02.MooringWays", spec := "mooringWays", unfollowed := true, recurses := true, apart := false, narrowed := true }
def MooringWaysUptoSaid : Prop := mooringWaysUptoRow.holds Try.pinned (OpenSpec.upto mooringWaysSpec)

/-- 'isobathlaw02.MooringSearches', WHERE WHAT IT READS IS OF BULK AT MOST 1048576: true; the input reads as it did. -/
def mooringSearchesUptoRow : OpenClaim := { program := "ytebcmhajbjkojaa", sum := "0e5d9ef60b30ea7cae7ee460934a364c52d06ef9facb299bf6489f34b47ae085", func := "isobath/isobathlaw02.MooringSearches", spec := "mooringSearches", unfollowed := true, recurses := true, apart := false, narrowed := true }
def MooringSearchesUptoSaid : Prop := mooringSearchesUptoRow.holds Try.pinned (OpenSpec.upto mooringSearchesSpec)

/-- 'isobathlaw02.MooringFound', WHERE WHAT IT READS IS OF BULK AT MOST 1048576: true; the input reads as it did. -/
def mooringFoundUptoRow : OpenClaim := { program := "ytebcmhajbjkojaa", sum := "0e5d9ef60b30ea7cae7ee460934a364c52d06ef9facb299bf6489f34b47ae085", func := "isobath/isobathlaw02.MooringFound", spec := "mooringFound", unfollowed := true, recurses := true, apart := false, narrowed := true }
def MooringFoundUptoSaid : Prop := mooringFoundUptoRow.holds Try.pinned (OpenSpec.upto mooringFoundSpec)

end Rows
end Go.Proofs.Ytebcmhajbjkojaa
