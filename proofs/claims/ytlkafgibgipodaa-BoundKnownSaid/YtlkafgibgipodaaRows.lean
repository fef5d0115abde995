/-
  No cell of these rows narrows 'for every input' (looked for: loops, veiled, ifaces, maps, wideKeys, modest, calm, conditions, laid).
  DERIVED. THE GIVEN ROWS OF THIS SEAT. 15 by the template 'for every input the law returns true; each argument reads behind the call as it read before'; 0 by the template 'total and deterministic' (their statements: YtlkafgibgipodaaTotals.lean).
  GIVEN WITH THE SEED: the statements are not yours to turn. If you find one false, say at which input.
  Laid BY PROGRAM, IN A SANDBOX (cutbox-rows.mjs): the forced cells as the released guide's own fill.sh prints them over the translation b2257df351015f2a… (all of the seat's roots in one cut). By AI agents, Wed Nov 11 2026. No macro, syntax, notation, axiom, sorry.
-/
import Derived.Test.YtlkafgibgipodaaChecked
import GoSem.Claim
import GoSem.ClaimJoined
import GoSem.ClaimMapViews
import Derived.JoinedTies
import Derived.KernelRfl
namespace Go.Proofs.Ytlkafgibgipodaa
/- THE CELL 'sum', in the pinned program and in every row, IS THE sha256 OF THE DUMP (.gsa) THAT YtlkafgibgipodaaProg.lean LOADS. Nothing in Lean hashes anything: it is a label: what it is worth is what the hold of that sum in a sandbox is worth. -/
noncomputable def Try.pinned : Pinned := { name := "ytlkafgibgipodaa", sum := "b2257df351015f2a625cda0d817885fa6851512390d4f53ee0beb3b83d3cdd4a", checked := Try.checked }
namespace Rows
def none {H : Type} : Left H := { results := [], args := [] }

/-- 'isobathlaw01.BoundKleene': WHATEVER THE INPUT: true; the input reads as it did. -/
def boundKleeneSpec : ChangeSpec := { name := "boundKleene", fn := fun _ => fun
  | [d] => { results := [.lit (.bool true)], args := [d] }
  | _ => none }
def boundKleeneRow : OpenClaim := { program := "ytlkafgibgipodaa", sum := "b2257df351015f2a625cda0d817885fa6851512390d4f53ee0beb3b83d3cdd4a", func := "isobath/isobathlaw01.BoundKleene", spec := "boundKleene", unfollowed := true, recurses := true, apart := false }
def BoundKleeneSaid : Prop := boundKleeneRow.holds Try.pinned (OpenSpec.ofChange boundKleeneSpec)

/-- ITS FALSE NEIGHBOUR: 'it returns false'. Refute it at one input. -/
def boundKleeneWrong : ChangeSpec := { name := "boundKleene", fn := fun _ => fun
  | [d] => { results := [.lit (.bool false)], args := [d] }
  | _ => none }
def BoundKleeneWrongFalsely : Prop := boundKleeneRow.holds Try.pinned (OpenSpec.ofChange boundKleeneWrong)

/-- 'isobathlaw01.BoundThree': WHATEVER THE INPUT: true; the input reads as it did. -/
def boundThreeSpec : ChangeSpec := { name := "boundThree", fn := fun _ => fun
  | [d1, d2, d3, d4] => { results := [.lit (.bool true)], args := [d1, d2, d3, d4] }
  | _ => none }
def boundThreeRow : OpenClaim := { program := "ytlkafgibgipodaa", sum := "b2257df351015f2a625cda0d817885fa6851512390d4f53ee0beb3b83d3cdd4a", func := "isobath/isobathlaw01.BoundThree", spec := "boundThree", unfollowed := true, recurses := true, apart := false }
def BoundThreeSaid : Prop := boundThreeRow.holds Try.pinned (OpenSpec.ofChange boundThreeSpec)

/-- ITS FALSE NEIGHBOUR: 'it returns false'. Refute it at one input. -/
def boundThreeWrong : ChangeSpec := { name := "boundThree", fn := fun _ => fun
  | [d1, d2, d3, d4] => { results := [.lit (.bool false)], args := [d1, d2, d3, d4] }
  | _ => none }
def BoundThreeWrongFalsely : Prop := boundThreeRow.holds Try.pinned (OpenSpec.ofChange boundThreeWrong)

/-- 'isobathlaw01.BoundAlgebra': WHATEVER THE INPUT: true; the input reads as it did. -/
def boundAlgebraSpec : ChangeSpec := { name := "boundAlgebra", fn := fun _ => fun
  | [d1, d2] => { results := [.lit (.bool true)], args := [d1, d2] }
  | _ => none }
def boundAlgebraRow : OpenClaim := { program := "ytlkafgibgipodaa", sum := "b2257df351015f2a625cda0d817885fa6851512390d4f53ee0beb3b83d3cdd4a", func := "isobath/isobathlaw01.BoundAlgebra", spec := "boundAlgebra", unfollowed := true, recurses := true, apart := false }
def BoundAlgebraSaid : Prop := boundAlgebraRow.holds Try.pinned (OpenSpec.ofChange boundAlgebraSpec)

/-- ITS FALSE NEIGHBOUR: 'it returns false'. Refute it at one input. -/
def boundAlgebraWrong : ChangeSpec := { name := "boundAlgebra", fn := fun _ => fun
  | [d1, d2] => { results := [.lit (.bool false)], args := [d1, d2] }
  | _ => none }
def BoundAlgebraWrongFalsely : Prop := boundAlgebraRow.holds Try.pinned (OpenSpec.ofChange boundAlgebraWrong)

/-- 'isobathlaw01.BoundAnswers': WHATEVER THE INPUT: true; the input reads as it did. -/
def boundAnswersSpec : ChangeSpec := { name := "boundAnswers", fn := fun _ => fun
  | [d1, d2, d3, d4] => { results := [.lit (.bool true)], args := [d1, d2, d3, d4] }
  | _ => none }
def boundAnswersRow : OpenClaim := { program := "ytlkafgibgipodaa", sum := "b2257df351015f2a625cda0d817885fa6851512390d4f53ee0beb3b83d3cdd4a", func := "isobath/isobathlaw01.BoundAnswers", spec := "boundAnswers", unfollowed := true, recurses := true, apart := false }
def BoundAnswersSaid : Prop := boundAnswersRow.holds Try.pinned (OpenSpec.ofChange boundAnswersSpec)

/-- ITS FALSE NEIGHBOUR: 'it returns false'. Refute it at one input. -/
def boundAnswersWrong : ChangeSpec := { name := "boundAnswers", fn := fun _ => fun
  | [d1, d2, d3, d4] => { results := [.lit (.bool false)], args := [d1, d2, d3, d4] }
  | _ => none }
def BoundAnswersWrongFalsely : Prop := boundAnswersRow.holds Try.pinned (OpenSpec.ofChange boundAnswersWrong)

/-- 'isobathlaw01.BoundCounts': WHATEVER THE INPUT: true; the input reads as it did. -/
def boundCountsSpec : ChangeSpec := { name := "boundCounts", fn := fun _ => fun
  | [d1, d2] => { results := [.lit (.bool true)], args := [d1, d2] }
  | _ => none }
def boundCountsRow : OpenClaim := { program := "ytlkafgibgipodaa", sum := "b2257df351015f2a625cda0d817885fa6851512390d4f53ee0beb3b83d3cdd4a", func := "isobath/isobathlaw01.BoundCounts", spec := "boundCounts", unfollowed := true, recurses := true, apart := false }
def BoundCountsSaid : Prop := boundCountsRow.holds Try.pinned (OpenSpec.ofChange boundCountsSpec)

/-- ITS FALSE NEIGHBOUR: 'it returns false'. Refute it at one input. -/
def boundCountsWrong : ChangeSpec := { name := "boundCounts", fn := fun _ => fun
  | [d1, d2] => { results := [.lit (.bool false)], args := [d1, d2] }
  | _ => none }
def BoundCountsWrongFalsely : Prop := boundCountsRow.holds Try.pinned (OpenSpec.ofChange boundCountsWrong)

/-- 'isobathlaw01.BoundMembers': WHATEVER THE INPUT: true; the input reads as it did. -/
def boundMembersSpec : ChangeSpec := { name := "boundMembers", fn := fun _ => fun
  | [d1, d2, d3, d4] => { results := [.lit (.bool true)], args := [d1, d2, d3, d4] }
  | _ => none }
def boundMembersRow : OpenClaim := { program := "ytlkafgibgipodaa", sum := "b2257df351015f2a625cda0d817885fa6851512390d4f53ee0beb3b83d3cdd4a", func := "isobath/isobathlaw01.BoundMembers", spec := "boundMembers", unfollowed := true, recurses := true, apart := false }
def BoundMembersSaid : Prop := boundMembersRow.holds Try.pinned (OpenSpec.ofChange boundMembersSpec)

/-- ITS FALSE NEIGHBOUR: 'it returns false'. Refute it at one input. -/
def boundMembersWrong : ChangeSpec := { name := "boundMembers", fn := fun _ => fun
  | [d1, d2, d3, d4] => { results := [.lit (.bool false)], args := [d1, d2, d3, d4] }
  | _ => none }
def BoundMembersWrongFalsely : Prop := boundMembersRow.holds Try.pinned (OpenSpec.ofChange boundMembersWrong)

/-- 'isobathlaw01.BoundSets': WHATEVER THE INPUT: true; the input reads as it did. -/
def boundSetsSpec : ChangeSpec := { name := "boundSets", fn := fun _ => fun
  | [d1, d2, d3, d4] => { results := [.lit (.bool true)], args := [d1, d2, d3, d4] }
  | _ => none }
def boundSetsRow : OpenClaim := { program := "ytlkafgibgipodaa", sum := "b2257df351015f2a625cda0d817885fa6851512390d4f53ee0beb3b83d3cdd4a", func := "isobath/isobathlaw01.BoundSets", spec := "boundSets", unfollowed := true, recurses := true, apart := false }
def BoundSetsSaid : Prop := boundSetsRow.holds Try.pinned (OpenSpec.ofChange boundSetsSpec)

/-- ITS FALSE NEIGHBOUR: 'it returns false'. Refute it at one input. -/
def boundSetsWrong : ChangeSpec := { name := "boundSets", fn := fun _ => fun
  | [d1, d2, d3, d4] => { results := [.lit (.bool false)], args := [d1, d2, d3, d4] }
  | _ => none }
def BoundSetsWrongFalsely : Prop := boundSetsRow.holds Try.pinned (OpenSpec.ofChange boundSetsWrong)

/-- 'isobathlaw01.BoundBoxes': WHATEVER THE INPUT: true; the input reads as it did. -/
def boundBoxesSpec : ChangeSpec := { name := "boundBoxes", fn := fun _ => fun
  | [d1, d2] => { results := [.lit (.bool true)], args := [d1, d2] }
  | _ => none }
def boundBoxesRow : OpenClaim := { program := "ytlkafgibgipodaa", sum := "b2257df351015f2a625cda0d817885fa6851512390d4f53ee0beb3b83d3cdd4a", func := "isobath/isobathlaw01.BoundBoxes", spec := "boundBoxes", inPlace := ["math.sqrt"], unfollowed := true, recurses := true, apart := false }
def BoundBoxesSaid : Prop := boundBoxesRow.holds Try.pinned (OpenSpec.ofChange boundBoxesSpec)

/-- ITS FALSE NEIGHBOUR: 'it returns false'. Refute it at one input. -/
def boundBoxesWrong : ChangeSpec := { name := "boundBoxes", fn := fun _ => fun
  | [d1, d2] => { results := [.lit (.bool false)], args := [d1, d2] }
  | _ => none }
def BoundBoxesWrongFalsely : Prop := boundBoxesRow.holds Try.pinned (OpenSpec.ofChange boundBoxesWrong)

/-- 'isobathlaw01.BoundDistances': WHATEVER THE INPUT: true; the input reads as it did. -/
def boundDistancesSpec : ChangeSpec := { name := "boundDistances", fn := fun _ => fun
  | [d1, d2, d3] => { results := [.lit (.bool true)], args := [d1, d2, d3] }
  | _ => none }
def boundDistancesRow : OpenClaim := { program := "ytlkafgibgipodaa", sum := "b2257df351015f2a625cda0d817885fa6851512390d4f53ee0beb3b83d3cdd4a", func := "isobath/isobathlaw01.BoundDistances", spec := "boundDistances", inPlace := ["math.sqrt"], unfollowed := true, recurses := true, apart := false }
def BoundDistancesSaid : Prop := boundDistancesRow.holds Try.pinned (OpenSpec.ofChange boundDistancesSpec)

/-- ITS FALSE NEIGHBOUR: 'it returns false'. Refute it at one input. -/
def boundDistancesWrong : ChangeSpec := { name := "boundDistances", fn := fun _ => fun
  | [d1, d2, d3] => { results := [.lit (.bool false)], args := [d1, d2, d3] }
  | _ => none }
def BoundDistancesWrongFalsely : Prop := boundDistancesRow.holds Try.pinned (OpenSpec.ofChange boundDistancesWrong)

/-- 'isobathlaw01.BoundTight': WHATEVER THE INPUT: true; the input reads as it did. -/
def boundTightSpec : ChangeSpec := { name := "boundTight", fn := fun _ => fun
  | [d1, d2, d3, d4] => { results := [.lit (.bool true)], args := [d1, d2, d3, d4] }
  | _ => none }
def boundTightRow : OpenClaim := { program := "ytlkafgibgipodaa", sum := "b2257df351015f2a625cda0d817885fa6851512390d4f53ee0beb3b83d3cdd4a", func := "isobath/isobathlaw01.BoundTight", spec := "boundTight", inPlace := ["math.sqrt"], unfollowed := true, recurses := true, apart := false }
def BoundTightSaid : Prop := boundTightRow.holds Try.pinned (OpenSpec.ofChange boundTightSpec)

/-- ITS FALSE NEIGHBOUR: 'it returns false'. Refute it at one input. -/
def boundTightWrong : ChangeSpec := { name := "boundTight", fn := fun _ => fun
  | [d1, d2, d3, d4] => { results := [.lit (.bool false)], args := [d1, d2, d3, d4] }
  | _ => none }
def BoundTightWrongFalsely : Prop := boundTightRow.holds Try.pinned (OpenSpec.ofChange boundTightWrong)

/-- 'isobathlaw01.BoundScales': WHATEVER THE INPUT: true; the input reads as it did. -/
def boundScalesSpec : ChangeSpec := { name := "boundScales", fn := fun _ => fun
  | [d1, d2, d3, d4, d5, d6, d7, d8] => { results := [.lit (.bool true)], args := [d1, d2, d3, d4, d5, d6, d7, d8] }
  | _ => none }
def boundScalesRow : OpenClaim := { program := "ytlkafgibgipodaa", sum := "b2257df351015f2a625cda0d817885fa6851512390d4f53ee0beb3b83d3cdd4a", func := "isobath/isobathlaw01.BoundScales", spec := "boundScales", inPlace := ["math.sqrt"], unfollowed := true, recurses := true, apart := false }
def BoundScalesSaid : Prop := boundScalesRow.holds Try.pinned (OpenSpec.ofChange boundScalesSpec)

/-- ITS FALSE NEIGHBOUR: 'it returns false'. Refute it at one input. -/
def boundScalesWrong : ChangeSpec := { name := "boundScales", fn := fun _ => fun
  | [d1, d2, d3, d4, d5, d6, d7, d8] => { results := [.lit (.bool false)], args := [d1, d2, d3, d4, d5, d6, d7, d8] }
  | _ => none }
def BoundScalesWrongFalsely : Prop := boundScalesRow.holds Try.pinned (OpenSpec.ofChange boundScalesWrong)

/-- 'isobathlaw01.BoundHolds': WHATEVER THE INPUT: true; the input reads as it did. -/
def boundHoldsSpec : ChangeSpec := { name := "boundHolds", fn := fun _ => fun
  | [d1, d2, d3, d4, d5, d6, d7, d8, d9] => { results := [.lit (.bool true)], args := [d1, d2, d3, d4, d5, d6, d7, d8, d9] }
  | _ => none }
def boundHoldsRow : OpenClaim := { program := "ytlkafgibgipodaa", sum := "b2257df351015f2a625cda0d817885fa6851512390d4f53ee0beb3b83d3cdd4a", func := "isobath/isobathlaw01.BoundHolds", spec := "boundHolds", inPlace := ["math.sqrt"], unfollowed := true, recurses := true, apart := false }
def BoundHoldsSaid : Prop := boundHoldsRow.holds Try.pinned (OpenSpec.ofChange boundHoldsSpec)

/-- ITS FALSE NEIGHBOUR: 'it returns false'. Refute it at one input. -/
def boundHoldsWrong : ChangeSpec := { name := "boundHolds", fn := fun _ => fun
  | [d1, d2, d3, d4, d5, d6, d7, d8, d9] => { results := [.lit (.bool false)], args := [d1, d2, d3, d4, d5, d6, d7, d8, d9] }
  | _ => none }
def BoundHoldsWrongFalsely : Prop := boundHoldsRow.holds Try.pinned (OpenSpec.ofChange boundHoldsWrong)

/-- 'isobathlaw01.BoundSpans': WHATEVER THE INPUT: true; the input reads as it did. -/
def boundSpansSpec : ChangeSpec := { name := "boundSpans", fn := fun _ => fun
  | [d1, d2] => { results := [.lit (.bool true)], args := [d1, d2] }
  | _ => none }
def boundSpansRow : OpenClaim := { program := "ytlkafgibgipodaa", sum := "b2257df351015f2a625cda0d817885fa6851512390d4f53ee0beb3b83d3cdd4a", func := "isobath/isobathlaw01.BoundSpans", spec := "boundSpans", inPlace := ["math.sqrt"], unfollowed := true, recurses := true, apart := false }
def BoundSpansSaid : Prop := boundSpansRow.holds Try.pinned (OpenSpec.ofChange boundSpansSpec)

/-- ITS FALSE NEIGHBOUR: 'it returns false'. Refute it at one input. -/
def boundSpansWrong : ChangeSpec := { name := "boundSpans", fn := fun _ => fun
  | [d1, d2] => { results := [.lit (.bool false)], args := [d1, d2] }
  | _ => none }
def BoundSpansWrongFalsely : Prop := boundSpansRow.holds Try.pinned (OpenSpec.ofChange boundSpansWrong)

/-- 'isobathlaw01.BoundIsotone': WHATEVER THE INPUT: true; the input reads as it did. -/
def boundIsotoneSpec : ChangeSpec := { name := "boundIsotone", fn := fun _ => fun
  | [d1, d2, d3, d4, d5, d6, d7, d8] => { results := [.lit (.bool true)], args := [d1, d2, d3, d4, d5, d6, d7, d8] }
  | _ => none }
def boundIsotoneRow : OpenClaim := { program := "ytlkafgibgipodaa", sum := "b2257df351015f2a625cda0d817885fa6851512390d4f53ee0beb3b83d3cdd4a", func := "isobath/isobathlaw01.BoundIsotone", spec := "boundIsotone", inPlace := ["math.sqrt"], unfollowed := true, recurses := true, apart := false }
def BoundIsotoneSaid : Prop := boundIsotoneRow.holds Try.pinned (OpenSpec.ofChange boundIsotoneSpec)

/-- ITS FALSE NEIGHBOUR: 'it returns false'. Refute it at one input. -/
def boundIsotoneWrong : ChangeSpec := { name := "boundIsotone", fn := fun _ => fun
  | [d1, d2, d3, d4, d5, d6, d7, d8] => { results := [.lit (.bool false)], args := [d1, d2, d3, d4, d5, d6, d7, d8] }
  | _ => none }
def BoundIsotoneWrongFalsely : Prop := boundIsotoneRow.holds Try.pinned (OpenSpec.ofChange boundIsotoneWrong)

/-- 'isobathlaw01.BoundKnown': WHATEVER THE INPUT: true; the input reads as it did. -/
def boundKnownSpec : ChangeSpec := { name := "boundKnown", fn := fun _ => fun
  | [] => { results := [.lit (.bool true)], args := [] }
  | _ => none }
def boundKnownRow : OpenClaim := { program := "ytlkafgibgipodaa", sum := "b2257df351015f2a625cda0d817885fa6851512390d4f53ee0beb3b83d3cdd4a", func := "isobath/isobathlaw01.BoundKnown", spec := "boundKnown", inPlace := ["math.sqrt"], unfollowed := true, recurses := true, apart := false }
def BoundKnownSaid : Prop := boundKnownRow.holds Try.pinned (OpenSpec.ofChange boundKnownSpec)

/-- ITS FALSE NEIGHBOUR: 'it returns false'. Refute it at one input. -/
def boundKnownWrong : ChangeSpec := { name := "boundKnown", fn := fun _ => fun
  | [] => { results := [.lit (.bool false)], args := [] }
  | _ => none }
def BoundKnownWrongFalsely : Prop := boundKnownRow.holds Try.pinned (OpenSpec.ofChange boundKnownWrong)

/- THE SECOND FORM. 'bulk': how many values and letters a reading holds, each counted each time it is reached (what is shared counts as often as it is met; a slice's spare places count too). A statement '..UptoSaid' is the law's where the arguments, and the package variables that the reading takes, are together of bulk at most 1048576: NARROWER than '..Said'. Prove '..Said' where nothing that the law and all that it calls make is longer than what came in: it says more and counts as full. Else prove '..UptoSaid'. A law counts once. -/
mutual
def uptoBulk {H : Type} : DataW H → Nat
  | .lit (.string bytes) => bytes.length + 1
  | .lit _ => 1
  | .nil => 1
  | .ptr d => uptoBulk d + 1
  | .slice elems spare => uptoBulkAll elems + uptoBulkAll spare + 1
  | .agg parts => uptoBulkAll parts + 1
  | .iface _ d => uptoBulk d + 1
  | .map entries => uptoBulkEntries entries + 1
  | .held _ => 1
def uptoBulkAll {H : Type} : List (DataW H) → Nat
  | [] => 0
  | d :: r => uptoBulk d + uptoBulkAll r
def uptoBulkEntries {H : Type} : List (Lit × DataW H) → Nat
  | [] => 0
  | x :: r => uptoBulkEntry x + uptoBulkEntries r
def uptoBulkEntry {H : Type} : Lit × DataW H → Nat
  | (.string bytes, d) => bytes.length + uptoBulk d + 1
  | (_, d) => uptoBulk d + 1
 end
def uptoSmall : (H : Type) → List (DataW H) → Bool := fun _ ds => decide (uptoBulkAll ds ≤ 1048576)
def OpenSpec.upto (s : _root_.Go.ChangeSpec) : _root_.Go.OpenSpec := { _root_.Go.OpenSpec.ofChange s with cond := some uptoSmall }

/-- 'isobathlaw01.BoundKleene', WHERE WHAT IT READS IS OF BULK AT MOST 1048576: true; the input reads as it did. -/
def boundKleeneUptoRow : OpenClaim := { program := "ytlkafgibgipodaa", sum := "b2257df351015f2a625cda0d817885fa6851512390d4f53ee0beb3b83d3cdd4a", func := "isobath/isobathlaw01.BoundKleene", spec := "boundKleene", unfollowed := true, recurses := true, apart := false, narrowed := true }
def BoundKleeneUptoSaid : Prop := boundKleeneUptoRow.holds Try.pinned (OpenSpec.upto boundKleeneSpec)

/-- 'isobathlaw01.BoundThree', WHERE WHAT IT READS IS OF BULK AT MOST 1048576: true; the input reads as it did. -/
def boundThreeUptoRow : OpenClaim := { program := "ytlkafgibgipodaa", sum := "b2257df351015f2a625cda0d817885fa6851512390d4f53ee0beb3b83d3cdd4a", func := "isobath/isobathlaw01.BoundThree", spec := "boundThree", unfollowed := true, recurses := true, apart := false, narrowed := true }
def BoundThreeUptoSaid : Prop := boundThreeUptoRow.holds Try.pinned (OpenSpec.upto boundThreeSpec)

/-- 'isobathlaw01.BoundAlgebra', WHERE WHAT IT READS IS OF BULK AT MOST 1048576: true; the input reads as it did. -/
def boundAlgebraUptoRow : OpenClaim := { program := "ytlkafgibgipodaa", sum := "b2257df351015f2a625cda0d817885fa6851512390d4f53ee0beb3b83d3cdd4a", func := "isobath/isobathlaw01.BoundAlgebra", spec := "boundAlgebra", unfollowed := true, recurses := true, apart := false, narrowed := true }
def BoundAlgebraUptoSaid : Prop := boundAlgebraUptoRow.holds Try.pinned (OpenSpec.upto boundAlgebraSpec)

/-- 'isobathlaw01.BoundAnswers', WHERE WHAT IT READS IS OF BULK AT MOST 1048576: true; the input reads as it did. -/
def boundAnswersUptoRow : OpenClaim := { program := "ytlkafgibgipodaa", sum := "b2257df351015f2a625cda0d817885fa6851512390d4f53ee0beb3b83d3cdd4a", func := "isobath/isobathlaw01.BoundAnswers", spec := "boundAnswers", unfollowed := true, recurses := true, apart := false, narrowed := true }
def BoundAnswersUptoSaid : Prop := boundAnswersUptoRow.holds Try.pinned (OpenSpec.upto boundAnswersSpec)

/-- 'isobathlaw01.BoundCounts', WHERE WHAT IT READS IS OF BULK AT MOST 1048576: true; the input reads as it did. -/
def boundCountsUptoRow : OpenClaim := { program := "ytlkafgibgipodaa", sum := "b2257df351015f2a625cda0d817885fa6851512390d4f53ee0beb3b83d3cdd4a", func := "isobath/isobathlaw01.BoundCounts", spec := "boundCounts", unfollowed := true, recurses := true, apart := false, narrowed := true }
def BoundCountsUptoSaid : Prop := boundCountsUptoRow.holds Try.pinned (OpenSpec.upto boundCountsSpec)

/-- 'isobathlaw01.BoundMembers', WHERE WHAT IT READS IS OF BULK AT MOST 1048576: true; the input reads as it did. -/
def boundMembersUptoRow : OpenClaim := { program := "ytlkafgibgipodaa", sum := "b2257df351015f2a625cda0d817885fa6851512390d4f53ee0beb3b83d3cdd4a", func := "isobath/isobathlaw01.BoundMembers", spec := "boundMembers", unfollowed := true, recurses := true, apart := false, narrowed := true }
def BoundMembersUptoSaid : Prop := boundMembersUptoRow.holds Try.pinned (OpenSpec.upto boundMembersSpec)

/-- 'isobathlaw01.BoundSets', WHERE WHAT IT READS IS OF BULK AT MOST 1048576: true; the input reads as it did. -/
def boundSetsUptoRow : OpenClaim := { program := "ytlkafgibgipodaa", sum := "b2257df351015f2a625cda0d817885fa6851512390d4f53ee0beb3b83d3cdd4a", func := "isobath/isobathlaw01.BoundSets", spec := "boundSets", unfollowed := true, recurses := true, apart := false, narrowed := true }
def BoundSetsUptoSaid : Prop := boundSetsUptoRow.holds Try.pinned (OpenSpec.upto boundSetsSpec)

/-- 'isobathlaw01.BoundBoxes', WHERE WHAT IT READS IS OF BULK AT MOST 1048576: true; the input reads as it did. -/
def boundBoxesUptoRow : OpenClaim := { program := "ytlkafgibgipodaa", sum := "b2257df351015f2a625cda0d817885fa6851512390d4f53ee0beb3b83d3cdd4a", func := "isobath/isobathlaw01.BoundBoxes", spec := "boundBoxes", inPlace := ["math.sqrt"], unfollowed := true, recurses := true, apart := false, narrowed := true }
def BoundBoxesUptoSaid : Prop := boundBoxesUptoRow.holds Try.pinned (OpenSpec.upto boundBoxesSpec)

/-- 'isobathlaw01.BoundDistances', WHERE WHAT IT READS IS OF BULK AT MOST 1048576: true; the input reads as it did. -/
def boundDistancesUptoRow : OpenClaim := { program := "ytlkafgibgipodaa", sum := "b2257df351015f2a625cda0d817885fa6851512390d4f53ee0beb3b83d3cdd4a", func := "isobath/isobathlaw01.BoundDistances", spec := "boundDistances", inPlace := ["math.sqrt"], unfollowed := true, recurses := true, apart := false, narrowed := true }
def BoundDistancesUptoSaid : Prop := boundDistancesUptoRow.holds Try.pinned (OpenSpec.upto boundDistancesSpec)

/-- 'isobathlaw01.BoundTight', WHERE WHAT IT READS IS OF BULK AT MOST 1048576: true; the input reads as it did. -/
def boundTightUptoRow : OpenClaim := { program := "ytlkafgibgipodaa", sum := "b2257df351015f2a625cda0d817885fa6851512390d4f53ee0beb3b83d3cdd4a", func := "isobath/isobathlaw01.BoundTight", spec := "boundTight", inPlace := ["math.sqrt"], unfollowed := true, recurses := true, apart := false, narrowed := true }
def BoundTightUptoSaid : Prop := boundTightUptoRow.holds Try.pinned (OpenSpec.upto boundTightSpec)

/-- 'isobathlaw01.BoundScales', WHERE WHAT IT READS IS OF BULK AT MOST 1048576: true; the input reads as it did. -/
def boundScalesUptoRow : OpenClaim := { program := "ytlkafgibgipodaa", sum := "b2257df351015f2a625cda0d817885fa6851512390d4f53ee0beb3b83d3cdd4a", func := "isobath/isobathlaw01.BoundScales", spec := "boundScales", inPlace := ["math.sqrt"], unfollowed := true, recurses := true, apart := false, narrowed := true }
def BoundScalesUptoSaid : Prop := boundScalesUptoRow.holds Try.pinned (OpenSpec.upto boundScalesSpec)

/-- 'isobathlaw01.BoundHolds', WHERE WHAT IT READS IS OF BULK AT MOST 1048576: true; the input reads as it did. -/
def boundHoldsUptoRow : OpenClaim := { program := "ytlkafgibgipodaa", sum := "b2257df351015f2a625cda0d817885fa6851512390d4f53ee0beb3b83d3cdd4a", func := "isobath/isobathlaw01.BoundHolds", spec := "boundHolds", inPlace := ["math.sqrt"], unfollowed := true, recurses := true, apart := false, narrowed := true }
def BoundHoldsUptoSaid : Prop := boundHoldsUptoRow.holds Try.pinned (OpenSpec.upto boundHoldsSpec)

/-- 'isobathlaw01.BoundSpans', WHERE WHAT IT READS IS OF BULK AT MOST 1048576: true; the input reads as it did. -/
def boundSpansUptoRow : OpenClaim := { program := "ytlkafgibgipodaa", sum := "b2257df351015f2a625cda0d817885fa6851512390d4f53ee0beb3b83d3cdd4a", func := "isobath/isobathlaw01.BoundSpans", spec := "boundSpans", inPlace := ["math.sqrt"], unfollowed := true, recurses := true, apart := false, narrowed := true }
def BoundSpansUptoSaid : Prop := boundSpansUptoRow.holds Try.pinned (OpenSpec.upto boundSpansSpec)

/-- 'isobathlaw01.BoundIsotone', WHERE WHAT IT READS IS OF BULK AT MOST 1048576: true; the input reads as it did. -/
def boundIsotoneUptoRow : OpenClaim := { program := "ytlkafgibgipodaa", sum := "b2257df351015f2a625cda0d817885fa6851512390d4f53ee0beb3b83d3cdd4a", func := "isobath/isobathlaw01.BoundIsotone", spec := "boundIsotone", inPlace := ["math.sqrt"], unfollowed := true, recurses := true, apart := false, narrowed := true }
def BoundIsotoneUptoSaid : Prop := boundIsotoneUptoRow.holds Try.pinned (OpenSpec.upto boundIsotoneSpec)

/-- 'isobathlaw01.BoundKnown', WHERE WHAT IT READS IS OF BULK AT MOST 1048576: true; the input reads as it did. -/
def boundKnownUptoRow : OpenClaim := { program := "ytlkafgibgipodaa", sum := "b2257df351015f2a625cda0d817885fa6851512390d4f53ee0beb3b83d3cdd4a", func := "isobath/isobathlaw01.BoundKnown", spec := "boundKnown", inPlace := ["math.sqrt"], unfollowed := true, recurses := true, apart := false, narrowed := true }
def BoundKnownUptoSaid : Prop := boundKnownUptoRow.holds Try.pinned (OpenSpec.upto boundKnownSpec)

end Rows
end Go.Proofs.Ytlkafgibgipodaa
