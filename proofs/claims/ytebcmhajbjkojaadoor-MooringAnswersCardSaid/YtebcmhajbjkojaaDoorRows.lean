/-
  NARROWER THAN 'FOR EVERY INPUT', by the rows' own cells (each row's printed sentence says how): MooringAnswers: laid · MooringNarrower: laid · MooringSums: laid.
  DERIVED. THE GIVEN ROWS OF THIS SEAT. 3 by the template 'for every input the law returns true; each argument reads behind the call as it read before'; 0 by the template 'total and deterministic' (their statements: YtebcmhajbjkojaaDoorTotals.lean).
  GIVEN WITH THE SEED: the statements are not yours to turn. If you find one false, say at which input.
  Laid BY PROGRAM, IN A SANDBOX (cutbox-rows.mjs): the forced cells as the released guide's own fill.sh prints them over the translation 1070eb4c63144819… (all of the seat's roots in one cut). By AI agents, Wed Nov 11 2026. No macro, syntax, notation, axiom, sorry.
-/
import Derived.Test.YtebcmhajbjkojaaDoorChecked
import GoSem.Claim
import GoSem.ClaimJoined
import GoSem.ClaimMapViews
import Derived.JoinedTies
import Derived.KernelRfl
namespace Go.Proofs.YtebcmhajbjkojaaDoor
/- THE CELL 'sum', in the pinned program and in every row, IS THE sha256 OF THE DUMP (.gsa) THAT YtebcmhajbjkojaaDoorProg.lean LOADS. Nothing in Lean hashes anything: it is a label: what it is worth is what the hold of that sum in a sandbox is worth. -/
noncomputable def Tryd.pinned : Pinned := { name := "ytebcmhajbjkojaadoor", sum := "1070eb4c631448195dcd00e936fa00b9164c773f4f4298f397d172422007ac5a", checked := Tryd.checked }
namespace Rows
def none {H : Type} : Left H := { results := [], args := [] }

/- WHAT THE LISTED PACKAGE-LEVEL VARIABLES READ AS WHEN THE CALL BEGINS. Each datum BY PROGRAM (the guide's laid-datum.mjs) off the statement by which the dump's own 'gosem.cut.vars' lays the variable. In a bare row this is a premise. The card (YtebcmhajbjkojaaDoorCards.lean) ties it to the program's text. -/
def laid_isobath_mooring_verdicts {H : Type} : DataW H := .agg [.lit (.int .i64 2), .lit (.int .i64 1), .lit (.int .i64 0)]

/-- 'isobathlaw02.MooringAnswers': WHATEVER THE INPUT: true; the input reads as it did. -/
def mooringAnswersSpec : ChangeSpec := { name := "mooringAnswers", fn := fun _ => fun
  | [d1, d2, d3, d4] => { results := [.lit (.bool true)], args := [d1, d2, d3, d4] }
  | _ => none }
def mooringAnswersRow : OpenClaim := { program := "ytebcmhajbjkojaadoor", sum := "1070eb4c631448195dcd00e936fa00b9164c773f4f4298f397d172422007ac5a", func := "isobath/isobathlaw02.MooringAnswers", spec := "mooringAnswers", unfollowed := true, recurses := true, named := ["isobath/mooring.verdicts"], apart := false, laid := [("isobath/mooring.verdicts", laid_isobath_mooring_verdicts)] }
def MooringAnswersSaid : Prop := mooringAnswersRow.holds Tryd.pinned (OpenSpec.ofChange mooringAnswersSpec)

/-- ITS FALSE NEIGHBOUR: 'it returns false'. Refute it at one input. -/
def mooringAnswersWrong : ChangeSpec := { name := "mooringAnswers", fn := fun _ => fun
  | [d1, d2, d3, d4] => { results := [.lit (.bool false)], args := [d1, d2, d3, d4] }
  | _ => none }
def MooringAnswersWrongFalsely : Prop := mooringAnswersRow.holds Tryd.pinned (OpenSpec.ofChange mooringAnswersWrong)

/-- 'isobathlaw02.MooringNarrower': WHATEVER THE INPUT: true; the input reads as it did. -/
def mooringNarrowerSpec : ChangeSpec := { name := "mooringNarrower", fn := fun _ => fun
  | [d1, d2, d3, d4] => { results := [.lit (.bool true)], args := [d1, d2, d3, d4] }
  | _ => none }
def mooringNarrowerRow : OpenClaim := { program := "ytebcmhajbjkojaadoor", sum := "1070eb4c631448195dcd00e936fa00b9164c773f4f4298f397d172422007ac5a", func := "isobath/isobathlaw02.MooringNarrower", spec := "mooringNarrower", unfollowed := true, recurses := true, named := ["isobath/mooring.verdicts"], apart := false, laid := [("isobath/mooring.verdicts", laid_isobath_mooring_verdicts)] }
def MooringNarrowerSaid : Prop := mooringNarrowerRow.holds Tryd.pinned (OpenSpec.ofChange mooringNarrowerSpec)

/-- ITS FALSE NEIGHBOUR: 'it returns false'. Refute it at one input. -/
def mooringNarrowerWrong : ChangeSpec := { name := "mooringNarrower", fn := fun _ => fun
  | [d1, d2, d3, d4] => { results := [.lit (.bool false)], args := [d1, d2, d3, d4] }
  | _ => none }
def MooringNarrowerWrongFalsely : Prop := mooringNarrowerRow.holds Tryd.pinned (OpenSpec.ofChange mooringNarrowerWrong)

/-- 'isobathlaw02.MooringSums': WHATEVER THE INPUT: true; the input reads as it did. -/
def mooringSumsSpec : ChangeSpec := { name := "mooringSums", fn := fun _ => fun
  | [d1, d2] => { results := [.lit (.bool true)], args := [d1, d2] }
  | _ => none }
def mooringSumsRow : OpenClaim := { program := "ytebcmhajbjkojaadoor", sum := "1070eb4c631448195dcd00e936fa00b9164c773f4f4298f397d172422007ac5a", func := "isobath/isobathlaw02.MooringSums", spec := "mooringSums", unfollowed := true, recurses := true, named := ["isobath/mooring.verdicts"], apart := false, laid := [("isobath/mooring.verdicts", laid_isobath_mooring_verdicts)] }
def MooringSumsSaid : Prop := mooringSumsRow.holds Tryd.pinned (OpenSpec.ofChange mooringSumsSpec)

/-- ITS FALSE NEIGHBOUR: 'it returns false'. Refute it at one input. -/
def mooringSumsWrong : ChangeSpec := { name := "mooringSums", fn := fun _ => fun
  | [d1, d2] => { results := [.lit (.bool false)], args := [d1, d2] }
  | _ => none }
def MooringSumsWrongFalsely : Prop := mooringSumsRow.holds Tryd.pinned (OpenSpec.ofChange mooringSumsWrong)

/- THE SECOND FORM. 'bulk': how many values and letters a reading holds, each counted each time it is reached (what is shared counts as often as it is met; a slice's spare places count too). A statement '..UptoSaid' is the law's where the arguments, and the package variables that the reading takes, are together of bulk at most 1048576: NARROWER than '..Said'. Prove '..Said' where nothing that the law and all that it calls make is longer than what came in: it says more and counts as full. Else prove '..UptoSaid'. A law counts once. -/
mutual
def uptoBulk {H : Type} : DataW H → Nat
  | .lit (.string bytes) => bytes.length + 1
  | .lit _ => 1
  | .nil => 1
  | .ptr d => uptoBulk d + 1
  | .slice elems spare => uptoBulkAll elems + uptoBulkAll spare + 1
  | .agg parts => uptoBulkAll parts + 1
  | .iface _ d => uptoBulk d + 1
  | .map entries => uptoBulkEntries entries + 1
  | .held _ => 1
def uptoBulkAll {H : Type} : List (DataW H) → Nat
  | [] => 0
  | d :: r => uptoBulk d + uptoBulkAll r
def uptoBulkEntries {H : Type} : List (Lit × DataW H) → Nat
  | [] => 0
  | x :: r => uptoBulkEntry x + uptoBulkEntries r
def uptoBulkEntry {H : Type} : Lit × DataW H → Nat
  | (.string bytes, d) => bytes.length + uptoBulk d + 1
  | (_, d) => uptoBulk d + 1
 end
def uptoSmall : (H : Type) → List (DataW H) → Bool := fun _ ds => decide (uptoBulkAll ds ≤ 1048576)
def OpenSpec.upto (s : _root_.Go.ChangeSpec) : _root_.Go.OpenSpec := { _root_.Go.OpenSpec.ofChange s with cond := some uptoSmall }

/-- 'isobathlaw02.MooringAnswers', WHERE WHAT IT READS IS OF BULK AT MOST 1048576: true; the input reads as it did. -/
def mooringAnswersUptoRow : OpenClaim := { program := "ytebcmhajbjkojaadoor", sum := "1070eb4c631448195dcd00e936fa00b9164c773f4f4298f397d172422007ac5a", func := "isobath/isobathlaw02.MooringAnswers", spec := "mooringAnswers", unfollowed := true, recurses := true, named := ["isobath/mooring.verdicts"], apart := false, laid := [("isobath/mooring.verdicts", laid_isobath_mooring_verdicts)], narrowed := true }
def MooringAnswersUptoSaid : Prop := mooringAnswersUptoRow.holds Tryd.pinned (OpenSpec.upto mooringAnswersSpec)

/-- 'isobathlaw02.MooringNarrower', WHERE WHAT IT READS IS OF BULK AT MOST 1048576: true; the input reads as it did. -/
def mooringNarrowerUptoRow : OpenClaim := { program := "ytebcmhajbjkojaadoor", sum := "1070eb4c631448195dcd00e936fa00b9164c773f4f4298f397d172422007ac5a", func := "isobath/isobathlaw02.MooringNarrower", spec := "mooringNarrower", unfollowed := true, recurses := true, named := ["isobath/mooring.verdicts"], apart := false, laid := [("isobath/mooring.verdicts", laid_isobath_mooring_verdicts)], narrowed := true }
def MooringNarrowerUptoSaid : Prop := mooringNarrowerUptoRow.holds Tryd.pinned (OpenSpec.upto mooringNarrowerSpec)

/-- 'isobathlaw02.MooringSums', WHERE WHAT IT READS IS OF BULK AT MOST 1048576: true; the input reads as it did. -/
def mooringSumsUptoRow : OpenClaim := { program := "ytebcmhajbjkojaadoor", sum := "1070eb4c631448195dcd00e936fa00b9164c773f4f4298f397d172422007ac5a", func := "isobath/isobathlaw02.MooringSums", spec := "mooringSums", unfollowed := true, recurses := true, named := ["isobath/mooring.verdicts"], apart := false, laid := [("isobath/mooring.verdicts", laid_isobath_mooring_verdicts)], narrowed := true }
def MooringSumsUptoSaid : Prop := mooringSumsUptoRow.holds Tryd.pinned (OpenSpec.upto mooringSumsSpec)

end Rows
end Go.Proofs.YtebcmhajbjkojaaDoor
