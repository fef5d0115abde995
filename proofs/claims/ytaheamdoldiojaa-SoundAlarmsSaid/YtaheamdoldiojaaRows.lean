/-
  No cell of these rows narrows 'for every input' (looked for: loops, veiled, ifaces, maps, wideKeys, modest, calm, conditions, laid).
  DERIVED. THE GIVEN ROWS OF THIS SEAT. 10 by the template 'for every input the law returns true; each argument reads behind the call as it read before'; 0 by the template 'total and deterministic' (their statements: YtaheamdoldiojaaTotals.lean).
  GIVEN WITH THE SEED: the statements are not yours to turn. If you find one false, say at which input.
  Laid BY PROGRAM, IN A SANDBOX (cutbox-rows.mjs): the forced cells as the released guide's own fill.sh prints them over the translation 7baececc265a3f2a… (all of the seat's roots in one cut). By AI agents, Wed Nov 11 2026. No macro, syntax, notation, axiom, sorry.
-/
import Derived.Test.YtaheamdoldiojaaChecked
import GoSem.Claim
import GoSem.ClaimJoined
import GoSem.ClaimMapViews
import Derived.JoinedTies
import Derived.KernelRfl
namespace Go.Proofs.Ytaheamdoldiojaa
/- THE CELL 'sum', in the pinned program and in every row, IS THE sha256 OF THE DUMP (.gsa) THAT YtaheamdoldiojaaProg.lean LOADS. Nothing in Lean hashes anything: it is a label: what it is worth is what the hold of that sum in a sandbox is worth. -/
noncomputable def Try.pinned : Pinned := { name := "ytaheamdoldiojaa", sum := "7baececc265a3f2ac6aa011792312d346b0ee8151ca177264673854b35b64bbd", checked := Try.checked }
namespace Rows
def none {H : Type} : Left H := { results := [], args := [] }

/-- 'isobathlaw07.SoundNearer': WHATEVER THE INPUT: true; the input reads as it did. -/
def soundNearerSpec : ChangeSpec := { name := "soundNearer", fn := fun _ => fun
  | [d1, d2, d3, d4, d5, d6, d7] => { results := [.lit (.bool true)], args := [d1, d2, d3, d4, d5, d6, d7] }
  | _ => none }
def soundNearerRow : OpenClaim := { program := "ytaheamdoldiojaa", sum := "7baececc265a3f2ac6aa011792312d346b0ee8151ca177264673854b35b64bbd", func := "isobath/isobathlaw07.SoundNearer", spec := "soundNearer", inPlace := ["math.sqrt"], unfollowed := true, recurses := true, apart := false }
def SoundNearerSaid : Prop := soundNearerRow.holds Try.pinned (OpenSpec.ofChange soundNearerSpec)

/-- ITS FALSE NEIGHBOUR: 'it returns false'. Refute it at one input. -/
def soundNearerWrong : ChangeSpec := { name := "soundNearer", fn := fun _ => fun
  | [d1, d2, d3, d4, d5, d6, d7] => { results := [.lit (.bool false)], args := [d1, d2, d3, d4, d5, d6, d7] }
  | _ => none }
def SoundNearerWrongFalsely : Prop := soundNearerRow.holds Try.pinned (OpenSpec.ofChange soundNearerWrong)

/-- 'isobathlaw07.SoundSure': WHATEVER THE INPUT: true; the input reads as it did. -/
def soundSureSpec : ChangeSpec := { name := "soundSure", fn := fun _ => fun
  | [d1, d2, d3] => { results := [.lit (.bool true)], args := [d1, d2, d3] }
  | _ => none }
def soundSureRow : OpenClaim := { program := "ytaheamdoldiojaa", sum := "7baececc265a3f2ac6aa011792312d346b0ee8151ca177264673854b35b64bbd", func := "isobath/isobathlaw07.SoundSure", spec := "soundSure", inPlace := ["math.sqrt"], unfollowed := true, recurses := true, apart := false }
def SoundSureSaid : Prop := soundSureRow.holds Try.pinned (OpenSpec.ofChange soundSureSpec)

/-- ITS FALSE NEIGHBOUR: 'it returns false'. Refute it at one input. -/
def soundSureWrong : ChangeSpec := { name := "soundSure", fn := fun _ => fun
  | [d1, d2, d3] => { results := [.lit (.bool false)], args := [d1, d2, d3] }
  | _ => none }
def SoundSureWrongFalsely : Prop := soundSureRow.holds Try.pinned (OpenSpec.ofChange soundSureWrong)

/-- 'isobathlaw07.SoundFinds': WHATEVER THE INPUT: true; the input reads as it did. -/
def soundFindsSpec : ChangeSpec := { name := "soundFinds", fn := fun _ => fun
  | [d1, d2, d3, d4, d5, d6, d7] => { results := [.lit (.bool true)], args := [d1, d2, d3, d4, d5, d6, d7] }
  | _ => none }
def soundFindsRow : OpenClaim := { program := "ytaheamdoldiojaa", sum := "7baececc265a3f2ac6aa011792312d346b0ee8151ca177264673854b35b64bbd", func := "isobath/isobathlaw07.SoundFinds", spec := "soundFinds", inPlace := ["math.sqrt"], unfollowed := true, recurses := true, apart := false }
def SoundFindsSaid : Prop := soundFindsRow.holds Try.pinned (OpenSpec.ofChange soundFindsSpec)

/-- ITS FALSE NEIGHBOUR: 'it returns false'. Refute it at one input. -/
def soundFindsWrong : ChangeSpec := { name := "soundFinds", fn := fun _ => fun
  | [d1, d2, d3, d4, d5, d6, d7] => { results := [.lit (.bool false)], args := [d1, d2, d3, d4, d5, d6, d7] }
  | _ => none }
def SoundFindsWrongFalsely : Prop := soundFindsRow.holds Try.pinned (OpenSpec.ofChange soundFindsWrong)

/-- 'isobathlaw07.SoundLouder': WHATEVER THE INPUT: true; the input reads as it did. -/
def soundLouderSpec : ChangeSpec := { name := "soundLouder", fn := fun _ => fun
  | [d1, d2, d3, d4, d5] => { results := [.lit (.bool true)], args := [d1, d2, d3, d4, d5] }
  | _ => none }
def soundLouderRow : OpenClaim := { program := "ytaheamdoldiojaa", sum := "7baececc265a3f2ac6aa011792312d346b0ee8151ca177264673854b35b64bbd", func := "isobath/isobathlaw07.SoundLouder", spec := "soundLouder", inPlace := ["math.sqrt"], unfollowed := true, recurses := true, apart := false }
def SoundLouderSaid : Prop := soundLouderRow.holds Try.pinned (OpenSpec.ofChange soundLouderSpec)

/-- ITS FALSE NEIGHBOUR: 'it returns false'. Refute it at one input. -/
def soundLouderWrong : ChangeSpec := { name := "soundLouder", fn := fun _ => fun
  | [d1, d2, d3, d4, d5] => { results := [.lit (.bool false)], args := [d1, d2, d3, d4, d5] }
  | _ => none }
def SoundLouderWrongFalsely : Prop := soundLouderRow.holds Try.pinned (OpenSpec.ofChange soundLouderWrong)

/-- 'isobathlaw07.SoundBetween': WHATEVER THE INPUT: true; the input reads as it did. -/
def soundBetweenSpec : ChangeSpec := { name := "soundBetween", fn := fun _ => fun
  | [d1, d2, d3] => { results := [.lit (.bool true)], args := [d1, d2, d3] }
  | _ => none }
def soundBetweenRow : OpenClaim := { program := "ytaheamdoldiojaa", sum := "7baececc265a3f2ac6aa011792312d346b0ee8151ca177264673854b35b64bbd", func := "isobath/isobathlaw07.SoundBetween", spec := "soundBetween", inPlace := ["math.sqrt"], unfollowed := true, recurses := true, apart := false }
def SoundBetweenSaid : Prop := soundBetweenRow.holds Try.pinned (OpenSpec.ofChange soundBetweenSpec)

/-- ITS FALSE NEIGHBOUR: 'it returns false'. Refute it at one input. -/
def soundBetweenWrong : ChangeSpec := { name := "soundBetween", fn := fun _ => fun
  | [d1, d2, d3] => { results := [.lit (.bool false)], args := [d1, d2, d3] }
  | _ => none }
def SoundBetweenWrongFalsely : Prop := soundBetweenRow.holds Try.pinned (OpenSpec.ofChange soundBetweenWrong)

/-- 'isobathlaw07.SoundAlarms': WHATEVER THE INPUT: true; the input reads as it did. -/
def soundAlarmsSpec : ChangeSpec := { name := "soundAlarms", fn := fun _ => fun
  | [d1, d2, d3, d4, d5, d6, d7, d8] => { results := [.lit (.bool true)], args := [d1, d2, d3, d4, d5, d6, d7, d8] }
  | _ => none }
def soundAlarmsRow : OpenClaim := { program := "ytaheamdoldiojaa", sum := "7baececc265a3f2ac6aa011792312d346b0ee8151ca177264673854b35b64bbd", func := "isobath/isobathlaw07.SoundAlarms", spec := "soundAlarms", inPlace := ["math.sqrt"], unfollowed := true, recurses := true, apart := false }
def SoundAlarmsSaid : Prop := soundAlarmsRow.holds Try.pinned (OpenSpec.ofChange soundAlarmsSpec)

/-- ITS FALSE NEIGHBOUR: 'it returns false'. Refute it at one input. -/
def soundAlarmsWrong : ChangeSpec := { name := "soundAlarms", fn := fun _ => fun
  | [d1, d2, d3, d4, d5, d6, d7, d8] => { results := [.lit (.bool false)], args := [d1, d2, d3, d4, d5, d6, d7, d8] }
  | _ => none }
def SoundAlarmsWrongFalsely : Prop := soundAlarmsRow.holds Try.pinned (OpenSpec.ofChange soundAlarmsWrong)

/-- 'isobathlaw07.SoundExcludes': WHATEVER THE INPUT: true; the input reads as it did. -/
def soundExcludesSpec : ChangeSpec := { name := "soundExcludes", fn := fun _ => fun
  | [d1, d2, d3, d4] => { results := [.lit (.bool true)], args := [d1, d2, d3, d4] }
  | _ => none }
def soundExcludesRow : OpenClaim := { program := "ytaheamdoldiojaa", sum := "7baececc265a3f2ac6aa011792312d346b0ee8151ca177264673854b35b64bbd", func := "isobath/isobathlaw07.SoundExcludes", spec := "soundExcludes", inPlace := ["math.sqrt"], unfollowed := true, recurses := true, apart := false }
def SoundExcludesSaid : Prop := soundExcludesRow.holds Try.pinned (OpenSpec.ofChange soundExcludesSpec)

/-- ITS FALSE NEIGHBOUR: 'it returns false'. Refute it at one input. -/
def soundExcludesWrong : ChangeSpec := { name := "soundExcludes", fn := fun _ => fun
  | [d1, d2, d3, d4] => { results := [.lit (.bool false)], args := [d1, d2, d3, d4] }
  | _ => none }
def SoundExcludesWrongFalsely : Prop := soundExcludesRow.holds Try.pinned (OpenSpec.ofChange soundExcludesWrong)

/-- 'isobathlaw07.SoundCounts': WHATEVER THE INPUT: true; the input reads as it did. -/
def soundCountsSpec : ChangeSpec := { name := "soundCounts", fn := fun _ => fun
  | [d1, d2, d3, d4, d5] => { results := [.lit (.bool true)], args := [d1, d2, d3, d4, d5] }
  | _ => none }
def soundCountsRow : OpenClaim := { program := "ytaheamdoldiojaa", sum := "7baececc265a3f2ac6aa011792312d346b0ee8151ca177264673854b35b64bbd", func := "isobath/isobathlaw07.SoundCounts", spec := "soundCounts", inPlace := ["math.sqrt"], unfollowed := true, recurses := true, apart := false }
def SoundCountsSaid : Prop := soundCountsRow.holds Try.pinned (OpenSpec.ofChange soundCountsSpec)

/-- ITS FALSE NEIGHBOUR: 'it returns false'. Refute it at one input. -/
def soundCountsWrong : ChangeSpec := { name := "soundCounts", fn := fun _ => fun
  | [d1, d2, d3, d4, d5] => { results := [.lit (.bool false)], args := [d1, d2, d3, d4, d5] }
  | _ => none }
def SoundCountsWrongFalsely : Prop := soundCountsRow.holds Try.pinned (OpenSpec.ofChange soundCountsWrong)

/-- 'isobathlaw07.SoundNets': WHATEVER THE INPUT: true; the input reads as it did. -/
def soundNetsSpec : ChangeSpec := { name := "soundNets", fn := fun _ => fun
  | [d1, d2, d3, d4, d5, d6, d7, d8] => { results := [.lit (.bool true)], args := [d1, d2, d3, d4, d5, d6, d7, d8] }
  | _ => none }
def soundNetsRow : OpenClaim := { program := "ytaheamdoldiojaa", sum := "7baececc265a3f2ac6aa011792312d346b0ee8151ca177264673854b35b64bbd", func := "isobath/isobathlaw07.SoundNets", spec := "soundNets", inPlace := ["math.sqrt"], unfollowed := true, recurses := true, apart := false }
def SoundNetsSaid : Prop := soundNetsRow.holds Try.pinned (OpenSpec.ofChange soundNetsSpec)

/-- ITS FALSE NEIGHBOUR: 'it returns false'. Refute it at one input. -/
def soundNetsWrong : ChangeSpec := { name := "soundNets", fn := fun _ => fun
  | [d1, d2, d3, d4, d5, d6, d7, d8] => { results := [.lit (.bool false)], args := [d1, d2, d3, d4, d5, d6, d7, d8] }
  | _ => none }
def SoundNetsWrongFalsely : Prop := soundNetsRow.holds Try.pinned (OpenSpec.ofChange soundNetsWrong)

/-- 'isobathlaw07.SoundKnown': WHATEVER THE INPUT: true; the input reads as it did. -/
def soundKnownSpec : ChangeSpec := { name := "soundKnown", fn := fun _ => fun
  | [] => { results := [.lit (.bool true)], args := [] }
  | _ => none }
def soundKnownRow : OpenClaim := { program := "ytaheamdoldiojaa", sum := "7baececc265a3f2ac6aa011792312d346b0ee8151ca177264673854b35b64bbd", func := "isobath/isobathlaw07.SoundKnown", spec := "soundKnown", inPlace := ["math.sqrt"], unfollowed := true, recurses := true, apart := false }
def SoundKnownSaid : Prop := soundKnownRow.holds Try.pinned (OpenSpec.ofChange soundKnownSpec)

/-- ITS FALSE NEIGHBOUR: 'it returns false'. Refute it at one input. -/
def soundKnownWrong : ChangeSpec := { name := "soundKnown", fn := fun _ => fun
  | [] => { results := [.lit (.bool false)], args := [] }
  | _ => none }
def SoundKnownWrongFalsely : Prop := soundKnownRow.holds Try.pinned (OpenSpec.ofChange soundKnownWrong)

/- THE SECOND FORM. 'bulk': how many values and letters a reading holds, each counted each time it is reached (what is shared counts as often as it is met; a slice's spare places count too). A statement '..UptoSaid' is the law's where the arguments, and the package variables that the reading takes, are together of bulk at most 1048576: NARROWER than '..Said'. Prove '..Said' where nothing that the law and all that it calls make is longer than what came in: it says more and counts as full. Else prove '..UptoSaid'. A law counts once. -/
mutual
def uptoBulk {H : Type} : DataW H → Nat
  | .lit (.string bytes) => bytes.length + 1
  | .lit _ => 1
  | .nil => 1
  | .ptr d => uptoBulk d + 1
  | .slice elems spare => uptoBulkAll elems + uptoBulkAll spare + 1
  | .agg parts => uptoBulkAll parts + 1
  | .iface _ d => uptoBulk d + 1
  | .map entries => uptoBulkEntries entries + 1
  | .held _ => 1
def uptoBulkAll {H : Type} : List (DataW H) → Nat
  | [] => 0
  | d :: r => uptoBulk d + uptoBulkAll r
def uptoBulkEntries {H : Type} : List (Lit × DataW H) → Nat
  | [] => 0
  | x :: r => uptoBulkEntry x + uptoBulkEntries r
def uptoBulkEntry {H : Type} : Lit × DataW H → Nat
  | (.string bytes, d) => bytes.length + uptoBulk d + 1
  | (_, d) => uptoBulk d + 1
 end
def uptoSmall : (H : Type) → List (DataW H) → Bool := fun _ ds => decide (uptoBulkAll ds ≤ 1048576)
def OpenSpec.upto (s : _root_.Go.ChangeSpec) : _root_.Go.OpenSpec := { _root_.Go.OpenSpec.ofChange s with cond := some uptoSmall }

/-- 'isobathlaw07.SoundNearer', WHERE WHAT IT READS IS OF BULK AT MOST 1048576: true; the input reads as it did. -/
def soundNearerUptoRow : OpenClaim := { program := "ytaheamdoldiojaa", sum := "7baececc265a3f2ac6aa011792312d346b0ee8151ca177264673854b35b64bbd", func := "isobath/isobathlaw07.SoundNearer", spec := "soundNearer", inPlace := ["math.sqrt"], unfollowed := true, recurses := true, apart := false, narrowed := true }
def SoundNearerUptoSaid : Prop := soundNearerUptoRow.holds Try.pinned (OpenSpec.upto soundNearerSpec)

/-- 'isobathlaw07.SoundSure', WHERE WHAT IT READS IS OF BULK AT MOST 1048576: true; the input reads as it did. -/
def soundSureUptoRow : OpenClaim := { program := "ytaheamdoldiojaa", sum := "7baececc265a3f2ac6aa011792312d346b0ee8151ca177264673854b35b64bbd", func := "isobath/isobathlaw07.SoundSure", spec := "soundSure", inPlace := ["math.sqrt"], unfollowed := true, recurses := true, apart := false, narrowed := true }
def SoundSureUptoSaid : Prop := soundSureUptoRow.holds Try.pinned (OpenSpec.upto soundSureSpec)

/-- 'isobathlaw07.SoundFinds', WHERE WHAT IT READS IS OF BULK AT MOST 1048576: true; the input reads as it did. -/
def soundFindsUptoRow : OpenClaim := { program := "ytaheamdoldiojaa", sum := "7baececc265a3f2ac6aa011792312d346b0ee8151ca177264673854b35b64bbd", func := "isobath/isobathlaw07.SoundFinds", spec := "soundFinds", inPlace := ["math.sqrt"], unfollowed := true, recurses := true, apart := false, narrowed := true }
def SoundFindsUptoSaid : Prop := soundFindsUptoRow.holds Try.pinned (OpenSpec.upto soundFindsSpec)

/-- 'isobathlaw07.SoundLouder', WHERE WHAT IT READS IS OF BULK AT MOST 1048576: true; the input reads as it did. -/
def soundLouderUptoRow : OpenClaim := { program := "ytaheamdoldiojaa", sum := "7baececc265a3f2ac6aa011792312d346b0ee8151ca177264673854b35b64bbd", func := "isobath/isobathlaw07.SoundLouder", spec := "soundLouder", inPlace := ["math.sqrt"], unfollowed := true, recurses := true, apart := false, narrowed := true }
def SoundLouderUptoSaid : Prop := soundLouderUptoRow.holds Try.pinned (OpenSpec.upto soundLouderSpec)

/-- 'isobathlaw07.SoundBetween', WHERE WHAT IT READS IS OF BULK AT MOST 1048576: true; the input reads as it did. -/
def soundBetweenUptoRow : OpenClaim := { program := "ytaheamdoldiojaa", sum := "7baececc265a3f2ac6aa011792312d346b0ee8151ca177264673854b35b64bbd", func := "isobath/isobathlaw07.SoundBetween", spec := "soundBetween", inPlace := ["math.sqrt"], unfollowed := true, recurses := true, apart := false, narrowed := true }
def SoundBetweenUptoSaid : Prop := soundBetweenUptoRow.holds Try.pinned (OpenSpec.upto soundBetweenSpec)

/-- 'isobathlaw07.SoundAlarms', WHERE WHAT IT READS IS OF BULK AT MOST 1048576: true; the input reads as it did. -/
def soundAlarmsUptoRow : OpenClaim := { program := "ytaheamdoldiojaa", sum := "7baececc265a3f2ac6aa011792312d346b0ee8151ca177264673854b35b64bbd", func := "isobath/isobathlaw07.SoundAlarms", spec := "soundAlarms", inPlace := ["math.sqrt"], unfollowed := true, recurses := true, apart := false, narrowed := true }
def SoundAlarmsUptoSaid : Prop := soundAlarmsUptoRow.holds Try.pinned (OpenSpec.upto soundAlarmsSpec)

/-- 'isobathlaw07.SoundExcludes', WHERE WHAT IT READS IS OF BULK AT MOST 1048576: true; the input reads as it did. -/
def soundExcludesUptoRow : OpenClaim := { program := "ytaheamdoldiojaa", sum := "7baececc265a3f2ac6aa011792312d346b0ee8151ca177264673854b35b64bbd", func := "isobath/isobathlaw07.SoundExcludes", spec := "soundExcludes", inPlace := ["math.sqrt"], unfollowed := true, recurses := true, apart := false, narrowed := true }
def SoundExcludesUptoSaid : Prop := soundExcludesUptoRow.holds Try.pinned (OpenSpec.upto soundExcludesSpec)

/-- 'isobathlaw07.SoundCounts', WHERE WHAT IT READS IS OF BULK AT MOST 1048576: true; the input reads as it did. -/
def soundCountsUptoRow : OpenClaim := { program := "ytaheamdoldiojaa", sum := "7baececc265a3f2ac6aa011792312d346b0ee8151ca177264673854b35b64bbd", func := "isobath/isobathlaw07.SoundCounts", spec := "soundCounts", inPlace := ["math.sqrt"], unfollowed := true, recurses := true, apart := false, narrowed := true }
def SoundCountsUptoSaid : Prop := soundCountsUptoRow.holds Try.pinned (OpenSpec.upto soundCountsSpec)

/-- 'isobathlaw07.SoundNets', WHERE WHAT IT READS IS OF BULK AT MOST 1048576: true; the input reads as it did. -/
def soundNetsUptoRow : OpenClaim := { program := "ytaheamdoldiojaa", sum := "7baececc265a3f2ac6aa011792312d346b0ee8151ca177264673854b35b64bbd", func := "isobath/isobathlaw07.SoundNets", spec := "soundNets", inPlace := ["math.sqrt"], unfollowed := true, recurses := true, apart := false, narrowed := true }
def SoundNetsUptoSaid : Prop := soundNetsUptoRow.holds Try.pinned (OpenSpec.upto soundNetsSpec)

/-- 'isobathlaw07.SoundKnown', WHERE WHAT IT READS IS OF BULK AT MOST 1048576: true; the input reads as it did. -/
def soundKnownUptoRow : OpenClaim := { program := "ytaheamdoldiojaa", sum := "7baececc265a3f2ac6aa011792312d346b0ee8151ca177264673854b35b64bbd", func := "isobath/isobathlaw07.SoundKnown", spec := "soundKnown", inPlace := ["math.sqrt"], unfollowed := true, recurses := true, apart := false, narrowed := true }
def SoundKnownUptoSaid : Prop := soundKnownUptoRow.holds Try.pinned (OpenSpec.upto soundKnownSpec)

end Rows
end Go.Proofs.Ytaheamdoldiojaa
