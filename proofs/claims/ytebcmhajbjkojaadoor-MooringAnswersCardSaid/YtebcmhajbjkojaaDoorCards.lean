/-
  DERIVED. GIVEN WITH THE SEED: THE CARDS: each row of YtebcmhajbjkojaaDoorRows.lean that lists a variable, with what it lists TIED to the program's text (the seventh form; the later family's looks); each row that meets fmt, with fmt's text TOLD by the authors' own Lean function (tested against real Go, not proved from fmt's source: count such statements apart). THE CARD IS WHAT COUNTS. Prove the row's statement (the work); the ties are given (YtebcmhajbjkojaaDoorTie.lean); close each card by the builder's one call (the guide's Derived/Test/ToyasCard.lean, 'card_holds'). Laid BY PROGRAM, IN A SANDBOX (cutbox-door.mjs). By AI agents, Wed Nov 11 2026. No macro, syntax, notation, axiom, sorry.
-/
import Derived.Test.YtebcmhajbjkojaaDoorRows
import GoSem.ClaimSeven
namespace Go.Proofs.YtebcmhajbjkojaaDoor
namespace Rows

/-- THE TIED CARD OF 'isobathlaw02.MooringAnswers'. -/
def mooringAnswersCard : Claim7 := { stood := { row := mooringAnswersRow, standIns := [], harness := (true, "9468df2750a3a616b56c35d77bce0544da94644cfdcb4f77104c5077cc2ea701"), looks := false }, kinds := [], alts := [], laidByText := true, laidKinds := [.data], laidTests := true, laidLooks := .later }
def MooringAnswersCardSaid : Prop := Claim7.holds Tryd.pinned (.plain (OpenSpec.ofChange mooringAnswersSpec)) mooringAnswersCard

/-- THE TIED CARD OF 'isobathlaw02.MooringNarrower'. -/
def mooringNarrowerCard : Claim7 := { stood := { row := mooringNarrowerRow, standIns := [], harness := (true, "9468df2750a3a616b56c35d77bce0544da94644cfdcb4f77104c5077cc2ea701"), looks := false }, kinds := [], alts := [], laidByText := true, laidKinds := [.data], laidTests := true, laidLooks := .later }
def MooringNarrowerCardSaid : Prop := Claim7.holds Tryd.pinned (.plain (OpenSpec.ofChange mooringNarrowerSpec)) mooringNarrowerCard

/-- THE TIED CARD OF 'isobathlaw02.MooringSums'. -/
def mooringSumsCard : Claim7 := { stood := { row := mooringSumsRow, standIns := [], harness := (true, "9468df2750a3a616b56c35d77bce0544da94644cfdcb4f77104c5077cc2ea701"), looks := false }, kinds := [], alts := [], laidByText := true, laidKinds := [.data], laidTests := true, laidLooks := .later }
def MooringSumsCardSaid : Prop := Claim7.holds Tryd.pinned (.plain (OpenSpec.ofChange mooringSumsSpec)) mooringSumsCard

/-- THE SECOND FORM's CARD OF 'isobathlaw02.MooringAnswers'. -/
def mooringAnswersUptoCard : Claim7 := { stood := { row := mooringAnswersUptoRow, standIns := [], harness := (true, "9468df2750a3a616b56c35d77bce0544da94644cfdcb4f77104c5077cc2ea701"), looks := false }, kinds := [], alts := [], laidByText := true, laidKinds := [.data], laidTests := true, laidLooks := .later }
def MooringAnswersUptoCardSaid : Prop := Claim7.holds Tryd.pinned (.plain (OpenSpec.upto mooringAnswersSpec)) mooringAnswersUptoCard

/-- THE SECOND FORM's CARD OF 'isobathlaw02.MooringNarrower'. -/
def mooringNarrowerUptoCard : Claim7 := { stood := { row := mooringNarrowerUptoRow, standIns := [], harness := (true, "9468df2750a3a616b56c35d77bce0544da94644cfdcb4f77104c5077cc2ea701"), looks := false }, kinds := [], alts := [], laidByText := true, laidKinds := [.data], laidTests := true, laidLooks := .later }
def MooringNarrowerUptoCardSaid : Prop := Claim7.holds Tryd.pinned (.plain (OpenSpec.upto mooringNarrowerSpec)) mooringNarrowerUptoCard

/-- THE SECOND FORM's CARD OF 'isobathlaw02.MooringSums'. -/
def mooringSumsUptoCard : Claim7 := { stood := { row := mooringSumsUptoRow, standIns := [], harness := (true, "9468df2750a3a616b56c35d77bce0544da94644cfdcb4f77104c5077cc2ea701"), looks := false }, kinds := [], alts := [], laidByText := true, laidKinds := [.data], laidTests := true, laidLooks := .later }
def MooringSumsUptoCardSaid : Prop := Claim7.holds Tryd.pinned (.plain (OpenSpec.upto mooringSumsSpec)) mooringSumsUptoCard
end Rows
end Go.Proofs.YtebcmhajbjkojaaDoor
