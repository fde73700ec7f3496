/-
  DERIVED. GIVEN WITH THE SEED: THE CARDS: each row of YtclcbiiijoeplaaDoorRows.lean that lists a variable, with what it lists TIED to the program's text (the seventh form; the later family's looks); each row that meets fmt, with fmt's text TOLD by the authors' own Lean function (tested against real Go, not proved from fmt's source: count such statements apart). THE CARD IS WHAT COUNTS. Prove the row's statement (the work); the ties are given (YtclcbiiijoeplaaDoorTie.lean); close each card by the builder's one call (the guide's Derived/Test/ToyasCard.lean, 'card_holds'). Laid BY PROGRAM, IN A SANDBOX (cutbox-door.mjs). By AI agents, Wed Nov 11 2026. No macro, syntax, notation, axiom, sorry.
-/
import Derived.Test.YtclcbiiijoeplaaDoorRows
import GoSem.ClaimSeven
namespace Go.Proofs.YtclcbiiijoeplaaDoor
namespace Rows

/-- THE TIED CARD OF 'drowselaw21.ReportTexts'. -/
def reportTextsCard : Claim7 := { stood := { row := reportTextsRow, standIns := [], harness := (true, "19805d9c382d1462a260f3e8986622c19976a90cd65c021ac4d5c3c35541c8a8"), looks := true }, kinds := [], alts := [], laidByText := true, laidKinds := [.data, .data, .data, .data, .handle, .pinned], laidTests := true, laidLooks := .later }
def ReportTextsCardSaid : Prop := Claim7.holds Tryd.pinned (.plain (OpenSpec.ofChange reportTextsSpec)) reportTextsCard

/-- THE TIED CARD OF 'drowselaw21.ReportReads'. -/
def reportReadsCard : Claim7 := { stood := { row := reportReadsRow, standIns := [], harness := (true, "19805d9c382d1462a260f3e8986622c19976a90cd65c021ac4d5c3c35541c8a8"), looks := true }, kinds := [], alts := [], laidByText := true, laidKinds := [.data, .data, .data, .data, .handle, .pinned], laidTests := true, laidLooks := .later }
def ReportReadsCardSaid : Prop := Claim7.holds Tryd.pinned (.plain (OpenSpec.ofChange reportReadsSpec)) reportReadsCard

/-- THE TIED CARD OF 'drowselaw21.ReportRings'. -/
def reportRingsCard : Claim7 := { stood := { row := reportRingsRow, standIns := [], harness := (true, "19805d9c382d1462a260f3e8986622c19976a90cd65c021ac4d5c3c35541c8a8"), looks := true }, kinds := [], alts := [], laidByText := true, laidKinds := [.data, .data, .data, .data, .handle, .pinned], laidTests := true, laidLooks := .later }
def ReportRingsCardSaid : Prop := Claim7.holds Tryd.pinned (.plain (OpenSpec.ofChange reportRingsSpec)) reportRingsCard

/-- THE TIED CARD OF 'drowselaw21.ReportRound'. -/
def reportRoundCard : Claim7 := { stood := { row := reportRoundRow, standIns := [], harness := (true, "19805d9c382d1462a260f3e8986622c19976a90cd65c021ac4d5c3c35541c8a8"), looks := true }, kinds := [], alts := [], laidByText := true, laidKinds := [.data, .data, .data, .data, .handle, .pinned], laidTests := true, laidLooks := .later }
def ReportRoundCardSaid : Prop := Claim7.holds Tryd.pinned (.plain (OpenSpec.ofChange reportRoundSpec)) reportRoundCard

/-- THE SECOND FORM's CARD OF 'drowselaw21.ReportTexts'. -/
def reportTextsUptoCard : Claim7 := { stood := { row := reportTextsUptoRow, standIns := [], harness := (true, "19805d9c382d1462a260f3e8986622c19976a90cd65c021ac4d5c3c35541c8a8"), looks := true }, kinds := [], alts := [], laidByText := true, laidKinds := [.data, .data, .data, .data, .handle, .pinned], laidTests := true, laidLooks := .later }
def ReportTextsUptoCardSaid : Prop := Claim7.holds Tryd.pinned (.plain (OpenSpec.upto reportTextsSpec)) reportTextsUptoCard

/-- THE SECOND FORM's CARD OF 'drowselaw21.ReportReads'. -/
def reportReadsUptoCard : Claim7 := { stood := { row := reportReadsUptoRow, standIns := [], harness := (true, "19805d9c382d1462a260f3e8986622c19976a90cd65c021ac4d5c3c35541c8a8"), looks := true }, kinds := [], alts := [], laidByText := true, laidKinds := [.data, .data, .data, .data, .handle, .pinned], laidTests := true, laidLooks := .later }
def ReportReadsUptoCardSaid : Prop := Claim7.holds Tryd.pinned (.plain (OpenSpec.upto reportReadsSpec)) reportReadsUptoCard

/-- THE SECOND FORM's CARD OF 'drowselaw21.ReportRings'. -/
def reportRingsUptoCard : Claim7 := { stood := { row := reportRingsUptoRow, standIns := [], harness := (true, "19805d9c382d1462a260f3e8986622c19976a90cd65c021ac4d5c3c35541c8a8"), looks := true }, kinds := [], alts := [], laidByText := true, laidKinds := [.data, .data, .data, .data, .handle, .pinned], laidTests := true, laidLooks := .later }
def ReportRingsUptoCardSaid : Prop := Claim7.holds Tryd.pinned (.plain (OpenSpec.upto reportRingsSpec)) reportRingsUptoCard

/-- THE SECOND FORM's CARD OF 'drowselaw21.ReportRound'. -/
def reportRoundUptoCard : Claim7 := { stood := { row := reportRoundUptoRow, standIns := [], harness := (true, "19805d9c382d1462a260f3e8986622c19976a90cd65c021ac4d5c3c35541c8a8"), looks := true }, kinds := [], alts := [], laidByText := true, laidKinds := [.data, .data, .data, .data, .handle, .pinned], laidTests := true, laidLooks := .later }
def ReportRoundUptoCardSaid : Prop := Claim7.holds Tryd.pinned (.plain (OpenSpec.upto reportRoundSpec)) reportRoundUptoCard
end Rows
end Go.Proofs.YtclcbiiijoeplaaDoor
