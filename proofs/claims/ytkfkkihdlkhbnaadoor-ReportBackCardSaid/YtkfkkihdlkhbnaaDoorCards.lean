/-
  DERIVED. GIVEN WITH THE SEED: THE CARDS: each row of YtkfkkihdlkhbnaaDoorRows.lean that lists a variable, with what it lists TIED to the program's text (the seventh form; the later family's looks); each row that meets fmt, with fmt's text TOLD by the authors' own Lean function (tested against real Go, not proved from fmt's source: count such statements apart). THE CARD IS WHAT COUNTS. Prove the row's statement (the work); the ties are given (YtkfkkihdlkhbnaaDoorTie.lean); close each card by the builder's one call (the guide's Derived/Test/ToyasCard.lean, 'card_holds'). Laid BY PROGRAM, IN A SANDBOX (cutbox-door.mjs). By AI agents, Wed Nov 11 2026. No macro, syntax, notation, axiom, sorry.
-/
import Derived.Test.YtkfkkihdlkhbnaaDoorRows
import GoSem.ClaimSeven
namespace Go.Proofs.YtkfkkihdlkhbnaaDoor
namespace Rows

/-- THE TIED CARD OF 'flashlocklaw52.ReportWrites'. -/
def reportWritesCard : Claim7 := { stood := { row := reportWritesRow, standIns := [], harness := (true, "0de0df9fc967735c2221d03912c63c80164d67be46bd6337aa347c8fbd8ff051"), looks := true }, kinds := [], alts := [], laidByText := true, laidKinds := [.data, .data, .data, .listed, .data], laidTests := true, laidLooks := .later }
def ReportWritesCardSaid : Prop := Claim7.holds Tryd.pinned (.plain (OpenSpec.ofChange reportWritesSpec)) reportWritesCard

/-- THE TIED CARD OF 'flashlocklaw52.ReportReads'. -/
def reportReadsCard : Claim7 := { stood := { row := reportReadsRow, standIns := [], harness := (true, "0de0df9fc967735c2221d03912c63c80164d67be46bd6337aa347c8fbd8ff051"), looks := true }, kinds := [], alts := [], laidByText := true, laidKinds := [.data, .data, .data, .data, .sentinel, .sentinel, .listed, .data, .pinned], laidTests := true, laidLooks := .later }
def ReportReadsCardSaid : Prop := Claim7.holds Tryd.pinned (.plain (OpenSpec.ofChange reportReadsSpec)) reportReadsCard

/-- THE TIED CARD OF 'flashlocklaw52.ReportBack'. -/
def reportBackCard : Claim7 := { stood := { row := reportBackRow, standIns := [], harness := (true, "0de0df9fc967735c2221d03912c63c80164d67be46bd6337aa347c8fbd8ff051"), looks := true }, kinds := [], alts := [], laidByText := true, laidKinds := [.data, .data, .data, .data, .sentinel, .sentinel, .listed, .data, .pinned], laidTests := true, laidLooks := .later }
def ReportBackCardSaid : Prop := Claim7.holds Tryd.pinned (.plain (OpenSpec.ofChange reportBackSpec)) reportBackCard

/-- THE SECOND FORM's CARD OF 'flashlocklaw52.ReportWrites'. -/
def reportWritesUptoCard : Claim7 := { stood := { row := reportWritesUptoRow, standIns := [], harness := (true, "0de0df9fc967735c2221d03912c63c80164d67be46bd6337aa347c8fbd8ff051"), looks := true }, kinds := [], alts := [], laidByText := true, laidKinds := [.data, .data, .data, .listed, .data], laidTests := true, laidLooks := .later }
def ReportWritesUptoCardSaid : Prop := Claim7.holds Tryd.pinned (.plain (OpenSpec.upto reportWritesSpec)) reportWritesUptoCard

/-- THE SECOND FORM's CARD OF 'flashlocklaw52.ReportReads'. -/
def reportReadsUptoCard : Claim7 := { stood := { row := reportReadsUptoRow, standIns := [], harness := (true, "0de0df9fc967735c2221d03912c63c80164d67be46bd6337aa347c8fbd8ff051"), looks := true }, kinds := [], alts := [], laidByText := true, laidKinds := [.data, .data, .data, .data, .sentinel, .sentinel, .listed, .data, .pinned], laidTests := true, laidLooks := .later }
def ReportReadsUptoCardSaid : Prop := Claim7.holds Tryd.pinned (.plain (OpenSpec.upto reportReadsSpec)) reportReadsUptoCard

/-- THE SECOND FORM's CARD OF 'flashlocklaw52.ReportBack'. -/
def reportBackUptoCard : Claim7 := { stood := { row := reportBackUptoRow, standIns := [], harness := (true, "0de0df9fc967735c2221d03912c63c80164d67be46bd6337aa347c8fbd8ff051"), looks := true }, kinds := [], alts := [], laidByText := true, laidKinds := [.data, .data, .data, .data, .sentinel, .sentinel, .listed, .data, .pinned], laidTests := true, laidLooks := .later }
def ReportBackUptoCardSaid : Prop := Claim7.holds Tryd.pinned (.plain (OpenSpec.upto reportBackSpec)) reportBackUptoCard
end Rows
end Go.Proofs.YtkfkkihdlkhbnaaDoor
