/-
  DERIVED. GIVEN WITH THE SEED: THE CARDS: each row of YtfmonjbhfocjbaaGreatDoorRows.lean that lists a variable, with what it lists TIED to the program's text (the seventh form; the later family's looks); each row that meets fmt, with fmt's text TOLD by the authors' own Lean function (tested against real Go, not proved from fmt's source: count such statements apart). THE CARD IS WHAT COUNTS. Prove the row's statement (the work); the ties are given (YtfmonjbhfocjbaaGreatDoorTie.lean); close each card by the builder's one call (the guide's Derived/Test/ToyasCard.lean, 'card_holds'). Laid BY PROGRAM, IN A SANDBOX (cutbox-door.mjs). By AI agents, Wed Nov 11 2026. No macro, syntax, notation, axiom, sorry.
-/
import Derived.Test.YtfmonjbhfocjbaaGreatDoorRows
import GoSem.ClaimSeven
namespace Go.Proofs.YtfmonjbhfocjbaaGreatDoor
namespace Rows

/-- THE TIED CARD OF 'hammocklaw20.InstrParses'. -/
def instrParsesCard : Claim7 := { stood := { row := instrParsesRow, standIns := [], harness := (true, "b22142fbdbc3a39aa3535729416531fad4ed55d868b5f1738a199a20ffd9bd20"), looks := true }, kinds := [], alts := [], laidByText := true, laidKinds := [.data, .data, .data, .data, .sentinel, .sentinel, .pinned], laidTests := true, laidLooks := .later }
def InstrParsesCardSaid : Prop := Claim7.holds Tryz.pinned (.plain (OpenSpec.ofChange instrParsesSpec)) instrParsesCard

/-- THE TIED CARD OF 'hammocklaw20.InstrBack'. -/
def instrBackCard : Claim7 := { stood := { row := instrBackRow, standIns := [], harness := (true, "b22142fbdbc3a39aa3535729416531fad4ed55d868b5f1738a199a20ffd9bd20"), looks := true }, kinds := [], alts := [], laidByText := true, laidKinds := [.data, .data, .data, .data, .sentinel, .sentinel, .pinned], laidTests := true, laidLooks := .later }
def InstrBackCardSaid : Prop := Claim7.holds Tryz.pinned (.plain (OpenSpec.ofChange instrBackSpec)) instrBackCard

/-- THE TIED CARD OF 'hammocklaw20.InstrStack'. -/
def instrStackCard : Claim7 := { stood := { row := instrStackRow, standIns := [], harness := (true, "b22142fbdbc3a39aa3535729416531fad4ed55d868b5f1738a199a20ffd9bd20"), looks := true }, kinds := [], alts := [], laidByText := true, laidKinds := [.data, .data, .data, .data, .sentinel, .sentinel, .pinned], laidTests := true, laidLooks := .later }
def InstrStackCardSaid : Prop := Claim7.holds Tryz.pinned (.plain (OpenSpec.ofChange instrStackSpec)) instrStackCard

/-- THE TIED CARD OF 'hammocklaw16.FreeOnce'. -/
def freeOnceCard : Claim7 := { stood := { row := freeOnceRow, standIns := [], harness := (true, "b22142fbdbc3a39aa3535729416531fad4ed55d868b5f1738a199a20ffd9bd20"), looks := true }, kinds := [], alts := [], laidByText := true, laidKinds := [.data, .data, .data, .sentinel, .sentinel], laidTests := true, laidLooks := .later }
def FreeOnceCardSaid : Prop := Claim7.holds Tryz.pinned (.plain (OpenSpec.ofChange freeOnceSpec)) freeOnceCard

/-- THE TIED CARD OF 'hammocklaw16.FreeMeans'. -/
def freeMeansCard : Claim7 := { stood := { row := freeMeansRow, standIns := [], harness := (true, "b22142fbdbc3a39aa3535729416531fad4ed55d868b5f1738a199a20ffd9bd20"), looks := true }, kinds := [], alts := [], laidByText := true, laidKinds := [.data, .data, .data, .sentinel, .sentinel], laidTests := true, laidLooks := .later }
def FreeMeansCardSaid : Prop := Claim7.holds Tryz.pinned (.plain (OpenSpec.ofChange freeMeansSpec)) freeMeansCard

/-- THE TIED CARD OF 'hammocklaw16.FreePut'. -/
def freePutCard : Claim7 := { stood := { row := freePutRow, standIns := [], harness := (true, "b22142fbdbc3a39aa3535729416531fad4ed55d868b5f1738a199a20ffd9bd20"), looks := true }, kinds := [], alts := [], laidByText := true, laidKinds := [.data, .data, .data, .sentinel, .sentinel], laidTests := true, laidLooks := .later }
def FreePutCardSaid : Prop := Claim7.holds Tryz.pinned (.plain (OpenSpec.ofChange freePutSpec)) freePutCard

/-- THE TIED CARD OF 'hammocklaw16.FreePlays'. -/
def freePlaysCard : Claim7 := { stood := { row := freePlaysRow, standIns := [], harness := (true, "b22142fbdbc3a39aa3535729416531fad4ed55d868b5f1738a199a20ffd9bd20"), looks := true }, kinds := [], alts := [], laidByText := true, laidKinds := [.data, .data, .data, .sentinel, .sentinel], laidTests := true, laidLooks := .later }
def FreePlaysCardSaid : Prop := Claim7.holds Tryz.pinned (.plain (OpenSpec.ofChange freePlaysSpec)) freePlaysCard

/-- THE SECOND FORM's CARD OF 'hammocklaw20.InstrParses'. -/
def instrParsesUptoCard : Claim7 := { stood := { row := instrParsesUptoRow, standIns := [], harness := (true, "b22142fbdbc3a39aa3535729416531fad4ed55d868b5f1738a199a20ffd9bd20"), looks := true }, kinds := [], alts := [], laidByText := true, laidKinds := [.data, .data, .data, .data, .sentinel, .sentinel, .pinned], laidTests := true, laidLooks := .later }
def InstrParsesUptoCardSaid : Prop := Claim7.holds Tryz.pinned (.plain (OpenSpec.upto instrParsesSpec)) instrParsesUptoCard

/-- THE SECOND FORM's CARD OF 'hammocklaw20.InstrBack'. -/
def instrBackUptoCard : Claim7 := { stood := { row := instrBackUptoRow, standIns := [], harness := (true, "b22142fbdbc3a39aa3535729416531fad4ed55d868b5f1738a199a20ffd9bd20"), looks := true }, kinds := [], alts := [], laidByText := true, laidKinds := [.data, .data, .data, .data, .sentinel, .sentinel, .pinned], laidTests := true, laidLooks := .later }
def InstrBackUptoCardSaid : Prop := Claim7.holds Tryz.pinned (.plain (OpenSpec.upto instrBackSpec)) instrBackUptoCard

/-- THE SECOND FORM's CARD OF 'hammocklaw20.InstrStack'. -/
def instrStackUptoCard : Claim7 := { stood := { row := instrStackUptoRow, standIns := [], harness := (true, "b22142fbdbc3a39aa3535729416531fad4ed55d868b5f1738a199a20ffd9bd20"), looks := true }, kinds := [], alts := [], laidByText := true, laidKinds := [.data, .data, .data, .data, .sentinel, .sentinel, .pinned], laidTests := true, laidLooks := .later }
def InstrStackUptoCardSaid : Prop := Claim7.holds Tryz.pinned (.plain (OpenSpec.upto instrStackSpec)) instrStackUptoCard

/-- THE SECOND FORM's CARD OF 'hammocklaw16.FreeOnce'. -/
def freeOnceUptoCard : Claim7 := { stood := { row := freeOnceUptoRow, standIns := [], harness := (true, "b22142fbdbc3a39aa3535729416531fad4ed55d868b5f1738a199a20ffd9bd20"), looks := true }, kinds := [], alts := [], laidByText := true, laidKinds := [.data, .data, .data, .sentinel, .sentinel], laidTests := true, laidLooks := .later }
def FreeOnceUptoCardSaid : Prop := Claim7.holds Tryz.pinned (.plain (OpenSpec.upto freeOnceSpec)) freeOnceUptoCard

/-- THE SECOND FORM's CARD OF 'hammocklaw16.FreeMeans'. -/
def freeMeansUptoCard : Claim7 := { stood := { row := freeMeansUptoRow, standIns := [], harness := (true, "b22142fbdbc3a39aa3535729416531fad4ed55d868b5f1738a199a20ffd9bd20"), looks := true }, kinds := [], alts := [], laidByText := true, laidKinds := [.data, .data, .data, .sentinel, .sentinel], laidTests := true, laidLooks := .later }
def FreeMeansUptoCardSaid : Prop := Claim7.holds Tryz.pinned (.plain (OpenSpec.upto freeMeansSpec)) freeMeansUptoCard

/-- THE SECOND FORM's CARD OF 'hammocklaw16.FreePut'. -/
def freePutUptoCard : Claim7 := { stood := { row := freePutUptoRow, standIns := [], harness := (true, "b22142fbdbc3a39aa3535729416531fad4ed55d868b5f1738a199a20ffd9bd20"), looks := true }, kinds := [], alts := [], laidByText := true, laidKinds := [.data, .data, .data, .sentinel, .sentinel], laidTests := true, laidLooks := .later }
def FreePutUptoCardSaid : Prop := Claim7.holds Tryz.pinned (.plain (OpenSpec.upto freePutSpec)) freePutUptoCard

/-- THE SECOND FORM's CARD OF 'hammocklaw16.FreePlays'. -/
def freePlaysUptoCard : Claim7 := { stood := { row := freePlaysUptoRow, standIns := [], harness := (true, "b22142fbdbc3a39aa3535729416531fad4ed55d868b5f1738a199a20ffd9bd20"), looks := true }, kinds := [], alts := [], laidByText := true, laidKinds := [.data, .data, .data, .sentinel, .sentinel], laidTests := true, laidLooks := .later }
def FreePlaysUptoCardSaid : Prop := Claim7.holds Tryz.pinned (.plain (OpenSpec.upto freePlaysSpec)) freePlaysUptoCard
end Rows
end Go.Proofs.YtfmonjbhfocjbaaGreatDoor
