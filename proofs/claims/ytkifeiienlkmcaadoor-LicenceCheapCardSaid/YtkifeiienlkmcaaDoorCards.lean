/-
  DERIVED. GIVEN WITH THE SEED: THE CARDS: each row of YtkifeiienlkmcaaDoorRows.lean that lists a variable, with what it lists TIED to the program's text (the seventh form; the later family's looks); each row that meets fmt, with fmt's text TOLD by the authors' own Lean function (tested against real Go, not proved from fmt's source: count such statements apart). THE CARD IS WHAT COUNTS. Prove the row's statement (the work); the ties are given (YtkifeiienlkmcaaDoorTie.lean); close each card by the builder's one call (the guide's Derived/Test/ToyasCard.lean, 'card_holds'). Laid BY PROGRAM, IN A SANDBOX (cutbox-door.mjs). By AI agents, Wed Nov 11 2026. No macro, syntax, notation, axiom, sorry.
-/
import Derived.Test.YtkifeiienlkmcaaDoorRows
import GoSem.ClaimSeven
namespace Go.Proofs.YtkifeiienlkmcaaDoor
namespace Rows

/-- THE TIED CARD OF 'bioscopelaw05.LicenceWhys'. -/
def licenceWhysCard : Claim7 := { stood := { row := licenceWhysRow, standIns := [], harness := (true, "437e3c37619c3260e62310a36d884f5b71c77ba8cf21ddf0ff9a4a43c5141644"), looks := false }, kinds := [], alts := [], laidByText := true, laidKinds := [.funcs, .data], laidTests := true, laidLooks := .later }
def LicenceWhysCardSaid : Prop := Claim7.holds Tryd.pinned (.plain (OpenSpec.ofChange licenceWhysSpec)) licenceWhysCard

/-- THE TIED CARD OF 'bioscopelaw05.LicencePlans'. -/
def licencePlansCard : Claim7 := { stood := { row := licencePlansRow, standIns := [], harness := (true, "437e3c37619c3260e62310a36d884f5b71c77ba8cf21ddf0ff9a4a43c5141644"), looks := false }, kinds := [], alts := [], laidByText := true, laidKinds := [.funcs, .data], laidTests := true, laidLooks := .later }
def LicencePlansCardSaid : Prop := Claim7.holds Tryd.pinned (.plain (OpenSpec.ofChange licencePlansSpec)) licencePlansCard

/-- THE TIED CARD OF 'bioscopelaw05.LicenceFees'. -/
def licenceFeesCard : Claim7 := { stood := { row := licenceFeesRow, standIns := [], harness := (true, "437e3c37619c3260e62310a36d884f5b71c77ba8cf21ddf0ff9a4a43c5141644"), looks := false }, kinds := [], alts := [], laidByText := true, laidKinds := [.funcs, .data], laidTests := true, laidLooks := .later }
def LicenceFeesCardSaid : Prop := Claim7.holds Tryd.pinned (.plain (OpenSpec.ofChange licenceFeesSpec)) licenceFeesCard

/-- THE TIED CARD OF 'bioscopelaw05.LicenceMosts'. -/
def licenceMostsCard : Claim7 := { stood := { row := licenceMostsRow, standIns := [], harness := (true, "437e3c37619c3260e62310a36d884f5b71c77ba8cf21ddf0ff9a4a43c5141644"), looks := false }, kinds := [], alts := [], laidByText := true, laidKinds := [.funcs, .data], laidTests := true, laidLooks := .later }
def LicenceMostsCardSaid : Prop := Claim7.holds Tryd.pinned (.plain (OpenSpec.ofChange licenceMostsSpec)) licenceMostsCard

/-- THE TIED CARD OF 'bioscopelaw05.LicenceFine'. -/
def licenceFineCard : Claim7 := { stood := { row := licenceFineRow, standIns := [], harness := (true, "437e3c37619c3260e62310a36d884f5b71c77ba8cf21ddf0ff9a4a43c5141644"), looks := false }, kinds := [], alts := [], laidByText := true, laidKinds := [.funcs, .data], laidTests := true, laidLooks := .later }
def LicenceFineCardSaid : Prop := Claim7.holds Tryd.pinned (.plain (OpenSpec.ofChange licenceFineSpec)) licenceFineCard

/-- THE TIED CARD OF 'bioscopelaw05.LicenceOver'. -/
def licenceOverCard : Claim7 := { stood := { row := licenceOverRow, standIns := [], harness := (true, "437e3c37619c3260e62310a36d884f5b71c77ba8cf21ddf0ff9a4a43c5141644"), looks := false }, kinds := [], alts := [], laidByText := true, laidKinds := [.funcs, .data], laidTests := true, laidLooks := .later }
def LicenceOverCardSaid : Prop := Claim7.holds Tryd.pinned (.plain (OpenSpec.ofChange licenceOverSpec)) licenceOverCard

/-- THE TIED CARD OF 'bioscopelaw05.LicenceCheap'. -/
def licenceCheapCard : Claim7 := { stood := { row := licenceCheapRow, standIns := [], harness := (true, "437e3c37619c3260e62310a36d884f5b71c77ba8cf21ddf0ff9a4a43c5141644"), looks := false }, kinds := [], alts := [], laidByText := true, laidKinds := [.funcs, .data], laidTests := true, laidLooks := .later }
def LicenceCheapCardSaid : Prop := Claim7.holds Tryd.pinned (.plain (OpenSpec.ofChange licenceCheapSpec)) licenceCheapCard

/-- THE TIED CARD OF 'bioscopelaw05.LicenceInTime'. -/
def licenceInTimeCard : Claim7 := { stood := { row := licenceInTimeRow, standIns := [], harness := (true, "437e3c37619c3260e62310a36d884f5b71c77ba8cf21ddf0ff9a4a43c5141644"), looks := false }, kinds := [], alts := [], laidByText := true, laidKinds := [.funcs, .data], laidTests := true, laidLooks := .later }
def LicenceInTimeCardSaid : Prop := Claim7.holds Tryd.pinned (.plain (OpenSpec.ofChange licenceInTimeSpec)) licenceInTimeCard

/-- THE TIED CARD OF 'bioscopelaw05.LicenceEasier'. -/
def licenceEasierCard : Claim7 := { stood := { row := licenceEasierRow, standIns := [], harness := (true, "437e3c37619c3260e62310a36d884f5b71c77ba8cf21ddf0ff9a4a43c5141644"), looks := false }, kinds := [], alts := [], laidByText := true, laidKinds := [.funcs, .data], laidTests := true, laidLooks := .later }
def LicenceEasierCardSaid : Prop := Claim7.holds Tryd.pinned (.plain (OpenSpec.ofChange licenceEasierSpec)) licenceEasierCard

/-- THE TIED CARD OF 'bioscopelaw05.LicenceMost'. -/
def licenceMostCard : Claim7 := { stood := { row := licenceMostRow, standIns := [], harness := (true, "437e3c37619c3260e62310a36d884f5b71c77ba8cf21ddf0ff9a4a43c5141644"), looks := false }, kinds := [], alts := [], laidByText := true, laidKinds := [.funcs, .data], laidTests := true, laidLooks := .later }
def LicenceMostCardSaid : Prop := Claim7.holds Tryd.pinned (.plain (OpenSpec.ofChange licenceMostSpec)) licenceMostCard

/-- THE TIED CARD OF 'bioscopelaw05.LicenceKnown'. -/
def licenceKnownCard : Claim7 := { stood := { row := licenceKnownRow, standIns := [], harness := (true, "437e3c37619c3260e62310a36d884f5b71c77ba8cf21ddf0ff9a4a43c5141644"), looks := false }, kinds := [], alts := [], laidByText := true, laidKinds := [.funcs, .data], laidTests := true, laidLooks := .later }
def LicenceKnownCardSaid : Prop := Claim7.holds Tryd.pinned (.plain (OpenSpec.ofChange licenceKnownSpec)) licenceKnownCard

/-- THE SECOND FORM's CARD OF 'bioscopelaw05.LicenceWhys'. -/
def licenceWhysUptoCard : Claim7 := { stood := { row := licenceWhysUptoRow, standIns := [], harness := (true, "437e3c37619c3260e62310a36d884f5b71c77ba8cf21ddf0ff9a4a43c5141644"), looks := false }, kinds := [], alts := [], laidByText := true, laidKinds := [.funcs, .data], laidTests := true, laidLooks := .later }
def LicenceWhysUptoCardSaid : Prop := Claim7.holds Tryd.pinned (.plain (OpenSpec.upto licenceWhysSpec)) licenceWhysUptoCard

/-- THE SECOND FORM's CARD OF 'bioscopelaw05.LicencePlans'. -/
def licencePlansUptoCard : Claim7 := { stood := { row := licencePlansUptoRow, standIns := [], harness := (true, "437e3c37619c3260e62310a36d884f5b71c77ba8cf21ddf0ff9a4a43c5141644"), looks := false }, kinds := [], alts := [], laidByText := true, laidKinds := [.funcs, .data], laidTests := true, laidLooks := .later }
def LicencePlansUptoCardSaid : Prop := Claim7.holds Tryd.pinned (.plain (OpenSpec.upto licencePlansSpec)) licencePlansUptoCard

/-- THE SECOND FORM's CARD OF 'bioscopelaw05.LicenceFees'. -/
def licenceFeesUptoCard : Claim7 := { stood := { row := licenceFeesUptoRow, standIns := [], harness := (true, "437e3c37619c3260e62310a36d884f5b71c77ba8cf21ddf0ff9a4a43c5141644"), looks := false }, kinds := [], alts := [], laidByText := true, laidKinds := [.funcs, .data], laidTests := true, laidLooks := .later }
def LicenceFeesUptoCardSaid : Prop := Claim7.holds Tryd.pinned (.plain (OpenSpec.upto licenceFeesSpec)) licenceFeesUptoCard

/-- THE SECOND FORM's CARD OF 'bioscopelaw05.LicenceMosts'. -/
def licenceMostsUptoCard : Claim7 := { stood := { row := licenceMostsUptoRow, standIns := [], harness := (true, "437e3c37619c3260e62310a36d884f5b71c77ba8cf21ddf0ff9a4a43c5141644"), looks := false }, kinds := [], alts := [], laidByText := true, laidKinds := [.funcs, .data], laidTests := true, laidLooks := .later }
def LicenceMostsUptoCardSaid : Prop := Claim7.holds Tryd.pinned (.plain (OpenSpec.upto licenceMostsSpec)) licenceMostsUptoCard

/-- THE SECOND FORM's CARD OF 'bioscopelaw05.LicenceFine'. -/
def licenceFineUptoCard : Claim7 := { stood := { row := licenceFineUptoRow, standIns := [], harness := (true, "437e3c37619c3260e62310a36d884f5b71c77ba8cf21ddf0ff9a4a43c5141644"), looks := false }, kinds := [], alts := [], laidByText := true, laidKinds := [.funcs, .data], laidTests := true, laidLooks := .later }
def LicenceFineUptoCardSaid : Prop := Claim7.holds Tryd.pinned (.plain (OpenSpec.upto licenceFineSpec)) licenceFineUptoCard

/-- THE SECOND FORM's CARD OF 'bioscopelaw05.LicenceOver'. -/
def licenceOverUptoCard : Claim7 := { stood := { row := licenceOverUptoRow, standIns := [], harness := (true, "437e3c37619c3260e62310a36d884f5b71c77ba8cf21ddf0ff9a4a43c5141644"), looks := false }, kinds := [], alts := [], laidByText := true, laidKinds := [.funcs, .data], laidTests := true, laidLooks := .later }
def LicenceOverUptoCardSaid : Prop := Claim7.holds Tryd.pinned (.plain (OpenSpec.upto licenceOverSpec)) licenceOverUptoCard

/-- THE SECOND FORM's CARD OF 'bioscopelaw05.LicenceCheap'. -/
def licenceCheapUptoCard : Claim7 := { stood := { row := licenceCheapUptoRow, standIns := [], harness := (true, "437e3c37619c3260e62310a36d884f5b71c77ba8cf21ddf0ff9a4a43c5141644"), looks := false }, kinds := [], alts := [], laidByText := true, laidKinds := [.funcs, .data], laidTests := true, laidLooks := .later }
def LicenceCheapUptoCardSaid : Prop := Claim7.holds Tryd.pinned (.plain (OpenSpec.upto licenceCheapSpec)) licenceCheapUptoCard

/-- THE SECOND FORM's CARD OF 'bioscopelaw05.LicenceInTime'. -/
def licenceInTimeUptoCard : Claim7 := { stood := { row := licenceInTimeUptoRow, standIns := [], harness := (true, "437e3c37619c3260e62310a36d884f5b71c77ba8cf21ddf0ff9a4a43c5141644"), looks := false }, kinds := [], alts := [], laidByText := true, laidKinds := [.funcs, .data], laidTests := true, laidLooks := .later }
def LicenceInTimeUptoCardSaid : Prop := Claim7.holds Tryd.pinned (.plain (OpenSpec.upto licenceInTimeSpec)) licenceInTimeUptoCard

/-- THE SECOND FORM's CARD OF 'bioscopelaw05.LicenceEasier'. -/
def licenceEasierUptoCard : Claim7 := { stood := { row := licenceEasierUptoRow, standIns := [], harness := (true, "437e3c37619c3260e62310a36d884f5b71c77ba8cf21ddf0ff9a4a43c5141644"), looks := false }, kinds := [], alts := [], laidByText := true, laidKinds := [.funcs, .data], laidTests := true, laidLooks := .later }
def LicenceEasierUptoCardSaid : Prop := Claim7.holds Tryd.pinned (.plain (OpenSpec.upto licenceEasierSpec)) licenceEasierUptoCard

/-- THE SECOND FORM's CARD OF 'bioscopelaw05.LicenceMost'. -/
def licenceMostUptoCard : Claim7 := { stood := { row := licenceMostUptoRow, standIns := [], harness := (true, "437e3c37619c3260e62310a36d884f5b71c77ba8cf21ddf0ff9a4a43c5141644"), looks := false }, kinds := [], alts := [], laidByText := true, laidKinds := [.funcs, .data], laidTests := true, laidLooks := .later }
def LicenceMostUptoCardSaid : Prop := Claim7.holds Tryd.pinned (.plain (OpenSpec.upto licenceMostSpec)) licenceMostUptoCard

/-- THE SECOND FORM's CARD OF 'bioscopelaw05.LicenceKnown'. -/
def licenceKnownUptoCard : Claim7 := { stood := { row := licenceKnownUptoRow, standIns := [], harness := (true, "437e3c37619c3260e62310a36d884f5b71c77ba8cf21ddf0ff9a4a43c5141644"), looks := false }, kinds := [], alts := [], laidByText := true, laidKinds := [.funcs, .data], laidTests := true, laidLooks := .later }
def LicenceKnownUptoCardSaid : Prop := Claim7.holds Tryd.pinned (.plain (OpenSpec.upto licenceKnownSpec)) licenceKnownUptoCard
end Rows
end Go.Proofs.YtkifeiienlkmcaaDoor
