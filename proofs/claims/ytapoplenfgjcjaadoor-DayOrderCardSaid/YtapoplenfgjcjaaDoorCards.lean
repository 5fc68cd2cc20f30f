/-
  DERIVED. GIVEN WITH THE SEED: THE CARDS: each row of YtapoplenfgjcjaaDoorRows.lean that lists a variable, with what it lists TIED to the program's text (the seventh form; the later family's looks); each row that meets fmt, with fmt's text TOLD by the authors' own Lean function (tested against real Go, not proved from fmt's source: count such statements apart). THE CARD IS WHAT COUNTS. Prove the row's statement (the work); the ties are given (YtapoplenfgjcjaaDoorTie.lean); close each card by the builder's one call (the guide's Derived/Test/ToyasCard.lean, 'card_holds'). Laid BY PROGRAM, IN A SANDBOX (cutbox-door.mjs). By AI agents, Wed Nov 11 2026. No macro, syntax, notation, axiom, sorry.
-/
import Derived.Test.YtapoplenfgjcjaaDoorRows
import GoSem.ClaimSeven
namespace Go.Proofs.YtapoplenfgjcjaaDoor
namespace Rows

/-- THE TIED CARD OF 'bogielaw06.DayDates'. -/
def dayDatesCard : Claim7 := { stood := { row := dayDatesRow, standIns := [], harness := (true, "645dc0053aa652b2fec73eb194f08d025238e3037a7025a61623003a0c70c3ca"), looks := true }, kinds := [], alts := [], laidByText := true, laidKinds := [.data, .data, .data], laidTests := true, laidLooks := .later }
def DayDatesCardSaid : Prop := Claim7.holds Tryd.pinned (.plain (OpenSpec.ofChange dayDatesSpec)) dayDatesCard

/-- THE TIED CARD OF 'bogielaw06.DayNext'. -/
def dayNextCard : Claim7 := { stood := { row := dayNextRow, standIns := [], harness := (true, "645dc0053aa652b2fec73eb194f08d025238e3037a7025a61623003a0c70c3ca"), looks := true }, kinds := [], alts := [], laidByText := true, laidKinds := [.data, .data, .data], laidTests := true, laidLooks := .later }
def DayNextCardSaid : Prop := Claim7.holds Tryd.pinned (.plain (OpenSpec.ofChange dayNextSpec)) dayNextCard

/-- THE TIED CARD OF 'bogielaw06.DayMonths'. -/
def dayMonthsCard : Claim7 := { stood := { row := dayMonthsRow, standIns := [], harness := (true, "645dc0053aa652b2fec73eb194f08d025238e3037a7025a61623003a0c70c3ca"), looks := true }, kinds := [], alts := [], laidByText := true, laidKinds := [.data, .data, .data], laidTests := true, laidLooks := .later }
def DayMonthsCardSaid : Prop := Claim7.holds Tryd.pinned (.plain (OpenSpec.ofChange dayMonthsSpec)) dayMonthsCard

/-- THE TIED CARD OF 'bogielaw06.DayMatchesReference'. -/
def dayMatchesReferenceCard : Claim7 := { stood := { row := dayMatchesReferenceRow, standIns := [], harness := (true, "645dc0053aa652b2fec73eb194f08d025238e3037a7025a61623003a0c70c3ca"), looks := true }, kinds := [], alts := [], laidByText := true, laidKinds := [.data, .data, .data, .data, .sentinel, .sentinel, .pinned], laidTests := true, laidLooks := .later }
def DayMatchesReferenceCardSaid : Prop := Claim7.holds Tryd.pinned (.plain (OpenSpec.ofChange dayMatchesReferenceSpec)) dayMatchesReferenceCard

/-- THE TIED CARD OF 'bogielaw06.DayOrder'. -/
def dayOrderCard : Claim7 := { stood := { row := dayOrderRow, standIns := [], harness := (true, "645dc0053aa652b2fec73eb194f08d025238e3037a7025a61623003a0c70c3ca"), looks := true }, kinds := [], alts := [], laidByText := true, laidKinds := [.data, .data, .data, .data, .sentinel, .sentinel, .pinned], laidTests := true, laidLooks := .later }
def DayOrderCardSaid : Prop := Claim7.holds Tryd.pinned (.plain (OpenSpec.ofChange dayOrderSpec)) dayOrderCard

/-- THE SECOND FORM's CARD OF 'bogielaw06.DayDates'. -/
def dayDatesUptoCard : Claim7 := { stood := { row := dayDatesUptoRow, standIns := [], harness := (true, "645dc0053aa652b2fec73eb194f08d025238e3037a7025a61623003a0c70c3ca"), looks := true }, kinds := [], alts := [], laidByText := true, laidKinds := [.data, .data, .data], laidTests := true, laidLooks := .later }
def DayDatesUptoCardSaid : Prop := Claim7.holds Tryd.pinned (.plain (OpenSpec.upto dayDatesSpec)) dayDatesUptoCard

/-- THE SECOND FORM's CARD OF 'bogielaw06.DayNext'. -/
def dayNextUptoCard : Claim7 := { stood := { row := dayNextUptoRow, standIns := [], harness := (true, "645dc0053aa652b2fec73eb194f08d025238e3037a7025a61623003a0c70c3ca"), looks := true }, kinds := [], alts := [], laidByText := true, laidKinds := [.data, .data, .data], laidTests := true, laidLooks := .later }
def DayNextUptoCardSaid : Prop := Claim7.holds Tryd.pinned (.plain (OpenSpec.upto dayNextSpec)) dayNextUptoCard

/-- THE SECOND FORM's CARD OF 'bogielaw06.DayMonths'. -/
def dayMonthsUptoCard : Claim7 := { stood := { row := dayMonthsUptoRow, standIns := [], harness := (true, "645dc0053aa652b2fec73eb194f08d025238e3037a7025a61623003a0c70c3ca"), looks := true }, kinds := [], alts := [], laidByText := true, laidKinds := [.data, .data, .data], laidTests := true, laidLooks := .later }
def DayMonthsUptoCardSaid : Prop := Claim7.holds Tryd.pinned (.plain (OpenSpec.upto dayMonthsSpec)) dayMonthsUptoCard

/-- THE SECOND FORM's CARD OF 'bogielaw06.DayMatchesReference'. -/
def dayMatchesReferenceUptoCard : Claim7 := { stood := { row := dayMatchesReferenceUptoRow, standIns := [], harness := (true, "645dc0053aa652b2fec73eb194f08d025238e3037a7025a61623003a0c70c3ca"), looks := true }, kinds := [], alts := [], laidByText := true, laidKinds := [.data, .data, .data, .data, .sentinel, .sentinel, .pinned], laidTests := true, laidLooks := .later }
def DayMatchesReferenceUptoCardSaid : Prop := Claim7.holds Tryd.pinned (.plain (OpenSpec.upto dayMatchesReferenceSpec)) dayMatchesReferenceUptoCard

/-- THE SECOND FORM's CARD OF 'bogielaw06.DayOrder'. -/
def dayOrderUptoCard : Claim7 := { stood := { row := dayOrderUptoRow, standIns := [], harness := (true, "645dc0053aa652b2fec73eb194f08d025238e3037a7025a61623003a0c70c3ca"), looks := true }, kinds := [], alts := [], laidByText := true, laidKinds := [.data, .data, .data, .data, .sentinel, .sentinel, .pinned], laidTests := true, laidLooks := .later }
def DayOrderUptoCardSaid : Prop := Claim7.holds Tryd.pinned (.plain (OpenSpec.upto dayOrderSpec)) dayOrderUptoCard
end Rows
end Go.Proofs.YtapoplenfgjcjaaDoor
