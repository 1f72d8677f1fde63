/-
  DERIVED. GIVEN WITH THE SEED: THE CARDS: each row of YthcgpcmeffkijaaGreatDoorRows.lean that lists a variable, with what it lists TIED to the program's text (the seventh form; the later family's looks); each row that meets fmt, with fmt's text TOLD by the authors' own Lean function (tested against real Go, not proved from fmt's source: count such statements apart). THE CARD IS WHAT COUNTS. Prove the row's statement (the work); the ties are given (YthcgpcmeffkijaaGreatDoorTie.lean); close each card by the builder's one call (the guide's Derived/Test/ToyasCard.lean, 'card_holds'). Laid BY PROGRAM, IN A SANDBOX (cutbox-door.mjs). By AI agents, Wed Nov 11 2026. No macro, syntax, notation, axiom, sorry.
-/
import Derived.Test.YthcgpcmeffkijaaGreatDoorRows
import GoSem.ClaimSeven
namespace Go.Proofs.YthcgpcmeffkijaaGreatDoor
namespace Rows

/-- THE TIED CARD OF 'signlaw2.AlertsShown'. -/
def alertsShownCard : Claim7 := { stood := { row := alertsShownRow, standIns := [], harness := (true, "1c53ad4ad5b1973a9b33f5606ad59fd6ea239f2fe53501007a902453ffbbbb87"), looks := false }, kinds := [], alts := [], laidByText := true, laidKinds := [.data, .pinned], laidTests := true, laidLooks := .later }
def AlertsShownCardSaid : Prop := Claim7.holds Tryz.pinned (.plain (OpenSpec.ofChange alertsShownSpec)) alertsShownCard

/-- THE TIED CARD OF 'signlaw2.AlertsOwed'. -/
def alertsOwedCard : Claim7 := { stood := { row := alertsOwedRow, standIns := [], harness := (true, "1c53ad4ad5b1973a9b33f5606ad59fd6ea239f2fe53501007a902453ffbbbb87"), looks := false }, kinds := [], alts := [], laidByText := true, laidKinds := [.data, .pinned], laidTests := true, laidLooks := .later }
def AlertsOwedCardSaid : Prop := Claim7.holds Tryz.pinned (.plain (OpenSpec.ofChange alertsOwedSpec)) alertsOwedCard

/-- THE SECOND FORM's CARD OF 'signlaw2.AlertsShown'. -/
def alertsShownUptoCard : Claim7 := { stood := { row := alertsShownUptoRow, standIns := [], harness := (true, "1c53ad4ad5b1973a9b33f5606ad59fd6ea239f2fe53501007a902453ffbbbb87"), looks := false }, kinds := [], alts := [], laidByText := true, laidKinds := [.data, .pinned], laidTests := true, laidLooks := .later }
def AlertsShownUptoCardSaid : Prop := Claim7.holds Tryz.pinned (.plain (OpenSpec.upto alertsShownSpec)) alertsShownUptoCard

/-- THE SECOND FORM's CARD OF 'signlaw2.AlertsOwed'. -/
def alertsOwedUptoCard : Claim7 := { stood := { row := alertsOwedUptoRow, standIns := [], harness := (true, "1c53ad4ad5b1973a9b33f5606ad59fd6ea239f2fe53501007a902453ffbbbb87"), looks := false }, kinds := [], alts := [], laidByText := true, laidKinds := [.data, .pinned], laidTests := true, laidLooks := .later }
def AlertsOwedUptoCardSaid : Prop := Claim7.holds Tryz.pinned (.plain (OpenSpec.upto alertsOwedSpec)) alertsOwedUptoCard
end Rows
end Go.Proofs.YthcgpcmeffkijaaGreatDoor
