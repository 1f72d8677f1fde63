/-
  DERIVED. GIVEN WITH THE SEED: THE CARDS: each row of YtkipmdkhhpicbaaGreatDoorRows.lean that lists a variable, with what it lists TIED to the program's text (the seventh form; the later family's looks); each row that meets fmt, with fmt's text TOLD by the authors' own Lean function (tested against real Go, not proved from fmt's source: count such statements apart). THE CARD IS WHAT COUNTS. Prove the row's statement (the work); the ties are given (YtkipmdkhhpicbaaGreatDoorTie.lean); close each card by the builder's one call (the guide's Derived/Test/ToyasCard.lean, 'card_holds'). Laid BY PROGRAM, IN A SANDBOX (cutbox-door.mjs). By AI agents, Wed Nov 11 2026. No macro, syntax, notation, axiom, sorry.
-/
import Derived.Test.YtkipmdkhhpicbaaGreatDoorRows
import GoSem.ClaimSeven
namespace Go.Proofs.YtkipmdkhhpicbaaGreatDoor
namespace Rows

/-- THE TIED CARD OF 'signtop.TopAreasAreSeen'. -/
def topAreasAreSeenCard : Claim7 := { stood := { row := topAreasAreSeenRow, standIns := [], harness := (true, "e2bbb047d326f7b0d7ef7a658233d0e704ea4a833b4ffc4ea146f6872825ca01"), looks := false }, kinds := [], alts := [], laidByText := true, laidKinds := [.data, .pinned], laidTests := true, laidLooks := .later }
def TopAreasAreSeenCardSaid : Prop := Claim7.holds Tryz.pinned (.plain (OpenSpec.ofChange topAreasAreSeenSpec)) topAreasAreSeenCard

/-- THE TIED CARD OF 'signtop.TopAlertsOverAll'. -/
def topAlertsOverAllCard : Claim7 := { stood := { row := topAlertsOverAllRow, standIns := [], harness := (true, "e2bbb047d326f7b0d7ef7a658233d0e704ea4a833b4ffc4ea146f6872825ca01"), looks := false }, kinds := [], alts := [], laidByText := true, laidKinds := [.data, .pinned], laidTests := true, laidLooks := .later }
def TopAlertsOverAllCardSaid : Prop := Claim7.holds Tryz.pinned (.plain (OpenSpec.ofChange topAlertsOverAllSpec)) topAlertsOverAllCard

/-- THE TIED CARD OF 'signkeep2.EntriesInAnyOrder'. -/
def entriesInAnyOrderCard : Claim7 := { stood := { row := entriesInAnyOrderRow, standIns := [], harness := (true, "e2bbb047d326f7b0d7ef7a658233d0e704ea4a833b4ffc4ea146f6872825ca01"), looks := false }, kinds := [], alts := [], laidByText := true, laidKinds := [.data, .pinned], laidTests := true, laidLooks := .later }
def EntriesInAnyOrderCardSaid : Prop := Claim7.holds Tryz.pinned (.plain (OpenSpec.ofChange entriesInAnyOrderSpec)) entriesInAnyOrderCard

/-- THE TIED CARD OF 'signkeep2.DebtsAreJust'. -/
def debtsAreJustCard : Claim7 := { stood := { row := debtsAreJustRow, standIns := [], harness := (true, "e2bbb047d326f7b0d7ef7a658233d0e704ea4a833b4ffc4ea146f6872825ca01"), looks := false }, kinds := [], alts := [], laidByText := true, laidKinds := [.data, .pinned], laidTests := true, laidLooks := .later }
def DebtsAreJustCardSaid : Prop := Claim7.holds Tryz.pinned (.plain (OpenSpec.ofChange debtsAreJustSpec)) debtsAreJustCard

/-- THE TIED CARD OF 'signkeep2.NextIsNext'. -/
def nextIsNextCard : Claim7 := { stood := { row := nextIsNextRow, standIns := [], harness := (true, "e2bbb047d326f7b0d7ef7a658233d0e704ea4a833b4ffc4ea146f6872825ca01"), looks := false }, kinds := [], alts := [], laidByText := true, laidKinds := [.data, .pinned], laidTests := true, laidLooks := .later }
def NextIsNextCardSaid : Prop := Claim7.holds Tryz.pinned (.plain (OpenSpec.ofChange nextIsNextSpec)) nextIsNextCard

/-- THE TIED CARD OF 'signkeep2.AlertsWhereTheyShould'. -/
def alertsWhereTheyShouldCard : Claim7 := { stood := { row := alertsWhereTheyShouldRow, standIns := [], harness := (true, "e2bbb047d326f7b0d7ef7a658233d0e704ea4a833b4ffc4ea146f6872825ca01"), looks := false }, kinds := [], alts := [], laidByText := true, laidKinds := [.data, .pinned], laidTests := true, laidLooks := .later }
def AlertsWhereTheyShouldCardSaid : Prop := Claim7.holds Tryz.pinned (.plain (OpenSpec.ofChange alertsWhereTheyShouldSpec)) alertsWhereTheyShouldCard

/-- THE TIED CARD OF 'signkeep2.AlertsGiveWay'. -/
def alertsGiveWayCard : Claim7 := { stood := { row := alertsGiveWayRow, standIns := [], harness := (true, "e2bbb047d326f7b0d7ef7a658233d0e704ea4a833b4ffc4ea146f6872825ca01"), looks := false }, kinds := [], alts := [], laidByText := true, laidKinds := [.data, .pinned], laidTests := true, laidLooks := .later }
def AlertsGiveWayCardSaid : Prop := Claim7.holds Tryz.pinned (.plain (OpenSpec.ofChange alertsGiveWaySpec)) alertsGiveWayCard

/-- THE TIED CARD OF 'signkeep2.SchedulesAgree'. -/
def schedulesAgreeCard : Claim7 := { stood := { row := schedulesAgreeRow, standIns := [], harness := (true, "e2bbb047d326f7b0d7ef7a658233d0e704ea4a833b4ffc4ea146f6872825ca01"), looks := false }, kinds := [], alts := [], laidByText := true, laidKinds := [.data, .pinned], laidTests := true, laidLooks := .later }
def SchedulesAgreeCardSaid : Prop := Claim7.holds Tryz.pinned (.plain (OpenSpec.ofChange schedulesAgreeSpec)) schedulesAgreeCard

/-- THE TIED CARD OF 'signkeep2.ScreensStay'. -/
def screensStayCard : Claim7 := { stood := { row := screensStayRow, standIns := [], harness := (true, "e2bbb047d326f7b0d7ef7a658233d0e704ea4a833b4ffc4ea146f6872825ca01"), looks := false }, kinds := [], alts := [], laidByText := true, laidKinds := [.data, .pinned], laidTests := true, laidLooks := .later }
def ScreensStayCardSaid : Prop := Claim7.holds Tryz.pinned (.plain (OpenSpec.ofChange screensStaySpec)) screensStayCard

/-- THE TIED CARD OF 'signkeep2.SchedulesStay'. -/
def schedulesStayCard : Claim7 := { stood := { row := schedulesStayRow, standIns := [], harness := (true, "e2bbb047d326f7b0d7ef7a658233d0e704ea4a833b4ffc4ea146f6872825ca01"), looks := false }, kinds := [], alts := [], laidByText := true, laidKinds := [.data, .pinned], laidTests := true, laidLooks := .later }
def SchedulesStayCardSaid : Prop := Claim7.holds Tryz.pinned (.plain (OpenSpec.ofChange schedulesStaySpec)) schedulesStayCard

/-- THE TIED CARD OF 'signkeep2.AlertsStay'. -/
def alertsStayCard : Claim7 := { stood := { row := alertsStayRow, standIns := [], harness := (true, "e2bbb047d326f7b0d7ef7a658233d0e704ea4a833b4ffc4ea146f6872825ca01"), looks := false }, kinds := [], alts := [], laidByText := true, laidKinds := [.data, .pinned], laidTests := true, laidLooks := .later }
def AlertsStayCardSaid : Prop := Claim7.holds Tryz.pinned (.plain (OpenSpec.ofChange alertsStaySpec)) alertsStayCard

/-- THE SECOND FORM's CARD OF 'signtop.TopAreasAreSeen'. -/
def topAreasAreSeenUptoCard : Claim7 := { stood := { row := topAreasAreSeenUptoRow, standIns := [], harness := (true, "e2bbb047d326f7b0d7ef7a658233d0e704ea4a833b4ffc4ea146f6872825ca01"), looks := false }, kinds := [], alts := [], laidByText := true, laidKinds := [.data, .pinned], laidTests := true, laidLooks := .later }
def TopAreasAreSeenUptoCardSaid : Prop := Claim7.holds Tryz.pinned (.plain (OpenSpec.upto topAreasAreSeenSpec)) topAreasAreSeenUptoCard

/-- THE SECOND FORM's CARD OF 'signtop.TopAlertsOverAll'. -/
def topAlertsOverAllUptoCard : Claim7 := { stood := { row := topAlertsOverAllUptoRow, standIns := [], harness := (true, "e2bbb047d326f7b0d7ef7a658233d0e704ea4a833b4ffc4ea146f6872825ca01"), looks := false }, kinds := [], alts := [], laidByText := true, laidKinds := [.data, .pinned], laidTests := true, laidLooks := .later }
def TopAlertsOverAllUptoCardSaid : Prop := Claim7.holds Tryz.pinned (.plain (OpenSpec.upto topAlertsOverAllSpec)) topAlertsOverAllUptoCard

/-- THE SECOND FORM's CARD OF 'signkeep2.EntriesInAnyOrder'. -/
def entriesInAnyOrderUptoCard : Claim7 := { stood := { row := entriesInAnyOrderUptoRow, standIns := [], harness := (true, "e2bbb047d326f7b0d7ef7a658233d0e704ea4a833b4ffc4ea146f6872825ca01"), looks := false }, kinds := [], alts := [], laidByText := true, laidKinds := [.data, .pinned], laidTests := true, laidLooks := .later }
def EntriesInAnyOrderUptoCardSaid : Prop := Claim7.holds Tryz.pinned (.plain (OpenSpec.upto entriesInAnyOrderSpec)) entriesInAnyOrderUptoCard

/-- THE SECOND FORM's CARD OF 'signkeep2.DebtsAreJust'. -/
def debtsAreJustUptoCard : Claim7 := { stood := { row := debtsAreJustUptoRow, standIns := [], harness := (true, "e2bbb047d326f7b0d7ef7a658233d0e704ea4a833b4ffc4ea146f6872825ca01"), looks := false }, kinds := [], alts := [], laidByText := true, laidKinds := [.data, .pinned], laidTests := true, laidLooks := .later }
def DebtsAreJustUptoCardSaid : Prop := Claim7.holds Tryz.pinned (.plain (OpenSpec.upto debtsAreJustSpec)) debtsAreJustUptoCard

/-- THE SECOND FORM's CARD OF 'signkeep2.NextIsNext'. -/
def nextIsNextUptoCard : Claim7 := { stood := { row := nextIsNextUptoRow, standIns := [], harness := (true, "e2bbb047d326f7b0d7ef7a658233d0e704ea4a833b4ffc4ea146f6872825ca01"), looks := false }, kinds := [], alts := [], laidByText := true, laidKinds := [.data, .pinned], laidTests := true, laidLooks := .later }
def NextIsNextUptoCardSaid : Prop := Claim7.holds Tryz.pinned (.plain (OpenSpec.upto nextIsNextSpec)) nextIsNextUptoCard

/-- THE SECOND FORM's CARD OF 'signkeep2.AlertsWhereTheyShould'. -/
def alertsWhereTheyShouldUptoCard : Claim7 := { stood := { row := alertsWhereTheyShouldUptoRow, standIns := [], harness := (true, "e2bbb047d326f7b0d7ef7a658233d0e704ea4a833b4ffc4ea146f6872825ca01"), looks := false }, kinds := [], alts := [], laidByText := true, laidKinds := [.data, .pinned], laidTests := true, laidLooks := .later }
def AlertsWhereTheyShouldUptoCardSaid : Prop := Claim7.holds Tryz.pinned (.plain (OpenSpec.upto alertsWhereTheyShouldSpec)) alertsWhereTheyShouldUptoCard

/-- THE SECOND FORM's CARD OF 'signkeep2.AlertsGiveWay'. -/
def alertsGiveWayUptoCard : Claim7 := { stood := { row := alertsGiveWayUptoRow, standIns := [], harness := (true, "e2bbb047d326f7b0d7ef7a658233d0e704ea4a833b4ffc4ea146f6872825ca01"), looks := false }, kinds := [], alts := [], laidByText := true, laidKinds := [.data, .pinned], laidTests := true, laidLooks := .later }
def AlertsGiveWayUptoCardSaid : Prop := Claim7.holds Tryz.pinned (.plain (OpenSpec.upto alertsGiveWaySpec)) alertsGiveWayUptoCard

/-- THE SECOND FORM's CARD OF 'signkeep2.SchedulesAgree'. -/
def schedulesAgreeUptoCard : Claim7 := { stood := { row := schedulesAgreeUptoRow, standIns := [], harness := (true, "e2bbb047d326f7b0d7ef7a658233d0e704ea4a833b4ffc4ea146f6872825ca01"), looks := false }, kinds := [], alts := [], laidByText := true, laidKinds := [.data, .pinned], laidTests := true, laidLooks := .later }
def SchedulesAgreeUptoCardSaid : Prop := Claim7.holds Tryz.pinned (.plain (OpenSpec.upto schedulesAgreeSpec)) schedulesAgreeUptoCard

/-- THE SECOND FORM's CARD OF 'signkeep2.ScreensStay'. -/
def screensStayUptoCard : Claim7 := { stood := { row := screensStayUptoRow, standIns := [], harness := (true, "e2bbb047d326f7b0d7ef7a658233d0e704ea4a833b4ffc4ea146f6872825ca01"), looks := false }, kinds := [], alts := [], laidByText := true, laidKinds := [.data, .pinned], laidTests := true, laidLooks := .later }
def ScreensStayUptoCardSaid : Prop := Claim7.holds Tryz.pinned (.plain (OpenSpec.upto screensStaySpec)) screensStayUptoCard

/-- THE SECOND FORM's CARD OF 'signkeep2.SchedulesStay'. -/
def schedulesStayUptoCard : Claim7 := { stood := { row := schedulesStayUptoRow, standIns := [], harness := (true, "e2bbb047d326f7b0d7ef7a658233d0e704ea4a833b4ffc4ea146f6872825ca01"), looks := false }, kinds := [], alts := [], laidByText := true, laidKinds := [.data, .pinned], laidTests := true, laidLooks := .later }
def SchedulesStayUptoCardSaid : Prop := Claim7.holds Tryz.pinned (.plain (OpenSpec.upto schedulesStaySpec)) schedulesStayUptoCard

/-- THE SECOND FORM's CARD OF 'signkeep2.AlertsStay'. -/
def alertsStayUptoCard : Claim7 := { stood := { row := alertsStayUptoRow, standIns := [], harness := (true, "e2bbb047d326f7b0d7ef7a658233d0e704ea4a833b4ffc4ea146f6872825ca01"), looks := false }, kinds := [], alts := [], laidByText := true, laidKinds := [.data, .pinned], laidTests := true, laidLooks := .later }
def AlertsStayUptoCardSaid : Prop := Claim7.holds Tryz.pinned (.plain (OpenSpec.upto alertsStaySpec)) alertsStayUptoCard
end Rows
end Go.Proofs.YtkipmdkhhpicbaaGreatDoor
