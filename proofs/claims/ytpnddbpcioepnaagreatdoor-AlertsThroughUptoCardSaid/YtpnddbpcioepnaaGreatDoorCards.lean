/-
  DERIVED. GIVEN WITH THE SEED: THE CARDS: each row of YtpnddbpcioepnaaGreatDoorRows.lean that lists a variable, with what it lists TIED to the program's text (the seventh form; the later family's looks); each row that meets fmt, with fmt's text TOLD by the authors' own Lean function (tested against real Go, not proved from fmt's source: count such statements apart). THE CARD IS WHAT COUNTS. Prove the row's statement (the work); the ties are given (YtpnddbpcioepnaaGreatDoorTie.lean); close each card by the builder's one call (the guide's Derived/Test/ToyasCard.lean, 'card_holds'). Laid BY PROGRAM, IN A SANDBOX (cutbox-door.mjs). By AI agents, Wed Nov 11 2026. No macro, syntax, notation, axiom, sorry.
-/
import Derived.Test.YtpnddbpcioepnaaGreatDoorRows
import GoSem.ClaimSeven
namespace Go.Proofs.YtpnddbpcioepnaaGreatDoor
namespace Rows

/-- THE TIED CARD OF 'signkeep2.DebtsAreJust'. -/
def debtsAreJustCard : Claim7 := { stood := { row := debtsAreJustRow, standIns := [], harness := (true, "a5bbd9e28ded643ae78b914b977480a4da5f9987155f4a5a16d819ff7f9ec83b"), looks := false }, kinds := [], alts := [], laidByText := true, laidKinds := [.data, .pinned], laidTests := true, laidLooks := .later }
def DebtsAreJustCardSaid : Prop := Claim7.holds Tryz.pinned (.plain (OpenSpec.ofChange debtsAreJustSpec)) debtsAreJustCard

/-- THE TIED CARD OF 'signlaw2.AlertsMerge'. -/
def alertsMergeCard : Claim7 := { stood := { row := alertsMergeRow, standIns := [], harness := (true, "a5bbd9e28ded643ae78b914b977480a4da5f9987155f4a5a16d819ff7f9ec83b"), looks := false }, kinds := [], alts := [], laidByText := true, laidKinds := [.data, .pinned], laidTests := true, laidLooks := .later }
def AlertsMergeCardSaid : Prop := Claim7.holds Tryz.pinned (.plain (OpenSpec.ofChange alertsMergeSpec)) alertsMergeCard

/-- THE TIED CARD OF 'signlaw2.AlertsThrough'. -/
def alertsThroughCard : Claim7 := { stood := { row := alertsThroughRow, standIns := [], harness := (true, "a5bbd9e28ded643ae78b914b977480a4da5f9987155f4a5a16d819ff7f9ec83b"), looks := false }, kinds := [], alts := [], laidByText := true, laidKinds := [.data, .pinned], laidTests := true, laidLooks := .later }
def AlertsThroughCardSaid : Prop := Claim7.holds Tryz.pinned (.plain (OpenSpec.ofChange alertsThroughSpec)) alertsThroughCard

/-- THE SECOND FORM's CARD OF 'signkeep2.DebtsAreJust'. -/
def debtsAreJustUptoCard : Claim7 := { stood := { row := debtsAreJustUptoRow, standIns := [], harness := (true, "a5bbd9e28ded643ae78b914b977480a4da5f9987155f4a5a16d819ff7f9ec83b"), looks := false }, kinds := [], alts := [], laidByText := true, laidKinds := [.data, .pinned], laidTests := true, laidLooks := .later }
def DebtsAreJustUptoCardSaid : Prop := Claim7.holds Tryz.pinned (.plain (OpenSpec.upto debtsAreJustSpec)) debtsAreJustUptoCard

/-- THE SECOND FORM's CARD OF 'signlaw2.AlertsMerge'. -/
def alertsMergeUptoCard : Claim7 := { stood := { row := alertsMergeUptoRow, standIns := [], harness := (true, "a5bbd9e28ded643ae78b914b977480a4da5f9987155f4a5a16d819ff7f9ec83b"), looks := false }, kinds := [], alts := [], laidByText := true, laidKinds := [.data, .pinned], laidTests := true, laidLooks := .later }
def AlertsMergeUptoCardSaid : Prop := Claim7.holds Tryz.pinned (.plain (OpenSpec.upto alertsMergeSpec)) alertsMergeUptoCard

/-- THE SECOND FORM's CARD OF 'signlaw2.AlertsThrough'. -/
def alertsThroughUptoCard : Claim7 := { stood := { row := alertsThroughUptoRow, standIns := [], harness := (true, "a5bbd9e28ded643ae78b914b977480a4da5f9987155f4a5a16d819ff7f9ec83b"), looks := false }, kinds := [], alts := [], laidByText := true, laidKinds := [.data, .pinned], laidTests := true, laidLooks := .later }
def AlertsThroughUptoCardSaid : Prop := Claim7.holds Tryz.pinned (.plain (OpenSpec.upto alertsThroughSpec)) alertsThroughUptoCard
end Rows
end Go.Proofs.YtpnddbpcioepnaaGreatDoor
