/-
  DERIVED. GIVEN WITH THE SEED: THE CARDS: each row of YtehmcdmjhdlcgaaGreatDoorRows.lean that lists a variable, with what it lists TIED to the program's text (the seventh form; the later family's looks); each row that meets fmt, with fmt's text TOLD by the authors' own Lean function (tested against real Go, not proved from fmt's source: count such statements apart). THE CARD IS WHAT COUNTS. Prove the row's statement (the work); the ties are given (YtehmcdmjhdlcgaaGreatDoorTie.lean); close each card by the builder's one call (the guide's Derived/Test/ToyasCard.lean, 'card_holds'). Laid BY PROGRAM, IN A SANDBOX (cutbox-door.mjs). By AI agents, Wed Nov 11 2026. No macro, syntax, notation, axiom, sorry.
-/
import Derived.Test.YtehmcdmjhdlcgaaGreatDoorRows
import GoSem.ClaimSeven
namespace Go.Proofs.YtehmcdmjhdlcgaaGreatDoor
namespace Rows

/-- THE TIED CARD OF 'signkeep2.RegionsSame'. -/
def regionsSameCard : Claim7 := { stood := { row := regionsSameRow, standIns := [], harness := (true, "e1f71fdbeefe41b5bd6c0fc965e97b55e9c98e0c4785e496407c44ae1e84b99b"), looks := false }, kinds := [], alts := [], laidByText := true, laidKinds := [.data, .pinned], laidTests := true, laidLooks := .later }
def RegionsSameCardSaid : Prop := Claim7.holds Tryz.pinned (.plain (OpenSpec.ofChange regionsSameSpec)) regionsSameCard

/-- THE TIED CARD OF 'signkeep2.TurnsComeBack'. -/
def turnsComeBackCard : Claim7 := { stood := { row := turnsComeBackRow, standIns := [], harness := (true, "e1f71fdbeefe41b5bd6c0fc965e97b55e9c98e0c4785e496407c44ae1e84b99b"), looks := false }, kinds := [], alts := [], laidByText := true, laidKinds := [.data, .pinned], laidTests := true, laidLooks := .later }
def TurnsComeBackCardSaid : Prop := Claim7.holds Tryz.pinned (.plain (OpenSpec.ofChange turnsComeBackSpec)) turnsComeBackCard

/-- THE TIED CARD OF 'signkeep2.ScalesFill'. -/
def scalesFillCard : Claim7 := { stood := { row := scalesFillRow, standIns := [], harness := (true, "e1f71fdbeefe41b5bd6c0fc965e97b55e9c98e0c4785e496407c44ae1e84b99b"), looks := false }, kinds := [], alts := [], laidByText := true, laidKinds := [.data, .pinned], laidTests := true, laidLooks := .later }
def ScalesFillCardSaid : Prop := Claim7.holds Tryz.pinned (.plain (OpenSpec.ofChange scalesFillSpec)) scalesFillCard

/-- THE TIED CARD OF 'signkeep2.FitsKeepForm'. -/
def fitsKeepFormCard : Claim7 := { stood := { row := fitsKeepFormRow, standIns := [], harness := (true, "e1f71fdbeefe41b5bd6c0fc965e97b55e9c98e0c4785e496407c44ae1e84b99b"), looks := false }, kinds := [], alts := [], laidByText := true, laidKinds := [.data, .pinned], laidTests := true, laidLooks := .later }
def FitsKeepFormCardSaid : Prop := Claim7.holds Tryz.pinned (.plain (OpenSpec.ofChange fitsKeepFormSpec)) fitsKeepFormCard

/-- THE TIED CARD OF 'signkeep2.LayoutsAreWhole'. -/
def layoutsAreWholeCard : Claim7 := { stood := { row := layoutsAreWholeRow, standIns := [], harness := (true, "e1f71fdbeefe41b5bd6c0fc965e97b55e9c98e0c4785e496407c44ae1e84b99b"), looks := false }, kinds := [], alts := [], laidByText := true, laidKinds := [.data, .pinned], laidTests := true, laidLooks := .later }
def LayoutsAreWholeCardSaid : Prop := Claim7.holds Tryz.pinned (.plain (OpenSpec.ofChange layoutsAreWholeSpec)) layoutsAreWholeCard

/-- THE TIED CARD OF 'signkeep2.PartsAndDark'. -/
def partsAndDarkCard : Claim7 := { stood := { row := partsAndDarkRow, standIns := [], harness := (true, "e1f71fdbeefe41b5bd6c0fc965e97b55e9c98e0c4785e496407c44ae1e84b99b"), looks := false }, kinds := [], alts := [], laidByText := true, laidKinds := [.data, .pinned], laidTests := true, laidLooks := .later }
def PartsAndDarkCardSaid : Prop := Claim7.holds Tryz.pinned (.plain (OpenSpec.ofChange partsAndDarkSpec)) partsAndDarkCard

/-- THE TIED CARD OF 'signkeep2.ViewsAreApart'. -/
def viewsAreApartCard : Claim7 := { stood := { row := viewsAreApartRow, standIns := [], harness := (true, "e1f71fdbeefe41b5bd6c0fc965e97b55e9c98e0c4785e496407c44ae1e84b99b"), looks := false }, kinds := [], alts := [], laidByText := true, laidKinds := [.data, .pinned], laidTests := true, laidLooks := .later }
def ViewsAreApartCardSaid : Prop := Claim7.holds Tryz.pinned (.plain (OpenSpec.ofChange viewsAreApartSpec)) viewsAreApartCard

/-- THE TIED CARD OF 'signkeep2.ClocksComeBack'. -/
def clocksComeBackCard : Claim7 := { stood := { row := clocksComeBackRow, standIns := [], harness := (true, "e1f71fdbeefe41b5bd6c0fc965e97b55e9c98e0c4785e496407c44ae1e84b99b"), looks := false }, kinds := [], alts := [], laidByText := true, laidKinds := [.data, .pinned], laidTests := true, laidLooks := .later }
def ClocksComeBackCardSaid : Prop := Claim7.holds Tryz.pinned (.plain (OpenSpec.ofChange clocksComeBackSpec)) clocksComeBackCard

/-- THE TIED CARD OF 'signkeep2.PacesGrow'. -/
def pacesGrowCard : Claim7 := { stood := { row := pacesGrowRow, standIns := [], harness := (true, "e1f71fdbeefe41b5bd6c0fc965e97b55e9c98e0c4785e496407c44ae1e84b99b"), looks := false }, kinds := [], alts := [], laidByText := true, laidKinds := [.data, .pinned], laidTests := true, laidLooks := .later }
def PacesGrowCardSaid : Prop := Claim7.holds Tryz.pinned (.plain (OpenSpec.ofChange pacesGrowSpec)) pacesGrowCard

/-- THE TIED CARD OF 'signkeep2.IdleAndOn'. -/
def idleAndOnCard : Claim7 := { stood := { row := idleAndOnRow, standIns := [], harness := (true, "e1f71fdbeefe41b5bd6c0fc965e97b55e9c98e0c4785e496407c44ae1e84b99b"), looks := false }, kinds := [], alts := [], laidByText := true, laidKinds := [.data, .pinned], laidTests := true, laidLooks := .later }
def IdleAndOnCardSaid : Prop := Claim7.holds Tryz.pinned (.plain (OpenSpec.ofChange idleAndOnSpec)) idleAndOnCard

/-- THE TIED CARD OF 'signkeep2.MatchesAreOnce'. -/
def matchesAreOnceCard : Claim7 := { stood := { row := matchesAreOnceRow, standIns := [], harness := (true, "e1f71fdbeefe41b5bd6c0fc965e97b55e9c98e0c4785e496407c44ae1e84b99b"), looks := false }, kinds := [], alts := [], laidByText := true, laidKinds := [.data, .pinned], laidTests := true, laidLooks := .later }
def MatchesAreOnceCardSaid : Prop := Claim7.holds Tryz.pinned (.plain (OpenSpec.ofChange matchesAreOnceSpec)) matchesAreOnceCard

/-- THE SECOND FORM's CARD OF 'signkeep2.RegionsSame'. -/
def regionsSameUptoCard : Claim7 := { stood := { row := regionsSameUptoRow, standIns := [], harness := (true, "e1f71fdbeefe41b5bd6c0fc965e97b55e9c98e0c4785e496407c44ae1e84b99b"), looks := false }, kinds := [], alts := [], laidByText := true, laidKinds := [.data, .pinned], laidTests := true, laidLooks := .later }
def RegionsSameUptoCardSaid : Prop := Claim7.holds Tryz.pinned (.plain (OpenSpec.upto regionsSameSpec)) regionsSameUptoCard

/-- THE SECOND FORM's CARD OF 'signkeep2.TurnsComeBack'. -/
def turnsComeBackUptoCard : Claim7 := { stood := { row := turnsComeBackUptoRow, standIns := [], harness := (true, "e1f71fdbeefe41b5bd6c0fc965e97b55e9c98e0c4785e496407c44ae1e84b99b"), looks := false }, kinds := [], alts := [], laidByText := true, laidKinds := [.data, .pinned], laidTests := true, laidLooks := .later }
def TurnsComeBackUptoCardSaid : Prop := Claim7.holds Tryz.pinned (.plain (OpenSpec.upto turnsComeBackSpec)) turnsComeBackUptoCard

/-- THE SECOND FORM's CARD OF 'signkeep2.ScalesFill'. -/
def scalesFillUptoCard : Claim7 := { stood := { row := scalesFillUptoRow, standIns := [], harness := (true, "e1f71fdbeefe41b5bd6c0fc965e97b55e9c98e0c4785e496407c44ae1e84b99b"), looks := false }, kinds := [], alts := [], laidByText := true, laidKinds := [.data, .pinned], laidTests := true, laidLooks := .later }
def ScalesFillUptoCardSaid : Prop := Claim7.holds Tryz.pinned (.plain (OpenSpec.upto scalesFillSpec)) scalesFillUptoCard

/-- THE SECOND FORM's CARD OF 'signkeep2.FitsKeepForm'. -/
def fitsKeepFormUptoCard : Claim7 := { stood := { row := fitsKeepFormUptoRow, standIns := [], harness := (true, "e1f71fdbeefe41b5bd6c0fc965e97b55e9c98e0c4785e496407c44ae1e84b99b"), looks := false }, kinds := [], alts := [], laidByText := true, laidKinds := [.data, .pinned], laidTests := true, laidLooks := .later }
def FitsKeepFormUptoCardSaid : Prop := Claim7.holds Tryz.pinned (.plain (OpenSpec.upto fitsKeepFormSpec)) fitsKeepFormUptoCard

/-- THE SECOND FORM's CARD OF 'signkeep2.LayoutsAreWhole'. -/
def layoutsAreWholeUptoCard : Claim7 := { stood := { row := layoutsAreWholeUptoRow, standIns := [], harness := (true, "e1f71fdbeefe41b5bd6c0fc965e97b55e9c98e0c4785e496407c44ae1e84b99b"), looks := false }, kinds := [], alts := [], laidByText := true, laidKinds := [.data, .pinned], laidTests := true, laidLooks := .later }
def LayoutsAreWholeUptoCardSaid : Prop := Claim7.holds Tryz.pinned (.plain (OpenSpec.upto layoutsAreWholeSpec)) layoutsAreWholeUptoCard

/-- THE SECOND FORM's CARD OF 'signkeep2.PartsAndDark'. -/
def partsAndDarkUptoCard : Claim7 := { stood := { row := partsAndDarkUptoRow, standIns := [], harness := (true, "e1f71fdbeefe41b5bd6c0fc965e97b55e9c98e0c4785e496407c44ae1e84b99b"), looks := false }, kinds := [], alts := [], laidByText := true, laidKinds := [.data, .pinned], laidTests := true, laidLooks := .later }
def PartsAndDarkUptoCardSaid : Prop := Claim7.holds Tryz.pinned (.plain (OpenSpec.upto partsAndDarkSpec)) partsAndDarkUptoCard

/-- THE SECOND FORM's CARD OF 'signkeep2.ViewsAreApart'. -/
def viewsAreApartUptoCard : Claim7 := { stood := { row := viewsAreApartUptoRow, standIns := [], harness := (true, "e1f71fdbeefe41b5bd6c0fc965e97b55e9c98e0c4785e496407c44ae1e84b99b"), looks := false }, kinds := [], alts := [], laidByText := true, laidKinds := [.data, .pinned], laidTests := true, laidLooks := .later }
def ViewsAreApartUptoCardSaid : Prop := Claim7.holds Tryz.pinned (.plain (OpenSpec.upto viewsAreApartSpec)) viewsAreApartUptoCard

/-- THE SECOND FORM's CARD OF 'signkeep2.ClocksComeBack'. -/
def clocksComeBackUptoCard : Claim7 := { stood := { row := clocksComeBackUptoRow, standIns := [], harness := (true, "e1f71fdbeefe41b5bd6c0fc965e97b55e9c98e0c4785e496407c44ae1e84b99b"), looks := false }, kinds := [], alts := [], laidByText := true, laidKinds := [.data, .pinned], laidTests := true, laidLooks := .later }
def ClocksComeBackUptoCardSaid : Prop := Claim7.holds Tryz.pinned (.plain (OpenSpec.upto clocksComeBackSpec)) clocksComeBackUptoCard

/-- THE SECOND FORM's CARD OF 'signkeep2.PacesGrow'. -/
def pacesGrowUptoCard : Claim7 := { stood := { row := pacesGrowUptoRow, standIns := [], harness := (true, "e1f71fdbeefe41b5bd6c0fc965e97b55e9c98e0c4785e496407c44ae1e84b99b"), looks := false }, kinds := [], alts := [], laidByText := true, laidKinds := [.data, .pinned], laidTests := true, laidLooks := .later }
def PacesGrowUptoCardSaid : Prop := Claim7.holds Tryz.pinned (.plain (OpenSpec.upto pacesGrowSpec)) pacesGrowUptoCard

/-- THE SECOND FORM's CARD OF 'signkeep2.IdleAndOn'. -/
def idleAndOnUptoCard : Claim7 := { stood := { row := idleAndOnUptoRow, standIns := [], harness := (true, "e1f71fdbeefe41b5bd6c0fc965e97b55e9c98e0c4785e496407c44ae1e84b99b"), looks := false }, kinds := [], alts := [], laidByText := true, laidKinds := [.data, .pinned], laidTests := true, laidLooks := .later }
def IdleAndOnUptoCardSaid : Prop := Claim7.holds Tryz.pinned (.plain (OpenSpec.upto idleAndOnSpec)) idleAndOnUptoCard

/-- THE SECOND FORM's CARD OF 'signkeep2.MatchesAreOnce'. -/
def matchesAreOnceUptoCard : Claim7 := { stood := { row := matchesAreOnceUptoRow, standIns := [], harness := (true, "e1f71fdbeefe41b5bd6c0fc965e97b55e9c98e0c4785e496407c44ae1e84b99b"), looks := false }, kinds := [], alts := [], laidByText := true, laidKinds := [.data, .pinned], laidTests := true, laidLooks := .later }
def MatchesAreOnceUptoCardSaid : Prop := Claim7.holds Tryz.pinned (.plain (OpenSpec.upto matchesAreOnceSpec)) matchesAreOnceUptoCard
end Rows
end Go.Proofs.YtehmcdmjhdlcgaaGreatDoor
