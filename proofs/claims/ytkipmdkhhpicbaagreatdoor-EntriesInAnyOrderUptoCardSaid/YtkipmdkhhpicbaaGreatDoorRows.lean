/-
  NARROWER THAN 'FOR EVERY INPUT', by the rows' own cells (each row's printed sentence says how): TopAreasAreSeen: laid · TopAlertsOverAll: laid · EntriesInAnyOrder: laid · DebtsAreJust: laid · NextIsNext: laid · AlertsWhereTheyShould: laid · AlertsGiveWay: laid · SchedulesAgree: laid · ScreensStay: laid · SchedulesStay: laid · AlertsStay: laid.
  DERIVED. THE GIVEN ROWS OF THIS SEAT. 11 by the template 'for every input the law returns true; each argument reads behind the call as it read before'; 0 by the template 'total and deterministic' (their statements: YtkipmdkhhpicbaaGreatDoorTotals.lean).
  GIVEN WITH THE SEED: the statements are not yours to turn. If you find one false, say at which input.
  Laid BY PROGRAM, IN A SANDBOX (cutbox-rows.mjs): the forced cells as the released guide's own fill.sh prints them over the translation d8256161b3a8b5cf… (all of the seat's roots in one cut). By AI agents, Wed Nov 11 2026. No macro, syntax, notation, axiom, sorry.
-/
import Derived.Test.YtkipmdkhhpicbaaGreatDoorChecked
import GoSem.PinnedTables
import GoSem.Claim
import GoSem.ClaimJoined
import GoSem.ClaimMapViews
import Derived.JoinedTies
import Derived.KernelRfl
namespace Go.Proofs.YtkipmdkhhpicbaaGreatDoor
/- THE CELL 'sum', in the pinned program and in every row, IS THE sha256 OF THE DUMP (.gsa) THAT YtkipmdkhhpicbaaGreatDoorProg.lean LOADS. Nothing in Lean hashes anything: it is a label: what it is worth is what the hold of that sum in a sandbox is worth. -/
noncomputable def Tryz.pinned : Pinned := { name := "ytkipmdkhhpicbaagreatdoor", sum := "d8256161b3a8b5cfa21ea7eeb30b20df7dd2a61b4b4a1a70bd36f79be04c6535", checked := Tryz.checked }
namespace Rows
def none {H : Type} : Left H := { results := [], args := [] }

/- WHAT THE LISTED PACKAGE-LEVEL VARIABLES READ AS WHEN THE CALL BEGINS. Each datum BY PROGRAM (the guide's laid-datum.mjs) off the statement by which the dump's own 'gosem.cut.vars' lays the variable. In a bare row this is a premise. The card (YtkipmdkhhpicbaaGreatDoorCards.lean) ties it to the program's text. -/
def laid_unicode_utf8_acceptRanges {H : Type} : DataW H := .agg [.agg [.lit (.int .u8 128), .lit (.int .u8 191)], .agg [.lit (.int .u8 160), .lit (.int .u8 191)], .agg [.lit (.int .u8 128), .lit (.int .u8 159)], .agg [.lit (.int .u8 144), .lit (.int .u8 191)], .agg [.lit (.int .u8 128), .lit (.int .u8 143)], .agg [.lit (.int .u8 0), .lit (.int .u8 0)], .agg [.lit (.int .u8 0), .lit (.int .u8 0)], .agg [.lit (.int .u8 0), .lit (.int .u8 0)], .agg [.lit (.int .u8 0), .lit (.int .u8 0)], .agg [.lit (.int .u8 0), .lit (.int .u8 0)], .agg [.lit (.int .u8 0), .lit (.int .u8 0)], .agg [.lit (.int .u8 0), .lit (.int .u8 0)], .agg [.lit (.int .u8 0), .lit (.int .u8 0)], .agg [.lit (.int .u8 0), .lit (.int .u8 0)], .agg [.lit (.int .u8 0), .lit (.int .u8 0)], .agg [.lit (.int .u8 0), .lit (.int .u8 0)]]
/-- One of Go's own tables, pinned by name: the form's constant. -/
def laid_unicode_utf8_first : DataW Unit := Go.Pinned.utf8First

/-- 'signtop.TopAreasAreSeen': WHATEVER THE INPUT: true; the input reads as it did. -/
def topAreasAreSeenSpec : ChangeSpec := { name := "topAreasAreSeen", fn := fun _ => fun
  | [d] => { results := [.lit (.bool true)], args := [d] }
  | _ => none }
def topAreasAreSeenRow : OpenClaim := { program := "ytkipmdkhhpicbaagreatdoor", sum := "d8256161b3a8b5cfa21ea7eeb30b20df7dd2a61b4b4a1a70bd36f79be04c6535", func := "signboard/signtop.TopAreasAreSeen", spec := "topAreasAreSeen", inPlace := ["internal/bytealg.IndexByteString", "internal/bytealg.IndexString", "internal/bytealg.abigen_runtime_cmpstring"], unfollowed := true, recurses := true, named := ["unicode/utf8.first", "unicode/utf8.acceptRanges", "internal/bytealg.MaxLen"], plainKeys := false, apart := false, laid := [("unicode/utf8.acceptRanges", laid_unicode_utf8_acceptRanges), ("unicode/utf8.first", laid_unicode_utf8_first)] }
def TopAreasAreSeenSaid : Prop := topAreasAreSeenRow.holds Tryz.pinned (OpenSpec.ofChange topAreasAreSeenSpec)

/-- ITS FALSE NEIGHBOUR: 'it returns false'. Refute it at one input. -/
def topAreasAreSeenWrong : ChangeSpec := { name := "topAreasAreSeen", fn := fun _ => fun
  | [d] => { results := [.lit (.bool false)], args := [d] }
  | _ => none }
def TopAreasAreSeenWrongFalsely : Prop := topAreasAreSeenRow.holds Tryz.pinned (OpenSpec.ofChange topAreasAreSeenWrong)

/-- 'signtop.TopAlertsOverAll': WHATEVER THE INPUT: true; the input reads as it did. -/
def topAlertsOverAllSpec : ChangeSpec := { name := "topAlertsOverAll", fn := fun _ => fun
  | [d] => { results := [.lit (.bool true)], args := [d] }
  | _ => none }
def topAlertsOverAllRow : OpenClaim := { program := "ytkipmdkhhpicbaagreatdoor", sum := "d8256161b3a8b5cfa21ea7eeb30b20df7dd2a61b4b4a1a70bd36f79be04c6535", func := "signboard/signtop.TopAlertsOverAll", spec := "topAlertsOverAll", inPlace := ["internal/bytealg.IndexByteString", "internal/bytealg.IndexString", "internal/bytealg.abigen_runtime_cmpstring"], unfollowed := true, recurses := true, named := ["unicode/utf8.first", "unicode/utf8.acceptRanges", "internal/bytealg.MaxLen"], plainKeys := false, apart := false, laid := [("unicode/utf8.acceptRanges", laid_unicode_utf8_acceptRanges), ("unicode/utf8.first", laid_unicode_utf8_first)] }
def TopAlertsOverAllSaid : Prop := topAlertsOverAllRow.holds Tryz.pinned (OpenSpec.ofChange topAlertsOverAllSpec)

/-- ITS FALSE NEIGHBOUR: 'it returns false'. Refute it at one input. -/
def topAlertsOverAllWrong : ChangeSpec := { name := "topAlertsOverAll", fn := fun _ => fun
  | [d] => { results := [.lit (.bool false)], args := [d] }
  | _ => none }
def TopAlertsOverAllWrongFalsely : Prop := topAlertsOverAllRow.holds Tryz.pinned (OpenSpec.ofChange topAlertsOverAllWrong)

/-- 'signkeep2.EntriesInAnyOrder': WHATEVER THE INPUT: true; the input reads as it did. -/
def entriesInAnyOrderSpec : ChangeSpec := { name := "entriesInAnyOrder", fn := fun _ => fun
  | [d] => { results := [.lit (.bool true)], args := [d] }
  | _ => none }
def entriesInAnyOrderRow : OpenClaim := { program := "ytkipmdkhhpicbaagreatdoor", sum := "d8256161b3a8b5cfa21ea7eeb30b20df7dd2a61b4b4a1a70bd36f79be04c6535", func := "signboard/signkeep2.EntriesInAnyOrder", spec := "entriesInAnyOrder", inPlace := ["internal/bytealg.abigen_runtime_cmpstring", "internal/bytealg.IndexByteString", "internal/bytealg.IndexString"], unfollowed := true, recurses := true, named := ["unicode/utf8.first", "unicode/utf8.acceptRanges", "internal/bytealg.MaxLen"], plainKeys := false, apart := false, laid := [("unicode/utf8.acceptRanges", laid_unicode_utf8_acceptRanges), ("unicode/utf8.first", laid_unicode_utf8_first)] }
def EntriesInAnyOrderSaid : Prop := entriesInAnyOrderRow.holds Tryz.pinned (OpenSpec.ofChange entriesInAnyOrderSpec)

/-- ITS FALSE NEIGHBOUR: 'it returns false'. Refute it at one input. -/
def entriesInAnyOrderWrong : ChangeSpec := { name := "entriesInAnyOrder", fn := fun _ => fun
  | [d] => { results := [.lit (.bool false)], args := [d] }
  | _ => none }
def EntriesInAnyOrderWrongFalsely : Prop := entriesInAnyOrderRow.holds Tryz.pinned (OpenSpec.ofChange entriesInAnyOrderWrong)

/-- 'signkeep2.DebtsAreJust': WHATEVER THE INPUT: true; the input reads as it did. -/
def debtsAreJustSpec : ChangeSpec := { name := "debtsAreJust", fn := fun _ => fun
  | [d] => { results := [.lit (.bool true)], args := [d] }
  | _ => none }
def debtsAreJustRow : OpenClaim := { program := "ytkipmdkhhpicbaagreatdoor", sum := "d8256161b3a8b5cfa21ea7eeb30b20df7dd2a61b4b4a1a70bd36f79be04c6535", func := "signboard/signkeep2.DebtsAreJust", spec := "debtsAreJust", inPlace := ["internal/bytealg.IndexByteString", "internal/bytealg.IndexString", "internal/bytealg.abigen_runtime_cmpstring"], unfollowed := true, recurses := true, named := ["unicode/utf8.first", "unicode/utf8.acceptRanges", "internal/bytealg.MaxLen"], plainKeys := false, apart := false, laid := [("unicode/utf8.acceptRanges", laid_unicode_utf8_acceptRanges), ("unicode/utf8.first", laid_unicode_utf8_first)] }
def DebtsAreJustSaid : Prop := debtsAreJustRow.holds Tryz.pinned (OpenSpec.ofChange debtsAreJustSpec)

/-- ITS FALSE NEIGHBOUR: 'it returns false'. Refute it at one input. -/
def debtsAreJustWrong : ChangeSpec := { name := "debtsAreJust", fn := fun _ => fun
  | [d] => { results := [.lit (.bool false)], args := [d] }
  | _ => none }
def DebtsAreJustWrongFalsely : Prop := debtsAreJustRow.holds Tryz.pinned (OpenSpec.ofChange debtsAreJustWrong)

/-- 'signkeep2.NextIsNext': WHATEVER THE INPUT: true; the input reads as it did. -/
def nextIsNextSpec : ChangeSpec := { name := "nextIsNext", fn := fun _ => fun
  | [d] => { results := [.lit (.bool true)], args := [d] }
  | _ => none }
def nextIsNextRow : OpenClaim := { program := "ytkipmdkhhpicbaagreatdoor", sum := "d8256161b3a8b5cfa21ea7eeb30b20df7dd2a61b4b4a1a70bd36f79be04c6535", func := "signboard/signkeep2.NextIsNext", spec := "nextIsNext", inPlace := ["internal/bytealg.abigen_runtime_cmpstring", "internal/bytealg.IndexByteString", "internal/bytealg.IndexString"], unfollowed := true, recurses := true, named := ["unicode/utf8.first", "unicode/utf8.acceptRanges", "internal/bytealg.MaxLen"], plainKeys := false, apart := false, laid := [("unicode/utf8.acceptRanges", laid_unicode_utf8_acceptRanges), ("unicode/utf8.first", laid_unicode_utf8_first)] }
def NextIsNextSaid : Prop := nextIsNextRow.holds Tryz.pinned (OpenSpec.ofChange nextIsNextSpec)

/-- ITS FALSE NEIGHBOUR: 'it returns false'. Refute it at one input. -/
def nextIsNextWrong : ChangeSpec := { name := "nextIsNext", fn := fun _ => fun
  | [d] => { results := [.lit (.bool false)], args := [d] }
  | _ => none }
def NextIsNextWrongFalsely : Prop := nextIsNextRow.holds Tryz.pinned (OpenSpec.ofChange nextIsNextWrong)

/-- 'signkeep2.AlertsWhereTheyShould': WHATEVER THE INPUT: true; the input reads as it did. -/
def alertsWhereTheyShouldSpec : ChangeSpec := { name := "alertsWhereTheyShould", fn := fun _ => fun
  | [d] => { results := [.lit (.bool true)], args := [d] }
  | _ => none }
def alertsWhereTheyShouldRow : OpenClaim := { program := "ytkipmdkhhpicbaagreatdoor", sum := "d8256161b3a8b5cfa21ea7eeb30b20df7dd2a61b4b4a1a70bd36f79be04c6535", func := "signboard/signkeep2.AlertsWhereTheyShould", spec := "alertsWhereTheyShould", inPlace := ["internal/bytealg.IndexByteString", "internal/bytealg.IndexString", "internal/bytealg.abigen_runtime_cmpstring"], unfollowed := true, recurses := true, named := ["unicode/utf8.first", "unicode/utf8.acceptRanges", "internal/bytealg.MaxLen"], plainKeys := false, apart := false, laid := [("unicode/utf8.acceptRanges", laid_unicode_utf8_acceptRanges), ("unicode/utf8.first", laid_unicode_utf8_first)] }
def AlertsWhereTheyShouldSaid : Prop := alertsWhereTheyShouldRow.holds Tryz.pinned (OpenSpec.ofChange alertsWhereTheyShouldSpec)

/-- ITS FALSE NEIGHBOUR: 'it returns false'. Refute it at one input. -/
def alertsWhereTheyShouldWrong : ChangeSpec := { name := "alertsWhereTheyShould", fn := fun _ => fun
  | [d] => { results := [.lit (.bool false)], args := [d] }
  | _ => none }
def AlertsWhereTheyShouldWrongFalsely : Prop := alertsWhereTheyShouldRow.holds Tryz.pinned (OpenSpec.ofChange alertsWhereTheyShouldWrong)

/-- 'signkeep2.AlertsGiveWay': WHATEVER THE INPUT: true; the input reads as it did. -/
def alertsGiveWaySpec : ChangeSpec := { name := "alertsGiveWay", fn := fun _ => fun
  | [d] => { results := [.lit (.bool true)], args := [d] }
  | _ => none }
def alertsGiveWayRow : OpenClaim := { program := "ytkipmdkhhpicbaagreatdoor", sum := "d8256161b3a8b5cfa21ea7eeb30b20df7dd2a61b4b4a1a70bd36f79be04c6535", func := "signboard/signkeep2.AlertsGiveWay", spec := "alertsGiveWay", inPlace := ["internal/bytealg.IndexByteString", "internal/bytealg.IndexString", "internal/bytealg.abigen_runtime_cmpstring"], unfollowed := true, recurses := true, named := ["unicode/utf8.first", "unicode/utf8.acceptRanges", "internal/bytealg.MaxLen"], plainKeys := false, apart := false, laid := [("unicode/utf8.acceptRanges", laid_unicode_utf8_acceptRanges), ("unicode/utf8.first", laid_unicode_utf8_first)] }
def AlertsGiveWaySaid : Prop := alertsGiveWayRow.holds Tryz.pinned (OpenSpec.ofChange alertsGiveWaySpec)

/-- ITS FALSE NEIGHBOUR: 'it returns false'. Refute it at one input. -/
def alertsGiveWayWrong : ChangeSpec := { name := "alertsGiveWay", fn := fun _ => fun
  | [d] => { results := [.lit (.bool false)], args := [d] }
  | _ => none }
def AlertsGiveWayWrongFalsely : Prop := alertsGiveWayRow.holds Tryz.pinned (OpenSpec.ofChange alertsGiveWayWrong)

/-- 'signkeep2.SchedulesAgree': WHATEVER THE INPUT: true; the input reads as it did. -/
def schedulesAgreeSpec : ChangeSpec := { name := "schedulesAgree", fn := fun _ => fun
  | [d] => { results := [.lit (.bool true)], args := [d] }
  | _ => none }
def schedulesAgreeRow : OpenClaim := { program := "ytkipmdkhhpicbaagreatdoor", sum := "d8256161b3a8b5cfa21ea7eeb30b20df7dd2a61b4b4a1a70bd36f79be04c6535", func := "signboard/signkeep2.SchedulesAgree", spec := "schedulesAgree", inPlace := ["internal/bytealg.abigen_runtime_cmpstring", "internal/bytealg.IndexByteString", "internal/bytealg.IndexString"], unfollowed := true, recurses := true, named := ["unicode/utf8.first", "unicode/utf8.acceptRanges", "internal/bytealg.MaxLen"], plainKeys := false, apart := false, laid := [("unicode/utf8.acceptRanges", laid_unicode_utf8_acceptRanges), ("unicode/utf8.first", laid_unicode_utf8_first)] }
def SchedulesAgreeSaid : Prop := schedulesAgreeRow.holds Tryz.pinned (OpenSpec.ofChange schedulesAgreeSpec)

/-- ITS FALSE NEIGHBOUR: 'it returns false'. Refute it at one input. -/
def schedulesAgreeWrong : ChangeSpec := { name := "schedulesAgree", fn := fun _ => fun
  | [d] => { results := [.lit (.bool false)], args := [d] }
  | _ => none }
def SchedulesAgreeWrongFalsely : Prop := schedulesAgreeRow.holds Tryz.pinned (OpenSpec.ofChange schedulesAgreeWrong)

/-- 'signkeep2.ScreensStay': WHATEVER THE INPUT: true; the input reads as it did. -/
def screensStaySpec : ChangeSpec := { name := "screensStay", fn := fun _ => fun
  | [d] => { results := [.lit (.bool true)], args := [d] }
  | _ => none }
def screensStayRow : OpenClaim := { program := "ytkipmdkhhpicbaagreatdoor", sum := "d8256161b3a8b5cfa21ea7eeb30b20df7dd2a61b4b4a1a70bd36f79be04c6535", func := "signboard/signkeep2.ScreensStay", spec := "screensStay", inPlace := ["internal/bytealg.IndexByteString", "internal/bytealg.abigen_runtime_cmpstring", "internal/bytealg.IndexString"], unfollowed := true, recurses := true, named := ["unicode/utf8.first", "unicode/utf8.acceptRanges", "internal/bytealg.MaxLen"], plainKeys := false, apart := false, laid := [("unicode/utf8.acceptRanges", laid_unicode_utf8_acceptRanges), ("unicode/utf8.first", laid_unicode_utf8_first)] }
def ScreensStaySaid : Prop := screensStayRow.holds Tryz.pinned (OpenSpec.ofChange screensStaySpec)

/-- ITS FALSE NEIGHBOUR: 'it returns false'. Refute it at one input. -/
def screensStayWrong : ChangeSpec := { name := "screensStay", fn := fun _ => fun
  | [d] => { results := [.lit (.bool false)], args := [d] }
  | _ => none }
def ScreensStayWrongFalsely : Prop := screensStayRow.holds Tryz.pinned (OpenSpec.ofChange screensStayWrong)

/-- 'signkeep2.SchedulesStay': WHATEVER THE INPUT: true; the input reads as it did. -/
def schedulesStaySpec : ChangeSpec := { name := "schedulesStay", fn := fun _ => fun
  | [d] => { results := [.lit (.bool true)], args := [d] }
  | _ => none }
def schedulesStayRow : OpenClaim := { program := "ytkipmdkhhpicbaagreatdoor", sum := "d8256161b3a8b5cfa21ea7eeb30b20df7dd2a61b4b4a1a70bd36f79be04c6535", func := "signboard/signkeep2.SchedulesStay", spec := "schedulesStay", inPlace := ["internal/bytealg.abigen_runtime_cmpstring", "internal/bytealg.IndexByteString", "internal/bytealg.IndexString"], unfollowed := true, recurses := true, named := ["unicode/utf8.first", "unicode/utf8.acceptRanges", "internal/bytealg.MaxLen"], plainKeys := false, apart := false, laid := [("unicode/utf8.acceptRanges", laid_unicode_utf8_acceptRanges), ("unicode/utf8.first", laid_unicode_utf8_first)] }
def SchedulesStaySaid : Prop := schedulesStayRow.holds Tryz.pinned (OpenSpec.ofChange schedulesStaySpec)

/-- ITS FALSE NEIGHBOUR: 'it returns false'. Refute it at one input. -/
def schedulesStayWrong : ChangeSpec := { name := "schedulesStay", fn := fun _ => fun
  | [d] => { results := [.lit (.bool false)], args := [d] }
  | _ => none }
def SchedulesStayWrongFalsely : Prop := schedulesStayRow.holds Tryz.pinned (OpenSpec.ofChange schedulesStayWrong)

/-- 'signkeep2.AlertsStay': WHATEVER THE INPUT: true; the input reads as it did. -/
def alertsStaySpec : ChangeSpec := { name := "alertsStay", fn := fun _ => fun
  | [d] => { results := [.lit (.bool true)], args := [d] }
  | _ => none }
def alertsStayRow : OpenClaim := { program := "ytkipmdkhhpicbaagreatdoor", sum := "d8256161b3a8b5cfa21ea7eeb30b20df7dd2a61b4b4a1a70bd36f79be04c6535", func := "signboard/signkeep2.AlertsStay", spec := "alertsStay", inPlace := ["internal/bytealg.IndexByteString", "internal/bytealg.IndexString", "internal/bytealg.abigen_runtime_cmpstring"], unfollowed := true, recurses := true, named := ["unicode/utf8.first", "unicode/utf8.acceptRanges", "internal/bytealg.MaxLen"], plainKeys := false, apart := false, laid := [("unicode/utf8.acceptRanges", laid_unicode_utf8_acceptRanges), ("unicode/utf8.first", laid_unicode_utf8_first)] }
def AlertsStaySaid : Prop := alertsStayRow.holds Tryz.pinned (OpenSpec.ofChange alertsStaySpec)

/-- ITS FALSE NEIGHBOUR: 'it returns false'. Refute it at one input. -/
def alertsStayWrong : ChangeSpec := { name := "alertsStay", fn := fun _ => fun
  | [d] => { results := [.lit (.bool false)], args := [d] }
  | _ => none }
def AlertsStayWrongFalsely : Prop := alertsStayRow.holds Tryz.pinned (OpenSpec.ofChange alertsStayWrong)

/- THE SECOND FORM. 'bulk': how many values and letters a reading holds, each counted each time it is reached (what is shared counts as often as it is met; a slice's spare places count too). A statement '..UptoSaid' is the law's where the arguments, and the package variables that the reading takes, are together of bulk at most 1048576: NARROWER than '..Said'. Prove '..Said' where nothing that the law and all that it calls make is longer than what came in: it says more and counts as full. Else prove '..UptoSaid'. A law counts once. -/
mutual
def uptoBulk {H : Type} : DataW H → Nat
  | .lit (.string bytes) => bytes.length + 1
  | .lit _ => 1
  | .nil => 1
  | .ptr d => uptoBulk d + 1
  | .slice elems spare => uptoBulkAll elems + uptoBulkAll spare + 1
  | .agg parts => uptoBulkAll parts + 1
  | .iface _ d => uptoBulk d + 1
  | .map entries => uptoBulkEntries entries + 1
  | .held _ => 1
def uptoBulkAll {H : Type} : List (DataW H) → Nat
  | [] => 0
  | d :: r => uptoBulk d + uptoBulkAll r
def uptoBulkEntries {H : Type} : List (Lit × DataW H) → Nat
  | [] => 0
  | x :: r => uptoBulkEntry x + uptoBulkEntries r
def uptoBulkEntry {H : Type} : Lit × DataW H → Nat
  | (.string bytes, d) => bytes.length + uptoBulk d + 1
  | (_, d) => uptoBulk d + 1
 end
def uptoSmall : (H : Type) → List (DataW H) → Bool := fun _ ds => decide (uptoBulkAll ds ≤ 1048576)
def OpenSpec.upto (s : _root_.Go.ChangeSpec) : _root_.Go.OpenSpec := { _root_.Go.OpenSpec.ofChange s with cond := some uptoSmall }

/-- 'signtop.TopAreasAreSeen', WHERE WHAT IT READS IS OF BULK AT MOST 1048576: true; the input reads as it did. -/
def topAreasAreSeenUptoRow : OpenClaim := { program := "ytkipmdkhhpicbaagreatdoor", sum := "d8256161b3a8b5cfa21ea7eeb30b20df7dd2a61b4b4a1a70bd36f79be04c6535", func := "signboard/signtop.TopAreasAreSeen", spec := "topAreasAreSeen", inPlace := ["internal/bytealg.IndexByteString", "internal/bytealg.IndexString", "internal/bytealg.abigen_runtime_cmpstring"], unfollowed := true, recurses := true, named := ["unicode/utf8.first", "unicode/utf8.acceptRanges", "internal/bytealg.MaxLen"], plainKeys := false, apart := false, laid := [("unicode/utf8.acceptRanges", laid_unicode_utf8_acceptRanges), ("unicode/utf8.first", laid_unicode_utf8_first)], narrowed := true }
def TopAreasAreSeenUptoSaid : Prop := topAreasAreSeenUptoRow.holds Tryz.pinned (OpenSpec.upto topAreasAreSeenSpec)

/-- 'signtop.TopAlertsOverAll', WHERE WHAT IT READS IS OF BULK AT MOST 1048576: true; the input reads as it did. -/
def topAlertsOverAllUptoRow : OpenClaim := { program := "ytkipmdkhhpicbaagreatdoor", sum := "d8256161b3a8b5cfa21ea7eeb30b20df7dd2a61b4b4a1a70bd36f79be04c6535", func := "signboard/signtop.TopAlertsOverAll", spec := "topAlertsOverAll", inPlace := ["internal/bytealg.IndexByteString", "internal/bytealg.IndexString", "internal/bytealg.abigen_runtime_cmpstring"], unfollowed := true, recurses := true, named := ["unicode/utf8.first", "unicode/utf8.acceptRanges", "internal/bytealg.MaxLen"], plainKeys := false, apart := false, laid := [("unicode/utf8.acceptRanges", laid_unicode_utf8_acceptRanges), ("unicode/utf8.first", laid_unicode_utf8_first)], narrowed := true }
def TopAlertsOverAllUptoSaid : Prop := topAlertsOverAllUptoRow.holds Tryz.pinned (OpenSpec.upto topAlertsOverAllSpec)

/-- 'signkeep2.EntriesInAnyOrder', WHERE WHAT IT READS IS OF BULK AT MOST 1048576: true; the input reads as it did. -/
def entriesInAnyOrderUptoRow : OpenClaim := { program := "ytkipmdkhhpicbaagreatdoor", sum := "d8256161b3a8b5cfa21ea7eeb30b20df7dd2a61b4b4a1a70bd36f79be04c6535", func := "signboard/signkeep2.EntriesInAnyOrder", spec := "entriesInAnyOrder", inPlace := ["internal/bytealg.abigen_runtime_cmpstring", "internal/bytealg.IndexByteString", "internal/bytealg.IndexString"], unfollowed := true, recurses := true, named := ["unicode/utf8.first", "unicode/utf8.acceptRanges", "internal/bytealg.MaxLen"], plainKeys := false, apart := false, laid := [("unicode/utf8.acceptRanges", laid_unicode_utf8_acceptRanges), ("unicode/utf8.first", laid_unicode_utf8_first)], narrowed := true }
def EntriesInAnyOrderUptoSaid : Prop := entriesInAnyOrderUptoRow.holds Tryz.pinned (OpenSpec.upto entriesInAnyOrderSpec)

/-- 'signkeep2.DebtsAreJust', WHERE WHAT IT READS IS OF BULK AT MOST 1048576: true; the input reads as it did. -/
def debtsAreJustUptoRow : OpenClaim := { program := "ytkipmdkhhpicbaagreatdoor", sum := "d8256161b3a8b5cfa21ea7eeb30b20df7dd2a61b4b4a1a70bd36f79be04c6535", func := "signboard/signkeep2.DebtsAreJust", spec := "debtsAreJust", inPlace := ["internal/bytealg.IndexByteString", "internal/bytealg.IndexString", "internal/bytealg.abigen_runtime_cmpstring"], unfollowed := true, recurses := true, named := ["unicode/utf8.first", "unicode/utf8.acceptRanges", "internal/bytealg.MaxLen"], plainKeys := false, apart := false, laid := [("unicode/utf8.acceptRanges", laid_unicode_utf8_acceptRanges), ("unicode/utf8.first", laid_unicode_utf8_first)], narrowed := true }
def DebtsAreJustUptoSaid : Prop := debtsAreJustUptoRow.holds Tryz.pinned (OpenSpec.upto debtsAreJustSpec)

/-- 'signkeep2.NextIsNext', WHERE WHAT IT READS IS OF BULK AT MOST 1048576: true; the input reads as it did. -/
def nextIsNextUptoRow : OpenClaim := { program := "ytkipmdkhhpicbaagreatdoor", sum := "d8256161b3a8b5cfa21ea7eeb30b20df7dd2a61b4b4a1a70bd36f79be04c6535", func := "signboard/signkeep2.NextIsNext", spec := "nextIsNext", inPlace := ["internal/bytealg.abigen_runtime_cmpstring", "internal/bytealg.IndexByteString", "internal/bytealg.IndexString"], unfollowed := true, recurses := true, named := ["unicode/utf8.first", "unicode/utf8.acceptRanges", "internal/bytealg.MaxLen"], plainKeys := false, apart := false, laid := [("unicode/utf8.acceptRanges", laid_unicode_utf8_acceptRanges), ("unicode/utf8.first", laid_unicode_utf8_first)], narrowed := true }
def NextIsNextUptoSaid : Prop := nextIsNextUptoRow.holds Tryz.pinned (OpenSpec.upto nextIsNextSpec)

/-- 'signkeep2.AlertsWhereTheyShould', WHERE WHAT IT READS IS OF BULK AT MOST 1048576: true; the input reads as it did. -/
def alertsWhereTheyShouldUptoRow : OpenClaim := { program := "ytkipmdkhhpicbaagreatdoor", sum := "d8256161b3a8b5cfa21ea7eeb30b20df7dd2a61b4b4a1a70bd36f79be04c6535", func := "signboard/signkeep2.AlertsWhereTheyShould", spec := "alertsWhereTheyShould", inPlace := ["internal/bytealg.IndexByteString", "internal/bytealg.IndexString", "internal/bytealg.abigen_runtime_cmpstring"], unfollowed := true, recurses := true, named := ["unicode/utf8.first", "unicode/utf8.acceptRanges", "internal/bytealg.MaxLen"], plainKeys := false, apart := false, laid := [("unicode/utf8.acceptRanges", laid_unicode_utf8_acceptRanges), ("unicode/utf8.first", laid_unicode_utf8_first)], narrowed := true }
def AlertsWhereTheyShouldUptoSaid : Prop := alertsWhereTheyShouldUptoRow.holds Tryz.pinned (OpenSpec.upto alertsWhereTheyShouldSpec)

/-- 'signkeep2.AlertsGiveWay', WHERE WHAT IT READS IS OF BULK AT MOST 1048576: true; the input reads as it did. -/
def alertsGiveWayUptoRow : OpenClaim := { program := "ytkipmdkhhpicbaagreatdoor", sum := "d8256161b3a8b5cfa21ea7eeb30b20df7dd2a61b4b4a1a70bd36f79be04c6535", func := "signboard/signkeep2.AlertsGiveWay", spec := "alertsGiveWay", inPlace := ["internal/bytealg.IndexByteString", "internal/bytealg.IndexString", "internal/bytealg.abigen_runtime_cmpstring"], unfollowed := true, recurses := true, named := ["unicode/utf8.first", "unicode/utf8.acceptRanges", "internal/bytealg.MaxLen"], plainKeys := false, apart := false, laid := [("unicode/utf8.acceptRanges", laid_unicode_utf8_acceptRanges), ("unicode/utf8.first", laid_unicode_utf8_first)], narrowed := true }
def AlertsGiveWayUptoSaid : Prop := alertsGiveWayUptoRow.holds Tryz.pinned (OpenSpec.upto alertsGiveWaySpec)

/-- 'signkeep2.SchedulesAgree', WHERE WHAT IT READS IS OF BULK AT MOST 1048576: true; the input reads as it did. -/
def schedulesAgreeUptoRow : OpenClaim := { program := "ytkipmdkhhpicbaagreatdoor", sum := "d8256161b3a8b5cfa21ea7eeb30b20df7dd2a61b4b4a1a70bd36f79be04c6535", func := "signboard/signkeep2.SchedulesAgree", spec := "schedulesAgree", inPlace := ["internal/bytealg.abigen_runtime_cmpstring", "internal/bytealg.IndexByteString", "internal/bytealg.IndexString"], unfollowed := true, recurses := true, named := ["unicode/utf8.first", "unicode/utf8.acceptRanges", "internal/bytealg.MaxLen"], plainKeys := false, apart := false, laid := [("unicode/utf8.acceptRanges", laid_unicode_utf8_acceptRanges), ("unicode/utf8.first", laid_unicode_utf8_first)], narrowed := true }
def SchedulesAgreeUptoSaid : Prop := schedulesAgreeUptoRow.holds Tryz.pinned (OpenSpec.upto schedulesAgreeSpec)

/-- 'signkeep2.ScreensStay', WHERE WHAT IT READS IS OF BULK AT MOST 1048576: true; the input reads as it did. -/
def screensStayUptoRow : OpenClaim := { program := "ytkipmdkhhpicbaagreatdoor", sum := "d8256161b3a8b5cfa21ea7eeb30b20df7dd2a61b4b4a1a70bd36f79be04c6535", func := "signboard/signkeep2.ScreensStay", spec := "screensStay", inPlace := ["internal/bytealg.IndexByteString", "internal/bytealg.abigen_runtime_cmpstring", "internal/bytealg.IndexString"], unfollowed := true, recurses := true, named := ["unicode/utf8.first", "unicode/utf8.acceptRanges", "internal/bytealg.MaxLen"], plainKeys := false, apart := false, laid := [("unicode/utf8.acceptRanges", laid_unicode_utf8_acceptRanges), ("unicode/utf8.first", laid_unicode_utf8_first)], narrowed := true }
def ScreensStayUptoSaid : Prop := screensStayUptoRow.holds Tryz.pinned (OpenSpec.upto screensStaySpec)

/-- 'signkeep2.SchedulesStay', WHERE WHAT IT READS IS OF BULK AT MOST 1048576: true; the input reads as it did. -/
def schedulesStayUptoRow : OpenClaim := { program := "ytkipmdkhhpicbaagreatdoor", sum := "d8256161b3a8b5cfa21ea7eeb30b20df7dd2a61b4b4a1a70bd36f79be04c6535", func := "signboard/signkeep2.SchedulesStay", spec := "schedulesStay", inPlace := ["internal/bytealg.abigen_runtime_cmpstring", "internal/bytealg.IndexByteString", "internal/bytealg.IndexString"], unfollowed := true, recurses := true, named := ["unicode/utf8.first", "unicode/utf8.acceptRanges", "internal/bytealg.MaxLen"], plainKeys := false, apart := false, laid := [("unicode/utf8.acceptRanges", laid_unicode_utf8_acceptRanges), ("unicode/utf8.first", laid_unicode_utf8_first)], narrowed := true }
def SchedulesStayUptoSaid : Prop := schedulesStayUptoRow.holds Tryz.pinned (OpenSpec.upto schedulesStaySpec)

/-- 'signkeep2.AlertsStay', WHERE WHAT IT READS IS OF BULK AT MOST 1048576: true; the input reads as it did. -/
def alertsStayUptoRow : OpenClaim := { program := "ytkipmdkhhpicbaagreatdoor", sum := "d8256161b3a8b5cfa21ea7eeb30b20df7dd2a61b4b4a1a70bd36f79be04c6535", func := "signboard/signkeep2.AlertsStay", spec := "alertsStay", inPlace := ["internal/bytealg.IndexByteString", "internal/bytealg.IndexString", "internal/bytealg.abigen_runtime_cmpstring"], unfollowed := true, recurses := true, named := ["unicode/utf8.first", "unicode/utf8.acceptRanges", "internal/bytealg.MaxLen"], plainKeys := false, apart := false, laid := [("unicode/utf8.acceptRanges", laid_unicode_utf8_acceptRanges), ("unicode/utf8.first", laid_unicode_utf8_first)], narrowed := true }
def AlertsStayUptoSaid : Prop := alertsStayUptoRow.holds Tryz.pinned (OpenSpec.upto alertsStaySpec)

end Rows
end Go.Proofs.YtkipmdkhhpicbaaGreatDoor
