/-
  No cell of these rows narrows 'for every input' (looked for: loops, veiled, ifaces, maps, wideKeys, modest, calm, conditions, laid).
  DERIVED. THE GIVEN ROWS OF THIS SEAT. 9 by the template 'for every input the law returns true; each argument reads behind the call as it read before'; 0 by the template 'total and deterministic' (their statements: YtnaibaifmnjpnaaTotals.lean).
  GIVEN WITH THE SEED: the statements are not yours to turn. If you find one false, say at which input.
  Laid BY PROGRAM, IN A SANDBOX (cutbox-rows.mjs): the forced cells as the released guide's own fill.sh prints them over the translation 6f1a61294c6b0a72… (all of the seat's roots in one cut). By AI agents, Wed Nov 11 2026. No macro, syntax, notation, axiom, sorry.
-/
import Derived.Test.YtnaibaifmnjpnaaChecked
import GoSem.Claim
import GoSem.ClaimJoined
import GoSem.ClaimMapViews
import Derived.JoinedTies
import Derived.KernelRfl
namespace Go.Proofs.Ytnaibaifmnjpnaa
/- THE CELL 'sum', in the pinned program and in every row, IS THE sha256 OF THE DUMP (.gsa) THAT YtnaibaifmnjpnaaProg.lean LOADS. Nothing in Lean hashes anything: it is a label: what it is worth is what the hold of that sum in a sandbox is worth. -/
noncomputable def Try.pinned : Pinned := { name := "ytnaibaifmnjpnaa", sum := "6f1a61294c6b0a72768adc4c6c153010615a74c9b3e9b20546262a7f7acbbc31", checked := Try.checked }
namespace Rows
def none {H : Type} : Left H := { results := [], args := [] }

/-- 'signlaw2.ClocksPutRight': WHATEVER THE INPUT: true; the input reads as it did. -/
def clocksPutRightSpec : ChangeSpec := { name := "clocksPutRight", fn := fun _ => fun
  | [d1, d2, d3] => { results := [.lit (.bool true)], args := [d1, d2, d3] }
  | _ => none }
def clocksPutRightRow : OpenClaim := { program := "ytnaibaifmnjpnaa", sum := "6f1a61294c6b0a72768adc4c6c153010615a74c9b3e9b20546262a7f7acbbc31", func := "signboard/signlaw2.ClocksPutRight", spec := "clocksPutRight", inPlace := ["internal/bytealg.abigen_runtime_cmpstring", "internal/bytealg.IndexByteString"], unfollowed := true, recurses := true, plainKeys := false, apart := false }
def ClocksPutRightSaid : Prop := clocksPutRightRow.holds Try.pinned (OpenSpec.ofChange clocksPutRightSpec)

/-- ITS FALSE NEIGHBOUR: 'it returns false'. Refute it at one input. -/
def clocksPutRightWrong : ChangeSpec := { name := "clocksPutRight", fn := fun _ => fun
  | [d1, d2, d3] => { results := [.lit (.bool false)], args := [d1, d2, d3] }
  | _ => none }
def ClocksPutRightWrongFalsely : Prop := clocksPutRightRow.holds Try.pinned (OpenSpec.ofChange clocksPutRightWrong)

/-- 'signlaw2.BookingsCheck': WHATEVER THE INPUT: true; the input reads as it did. -/
def bookingsCheckSpec : ChangeSpec := { name := "bookingsCheck", fn := fun _ => fun
  | [d1, d2] => { results := [.lit (.bool true)], args := [d1, d2] }
  | _ => none }
def bookingsCheckRow : OpenClaim := { program := "ytnaibaifmnjpnaa", sum := "6f1a61294c6b0a72768adc4c6c153010615a74c9b3e9b20546262a7f7acbbc31", func := "signboard/signlaw2.BookingsCheck", spec := "bookingsCheck", inPlace := ["internal/bytealg.IndexByteString"], unfollowed := true, recurses := true, plainKeys := false, apart := false }
def BookingsCheckSaid : Prop := bookingsCheckRow.holds Try.pinned (OpenSpec.ofChange bookingsCheckSpec)

/-- ITS FALSE NEIGHBOUR: 'it returns false'. Refute it at one input. -/
def bookingsCheckWrong : ChangeSpec := { name := "bookingsCheck", fn := fun _ => fun
  | [d1, d2] => { results := [.lit (.bool false)], args := [d1, d2] }
  | _ => none }
def BookingsCheckWrongFalsely : Prop := bookingsCheckRow.holds Try.pinned (OpenSpec.ofChange bookingsCheckWrong)

/-- 'signlaw2.EntriesTimed': WHATEVER THE INPUT: true; the input reads as it did. -/
def entriesTimedSpec : ChangeSpec := { name := "entriesTimed", fn := fun _ => fun
  | [d1, d2, d3, d4] => { results := [.lit (.bool true)], args := [d1, d2, d3, d4] }
  | _ => none }
def entriesTimedRow : OpenClaim := { program := "ytnaibaifmnjpnaa", sum := "6f1a61294c6b0a72768adc4c6c153010615a74c9b3e9b20546262a7f7acbbc31", func := "signboard/signlaw2.EntriesTimed", spec := "entriesTimed", inPlace := ["internal/bytealg.IndexByteString"], unfollowed := true, recurses := true, plainKeys := false, apart := false }
def EntriesTimedSaid : Prop := entriesTimedRow.holds Try.pinned (OpenSpec.ofChange entriesTimedSpec)

/-- ITS FALSE NEIGHBOUR: 'it returns false'. Refute it at one input. -/
def entriesTimedWrong : ChangeSpec := { name := "entriesTimed", fn := fun _ => fun
  | [d1, d2, d3, d4] => { results := [.lit (.bool false)], args := [d1, d2, d3, d4] }
  | _ => none }
def EntriesTimedWrongFalsely : Prop := entriesTimedRow.holds Try.pinned (OpenSpec.ofChange entriesTimedWrong)

/-- 'signlaw2.SharesCheck': WHATEVER THE INPUT: true; the input reads as it did. -/
def sharesCheckSpec : ChangeSpec := { name := "sharesCheck", fn := fun _ => fun
  | [d1, d2, d3] => { results := [.lit (.bool true)], args := [d1, d2, d3] }
  | _ => none }
def sharesCheckRow : OpenClaim := { program := "ytnaibaifmnjpnaa", sum := "6f1a61294c6b0a72768adc4c6c153010615a74c9b3e9b20546262a7f7acbbc31", func := "signboard/signlaw2.SharesCheck", spec := "sharesCheck", inPlace := ["internal/bytealg.IndexByteString", "internal/bytealg.abigen_runtime_cmpstring"], unfollowed := true, recurses := true, plainKeys := false, apart := false }
def SharesCheckSaid : Prop := sharesCheckRow.holds Try.pinned (OpenSpec.ofChange sharesCheckSpec)

/-- ITS FALSE NEIGHBOUR: 'it returns false'. Refute it at one input. -/
def sharesCheckWrong : ChangeSpec := { name := "sharesCheck", fn := fun _ => fun
  | [d1, d2, d3] => { results := [.lit (.bool false)], args := [d1, d2, d3] }
  | _ => none }
def SharesCheckWrongFalsely : Prop := sharesCheckRow.holds Try.pinned (OpenSpec.ofChange sharesCheckWrong)

/-- 'signlaw2.DealsMade': WHATEVER THE INPUT: true; the input reads as it did. -/
def dealsMadeSpec : ChangeSpec := { name := "dealsMade", fn := fun _ => fun
  | [d1, d2] => { results := [.lit (.bool true)], args := [d1, d2] }
  | _ => none }
def dealsMadeRow : OpenClaim := { program := "ytnaibaifmnjpnaa", sum := "6f1a61294c6b0a72768adc4c6c153010615a74c9b3e9b20546262a7f7acbbc31", func := "signboard/signlaw2.DealsMade", spec := "dealsMade", inPlace := ["internal/bytealg.IndexByteString"], unfollowed := true, recurses := true, plainKeys := false, apart := false }
def DealsMadeSaid : Prop := dealsMadeRow.holds Try.pinned (OpenSpec.ofChange dealsMadeSpec)

/-- ITS FALSE NEIGHBOUR: 'it returns false'. Refute it at one input. -/
def dealsMadeWrong : ChangeSpec := { name := "dealsMade", fn := fun _ => fun
  | [d1, d2] => { results := [.lit (.bool false)], args := [d1, d2] }
  | _ => none }
def DealsMadeWrongFalsely : Prop := dealsMadeRow.holds Try.pinned (OpenSpec.ofChange dealsMadeWrong)

/-- 'signlaw2.RoomLeft': WHATEVER THE INPUT: true; the input reads as it did. -/
def roomLeftSpec : ChangeSpec := { name := "roomLeft", fn := fun _ => fun
  | [d1, d2, d3] => { results := [.lit (.bool true)], args := [d1, d2, d3] }
  | _ => none }
def roomLeftRow : OpenClaim := { program := "ytnaibaifmnjpnaa", sum := "6f1a61294c6b0a72768adc4c6c153010615a74c9b3e9b20546262a7f7acbbc31", func := "signboard/signlaw2.RoomLeft", spec := "roomLeft", inPlace := ["internal/bytealg.IndexByteString"], unfollowed := true, recurses := true, plainKeys := false, apart := false }
def RoomLeftSaid : Prop := roomLeftRow.holds Try.pinned (OpenSpec.ofChange roomLeftSpec)

/-- ITS FALSE NEIGHBOUR: 'it returns false'. Refute it at one input. -/
def roomLeftWrong : ChangeSpec := { name := "roomLeft", fn := fun _ => fun
  | [d1, d2, d3] => { results := [.lit (.bool false)], args := [d1, d2, d3] }
  | _ => none }
def RoomLeftWrongFalsely : Prop := roomLeftRow.holds Try.pinned (OpenSpec.ofChange roomLeftWrong)

/-- 'signlaw2.PlaysCounted': WHATEVER THE INPUT: true; the input reads as it did. -/
def playsCountedSpec : ChangeSpec := { name := "playsCounted", fn := fun _ => fun
  | [d1, d2, d3, d4, d5, d6] => { results := [.lit (.bool true)], args := [d1, d2, d3, d4, d5, d6] }
  | _ => none }
def playsCountedRow : OpenClaim := { program := "ytnaibaifmnjpnaa", sum := "6f1a61294c6b0a72768adc4c6c153010615a74c9b3e9b20546262a7f7acbbc31", func := "signboard/signlaw2.PlaysCounted", spec := "playsCounted", inPlace := ["internal/bytealg.abigen_runtime_cmpstring", "internal/bytealg.IndexByteString"], unfollowed := true, recurses := true, plainKeys := false, apart := false }
def PlaysCountedSaid : Prop := playsCountedRow.holds Try.pinned (OpenSpec.ofChange playsCountedSpec)

/-- ITS FALSE NEIGHBOUR: 'it returns false'. Refute it at one input. -/
def playsCountedWrong : ChangeSpec := { name := "playsCounted", fn := fun _ => fun
  | [d1, d2, d3, d4, d5, d6] => { results := [.lit (.bool false)], args := [d1, d2, d3, d4, d5, d6] }
  | _ => none }
def PlaysCountedWrongFalsely : Prop := playsCountedRow.holds Try.pinned (OpenSpec.ofChange playsCountedWrong)

/-- 'signlaw2.RectsMeet': WHATEVER THE INPUT: true; the input reads as it did. -/
def rectsMeetSpec : ChangeSpec := { name := "rectsMeet", fn := fun _ => fun
  | [d1, d2, d3, d4] => { results := [.lit (.bool true)], args := [d1, d2, d3, d4] }
  | _ => none }
def rectsMeetRow : OpenClaim := { program := "ytnaibaifmnjpnaa", sum := "6f1a61294c6b0a72768adc4c6c153010615a74c9b3e9b20546262a7f7acbbc31", func := "signboard/signlaw2.RectsMeet", spec := "rectsMeet", unfollowed := true, recurses := true, plainKeys := false, apart := false }
def RectsMeetSaid : Prop := rectsMeetRow.holds Try.pinned (OpenSpec.ofChange rectsMeetSpec)

/-- ITS FALSE NEIGHBOUR: 'it returns false'. Refute it at one input. -/
def rectsMeetWrong : ChangeSpec := { name := "rectsMeet", fn := fun _ => fun
  | [d1, d2, d3, d4] => { results := [.lit (.bool false)], args := [d1, d2, d3, d4] }
  | _ => none }
def RectsMeetWrongFalsely : Prop := rectsMeetRow.holds Try.pinned (OpenSpec.ofChange rectsMeetWrong)

/-- 'signlaw2.PicturesScale': WHATEVER THE INPUT: true; the input reads as it did. -/
def picturesScaleSpec : ChangeSpec := { name := "picturesScale", fn := fun _ => fun
  | [d1, d2, d3, d4, d5, d6, d7] => { results := [.lit (.bool true)], args := [d1, d2, d3, d4, d5, d6, d7] }
  | _ => none }
def picturesScaleRow : OpenClaim := { program := "ytnaibaifmnjpnaa", sum := "6f1a61294c6b0a72768adc4c6c153010615a74c9b3e9b20546262a7f7acbbc31", func := "signboard/signlaw2.PicturesScale", spec := "picturesScale", unfollowed := true, recurses := true, plainKeys := false, apart := false }
def PicturesScaleSaid : Prop := picturesScaleRow.holds Try.pinned (OpenSpec.ofChange picturesScaleSpec)

/-- ITS FALSE NEIGHBOUR: 'it returns false'. Refute it at one input. -/
def picturesScaleWrong : ChangeSpec := { name := "picturesScale", fn := fun _ => fun
  | [d1, d2, d3, d4, d5, d6, d7] => { results := [.lit (.bool false)], args := [d1, d2, d3, d4, d5, d6, d7] }
  | _ => none }
def PicturesScaleWrongFalsely : Prop := picturesScaleRow.holds Try.pinned (OpenSpec.ofChange picturesScaleWrong)

/- THE SECOND FORM. 'bulk': how many values and letters a reading holds, each counted each time it is reached (what is shared counts as often as it is met; a slice's spare places count too). A statement '..UptoSaid' is the law's where the arguments, and the package variables that the reading takes, are together of bulk at most 1048576: NARROWER than '..Said'. Prove '..Said' where nothing that the law and all that it calls make is longer than what came in: it says more and counts as full. Else prove '..UptoSaid'. A law counts once. -/
mutual
def uptoBulk {H : Type} : DataW H → Nat
  | .lit (.string bytes) => bytes.length + 1
  | .lit _ => 1
  | .nil => 1
  | .ptr d => uptoBulk d + 1
  | .slice elems spare => uptoBulkAll elems + uptoBulkAll spare + 1
  | .agg parts => uptoBulkAll parts + 1
  | .iface _ d => uptoBulk d + 1
  | .map entries => uptoBulkEntries entries + 1
  | .held _ => 1
def uptoBulkAll {H : Type} : List (DataW H) → Nat
  | [] => 0
  | d :: r => uptoBulk d + uptoBulkAll r
def uptoBulkEntries {H : Type} : List (Lit × DataW H) → Nat
  | [] => 0
  | x :: r => uptoBulkEntry x + uptoBulkEntries r
def uptoBulkEntry {H : Type} : Lit × DataW H → Nat
  | (.string bytes, d) => bytes.length + uptoBulk d + 1
  | (_, d) => uptoBulk d + 1
 end
def uptoSmall : (H : Type) → List (DataW H) → Bool := fun _ ds => decide (uptoBulkAll ds ≤ 1048576)
def OpenSpec.upto (s : _root_.Go.ChangeSpec) : _root_.Go.OpenSpec := { _root_.Go.OpenSpec.ofChange s with cond := some uptoSmall }

/-- 'signlaw2.ClocksPutRight', WHERE WHAT IT READS IS OF BULK AT MOST 1048576: true; the input reads as it did. -/
def clocksPutRightUptoRow : OpenClaim := { program := "ytnaibaifmnjpnaa", sum := "6f1a61294c6b0a72768adc4c6c153010615a74c9b3e9b20546262a7f7acbbc31", func := "signboard/signlaw2.ClocksPutRight", spec := "clocksPutRight", inPlace := ["internal/bytealg.abigen_runtime_cmpstring", "internal/bytealg.IndexByteString"], unfollowed := true, recurses := true, plainKeys := false, apart := false, narrowed := true }
def ClocksPutRightUptoSaid : Prop := clocksPutRightUptoRow.holds Try.pinned (OpenSpec.upto clocksPutRightSpec)

/-- 'signlaw2.BookingsCheck', WHERE WHAT IT READS IS OF BULK AT MOST 1048576: true; the input reads as it did. -/
def bookingsCheckUptoRow : OpenClaim := { program := "ytnaibaifmnjpnaa", sum := "6f1a61294c6b0a72768adc4c6c153010615a74c9b3e9b20546262a7f7acbbc31", func := "signboard/signlaw2.BookingsCheck", spec := "bookingsCheck", inPlace := ["internal/bytealg.IndexByteString"], unfollowed := true, recurses := true, plainKeys := false, apart := false, narrowed := true }
def BookingsCheckUptoSaid : Prop := bookingsCheckUptoRow.holds Try.pinned (OpenSpec.upto bookingsCheckSpec)

/-- 'signlaw2.EntriesTimed', WHERE WHAT IT READS IS OF BULK AT MOST 1048576: true; the input reads as it did. -/
def entriesTimedUptoRow : OpenClaim := { program := "ytnaibaifmnjpnaa", sum := "6f1a61294c6b0a72768adc4c6c153010615a74c9b3e9b20546262a7f7acbbc31", func := "signboard/signlaw2.EntriesTimed", spec := "entriesTimed", inPlace := ["internal/bytealg.IndexByteString"], unfollowed := true, recurses := true, plainKeys := false, apart := false, narrowed := true }
def EntriesTimedUptoSaid : Prop := entriesTimedUptoRow.holds Try.pinned (OpenSpec.upto entriesTimedSpec)

/-- 'signlaw2.SharesCheck', WHERE WHAT IT READS IS OF BULK AT MOST 1048576: true; the input reads as it did. -/
def sharesCheckUptoRow : OpenClaim := { program := "ytnaibaifmnjpnaa", sum := "6f1a61294c6b0a72768adc4c6c153010615a74c9b3e9b20546262a7f7acbbc31", func := "signboard/signlaw2.SharesCheck", spec := "sharesCheck", inPlace := ["internal/bytealg.IndexByteString", "internal/bytealg.abigen_runtime_cmpstring"], unfollowed := true, recurses := true, plainKeys := false, apart := false, narrowed := true }
def SharesCheckUptoSaid : Prop := sharesCheckUptoRow.holds Try.pinned (OpenSpec.upto sharesCheckSpec)

/-- 'signlaw2.DealsMade', WHERE WHAT IT READS IS OF BULK AT MOST 1048576: true; the input reads as it did. -/
def dealsMadeUptoRow : OpenClaim := { program := "ytnaibaifmnjpnaa", sum := "6f1a61294c6b0a72768adc4c6c153010615a74c9b3e9b20546262a7f7acbbc31", func := "signboard/signlaw2.DealsMade", spec := "dealsMade", inPlace := ["internal/bytealg.IndexByteString"], unfollowed := true, recurses := true, plainKeys := false, apart := false, narrowed := true }
def DealsMadeUptoSaid : Prop := dealsMadeUptoRow.holds Try.pinned (OpenSpec.upto dealsMadeSpec)

/-- 'signlaw2.RoomLeft', WHERE WHAT IT READS IS OF BULK AT MOST 1048576: true; the input reads as it did. -/
def roomLeftUptoRow : OpenClaim := { program := "ytnaibaifmnjpnaa", sum := "6f1a61294c6b0a72768adc4c6c153010615a74c9b3e9b20546262a7f7acbbc31", func := "signboard/signlaw2.RoomLeft", spec := "roomLeft", inPlace := ["internal/bytealg.IndexByteString"], unfollowed := true, recurses := true, plainKeys := false, apart := false, narrowed := true }
def RoomLeftUptoSaid : Prop := roomLeftUptoRow.holds Try.pinned (OpenSpec.upto roomLeftSpec)

/-- 'signlaw2.PlaysCounted', WHERE WHAT IT READS IS OF BULK AT MOST 1048576: true; the input reads as it did. -/
def playsCountedUptoRow : OpenClaim := { program := "ytnaibaifmnjpnaa", sum := "6f1a61294c6b0a72768adc4c6c153010615a74c9b3e9b20546262a7f7acbbc31", func := "signboard/signlaw2.PlaysCounted", spec := "playsCounted", inPlace := ["internal/bytealg.abigen_runtime_cmpstring", "internal/bytealg.IndexByteString"], unfollowed := true, recurses := true, plainKeys := false, apart := false, narrowed := true }
def PlaysCountedUptoSaid : Prop := playsCountedUptoRow.holds Try.pinned (OpenSpec.upto playsCountedSpec)

/-- 'signlaw2.RectsMeet', WHERE WHAT IT READS IS OF BULK AT MOST 1048576: true; the input reads as it did. -/
def rectsMeetUptoRow : OpenClaim := { program := "ytnaibaifmnjpnaa", sum := "6f1a61294c6b0a72768adc4c6c153010615a74c9b3e9b20546262a7f7acbbc31", func := "signboard/signlaw2.RectsMeet", spec := "rectsMeet", unfollowed := true, recurses := true, plainKeys := false, apart := false, narrowed := true }
def RectsMeetUptoSaid : Prop := rectsMeetUptoRow.holds Try.pinned (OpenSpec.upto rectsMeetSpec)

/-- 'signlaw2.PicturesScale', WHERE WHAT IT READS IS OF BULK AT MOST 1048576: true; the input reads as it did. -/
def picturesScaleUptoRow : OpenClaim := { program := "ytnaibaifmnjpnaa", sum := "6f1a61294c6b0a72768adc4c6c153010615a74c9b3e9b20546262a7f7acbbc31", func := "signboard/signlaw2.PicturesScale", spec := "picturesScale", unfollowed := true, recurses := true, plainKeys := false, apart := false, narrowed := true }
def PicturesScaleUptoSaid : Prop := picturesScaleUptoRow.holds Try.pinned (OpenSpec.upto picturesScaleSpec)

end Rows
end Go.Proofs.Ytnaibaifmnjpnaa
