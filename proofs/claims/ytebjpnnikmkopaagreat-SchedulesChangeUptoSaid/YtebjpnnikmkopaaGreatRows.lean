/-
  No cell of these rows narrows 'for every input' (looked for: loops, veiled, ifaces, maps, wideKeys, modest, calm, conditions, laid).
  DERIVED. THE GIVEN ROWS OF THIS SEAT. 2 by the template 'for every input the law returns true; each argument reads behind the call as it read before'; 0 by the template 'total and deterministic' (their statements: YtebjpnnikmkopaaGreatTotals.lean).
  GIVEN WITH THE SEED: the statements are not yours to turn. If you find one false, say at which input.
  Laid BY PROGRAM, IN A SANDBOX (cutbox-rows.mjs): the forced cells as the released guide's own fill.sh prints them over the translation ccd3056f9e6563de… (all of the seat's roots in one cut). By AI agents, Wed Nov 11 2026. No macro, syntax, notation, axiom, sorry.
-/
import Derived.Test.YtebjpnnikmkopaaGreatChecked
import GoSem.Claim
import GoSem.ClaimJoined
import GoSem.ClaimMapViews
import Derived.JoinedTies
import Derived.KernelRfl
namespace Go.Proofs.YtebjpnnikmkopaaGreat
/- THE CELL 'sum', in the pinned program and in every row, IS THE sha256 OF THE DUMP (.gsa) THAT YtebjpnnikmkopaaGreatProg.lean LOADS. Nothing in Lean hashes anything: it is a label: what it is worth is what the hold of that sum in a sandbox is worth. -/
noncomputable def Tryz.pinned : Pinned := { name := "ytebjpnnikmkopaagreat", sum := "ccd3056f9e6563de8a4fd22781c7f023979db505270f67ab63067050fac706d5", checked := Tryz.checked }
namespace Rows
def none {H : Type} : Left H := { results := [], args := [] }

/-- 'signlaw2.EntriesCount': WHATEVER THE INPUT: true; the input reads as it did. -/
def entriesCountSpec : ChangeSpec := { name := "entriesCount", fn := fun _ => fun
  | [d1, d2, d3] => { results := [.lit (.bool true)], args := [d1, d2, d3] }
  | _ => none }
def entriesCountRow : OpenClaim := { program := "ytebjpnnikmkopaagreat", sum := "ccd3056f9e6563de8a4fd22781c7f023979db505270f67ab63067050fac706d5", func := "signboard/signlaw2.EntriesCount", spec := "entriesCount", inPlace := ["internal/bytealg.abigen_runtime_cmpstring", "internal/bytealg.IndexByteString"], unfollowed := true, recurses := true, apart := false }
def EntriesCountSaid : Prop := entriesCountRow.holds Tryz.pinned (OpenSpec.ofChange entriesCountSpec)

/-- ITS FALSE NEIGHBOUR: 'it returns false'. Refute it at one input. -/
def entriesCountWrong : ChangeSpec := { name := "entriesCount", fn := fun _ => fun
  | [d1, d2, d3] => { results := [.lit (.bool false)], args := [d1, d2, d3] }
  | _ => none }
def EntriesCountWrongFalsely : Prop := entriesCountRow.holds Tryz.pinned (OpenSpec.ofChange entriesCountWrong)

/-- 'signlaw2.SchedulesChange': WHATEVER THE INPUT: true; the input reads as it did. -/
def schedulesChangeSpec : ChangeSpec := { name := "schedulesChange", fn := fun _ => fun
  | [d1, d2, d3, d4] => { results := [.lit (.bool true)], args := [d1, d2, d3, d4] }
  | _ => none }
def schedulesChangeRow : OpenClaim := { program := "ytebjpnnikmkopaagreat", sum := "ccd3056f9e6563de8a4fd22781c7f023979db505270f67ab63067050fac706d5", func := "signboard/signlaw2.SchedulesChange", spec := "schedulesChange", inPlace := ["internal/bytealg.abigen_runtime_cmpstring", "internal/bytealg.IndexByteString"], unfollowed := true, recurses := true, apart := false }
def SchedulesChangeSaid : Prop := schedulesChangeRow.holds Tryz.pinned (OpenSpec.ofChange schedulesChangeSpec)

/-- ITS FALSE NEIGHBOUR: 'it returns false'. Refute it at one input. -/
def schedulesChangeWrong : ChangeSpec := { name := "schedulesChange", fn := fun _ => fun
  | [d1, d2, d3, d4] => { results := [.lit (.bool false)], args := [d1, d2, d3, d4] }
  | _ => none }
def SchedulesChangeWrongFalsely : Prop := schedulesChangeRow.holds Tryz.pinned (OpenSpec.ofChange schedulesChangeWrong)

/- THE SECOND FORM. 'bulk': how many values and letters a reading holds, each counted each time it is reached (what is shared counts as often as it is met; a slice's spare places count too). A statement '..UptoSaid' is the law's where the arguments, and the package variables that the reading takes, are together of bulk at most 1048576: NARROWER than '..Said'. Prove '..Said' where nothing that the law and all that it calls make is longer than what came in: it says more and counts as full. Else prove '..UptoSaid'. A law counts once. -/
mutual
def uptoBulk {H : Type} : DataW H → Nat
  | .lit (.string bytes) => bytes.length + 1
  | .lit _ => 1
  | .nil => 1
  | .ptr d => uptoBulk d + 1
  | .slice elems spare => uptoBulkAll elems + uptoBulkAll spare + 1
  | .agg parts => uptoBulkAll parts + 1
  | .iface _ d => uptoBulk d + 1
  | .map entries => uptoBulkEntries entries + 1
  | .held _ => 1
def uptoBulkAll {H : Type} : List (DataW H) → Nat
  | [] => 0
  | d :: r => uptoBulk d + uptoBulkAll r
def uptoBulkEntries {H : Type} : List (Lit × DataW H) → Nat
  | [] => 0
  | x :: r => uptoBulkEntry x + uptoBulkEntries r
def uptoBulkEntry {H : Type} : Lit × DataW H → Nat
  | (.string bytes, d) => bytes.length + uptoBulk d + 1
  | (_, d) => uptoBulk d + 1
 end
def uptoSmall : (H : Type) → List (DataW H) → Bool := fun _ ds => decide (uptoBulkAll ds ≤ 1048576)
def OpenSpec.upto (s : _root_.Go.ChangeSpec) : _root_.Go.OpenSpec := { _root_.Go.OpenSpec.ofChange s with cond := some uptoSmall }

/-- 'signlaw2.EntriesCount', WHERE WHAT IT READS IS OF BULK AT MOST 1048576: true; the input reads as it did. -/
def entriesCountUptoRow : OpenClaim := { program := "ytebjpnnikmkopaagreat", sum := "ccd3056f9e6563de8a4fd22781c7f023979db505270f67ab63067050fac706d5", func := "signboard/signlaw2.EntriesCount", spec := "entriesCount", inPlace := ["internal/bytealg.abigen_runtime_cmpstring", "internal/bytealg.IndexByteString"], unfollowed := true, recurses := true, apart := false, narrowed := true }
def EntriesCountUptoSaid : Prop := entriesCountUptoRow.holds Tryz.pinned (OpenSpec.upto entriesCountSpec)

/-- 'signlaw2.SchedulesChange', WHERE WHAT IT READS IS OF BULK AT MOST 1048576: true; the input reads as it did. -/
def schedulesChangeUptoRow : OpenClaim := { program := "ytebjpnnikmkopaagreat", sum := "ccd3056f9e6563de8a4fd22781c7f023979db505270f67ab63067050fac706d5", func := "signboard/signlaw2.SchedulesChange", spec := "schedulesChange", inPlace := ["internal/bytealg.abigen_runtime_cmpstring", "internal/bytealg.IndexByteString"], unfollowed := true, recurses := true, apart := false, narrowed := true }
def SchedulesChangeUptoSaid : Prop := schedulesChangeUptoRow.holds Tryz.pinned (OpenSpec.upto schedulesChangeSpec)

end Rows
end Go.Proofs.YtebjpnnikmkopaaGreat
