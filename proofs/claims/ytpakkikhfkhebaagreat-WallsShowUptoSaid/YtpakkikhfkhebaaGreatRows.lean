/-
  No cell of these rows narrows 'for every input' (looked for: loops, veiled, ifaces, maps, wideKeys, modest, calm, conditions, laid).
  DERIVED. THE GIVEN ROWS OF THIS SEAT. 2 by the template 'for every input the law returns true; each argument reads behind the call as it read before'; 0 by the template 'total and deterministic' (their statements: YtpakkikhfkhebaaGreatTotals.lean).
  GIVEN WITH THE SEED: the statements are not yours to turn. If you find one false, say at which input.
  Laid BY PROGRAM, IN A SANDBOX (cutbox-rows.mjs): the forced cells as the released guide's own fill.sh prints them over the translation 7542d6bfadf346df… (all of the seat's roots in one cut). By AI agents, Wed Nov 11 2026. No macro, syntax, notation, axiom, sorry.
-/
import Derived.Test.YtpakkikhfkhebaaGreatChecked
import GoSem.Claim
import GoSem.ClaimJoined
import GoSem.ClaimMapViews
import Derived.JoinedTies
import Derived.KernelRfl
namespace Go.Proofs.YtpakkikhfkhebaaGreat
/- THE CELL 'sum', in the pinned program and in every row, IS THE sha256 OF THE DUMP (.gsa) THAT YtpakkikhfkhebaaGreatProg.lean LOADS. Nothing in Lean hashes anything: it is a label: what it is worth is what the hold of that sum in a sandbox is worth. -/
noncomputable def Tryz.pinned : Pinned := { name := "ytpakkikhfkhebaagreat", sum := "7542d6bfadf346dfe78432d240548ccfd76f845e4cfbf4033bf51bd8c97d787e", checked := Tryz.checked }
namespace Rows
def none {H : Type} : Left H := { results := [], args := [] }

/-- 'signlaw2.WallsTell': WHATEVER THE INPUT: true; the input reads as it did. -/
def wallsTellSpec : ChangeSpec := { name := "wallsTell", fn := fun _ => fun
  | [d1, d2, d3, d4] => { results := [.lit (.bool true)], args := [d1, d2, d3, d4] }
  | _ => none }
def wallsTellRow : OpenClaim := { program := "ytpakkikhfkhebaagreat", sum := "7542d6bfadf346dfe78432d240548ccfd76f845e4cfbf4033bf51bd8c97d787e", func := "signboard/signlaw2.WallsTell", spec := "wallsTell", inPlace := ["internal/bytealg.IndexByteString"], unfollowed := true, recurses := true, apart := false }
def WallsTellSaid : Prop := wallsTellRow.holds Tryz.pinned (OpenSpec.ofChange wallsTellSpec)

/-- ITS FALSE NEIGHBOUR: 'it returns false'. Refute it at one input. -/
def wallsTellWrong : ChangeSpec := { name := "wallsTell", fn := fun _ => fun
  | [d1, d2, d3, d4] => { results := [.lit (.bool false)], args := [d1, d2, d3, d4] }
  | _ => none }
def WallsTellWrongFalsely : Prop := wallsTellRow.holds Tryz.pinned (OpenSpec.ofChange wallsTellWrong)

/-- 'signlaw2.WallsShow': WHATEVER THE INPUT: true; the input reads as it did. -/
def wallsShowSpec : ChangeSpec := { name := "wallsShow", fn := fun _ => fun
  | [d1, d2] => { results := [.lit (.bool true)], args := [d1, d2] }
  | _ => none }
def wallsShowRow : OpenClaim := { program := "ytpakkikhfkhebaagreat", sum := "7542d6bfadf346dfe78432d240548ccfd76f845e4cfbf4033bf51bd8c97d787e", func := "signboard/signlaw2.WallsShow", spec := "wallsShow", inPlace := ["internal/bytealg.IndexByteString"], unfollowed := true, recurses := true, apart := false }
def WallsShowSaid : Prop := wallsShowRow.holds Tryz.pinned (OpenSpec.ofChange wallsShowSpec)

/-- ITS FALSE NEIGHBOUR: 'it returns false'. Refute it at one input. -/
def wallsShowWrong : ChangeSpec := { name := "wallsShow", fn := fun _ => fun
  | [d1, d2] => { results := [.lit (.bool false)], args := [d1, d2] }
  | _ => none }
def WallsShowWrongFalsely : Prop := wallsShowRow.holds Tryz.pinned (OpenSpec.ofChange wallsShowWrong)

/- THE SECOND FORM. 'bulk': how many values and letters a reading holds, each counted each time it is reached (what is shared counts as often as it is met; a slice's spare places count too). A statement '..UptoSaid' is the law's where the arguments, and the package variables that the reading takes, are together of bulk at most 1048576: NARROWER than '..Said'. Prove '..Said' where nothing that the law and all that it calls make is longer than what came in: it says more and counts as full. Else prove '..UptoSaid'. A law counts once. -/
mutual
def uptoBulk {H : Type} : DataW H → Nat
  | .lit (.string bytes) => bytes.length + 1
  | .lit _ => 1
  | .nil => 1
  | .ptr d => uptoBulk d + 1
  | .slice elems spare => uptoBulkAll elems + uptoBulkAll spare + 1
  | .agg parts => uptoBulkAll parts + 1
  | .iface _ d => uptoBulk d + 1
  | .map entries => uptoBulkEntries entries + 1
  | .held _ => 1
def uptoBulkAll {H : Type} : List (DataW H) → Nat
  | [] => 0
  | d :: r => uptoBulk d + uptoBulkAll r
def uptoBulkEntries {H : Type} : List (Lit × DataW H) → Nat
  | [] => 0
  | x :: r => uptoBulkEntry x + uptoBulkEntries r
def uptoBulkEntry {H : Type} : Lit × DataW H → Nat
  | (.string bytes, d) => bytes.length + uptoBulk d + 1
  | (_, d) => uptoBulk d + 1
 end
def uptoSmall : (H : Type) → List (DataW H) → Bool := fun _ ds => decide (uptoBulkAll ds ≤ 1048576)
def OpenSpec.upto (s : _root_.Go.ChangeSpec) : _root_.Go.OpenSpec := { _root_.Go.OpenSpec.ofChange s with cond := some uptoSmall }

/-- 'signlaw2.WallsTell', WHERE WHAT IT READS IS OF BULK AT MOST 1048576: true; the input reads as it did. -/
def wallsTellUptoRow : OpenClaim := { program := "ytpakkikhfkhebaagreat", sum := "7542d6bfadf346dfe78432d240548ccfd76f845e4cfbf4033bf51bd8c97d787e", func := "signboard/signlaw2.WallsTell", spec := "wallsTell", inPlace := ["internal/bytealg.IndexByteString"], unfollowed := true, recurses := true, apart := false, narrowed := true }
def WallsTellUptoSaid : Prop := wallsTellUptoRow.holds Tryz.pinned (OpenSpec.upto wallsTellSpec)

/-- 'signlaw2.WallsShow', WHERE WHAT IT READS IS OF BULK AT MOST 1048576: true; the input reads as it did. -/
def wallsShowUptoRow : OpenClaim := { program := "ytpakkikhfkhebaagreat", sum := "7542d6bfadf346dfe78432d240548ccfd76f845e4cfbf4033bf51bd8c97d787e", func := "signboard/signlaw2.WallsShow", spec := "wallsShow", inPlace := ["internal/bytealg.IndexByteString"], unfollowed := true, recurses := true, apart := false, narrowed := true }
def WallsShowUptoSaid : Prop := wallsShowUptoRow.holds Tryz.pinned (OpenSpec.upto wallsShowSpec)

end Rows
end Go.Proofs.YtpakkikhfkhebaaGreat
