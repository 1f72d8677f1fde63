import Derived.Test.YtebjpnnikmkopaaGreatBEv3
set_option linter.unusedVariables false
set_option linter.unusedSimpArgs false
namespace Go.Abs
open Go.RowKit
/-! Structs that are compared. -/
def allB : List Bool → Bool
  | [] => true
  | b :: l => b && allB l
def sf (P : Program) (t : TypeId) : Array Field := match P.underlying t with
  | some (.struct fs) => fs
  | _ => #[]
section
variable {P : Program} {C : Callee} {s : Nat → AV} {objs : Nat → Option AObj} {d : Nat} {ty : TypeId} {op : Op}
def fieldEq (P : Program) (dep : Nat) (xs ys : Array Value) (f : Field) : Sem Bool := do Op.equalIn dep f.type (← part f.type xs f.offset) (← part f.type ys f.offset)
end
/-! Structs in structs. -/
section
variable {P : Program}
end
end Go.Abs
