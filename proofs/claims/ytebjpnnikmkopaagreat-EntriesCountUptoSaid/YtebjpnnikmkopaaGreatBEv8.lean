import Derived.Test.YtebjpnnikmkopaaGreatBEv5
set_option linter.unusedVariables false
set_option linter.unusedSimpArgs false
namespace Go.Abs
open Go.RowKit
/-! Words for maps: a map of the frame as a list of keys, each with what it holds. -/
abbrev MP {α β : Type} (fk : α → AV) (fv : β → AV) (l : List (α × β)) (fz : Bool) : AObj := .mp (l.map fun p => fk p.1) (l.map fun p => fv p.2) fz
/-- The same, by value. -/
abbrev MV {α β : Type} (fk : α → AV) (fv : β → AV) (l : List (α × β)) : AV := .mv (l.map fun p => fk p.1) (l.map fun p => fv p.2)
def mgetB {α β : Type} (eqf : α → α → Bool) (l : List (α × β)) (k : α) : Option β := (l.find? fun p => eqf k p.1).map (·.2)
def msetB {α β : Type} (eqf : α → α → Bool) : List (α × β) → α → β → List (α × β)
  | [], k, v => [(k, v)]
  | p :: l, k, v => bif eqf k p.1 then (p.1, v) :: l else p :: msetB eqf l k v
section
variable {α β : Type} {fk : α → AV} {fv : β → AV} {eqf : α → α → Bool}
end
section
variable {P : Program} {C : Callee} {s : Nat → AV} {objs : Nat → Option AObj} {d : Nat} {ty : TypeId} {op : Op} {α β : Type}
end
section
variable {P : Program} {C : Callee} {σ : Env} {op : Op} {dst : Option Nat} {α β : Type}
end
end Go.Abs
