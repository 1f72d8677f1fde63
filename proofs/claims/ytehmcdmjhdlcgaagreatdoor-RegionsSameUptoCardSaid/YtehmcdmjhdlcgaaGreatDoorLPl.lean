import Derived.Test.YtehmcdmjhdlcgaaGreatDoorLEv5
import Derived.IntWalk
set_option linter.unusedVariables false
set_option linter.unusedSimpArgs false
namespace Go.Abs
open Go.RowKit
section
variable {a b : Int}
theorem addI_eq (h1 : -9223372036854775808 ≤ a + b) (h2 : a + b ≤ 9223372036854775807) : addI .i64 a b = a + b := IntWalk.i64_in _ ⟨h1, h2⟩
theorem subI_eq (h1 : -9223372036854775808 ≤ a - b) (h2 : a - b ≤ 9223372036854775807) : subI .i64 a b = a - b := IntWalk.i64_in _ ⟨h1, h2⟩
theorem mulI_eq (h1 : -9223372036854775808 ≤ a * b) (h2 : a * b ≤ 9223372036854775807) : mulI .i64 a b = a * b := IntWalk.i64_in _ ⟨h1, h2⟩
theorem ltI_iff : ltI a b = decide (a < b) := rfl
theorem eqI_iff : eqI a b = decide (a = b) := by unfold eqI; rw [Bool.eq_iff_iff]; simp
theorem neI_iff : neI a b = !decide (a = b) := by unfold neI; rw [Bool.eq_iff_iff]; simp
theorem minI_eq : minI a b = min a b := by unfold minI; omega
theorem maxI_eq : maxI a b = max a b := by unfold maxI; omega
end
theorem lenL_eq {α : Type} (l : List α) : lenL l = (l.length : Int) := rfl
theorem listAt_nat {α : Type} (l : List α) (i : Nat) : listAt l (i : Int) = l[i]? := by
  unfold listAt
  rw [if_pos (by omega)]
  rfl
theorem listAt_some {α : Type} {l : List α} {i : Nat} {x : α} (h : l[i]? = some x) : listAt l (i : Int) = some x := by rw [listAt_nat, h]
abbrev by_ (s : ByteArray) : List UInt8 := s.data.toList
def wp {α σ ρ : Type} (f : Nat → σ → α → σ ⊕ ρ) : Nat → σ → List α → σ ⊕ ρ
  | _, s, [] => .inl s
  | i, s, a :: l => match f i s a with
    | .inl s' => wp f (i + 1) s' l
    | .inr r => .inr r
def leS (a b : ByteArray) : Bool := ltS a b || eqS a b
theorem appO_eq {α : Type} {b : Nat} {l1 l2 : List α} (h : (l1.length + l2.length) * b ≤ 140737488355328) (h2 : l1.length + l2.length ≤ 9223372036854775807) : appO b l1 l2 = some (l1 ++ l2) := by
  unfold appO
  rw [if_pos ⟨by unfold maxLen; omega, h⟩]
end Go.Abs
