import Derived.Test.YtpnddbpcioepnaaGreatDoorEPlU
import Derived.Test.YtpnddbpcioepnaaGreatDoorEPlL
set_option linter.unusedVariables false
set_option linter.unusedSimpArgs false
namespace Go.Abs
/-! Steps through a printed function, one by one. -/
theorem ltI_t {a b : Int} (h : a < b) : ltI a b = true := by unfold ltI; exact decide_eq_true h
theorem ltI_f {a b : Int} (h : b ≤ a) : ltI a b = false := by unfold ltI; exact decide_eq_false (by omega)
theorem neI_no (a : Int) : neI a a = false := by rw [neI_iff]; simp
theorem neI_t {a b : Int} (h : a ≠ b) : neI a b = true := by rw [neI_iff]; simpa using h
theorem neI_f {a b : Int} (h : a = b) : neI a b = false := by rw [neI_iff]; simpa using h
theorem eqI_t {a b : Int} (h : a = b) : eqI a b = true := by rw [eqI_iff]; simpa using h
theorem eqI_f {a b : Int} (h : a ≠ b) : eqI a b = false := by rw [eqI_iff]; simpa using h
theorem bs {α β : Type} {x : Option α} {a : α} {f : α → Option β} {b : Option β} (h : x = some a) (h2 : f a = b) : x.bind f = b := by rw [h]; exact h2
theorem cf {α : Type} {c : Bool} {x y b : α} (h : c = false) (h2 : y = b) : (bif c then x else y) = b := by rw [h]; exact h2
theorem ct {α : Type} {c : Bool} {x y b : α} (h : c = true) (h2 : x = b) : (bif c then x else y) = b := by rw [h]; exact h2
theorem si {α β γ : Type} {f : α → γ} {g : β → γ} {a : α} {b : γ} (h : f a = b) : Sum.elim f g (.inl a) = b := h
theorem sr {α β γ : Type} {f : α → γ} {g : β → γ} {a : β} {b : γ} (h : g a = b) : Sum.elim f g (.inr a) = b := h
theorem prevI {i : Nat} (h0 : 0 < i) (h : i < 9223372036854775807) : subI .i64 (i : Int) 1 = ((i - 1 : Nat) : Int) := by rw [subI_eq (by omega) (by omega)]; omega
theorem take_next {α : Type} {l : List α} {i : Nat} {x : α} (h : l[i]? = some x) : l.take (i + 1) = l.take i ++ [x] := by
  rw [List.take_add_one, h]; rfl
/-! Whether one of some is so. -/
end Go.Abs
