import Derived.Test.YtebjpnnikmkopaaAPlS
set_option linter.unusedVariables false
set_option linter.unusedSimpArgs false
namespace Go.Abs
/-! Two sorted lists of the same things are the same. -/
theorem sorted_one {α : Type} {lt : α → α → Prop} (asym : ∀ x y, lt x y → lt y x → False) : ∀ (l l' : List α), l.Pairwise lt → l'.Pairwise lt → (∀ x, x ∈ l ↔ x ∈ l') → l = l'
  | [], [], _, _, _ => rfl
  | [], y :: l', _, _, h => by have := (h y).2 List.mem_cons_self; cases this
  | x :: l, [], _, _, h => by have := (h x).1 List.mem_cons_self; cases this
  | x :: l, y :: l', h1, h2, h => by
    rw [List.pairwise_cons] at h1 h2
    have e : x = y := by
      rcases List.mem_cons.1 ((h x).1 List.mem_cons_self) with e | e
      · exact e
      · rcases List.mem_cons.1 ((h y).2 List.mem_cons_self) with e' | e'
        · exact e'.symm
        · exact (asym x y (h1.1 y e') (h2.1 x e)).elim
    subst e
    have : l = l' := sorted_one asym l l' h1.2 h2.2 fun z => by
      have hz := h z
      rw [List.mem_cons, List.mem_cons] at hz
      constructor
      · intro hz1
        rcases hz.1 (.inr hz1) with e | e
        · subst e; exact (asym z z (h1.1 z hz1) (h1.1 z hz1)).elim
        · exact e
      · intro hz1
        rcases hz.2 (.inr hz1) with e | e
        · subst e; exact (asym z z (h2.1 z hz1) (h2.1 z hz1)).elim
        · exact e
    rw [this]
end Go.Abs
