import Derived.Test.YtehmcdmjhdlcgaaGreatDoorHTKIR
import Derived.Test.YtehmcdmjhdlcgaaGreatDoorHPlS
import Derived.Test.YtehmcdmjhdlcgaaGreatDoorHPlU
set_option linter.unusedVariables false
set_option linter.unusedSimpArgs false
set_option maxRecDepth 10000
namespace Go.Abs.TKI
open Go.RowKit Go.Proofs Go.Abs
/-! The two rectangles of 'lit'. -/
theorem lit_sort1 (x : S182) : sortO (fun x y => T129 x y) [x] = some [x] := by
  obtain ⟨l', h1, h2, _⟩ := sortO_le (fun x y => T129 x y) (fun _ _ => True) (fun _ _ => .inl trivial) (fun _ _ _ _ _ => trivial) [x] (by simp) (by
    intro a ha b hb
    simp only [List.mem_singleton] at ha hb
    subst ha; subst hb
    refine ⟨_, rfl, ?_⟩
    have : subI .i64 b.f0 b.f0 = 0 := by unfold subI; rw [Int.sub_self]; rfl
    simp [this])
  rw [h1, List.perm_singleton.1 h2]
theorem lit_sort2 : sortO (fun x y => T129 x y) [⟨0, 2⟩, ⟨1, 3⟩] = some [⟨0, 2⟩, ⟨1, 3⟩] := by
  obtain ⟨l', h1, h2, h3⟩ := sortO_key (fun x y => T129 x y) (·.f0) [⟨0, 2⟩, ⟨1, 3⟩] (by simp) (by
    intro a ha b hb
    simp only [List.mem_cons, List.not_mem_nil, or_false] at ha hb
    rcases ha with rfl | rfl <;> rcases hb with rfl | rfl <;> exact ⟨_, rfl, by decide⟩)
  rw [h1]
  congr 1
  match l', h2.length_eq with
  | [a, b], _ =>
    have ha : a ∈ [(⟨0, 2⟩ : S182), ⟨1, 3⟩] := h2.mem_iff.1 (by simp)
    have hb : b ∈ [(⟨0, 2⟩ : S182), ⟨1, 3⟩] := h2.mem_iff.1 (by simp)
    have hp := h2.countP_eq (fun x : S182 => x.f0 == 0)
    simp only [List.mem_cons, List.not_mem_nil, or_false] at ha hb
    simp only [List.pairwise_cons, List.mem_singleton, forall_eq] at h3
    rcases ha with rfl | rfl <;> rcases hb with rfl | rfl
    · simp at hp
    · rfl
    · have := h3.1
      simp at this
    · simp at hp
abbrev r0 : S28 := S28.mk 0 0 2 2
abbrev r1 : S28 := S28.mk 1 1 2 2
theorem runs_nil (y : Int) : T106 [] y = some [] := by
  unfold T106
  rw [iter_run (r := (0, false, [])) 1 (by kernel_rfl)]
  simp only [Option.bind_some]
  rw [show sortO (fun x y => T129 x y) ([] : List S182) = some [] from by simp [sortO], Option.bind_some, iter_run (r := (0, false, [], [])) 1 (by kernel_rfl)]
  rfl
theorem runs0 : T106 [r0, r1] 0 = some [⟨0, 2⟩] := by
  unfold T106
  rw [iter_run (r := (2, false, [⟨0, 2⟩])) 3 (by kernel_rfl)]
  simp only [Option.bind_some]
  rw [lit_sort1, Option.bind_some, iter_run (r := (1, false, [⟨0, 2⟩], [⟨0, 2⟩])) 2 (by kernel_rfl)]
  rfl
theorem runs1 : T106 [r0, r1] 1 = some [⟨0, 3⟩] := by
  unfold T106
  rw [iter_run (r := (2, false, [⟨0, 2⟩, ⟨1, 3⟩])) 3 (by kernel_rfl)]
  simp only [Option.bind_some]
  rw [lit_sort2, Option.bind_some, iter_run (r := (2, false, [⟨0, 3⟩], [⟨0, 2⟩, ⟨1, 3⟩])) 3 (by kernel_rfl)]
  rfl
theorem runs2 : T106 [r0, r1] 2 = some [⟨1, 3⟩] := by
  unfold T106
  rw [iter_run (r := (2, false, [⟨1, 3⟩])) 3 (by kernel_rfl)]
  simp only [Option.bind_some]
  rw [lit_sort1, Option.bind_some, iter_run (r := (1, false, [⟨1, 3⟩], [⟨1, 3⟩])) 2 (by kernel_rfl)]
  rfl
theorem less_nil (x : S182) (hx : ltI x.f0 x.f1 = true) : T105 [x] [] = some [x] := by
  have h : L105_4 [x] [] ([], 0, 0) = some (.inl ([x], 0, 1)) := by
    unfold L105_4
    have e1 : ltI ((([], 0, 0) : List S182 × Int × Int).2.2) (lenL [x]) = true := rfl
    have e2 : listAt [x] ((([], 0, 0) : List S182 × Int × Int).2.2) = some x := rfl
    rw [e1, e2]
    simp only [cond_true, Option.bind_some]
    rw [iter_run (r := (0, false)) 1 (by kernel_rfl), Option.bind_some, iter_run (r := (0, false, [], x.f0)) 1 (by kernel_rfl)]
    simp only [Option.bind_some, hx, cond_true]
    rfl
  unfold T105
  rw [iter_inl h, iter_inr (r := (0, 1, false, [x])) (by kernel_rfl)]
  rfl
theorem same_no (a b : S182) (h : allB [eqI a.f0 b.f0, eqI a.f1 b.f1] = false) : T107 [a] [b] = some false := by
  unfold T107
  rw [iter_inr (r := .inr ()) (by
    unfold L107_4
    have e1 : ltI 0 (lenL [a]) = true := rfl
    have e2 : listAt [a] 0 = some a := rfl
    have e3 : listAt [b] 0 = some b := rfl
    rw [e1, e2, e3]
    simp only [cond_true, Option.bind_some, h, Bool.not_false])]
  rfl
theorem lit_region : T60 [r0, r1] [] = some [⟨0, 0, 2, 1⟩, ⟨0, 1, 3, 1⟩, ⟨1, 2, 2, 1⟩] := by
  unfold T60 T21
  rw [iter_run (r := (2, 2, false)) 3 (by kernel_rfl)]
  simp only [Option.bind_some]
  rw [show growO S28 32 2 = some [] by unfold growO; rw [if_pos (by decide)], Option.bind_some, iter_run (r := (2, false, [r0, r1])) 3 (by kernel_rfl)]
  simp only [Option.bind_some]
  rw [iter_run (r := (2, false, [0, 2, 1, 3], [r0, r1])) 3 (by kernel_rfl)]
  simp only [Option.bind_some]
  rw [show sortIO [0, 2, 1, 3] = some [0, 1, 2, 3] by
    unfold sortIO
    rw [if_pos (by simp), sortI_of (l' := [0, 1, 2, 3]) (by decide) (by decide)]]
  simp only [Option.bind_some]
  rw [show compIO [0, 1, 2, 3] = some [0, 1, 2, 3] by decide]
  simp only [Option.bind_some]
  have s0 : L60_13 [r0, r1] [] [0, 1, 2, 3] ([0, 1, 2, 3], [], [], 0, 0) = some (.inl ([0, 1, 2, 3], [], [⟨0, 2⟩], 0, 1)) := by
    unfold L60_13
    rw [show ltI ((([0, 1, 2, 3], [], [], 0, 0) : List Int × List S28 × List S182 × Int × Int).2.2.2.2) (lenL ([0, 1, 2, 3] : List Int)) = true by decide]
    simp only [cond_true]
    rw [show idxO (List.length ([0, 1, 2, 3] : List Int)) 0 = some 0 by decide]
    simp only [Option.bind_some]
    rw [show getN ([0, 1, 2, 3] : List Int) 0 = some 0 by decide]
    simp only [Option.bind_some]
    rw [show ltI (addI .i64 0 1) (lenL ([0, 1, 2, 3] : List Int)) = true by decide]
    simp only [cond_true]
    rw [runs0, runs_nil]
    simp only [Option.bind_some]
    rw [less_nil ⟨0, 2⟩ (by decide)]
    simp only [Option.bind_some]
    rw [show T107 [] [⟨0, 2⟩] = some false by unfold T107; rfl]
    simp only [Option.bind_some, cond_false]
    rw [iter_run (r := (0, false, [0, 1, 2, 3], [])) 1 (by kernel_rfl)]
    rfl
  have s1 : L60_13 [r0, r1] [] [0, 1, 2, 3] ([0, 1, 2, 3], [], [⟨0, 2⟩], 0, 1) = some (.inl ([0, 1, 2, 3], [⟨0, 0, 2, 1⟩], [⟨0, 3⟩], 1, 2)) := by
    unfold L60_13
    rw [show ltI ((([0, 1, 2, 3], [], [⟨0, 2⟩], 0, 1) : List Int × List S28 × List S182 × Int × Int).2.2.2.2) (lenL ([0, 1, 2, 3] : List Int)) = true by decide]
    simp only [cond_true]
    rw [show idxO (List.length ([0, 1, 2, 3] : List Int)) 1 = some 1 by decide]
    simp only [Option.bind_some]
    rw [show getN ([0, 1, 2, 3] : List Int) 1 = some 1 by decide]
    simp only [Option.bind_some]
    rw [show ltI (addI .i64 1 1) (lenL ([0, 1, 2, 3] : List Int)) = true by decide]
    simp only [cond_true]
    rw [runs1, runs_nil]
    simp only [Option.bind_some]
    rw [less_nil ⟨0, 3⟩ (by decide)]
    simp only [Option.bind_some]
    rw [same_no _ _ (by decide)]
    simp only [Option.bind_some, cond_false]
    rw [iter_run (r := (1, false, [0, 1, 2, 3], [⟨0, 0, 2, 1⟩])) 2 (by kernel_rfl)]
    rfl
  have s2 : L60_13 [r0, r1] [] [0, 1, 2, 3] ([0, 1, 2, 3], [⟨0, 0, 2, 1⟩], [⟨0, 3⟩], 1, 2) = some (.inl ([0, 1, 2, 3], [⟨0, 0, 2, 1⟩, ⟨0, 1, 3, 1⟩], [⟨1, 3⟩], 2, 3)) := by
    unfold L60_13
    rw [show ltI ((([0, 1, 2, 3], [⟨0, 0, 2, 1⟩], [⟨0, 3⟩], 1, 2) : List Int × List S28 × List S182 × Int × Int).2.2.2.2) (lenL ([0, 1, 2, 3] : List Int)) = true by decide]
    simp only [cond_true]
    rw [show idxO (List.length ([0, 1, 2, 3] : List Int)) 2 = some 2 by decide]
    simp only [Option.bind_some]
    rw [show getN ([0, 1, 2, 3] : List Int) 2 = some 2 by decide]
    simp only [Option.bind_some]
    rw [show ltI (addI .i64 2 1) (lenL ([0, 1, 2, 3] : List Int)) = true by decide]
    simp only [cond_true]
    rw [runs2, runs_nil]
    simp only [Option.bind_some]
    rw [less_nil ⟨1, 3⟩ (by decide)]
    simp only [Option.bind_some]
    rw [same_no _ _ (by decide)]
    simp only [Option.bind_some, cond_false]
    rw [iter_run (r := (1, false, [0, 1, 2, 3], [⟨0, 0, 2, 1⟩, ⟨0, 1, 3, 1⟩])) 2 (by kernel_rfl)]
    rfl
  have s3 : L60_13 [r0, r1] [] [0, 1, 2, 3] ([0, 1, 2, 3], [⟨0, 0, 2, 1⟩, ⟨0, 1, 3, 1⟩], [⟨1, 3⟩], 2, 3) = some (.inl ([0, 1, 2, 3], [⟨0, 0, 2, 1⟩, ⟨0, 1, 3, 1⟩, ⟨1, 2, 2, 1⟩], [], 3, 4)) := by
    unfold L60_13
    rw [show ltI ((([0, 1, 2, 3], [⟨0, 0, 2, 1⟩, ⟨0, 1, 3, 1⟩], [⟨1, 3⟩], 2, 3) : List Int × List S28 × List S182 × Int × Int).2.2.2.2) (lenL ([0, 1, 2, 3] : List Int)) = true by decide]
    simp only [cond_true]
    rw [show idxO (List.length ([0, 1, 2, 3] : List Int)) 3 = some 3 by decide]
    simp only [Option.bind_some]
    rw [show getN ([0, 1, 2, 3] : List Int) 3 = some 3 by decide]
    simp only [Option.bind_some]
    rw [show ltI (addI .i64 3 1) (lenL ([0, 1, 2, 3] : List Int)) = false by decide]
    simp only [cond_false]
    rw [show T107 [⟨1, 3⟩] [] = some false by unfold T107; rfl]
    simp only [Option.bind_some, cond_false]
    rw [iter_run (r := (1, false, [0, 1, 2, 3], [⟨0, 0, 2, 1⟩, ⟨0, 1, 3, 1⟩, ⟨1, 2, 2, 1⟩])) 2 (by kernel_rfl)]
    rfl
  rw [iter_inl s0, iter_inl s1, iter_inl s2, iter_inl s3, iter_inr (r := ([], 3, 4, false, [0, 1, 2, 3], [⟨0, 0, 2, 1⟩, ⟨0, 1, 3, 1⟩, ⟨1, 2, 2, 1⟩])) (by kernel_rfl)]
  rfl
theorem lit_area : T20 [r0, r1] = some (7, 0) := by
  unfold T20 T58 T61
  rw [iter_run (r := .inl (2, false)) 3 (by kernel_rfl)]
  rw [show (bif ltI 2000 (lenL ([r0, r1] : List S28)) then (some 2 : Option Int) else (some (Sum.inl (2, false) : (Int × Bool) ⊕ Int)).bind fun y3 => (Sum.elim (fun y3a => some 0) (fun y3b => some y3b) y3)) = some 0 by decide]
  simp only [Option.bind_some]
  rw [show neI 0 0 = false by decide]
  simp only [cond_false]
  rw [lit_region]
  simp only [Option.bind_some]
  rw [iter_run (r := (7, 3, false)) 4 (by kernel_rfl)]
  rfl
/-! All that 'ready' asks. -/
theorem r45 : T45 (S94.mk (ByteArray.mk #[97]) (ByteArray.mk #[]) (S92.mk 0 100) [] 10 0 0) 50 = some (5, 0) := by kernel_rfl
theorem r42 : T42 ([(S87.mk (ByteArray.mk #[112]) 0 100), (S87.mk (ByteArray.mk #[112]) 1000 1300)] : List S87) (ByteArray.mk #[112]) 700 = some (500, 0) := by kernel_rfl
theorem r67 : T67 (S136.mk (ByteArray.mk #[97]) (ByteArray.mk #[98]) 0 0 0 1 127 [] 1 2 0 [] false) 0 (S92.mk 0 86400000) = some ([S92.mk 60000 120000], 0) := by kernel_rfl
theorem r68 : T68 (S138.mk (ByteArray.mk #[97]) (ByteArray.mk #[115]) 1 [] 0 5 1 ([(S28.mk 0 0 2 2)] : List S28) (ByteArray.mk #[120])) (S142.mk (ByteArray.mk #[112]) 1 1) = some (true, 0) := by kernel_rfl
theorem ready_ok : T26 = some true := by
  unfold T26
  rw [lit_area, r45, r42, r67, r68]
  simp only [Option.bind_some]
  kernel_rfl
end Go.Abs.TKI

set_option linter.unusedVariables false
set_option linter.unusedSimpArgs false
set_option maxRecDepth 10000
namespace Go.Abs.TKI
open Go.RowKit Go.Proofs Go.Abs
/-! What a stream hands out. -/
theorem below_ok (x : Int) {n : Int} (hn : n ≤ 1000000000000000) : ∃ v, T102 x n = some v ∧ (1 ≤ n → 0 ≤ v ∧ v < n) ∧ (n < 1 → v = 0) := by
  unfold T102
  by_cases h : n < 1
  · rw [show ltI n 1 = true by unfold ltI; exact decide_eq_true h]
    exact ⟨0, rfl, fun h1 => by omega, fun _ => rfl⟩
  · rw [show ltI n 1 = false by unfold ltI; exact decide_eq_false h]
    have hr : remO .i64 x n = some (x.tmod n) := by unfold remO; rw [if_neg (by omega)]
    have h1 := Int.tmod_lt_of_pos x (by omega : 0 < n)
    have h2 := Int.lt_tmod_of_pos x (by omega : 0 < n)
    simp only [cond_false, hr, Option.bind_some]
    by_cases h0 : x.tmod n < 0
    · rw [show ltI (x.tmod n) 0 = true by unfold ltI; exact decide_eq_true h0]
      refine ⟨_, rfl, fun _ => ?_, fun h3 => by omega⟩
      rw [addI_eq (by omega) (by omega)]
      omega
    · rw [show ltI (x.tmod n) 0 = false by unfold ltI; exact decide_eq_false h0]
      exact ⟨_, rfl, fun _ => ⟨by omega, h1⟩, fun h3 => by omega⟩
theorem next_ok {L : List Int} {at_ n : Int} (hL : L.length ≤ 1048576) (h0 : 0 ≤ at_) (h1 : at_ ≤ 1000000000) (hn : n ≤ 1000000000000000) : ∃ v, T57 L at_ n = some (v, L, at_ + 1) ∧ (1 ≤ n → 0 ≤ v ∧ v < n) ∧ (n < 1 → v = 0) := by
  unfold T57
  have e1 : addI .i64 at_ 1 = at_ + 1 := addI_eq (by omega) (by omega)
  rw [e1]
  by_cases hl : L.length = 0
  · rw [show eqI (lenL L) 0 = true by rw [eqI_iff, lenL_eq, hl]; rfl]
    obtain ⟨v, h2, h3⟩ := below_ok (mulI .i64 (at_ + 1) 7919) hn
    simp only [cond_true, h2, Option.bind_some]
    exact ⟨v, rfl, h3⟩
  · rw [show eqI (lenL L) 0 = false by rw [eqI_iff, lenL_eq]; exact decide_eq_false (by omega)]
    have e2 : subI .i64 (at_ + 1) 1 = at_ := by rw [subI_eq (by omega) (by omega)]; omega
    have hr : remO .i64 at_ (lenL L) = some (at_.tmod L.length) := by unfold remO; rw [lenL_eq, if_neg (by omega)]
    have hq : ∃ q, quoO .i64 at_ (lenL L) = some q := by unfold quoO; rw [lenL_eq, if_neg (by omega)]; exact ⟨_, rfl⟩
    obtain ⟨q, hq⟩ := hq
    have h2 := Int.tmod_lt_of_pos at_ (by omega : (0 : Int) < L.length)
    have h3 := Int.tmod_nonneg (L.length : Int) h0
    generalize at_.tmod L.length = k at *
    obtain ⟨j, rfl⟩ : ∃ j : Nat, k = j := ⟨k.toNat, by omega⟩
    have hx := List.getElem?_eq_getElem (show j < L.length by omega)
    obtain ⟨v, h4, _⟩ := below_ok (L[j]'(by omega)) (n := 1073741824) (by omega)
    obtain ⟨u, h6, h7⟩ := below_ok (addI .i64 v (mulI .i64 q (addI .i64 7919 j))) hn
    simp only [cond_false, e2, hr, hq, Option.bind_some, listAt_some hx, h4, h6]
    exact ⟨u, rfl, h7⟩
theorem range_ok {L : List Int} {at_ lo hi : Int} (hL : L.length ≤ 1048576) (h0 : 0 ≤ at_) (h1 : at_ ≤ 1000000000) (hlo : -1000000000000 ≤ lo) (hle : lo ≤ hi) (hhi : hi ≤ 1000000000000) : ∃ v, T14 L at_ lo hi = some (v, L, at_ + 1) ∧ lo ≤ v ∧ v ≤ hi := by
  unfold T14
  rw [show ltI hi lo = false by unfold ltI; exact decide_eq_false (by omega)]
  have e1 : subI .i64 hi lo = hi - lo := subI_eq (by omega) (by omega)
  have e2 : addI .i64 (hi - lo) 1 = hi - lo + 1 := addI_eq (by omega) (by omega)
  obtain ⟨v, h2, h3, _⟩ := next_ok (n := hi - lo + 1) hL h0 h1 (by omega)
  have h4 := h3 (by omega)
  simp only [cond_false, e1, e2, h2, Option.bind_some]
  exact ⟨_, rfl, by rw [addI_eq (by omega) (by omega)]; omega, by rw [addI_eq (by omega) (by omega)]; omega⟩
/-! First errors. -/
theorem errs_ok : ∀ (l : List Int), l.length ≤ 100 → (∀ x ∈ l, x = 0) → T22 l = some 0 := by
  intro l hl h
  unfold T22
  have key : ∀ (i : Nat) (s : Unit), i < l.length → True → ∃ s' : Unit, L22_2 l (i : Int) = some (.inl ((i + 1 : Nat) : Int)) ∧ True := by
    intro i _ hi _
    have hx := List.getElem?_eq_getElem hi
    have := h _ (List.getElem_mem hi)
    refine ⟨(), ?_, trivial⟩
    unfold L22_2
    simp only [ltL_true hi, cond_true, listAt_some hx, Option.bind_some, this, show neI 0 0 = false from rfl, cond_false, nextI (i := i) (by omega)]
  obtain ⟨r, h1, y, rfl⟩ := iter_up (st := L22_2 l) (fun (_ : Unit) i => (i : Int)) l.length (fun _ _ => True) (fun r => ∃ y, r = .inl y) key (fun _ _ => ⟨_, by unfold L22_2; rw [ltL_false (Nat.le_refl _)]; rfl, _, rfl⟩) () trivial
  have h1 : iter (L22_2 l) 0 = some (.inl y) := h1
  rw [h1, Option.bind_some, Sum.elim_inl]
end Go.Abs.TKI

set_option linter.unusedVariables false
set_option linter.unusedSimpArgs false
set_option maxRecDepth 10000
namespace Go.Abs.TKI
open Go.RowKit Go.Proofs Go.Abs
/-! Plays that are drawn. -/
abbrev pA : ByteArray := ByteArray.mk #[112, 97]
abbrev pB : ByteArray := ByteArray.mk #[112, 98]
abbrev iA : ByteArray := ByteArray.mk #[105, 97]
abbrev iB : ByteArray := ByteArray.mk #[105, 98]
theorem ltI_t {a b : Int} (h : a < b) : ltI a b = true := by unfold ltI; exact decide_eq_true h
theorem ltI_f {a b : Int} (h : b ≤ a) : ltI a b = false := by unfold ltI; exact decide_eq_false (by omega)
theorem leI_t {a b : Int} (h : a ≤ b) : leI a b = true := by unfold leI; exact decide_eq_true h
theorem leI_f {a b : Int} (h : b < a) : leI a b = false := by unfold leI; exact decide_eq_false (by omega)
theorem neI_no (a : Int) : neI a a = false := by rw [neI_iff]; simp
theorem pick_ok {L : List Int} {at_ : Int} {l : List Int} (hL : L.length ≤ 1048576) (h0 : 0 ≤ at_) (h1 : at_ ≤ 1000000000) (hl : 1 ≤ l.length) (hl2 : l.length ≤ 1000) : ∃ v, T75 L at_ l = some (v, L, at_ + 1) ∧ v ∈ l := by
  obtain ⟨k, e, h2, _⟩ := next_ok (n := lenL l) hL h0 h1 (by rw [lenL_eq]; omega)
  rw [lenL_eq] at h2
  have h2 := h2 (by omega)
  obtain ⟨j, rfl⟩ : ∃ j : Nat, k = j := ⟨k.toNat, by omega⟩
  have hj : j < l.length := by omega
  refine ⟨l[j], ?_, List.getElem_mem hj⟩
  unfold T75
  simp only [e, Option.bind_some, listAt_some (List.getElem?_eq_getElem hj)]
theorem some_ok {L : List Int} {at_ : Int} {l : List ByteArray} (hL : L.length ≤ 1048576) (h0 : 0 ≤ at_) (h1 : at_ ≤ 1000000000) (hl : 1 ≤ l.length) (hl2 : l.length ≤ 1000) : ∃ v, T46 L at_ l = some (v, L, at_ + 1) ∧ v ∈ l := by
  obtain ⟨k, e, h2, _⟩ := next_ok (n := lenL l) hL h0 h1 (by rw [lenL_eq]; omega)
  rw [lenL_eq] at h2
  have h2 := h2 (by omega)
  obtain ⟨j, rfl⟩ : ∃ j : Nat, k = j := ⟨k.toNat, by omega⟩
  have hj : j < l.length := by omega
  refine ⟨l[j], ?_, List.getElem_mem hj⟩
  unfold T46
  simp only [e, Option.bind_some, listAt_some (List.getElem?_eq_getElem hj)]
/-- Plays of one player, one behind another. -/
structure Pn (pl : ByteArray) (hi : Int) (x : S99) : Prop where
  p : x.f0 = pl
  i : x.f1 = iA ∨ x.f1 = iB
  a : 0 ≤ x.f2
  b : x.f2 < hi
  c : 1 ≤ x.f3
  d : x.f3 ≤ 20
theorem Pn.mono {pl : ByteArray} {a b : Int} {x : S99} (h : Pn pl a x) (hab : a ≤ b) : Pn pl b x := ⟨h.p, h.i, h.a, by have := h.b; omega, h.c, h.d⟩
structure RunP (pl : ByteArray) (hi : Int) (l : List S99) : Prop where
  all : ∀ x ∈ l, Pn pl hi x
  up : l.Pairwise fun x y => x.f2 < y.f2
theorem runP_nil (pl : ByteArray) (hi : Int) : RunP pl hi [] := ⟨fun x hx => (by cases hx), .nil⟩
theorem runP_snoc {pl : ByteArray} {hi n : Int} {l : List S99} {x : S99} (h : RunP pl hi l) (hx : Pn pl (hi + n) x) (h2 : hi ≤ x.f2) (hn : 0 ≤ n) : RunP pl (hi + n) (l ++ [x]) := by
  refine ⟨fun y hy => ?_, List.pairwise_append.2 ⟨h.up, by simp, fun a ha b hb => ?_⟩⟩
  · rcases List.mem_append.1 hy with hy | hy
    · exact (h.all y hy).mono (by omega)
    · rw [List.mem_singleton] at hy; subst hy; exact hx
  · rw [List.mem_singleton] at hb; subst hb
    have := (h.all a ha).b
    omega
/-- One player's plays. -/
theorem inner_ok {L : List Int} (hL : L.length ≤ 1048576) (p1 : Int) (z : List Int × Int × List S99 × List ByteArray × Int) (pl : ByteArray) {n : Int} (q : List Int × Int) (hn : 0 ≤ n ∧ n ≤ 100) {at_ a : Int} (hat : 0 ≤ at_ ∧ at_ ≤ 100000) (ha : 0 ≤ a ∧ a ≤ 86399990) (base : List S99) (hb : base.length ≤ 1000) (ps : List ByteArray) :
    ∃ at' a' new, iter (L49_7 p1 z pl (n, q)) (L, at_, base, a, ps, 0) = some (a', n, false, L, at', base ++ new, ps) ∧ RunP pl a' new ∧ a' ≤ 86403000 ∧ 0 ≤ a' ∧ (new.length : Int) = n ∧ 0 ≤ at' ∧ at' ≤ at_ + 3 * n := by
  obtain ⟨m, rfl⟩ : ∃ m : Nat, n = m := ⟨n.toNat, by omega⟩
  let enc : Int × List S99 × Int → Nat → List Int × Int × List S99 × Int × List ByteArray × Int := fun s i => (L, s.1, base ++ s.2.1, s.2.2, ps, (i : Int))
  let Inv : Nat → Int × List S99 × Int → Prop := fun i s => (0 ≤ s.1 ∧ s.1 ≤ at_ + 3 * i) ∧ RunP pl s.2.2 s.2.1 ∧ s.2.1.length = i ∧ 0 ≤ s.2.2 ∧ s.2.2 ≤ 86399990 + 30 * i
  have h0 : Inv 0 (at_, [], a) := ⟨by simp only; omega, runP_nil _ _, rfl, ha.1, by simp only; omega⟩
  have key : ∀ (i : Nat) s, i < m → Inv i s → ∃ s', L49_7 p1 z pl ((m : Int), q) (enc s i) = some (.inl (enc s' (i + 1))) ∧ Inv (i + 1) s' := by
    rintro i ⟨at0, l, a0⟩ hi ⟨h1, h2, h3, h4, h5⟩
    simp only at h1 h2 h3 h4 h5
    obtain ⟨v1, e1, m1⟩ := some_ok (L := L) (at_ := at0) (l := [iA, iB]) hL (by omega) (by omega) (by decide) (by decide)
    obtain ⟨v2, e2, m2⟩ := pick_ok (L := L) (at_ := at0 + 1) (l := [1, 5, 10, 20]) hL (by omega) (by omega) (by decide) (by decide)
    obtain ⟨v3, e3, m3⟩ := pick_ok (L := L) (at_ := at0 + 1 + 1) (l := [1, 5, 10, 30]) hL (by omega) (by omega) (by decide) (by decide)
    have b2 : 1 ≤ v2 ∧ v2 ≤ 20 := by simp only [List.mem_cons, List.not_mem_nil, or_false] at m2; omega
    have b3 : 1 ≤ v3 ∧ v3 ≤ 30 := by simp only [List.mem_cons, List.not_mem_nil, or_false] at m3; omega
    have b1 : v1 = iA ∨ v1 = iB := by simpa using m1
    have ho : appO 48 (base ++ l) [(⟨pl, v1, a0, v2⟩ : S99)] = some (base ++ l ++ [⟨pl, v1, a0, v2⟩]) := appO_big (by decide) (by simp only [List.length_append, List.length_cons, List.length_nil]; omega)
    have e4 : addI .i64 a0 v3 = a0 + v3 := addI_eq (by omega) (by omega)
    refine ⟨(at0 + 1 + 1 + 1, l ++ [⟨pl, v1, a0, v2⟩], a0 + v3), ?_, ?_⟩
    · unfold L49_7
      simp only [enc, ltI_t (show (i : Int) < (m : Int) by omega), cond_true, e1, e2, e3, Option.bind_some, ho, e4, nextI (i := i) (by omega), List.append_assoc]
    · refine ⟨by simp only; omega, runP_snoc h2 ⟨rfl, b1, by simp only; omega, by simp only; omega, b2.1, b2.2⟩ (by simp only; omega) (by omega), by simp only [List.length_append, List.length_cons, List.length_nil]; omega, by simp only; omega, by simp only; omega⟩
  have kend : ∀ s, Inv m s → ∃ r, L49_7 p1 z pl ((m : Int), q) (enc s m) = some (.inr r) ∧ ∃ at' a' new, r = (a', (m : Int), false, L, at', base ++ new, ps) ∧ RunP pl a' new ∧ a' ≤ 86403000 ∧ 0 ≤ a' ∧ (new.length : Int) = m ∧ 0 ≤ at' ∧ at' ≤ at_ + 3 * m := by
    rintro ⟨at0, l, a0⟩ ⟨h1, h2, h3, h4, h5⟩
    simp only at h1 h2 h3 h4 h5
    refine ⟨_, by unfold L49_7; simp only [enc]; rw [ltI_f (Int.le_refl _)]; rfl, at0, a0, l, rfl, h2, by omega, h4, by omega, by omega, by omega⟩
  obtain ⟨r, h1, at', a', new, e, hI⟩ := iter_up enc m Inv _ key kend (at_, [], a) h0
  have h1 : iter (L49_7 p1 z pl ((m : Int), q)) (L, at_, base ++ [], a, ps, 0) = some r := h1
  rw [List.append_nil] at h1
  exact ⟨at', a', new, by rw [← e]; exact h1, hI⟩
theorem plays_ok {L : List Int} (hL : L.length ≤ 1048576) {at_ n : Int} (hat : 0 ≤ at_ ∧ at_ ≤ 1000) (hn : 0 ≤ n ∧ n ≤ 50) : ∃ a b at', T49 L at_ n = some (a ++ b, L, at') ∧ RunP pA 86403000 a ∧ RunP pB 86403000 b ∧ a.length ≤ n.toNat ∧ b.length ≤ n.toNat ∧ 0 ≤ at' ∧ at' ≤ at_ + 400 := by
  obtain ⟨s1, e1, m1⟩ := pick_ok (L := L) (at_ := at_) (l := [0, 5, 86399990]) hL (by omega) (by omega) (by decide) (by decide)
  obtain ⟨k1, f1, k1a, k1b⟩ := range_ok (L := L) (at_ := at_ + 1) (lo := 0) (hi := n) hL (by omega) (by omega) (by omega) (by omega) (by omega)
  have b1 : 0 ≤ s1 ∧ s1 ≤ 86399990 := by simp only [List.mem_cons, List.not_mem_nil, or_false] at m1; omega
  obtain ⟨at1, a1, new1, g1, r1, r1b, r1c, r1d, r1e, r1f⟩ := inner_ok hL n (L, at_, [], [pA, pB], 0) pA (n := k1) (L, at_ + 1 + 1) ⟨k1a, by omega⟩ (at_ := at_ + 1 + 1) (a := s1) (by omega) b1 [] (by decide) [pA, pB]
  obtain ⟨s2, e2, m2⟩ := pick_ok (L := L) (at_ := at1) (l := [0, 5, 86399990]) hL (by omega) (by omega) (by decide) (by decide)
  obtain ⟨k2, f2, k2a, k2b⟩ := range_ok (L := L) (at_ := at1 + 1) (lo := 0) (hi := n) hL (by omega) (by omega) (by omega) (by omega) (by omega)
  have b2 : 0 ≤ s2 ∧ s2 ≤ 86399990 := by simp only [List.mem_cons, List.not_mem_nil, or_false] at m2; omega
  obtain ⟨at2, a2, new2, g2, q1, q1b, q1c, q1d, q1e, q1f⟩ := inner_ok hL n (L, at1, new1, [pA, pB], 1) pB (n := k2) (L, at1 + 1 + 1) ⟨k2a, by omega⟩ (at_ := at1 + 1 + 1) (a := s2) (by omega) b2 new1 (by omega) [pA, pB]
  rw [List.nil_append] at g1
  have t0 : L49_3 n (L, at_, [], [pA, pB], 0) = some (.inl (L, at1, new1, [pA, pB], 1)) := by
    unfold L49_3
    simp only [show ltI 0 (lenL ([pA, pB] : List ByteArray)) = true from rfl, cond_true, show idxO (List.length ([pA, pB] : List ByteArray)) 0 = some 0 from rfl, Option.bind_some, show getN ([pA, pB] : List ByteArray) 0 = some pA from rfl, e1, f1, g1]
    rfl
  have t1 : L49_3 n (L, at1, new1, [pA, pB], 1) = some (.inl (L, at2, new1 ++ new2, [pA, pB], 2)) := by
    unfold L49_3
    simp only [show ltI 1 (lenL ([pA, pB] : List ByteArray)) = true from rfl, cond_true, show idxO (List.length ([pA, pB] : List ByteArray)) 1 = some 1 from rfl, Option.bind_some, show getN ([pA, pB] : List ByteArray) 1 = some pB from rfl, e2, f2, g2]
    rfl
  have t2 : L49_3 n (L, at2, new1 ++ new2, [pA, pB], 2) = some (.inr (2, false, L, at2, new1 ++ new2, [pA, pB])) := rfl
  refine ⟨new1, new2, at2, ?_, ⟨fun x hx => (r1.all x hx).mono r1b, r1.up⟩, ⟨fun x hx => (q1.all x hx).mono q1b, q1.up⟩, by omega, by omega, by omega, by omega⟩
  unfold T49
  rw [iter_inl t0, iter_inl t1, iter_inr t2]
  rfl
/-! Such plays are right. -/
def OrdP (x y : S99) : Prop := (x.f0 = y.f0 ∧ (x.f0 = pA ∨ x.f0 = pB) ∧ x.f2 < y.f2) ∨ (x.f0 = pA ∧ y.f0 = pB)
structure Pls (l : List S99) : Prop where
  all : ∀ x ∈ l, Pn pA 86403000 x ∨ Pn pB 86403000 x
  ord : l.Pairwise OrdP
  len : l.length ≤ 100
theorem pls_of {a b : List S99} (ha : RunP pA 86403000 a) (hb : RunP pB 86403000 b) (h1 : a.length ≤ 50) (h2 : b.length ≤ 50) : Pls (a ++ b) := by
  refine ⟨fun x hx => ?_, List.pairwise_append.2 ⟨?_, ?_, fun x hx y hy => .inr ⟨(ha.all x hx).p, (hb.all y hy).p⟩⟩, by rw [List.length_append]; omega⟩
  · rcases List.mem_append.1 hx with hx | hx
    · exact .inl (ha.all x hx)
    · exact .inr (hb.all x hx)
  · exact ha.up.imp_of_mem fun {x y} hx hy h => .inl ⟨by rw [(ha.all x hx).p, (ha.all y hy).p], .inl (ha.all x hx).p, h⟩
  · exact hb.up.imp_of_mem fun {x y} hx hy h => .inl ⟨by rw [(hb.all x hx).p, (hb.all y hy).p], .inr (hb.all x hx).p, h⟩
theorem t97 {s : ByteArray} (h : s = pA ∨ s = pB ∨ s = iA ∨ s = iB) : T97 s = some true := by
  rcases h with rfl | rfl | rfl | rfl <;> kernel_rfl
theorem or_fst (c : Int) : T140 [-1, c] = some (-1) := by kernel_rfl
theorem or_snd : T140 [0, -1] = some (-1) := by kernel_rfl
theorem ord_cmp {x y : S99} (h : OrdP x y) : T125 x y = some (-1) := by
  unfold T125
  have hc : ∃ c, T142 x.f2 y.f2 = some c := by
    unfold T142 T162
    rw [neI_no, neI_no]
    simp only [Option.bind_some, cond_false]
    cases ltI x.f2 y.f2 <;> cases ltI y.f2 x.f2 <;> exact ⟨_, rfl⟩
  rcases h with ⟨h1, h2, h3⟩ | ⟨h1, h2⟩
  · have e1 : T141 x.f0 y.f0 = some 0 := by
      rw [← h1]
      rcases h2 with h2 | h2 <;> rw [h2] <;> kernel_rfl
    have e2 : T142 x.f2 y.f2 = some (-1) := by
      unfold T142 T162
      rw [neI_no, neI_no, ltI_t h3]
      rfl
    rw [e1, e2]
    simp only [Option.bind_some, or_snd]
  · have e1 : T141 x.f0 y.f0 = some (-1) := by rw [h1, h2]; kernel_rfl
    obtain ⟨c, hc⟩ := hc
    rw [e1, hc]
    simp only [Option.bind_some, or_fst]
theorem t70_in {a b c : Int} (h1 : b ≤ a) (h2 : a ≤ c) : T70 a b c = some false := by
  unfold T70 ltI
  rw [decide_eq_false (by omega), decide_eq_false (by omega)]
  rfl
theorem plays_right {l : List S99} (h : Pls l) : T96 l = some 0 := by
  have hl := h.len
  have key : ∀ (i : Nat) (s : Unit), i < l.length → True → ∃ s' : Unit, L96_4 l (i : Int) = some (.inl ((i + 1 : Nat) : Int)) ∧ True := by
    intro i _ hi _
    have hx := List.getElem?_eq_getElem hi
    have hm := List.getElem_mem hi
    have hp := h.all _ hm
    have k1 : T97 (l[i]).f0 = some true := t97 (by rcases hp with hp | hp; exact .inl hp.p; exact .inr (.inl hp.p))
    have k2 : T97 (l[i]).f1 = some true := t97 (by rcases hp with hp | hp <;> rcases hp.i with q | q <;> simp [q])
    have b : 0 ≤ (l[i]).f2 ∧ (l[i]).f2 < 86403000 ∧ 1 ≤ (l[i]).f3 ∧ (l[i]).f3 ≤ 20 := by rcases hp with hp | hp <;> exact ⟨hp.a, hp.b, hp.c, hp.d⟩
    have k3 : T92 (l[i]).f2 = some true := by
      unfold T92
      rw [leI_t b.1, ltI_t (by omega)]
      rfl
    have k4 : T70 (l[i]).f3 1 86400000 = some false := t70_in b.2.2.1 (by omega)
    refine ⟨(), ?_, trivial⟩
    unfold L96_4
    simp only [ltL_true hi, cond_true, listAt_some hx, Option.bind_some, k1, k2, k3, k4, Bool.not_true, cond_false, nextI (i := i) (by omega)]
    cases i with
    | zero => rfl
    | succ j =>
      have e1 : subI .i64 ((j + 1 : Nat) : Int) 1 = (j : Int) := by rw [subI_eq (by omega) (by omega)]; omega
      have hj : j < l.length := by omega
      have hc := ord_cmp (List.pairwise_iff_getElem.1 h.ord j (j + 1) hj hi (by omega))
      simp only [ltI_t (show (0 : Int) < ((j + 1 : Nat) : Int) by omega), cond_true, e1, listAt_some (List.getElem?_eq_getElem hj), Option.bind_some, hc, show leI 0 (-1) = false from rfl, cond_false]
  obtain ⟨r, h1, y, rfl⟩ := iter_up (st := L96_4 l) (fun (_ : Unit) i => (i : Int)) l.length (fun _ _ => True) (fun r => ∃ y, r = .inl y) key (fun _ _ => ⟨_, by unfold L96_4; rw [ltL_false (Nat.le_refl _)]; rfl, _, rfl⟩) () trivial
  have h1 : iter (L96_4 l) 0 = some (.inl y) := h1
  unfold T96
  rw [show ltI 3000 (lenL l) = false by rw [lenL_eq]; exact ltI_f (by omega), h1]
  rfl
/-! Whether one of some is so. -/
theorem any_iter {α : Type} {st : Int → Option (Int ⊕ ((Int × Bool) ⊕ Int))} {l : List α} (p : α → Bool) (hl : l.length ≤ 1048576) (hs : ∀ (i : Nat) x, l[i]? = some x → st (i : Int) = some (bif p x then .inr (.inr (i : Int)) else .inl ((i + 1 : Nat) : Int)))
    (he : st (l.length : Int) = some (.inr (.inl ((l.length : Int), false)))) : ∃ v, ((iter st 0).bind fun y => Sum.elim (fun _ => some (-1)) (fun b => some b) y) = some v ∧ leI 0 v = l.any p := by
  have hstep : ∀ (i : Nat) (s : Unit), i < l.length → (∀ j x, j < i → l[j]? = some x → p x = false) → (∃ s' : Unit, st (i : Int) = some (.inl ((i + 1 : Nat) : Int)) ∧ ∀ j x, j < i + 1 → l[j]? = some x → p x = false) ∨ ∃ r, st (i : Int) = some (.inr r) ∧ ((∃ y, r = .inl y ∧ l.any p = false) ∨ ∃ k : Nat, r = .inr (k : Int) ∧ l.any p = true) := by
    intro i _ hi hI
    have hx := List.getElem?_eq_getElem hi
    have h1 := hs i _ hx
    cases hp : p l[i] with
    | true =>
      rw [hp] at h1
      exact .inr ⟨_, h1, .inr ⟨i, rfl, List.any_eq_true.2 ⟨_, List.getElem_mem hi, hp⟩⟩⟩
    | false =>
      rw [hp] at h1
      refine .inl ⟨(), h1, fun j x hj hjx => ?_⟩
      by_cases hji : j = i
      · subst hji
        rw [hx] at hjx
        cases hjx
        exact hp
      · exact hI j x (by omega) hjx
  obtain ⟨r, h1, h2⟩ := iter_upx (st := st) (fun (_ : Unit) i => (i : Int)) l.length (fun i _ => ∀ j x, j < i → l[j]? = some x → p x = false) (fun r => (∃ y, r = .inl y ∧ l.any p = false) ∨ ∃ k : Nat, r = .inr (k : Int) ∧ l.any p = true) hstep
    (fun _ hI => ⟨_, he, .inl ⟨_, rfl, List.any_eq_false.2 fun x hx => by
      obtain ⟨j, hj⟩ := List.getElem?_of_mem hx
      rw [hI j x (List.getElem?_eq_some_iff.1 hj).1 hj]
      decide⟩⟩) 0 () (Nat.zero_le _) (fun j x hj => by omega)
  have h1 : iter st 0 = some r := h1
  rcases h2 with ⟨y, rfl, h3⟩ | ⟨k, rfl, h3⟩
  · exact ⟨-1, by rw [h1]; rfl, by rw [h3]; rfl⟩
  · exact ⟨k, by rw [h1]; rfl, by rw [h3]; exact leI_t (by omega)⟩
end Go.Abs.TKI

set_option linter.unusedVariables false
set_option linter.unusedSimpArgs false
set_option maxRecDepth 10000
namespace Go.Abs.TKI
open Go.RowKit Go.Proofs Go.Abs
/-! When nothing is on. -/
def cov (m : Int) (y : S99) : Prop := y.f0 = pA ∧ y.f2 ≤ m ∧ m < y.f2 + y.f3
def inW (m : Int) (x : S92) : Prop := x.f0 ≤ m ∧ m < x.f1
structure IdI (l : List S99) (f t : Int) (i : Nat) (out : List S92) (a : Int) : Prop where
  i1 : f ≤ a
  i2 : ∀ x ∈ out, x.f0 < x.f1 ∧ f ≤ x.f0 ∧ x.f1 ≤ t ∧ x.f1 < a
  i3 : out.Pairwise fun x y => x.f1 < y.f0
  i4 : ∀ x ∈ out, ∀ j y, i ≤ j → l[j]? = some y → y.f0 = pA → x.f1 ≤ y.f2
  i5 : ∀ m, f ≤ m → m < t → m < a → ((∃ x ∈ out, inW m x) ↔ ¬ upto l i (cov m))
  i6 : a < t → ∀ m, a ≤ m → ¬ upto l i (cov m)
  i7 : out.length ≤ i
  i8 : a ≤ 90000000
theorem idl_skip {l : List S99} {f t : Int} {i : Nat} {out : List S92} {a : Int} (I : IdI l f t i out a) {p : S99} (hx : l[i]? = some p) (h : ∀ m, f ≤ m → (m < t ∧ m < a ∨ a < t ∧ a ≤ m) → cov m p → upto l i (cov m)) : IdI l f t (i + 1) out a := by
  refine ⟨I.i1, I.i2, I.i3, fun x hx j y hj => I.i4 x hx j y (by omega), fun m h1 h2 h3 => ?_, fun h1 m h2 h3 => ?_, by have := I.i7; omega, I.i8⟩
  · rw [I.i5 m h1 h2 h3, upto_succ _ hx]
    constructor
    · rintro h4 (h5 | h5)
      · exact h4 h5
      · exact h4 (h m h1 (.inl ⟨h2, h3⟩) h5)
    · exact fun h4 h5 => h4 (.inl h5)
  · rcases (upto_succ _ hx).1 h3 with h4 | h4
    · exact I.i6 h1 m h2 h4
    · exact I.i6 h1 m h2 (h m (by have := I.i1; omega) (.inr ⟨h1, h2⟩) h4)
theorem idl_late {l : List S99} {f t : Int} {i : Nat} {out : List S92} {a : Int} (I : IdI l f t i out a) {p : S99} (hx : l[i]? = some p) (hp : p.f0 = pA) (ht : t ≤ a) : IdI l f t (i + 1) out a := by
  refine idl_skip I hx fun m h1 h2 h3 => ?_
  have h2 : m < t ∧ m < a := by omega
  apply Classical.byContradiction
  intro hn
  obtain ⟨x, hx1, hx2⟩ := (I.i5 m h1 h2.1 h2.2).2 hn
  have h4 := I.i4 x hx1 i p (Nat.le_refl _) hx hp
  have h5 := h3.2.1
  have h6 := hx2.2
  omega
theorem idl_on {l : List S99} (hl : Pls l) {f t : Int} {i : Nat} {out : List S92} {a : Int} (I : IdI l f t i out a) {p : S99} (hx : l[i]? = some p) (hp : p.f0 = pA) (ha : a < t) (hc : 1 ≤ p.f3 ∧ p.f3 ≤ 20) (hb : 0 ≤ p.f2 ∧ p.f2 < 86403000) :
    (a < min p.f2 t → IdI l f t (i + 1) (out ++ [⟨a, min p.f2 t⟩]) (max a (p.f2 + p.f3))) ∧ (min p.f2 t ≤ a → IdI l f t (i + 1) out (max a (p.f2 + p.f3))) := by
  have h1 := I.i1
  have h8 := I.i8
  have later : ∀ j y, i + 1 ≤ j → l[j]? = some y → y.f0 = pA → p.f2 < y.f2 := fun j y hj hy hpa => by
    obtain ⟨g1, rfl⟩ := List.getElem?_eq_some_iff.1 hx
    obtain ⟨g2, rfl⟩ := List.getElem?_eq_some_iff.1 hy
    rcases List.pairwise_iff_getElem.1 hl.ord i j g1 g2 (by omega) with h | h
    · exact h.2.2
    · rw [h.2] at hpa
      exact absurd hpa (by decide)
  have old : ∀ m, f ≤ m → m < t → m < a → ((∃ x ∈ out, inW m x) ↔ ¬ upto l (i + 1) (cov m)) := fun m g1 g2 g3 => by
    rw [I.i5 m g1 g2 g3, upto_succ _ hx]
    constructor
    · rintro g4 (g5 | g5)
      · exact g4 g5
      · obtain ⟨x, hx1, hx2⟩ := (I.i5 m g1 g2 g3).2 g4
        have := I.i4 x hx1 i p (Nat.le_refl _) hx hp
        have := hx2.2
        have := g5.2.1
        omega
    · exact fun g4 g5 => g4 (.inl g5)
  have far6 : ∀ m, max a (p.f2 + p.f3) ≤ m → ¬ upto l (i + 1) (cov m) := fun m g1 g2 => by
    rcases (upto_succ _ hx).1 g2 with g3 | g3
    · exact I.i6 ha m (by omega) g3
    · have := g3.2.2
      omega
  constructor
  · intro hlt
    refine ⟨by omega, fun x hx' => ?_, List.pairwise_append.2 ⟨I.i3, by simp, fun x hx1 y hy => ?_⟩, fun x hx' j y hj hy hpa => ?_, fun m g1 g2 g3 => ?_, fun _ m g1 => far6 m g1, by rw [List.length_append]; have := I.i7; simp only [List.length_cons, List.length_nil]; omega, by omega⟩
    · rcases List.mem_append.1 hx' with h | h
      · have := I.i2 x h; omega
      · rw [List.mem_singleton] at h; subst h
        simp only; omega
    · rw [List.mem_singleton] at hy; subst hy
      have := I.i2 x hx1
      simp only; omega
    · have h9 := later j y hj hy hpa
      rcases List.mem_append.1 hx' with h | h
      · exact I.i4 x h j y (by omega) hy hpa
      · rw [List.mem_singleton] at h; subst h
        simp only; omega
    · by_cases g4 : m < a
      · rw [← old m g1 g2 g4]
        constructor
        · rintro ⟨x, h, hw⟩
          rcases List.mem_append.1 h with h | h
          · exact ⟨x, h, hw⟩
          · rw [List.mem_singleton] at h; subst h
            have := hw.1
            simp only at this; omega
        · rintro ⟨x, h, hw⟩
          exact ⟨x, List.mem_append_left _ h, hw⟩
      · by_cases g5 : m < min p.f2 t
        · refine ⟨fun _ g6 => ?_, fun _ => ⟨_, List.mem_append_right _ (List.mem_singleton.2 rfl), ⟨by simp only; omega, g5⟩⟩⟩
          rcases (upto_succ _ hx).1 g6 with g7 | g7
          · exact I.i6 ha m (by omega) g7
          · have := g7.2.1
            omega
        · refine ⟨fun ⟨x, h, hw⟩ => ?_, fun hn => ?_⟩
          · have := hw.2
            rcases List.mem_append.1 h with h | h
            · have := I.i2 x h; omega
            · rw [List.mem_singleton] at h; subst h
              simp only at this; omega
          · exact absurd ((upto_succ _ hx).2 (.inr ⟨hp, by omega, by omega⟩)) hn
  · intro hle
    refine ⟨by omega, fun x h => ?_, I.i3, fun x h j y hj => I.i4 x h j y (by omega), fun m g1 g2 g3 => ?_, fun _ m g1 => far6 m g1, by have := I.i7; omega, by omega⟩
    · have := I.i2 x h; omega
    · by_cases g4 : m < a
      · exact old m g1 g2 g4
      · refine ⟨fun ⟨x, h, hw⟩ => ?_, fun hn => ?_⟩
        · have := hw.2
          have := I.i2 x h; omega
        · exact absurd ((upto_succ _ hx).2 (.inr ⟨hp, by omega, by omega⟩)) hn
/-- What 'Idle' tells. -/
structure IdR (l : List S99) (f t : Int) (out : List S92) : Prop where
  r1 : ∀ x ∈ out, x.f0 < x.f1 ∧ f ≤ x.f0 ∧ x.f1 ≤ t
  r2 : out.Pairwise fun x y => x.f1 < y.f0
  r3 : ∀ m, f ≤ m → m < t → ((∃ x ∈ out, inW m x) ↔ ¬ ∃ y ∈ l, cov m y)
  r4 : out.length ≤ 101
theorem eqS_t {a b : ByteArray} : (eqS a b = true) = (a = b) := by rw [eqS_iff]; simp
theorem idle_ok {l : List S99} (hl : Pls l) {f t : Int} (hf : 0 ≤ f) (hft : f ≤ t) (ht : t ≤ 1000) : ∃ out, T50 l pA ⟨f, t⟩ = some (out, 0) ∧ IdR l f t out := by
  have hlen := hl.len
  let enc : List S92 × Int → Nat → List S92 × Int × Int := fun s i => (s.1, s.2, (i : Int))
  have key : ∀ (i : Nat) (s : List S92 × Int), i < l.length → IdI l f t i s.1 s.2 → ∃ s', L50_11 l pA ⟨f, t⟩ (enc s i) = some (.inl (enc s' (i + 1))) ∧ IdI l f t (i + 1) s'.1 s'.2 := by
    rintro i ⟨out, a⟩ hi I
    simp only at I
    have hx := List.getElem?_eq_getElem hi
    have hp := hl.all _ (List.getElem_mem hi)
    generalize l[i] = p at hx hp
    have hb : 0 ≤ p.f2 ∧ p.f2 < 86403000 ∧ 1 ≤ p.f3 ∧ p.f3 ≤ 20 := by rcases hp with h | h <;> exact ⟨h.a, h.b, h.c, h.d⟩
    have hn := nextI (i := i) (by omega)
    by_cases hpa : p.f0 = pA
    · have e0 : eqS p.f0 pA = true := by rw [eqS_t]; exact hpa
      by_cases hta : t ≤ a
      · refine ⟨(out, a), ?_, idl_late I hx hpa hta⟩
        unfold L50_11
        simp only [enc, ltL_true hi, cond_true, listAt_some hx, Option.bind_some, e0, Bool.not_true, cond_false, leI_t hta, hn]
      · obtain ⟨c1, c2⟩ := idl_on hl I hx hpa (by omega) ⟨hb.2.2.1, hb.2.2.2⟩ ⟨hb.1, hb.2.1⟩
        have e1 : addI .i64 p.f2 p.f3 = p.f2 + p.f3 := addI_eq (by omega) (by omega)
        by_cases hto : a < min p.f2 t
        · have ho : appO 16 out [(⟨a, min p.f2 t⟩ : S92)] = some (out ++ [⟨a, min p.f2 t⟩]) := appO_big (by decide) (by have := I.i7; simp only [List.length_cons, List.length_nil]; omega)
          refine ⟨(out ++ [⟨a, min p.f2 t⟩], max a (p.f2 + p.f3)), ?_, c1 hto⟩
          unfold L50_11
          simp only [enc, ltL_true hi, cond_true, listAt_some hx, Option.bind_some, e0, Bool.not_true, cond_false, leI_f (show a < t by omega), minI_eq, ltI_t hto, ho, maxI_eq, e1, hn]
        · refine ⟨(out, max a (p.f2 + p.f3)), ?_, c2 (by omega)⟩
          unfold L50_11
          simp only [enc, ltL_true hi, cond_true, listAt_some hx, Option.bind_some, e0, Bool.not_true, cond_false, leI_f (show a < t by omega), minI_eq, ltI_f (show min p.f2 t ≤ a by omega), maxI_eq, e1, hn]
    · have e0 : eqS p.f0 pA = false := by rw [eqS_iff]; exact decide_eq_false hpa
      refine ⟨(out, a), ?_, idl_skip I hx fun m _ _ h => absurd h.1 hpa⟩
      unfold L50_11
      simp only [enc, ltL_true hi, cond_true, listAt_some hx, Option.bind_some, e0, Bool.not_false, hn]
  have kend : ∀ s : List S92 × Int, IdI l f t l.length s.1 s.2 → ∃ r, L50_11 l pA ⟨f, t⟩ (enc s l.length) = some (.inr r) ∧ ∃ out a, r = (a, (l.length : Int), false, out) ∧ IdI l f t l.length out a := by
    rintro ⟨out, a⟩ I
    exact ⟨_, by unfold L50_11; simp only [enc]; rw [ltL_false (Nat.le_refl _)]; rfl, out, a, rfl, I⟩
  have h0 : IdI l f t 0 [] f := ⟨Int.le_refl _, fun x hx => (by cases hx), .nil, fun x hx => (by cases hx), fun m h1 h2 h3 => by omega, fun _ m _ => upto_zero _ _, Nat.le_refl _, by omega⟩
  obtain ⟨r, h1, out, a, rfl, I⟩ := iter_up enc l.length (fun i s => IdI l f t i s.1 s.2) _ key kend ([], f) h0
  have h1 : iter (L50_11 l pA ⟨f, t⟩) ([], f, 0) = some (a, (l.length : Int), false, out) := h1
  have h70 : T70 f 0 t = some false := t70_in hf hft
  have hall : ∀ m, f ≤ m → m < t → m < a → ((∃ x ∈ out, inW m x) ↔ ¬ ∃ y ∈ l, cov m y) := fun m g1 g2 g3 => by rw [I.i5 m g1 g2 g3, upto_len]
  by_cases hat : a < t
  · have ho : appO 16 out [(⟨a, t⟩ : S92)] = some (out ++ [⟨a, t⟩]) := appO_big (by decide) (by have := I.i7; simp only [List.length_cons, List.length_nil]; omega)
    refine ⟨out ++ [⟨a, t⟩], ?_, fun x hx => ?_, List.pairwise_append.2 ⟨I.i3, by simp, fun x hx y hy => ?_⟩, fun m g1 g2 => ?_, by rw [List.length_append]; have := I.i7; simp only [List.length_cons, List.length_nil]; omega⟩
    · unfold T50
      simp only [plays_right hl, Option.bind_some, neI_no, cond_false, t97 (.inl rfl), Bool.not_true, h70, ltI_f (show t ≤ 345686400000 by omega), h1, ltI_t hat, cond_true, ho]
    · rcases List.mem_append.1 hx with h | h
      · have := I.i2 x h; omega
      · rw [List.mem_singleton] at h; subst h
        have := I.i1
        simp only; omega
    · rw [List.mem_singleton] at hy; subst hy
      exact (I.i2 x hx).2.2.2
    · by_cases g3 : m < a
      · rw [← hall m g1 g2 g3]
        constructor
        · rintro ⟨x, h, hw⟩
          rcases List.mem_append.1 h with h | h
          · exact ⟨x, h, hw⟩
          · rw [List.mem_singleton] at h; subst h
            have := hw.1
            simp only at this; omega
        · rintro ⟨x, h, hw⟩
          exact ⟨x, List.mem_append_left _ h, hw⟩
      · refine ⟨fun _ => ?_, fun _ => ⟨_, List.mem_append_right _ (List.mem_singleton.2 rfl), ⟨by simp only; omega, g2⟩⟩⟩
        rw [← upto_len]
        exact I.i6 hat m (by omega)
  · refine ⟨out, ?_, fun x hx => ?_, I.i3, fun m g1 g2 => hall m g1 g2 (by omega), by have := I.i7; omega⟩
    · unfold T50
      simp only [plays_right hl, Option.bind_some, neI_no, cond_false, t97 (.inl rfl), Bool.not_true, h70, ltI_f (show t ≤ 345686400000 by omega), h1, ltI_f (show t ≤ a by omega)]
    · have := I.i2 x hx; omega
/-! What is asked at a moment. -/
def onB (m : Int) (y : S99) : Bool := eqS y.f0 pA && leI y.f2 m && ltI m (addI .i64 y.f2 y.f3)
def idB (m : Int) (x : S92) : Bool := leI x.f0 m && ltI m x.f1
theorem on_ok {l : List S99} (hl : Pls l) (m : Int) : T51 l m = some (l.any (onB m)) := by
  have hlen := hl.len
  obtain ⟨v, h1, h2⟩ := any_iter (st := L98_2 l m) (l := l) (onB m) (by omega) (fun i x hx => by
    have hi := (List.getElem?_eq_some_iff.1 hx).1
    have e : T52 x m = some (onB m x) := by
      unfold T52 onB
      cases eqS x.f0 pA <;> cases leI x.f2 m <;> rfl
    unfold L98_2
    simp only [ltL_true hi, cond_true, listAt_some hx, Option.bind_some, e, nextI (i := i) (by omega)]
    cases onB m x <;> rfl) (by unfold L98_2; rw [ltL_false (Nat.le_refl _)]; rfl)
  have h1 : T98 l m = some v := h1
  unfold T51
  rw [h1, Option.bind_some, h2]
theorem idle_on {l : List S92} (hlen : l.length ≤ 1000) (m : Int) : T53 l m = some (l.any (idB m)) := by
  obtain ⟨v, h1, h2⟩ := any_iter (st := L99_2 l m) (l := l) (idB m) (by omega) (fun i x hx => by
    have hi := (List.getElem?_eq_some_iff.1 hx).1
    have e : T54 x m = some (idB m x) := by
      unfold T54 idB
      cases leI x.f0 m <;> rfl
    unfold L99_2
    simp only [ltL_true hi, cond_true, listAt_some hx, Option.bind_some, e, nextI (i := i) (by omega)]
    cases idB m x <;> rfl) (by unfold L99_2; rw [ltL_false (Nat.le_refl _)]; rfl)
  have h1 : T99 l m = some v := h1
  unfold T53
  rw [h1, Option.bind_some, h2]
theorem any_cov {l : List S99} (hl : Pls l) (m : Int) : (l.any (onB m) = true) ↔ ∃ y ∈ l, cov m y := by
  rw [List.any_eq_true]
  refine exists_congr fun y => and_congr_right fun hy => ?_
  have hp := hl.all y hy
  have hb : 0 ≤ y.f2 ∧ y.f2 < 86403000 ∧ 1 ≤ y.f3 ∧ y.f3 ≤ 20 := by rcases hp with h | h <;> exact ⟨h.a, h.b, h.c, h.d⟩
  unfold onB cov
  rw [addI_eq (by omega) (by omega), eqS_iff]
  unfold leI ltI
  simp only [Bool.and_eq_true, decide_eq_true_eq, and_assoc]
theorem any_inW {l : List S92} (m : Int) : (l.any (idB m) = true) ↔ ∃ x ∈ l, inW m x := by
  rw [List.any_eq_true]
  refine exists_congr fun y => and_congr_right fun hy => ?_
  unfold idB inW leI ltI
  simp only [Bool.and_eq_true, decide_eq_true_eq]
theorem plain (p0 : (List Int)) (h0 : (p0.length ≤ 1048576 ∧ ∀ x ∈ p0, okI x)) : T12 p0 = some true := by
  have hL := h0.1
  obtain ⟨a, b, at1, e1, ra, rb, la, lb, at1a, at1b⟩ := plays_ok (L := p0) hL (at_ := 0) (n := 6) (by decide) (by decide)
  have hP := pls_of ra rb (by omega) (by omega)
  generalize a ++ b = l at e1 hP
  obtain ⟨f, e2, f1, f2⟩ := range_ok (L := p0) (at_ := at1) (lo := 0) (hi := 20) hL (by omega) (by omega) (by decide) (by decide) (by decide)
  obtain ⟨t, e3, t1, t2⟩ := range_ok (L := p0) (at_ := at1 + 1) (lo := 20) (hi := 150) hL (by omega) (by omega) (by decide) (by decide) (by decide)
  obtain ⟨out, e4, R⟩ := idle_ok hP f1 (show f ≤ t by omega) (by omega)
  have hol := R.r4
  unfold T12
  simp only [e1, e2, e3, e4, Option.bind_some, neI_no, cond_false]
  generalize hq1 : (l, p0, at1) = q1
  generalize hq2 : (f, p0, at1 + 1) = q2
  generalize hq3 : (t, p0, at1 + 1 + 1) = q3
  generalize hq4 : (out, (0 : Int)) = q4
  have g1 : q1.1 = l := by rw [← hq1]
  have g2 : q2.1 = f := by rw [← hq2]
  have g3 : q3.1 = t := by rw [← hq3]
  have g4 : q4.1 = out := by rw [← hq4]
  have s1 : iter (L12_7 q1 q2 q3 q4) (out, 0) = some (.inl ((out.length : Int), false, out)) := by
    have key : ∀ (i : Nat) (s : Unit), i < out.length → True → ∃ s' : Unit, L12_7 q1 q2 q3 q4 (out, (i : Int)) = some (.inl (out, ((i + 1 : Nat) : Int))) ∧ True := by
      intro i _ hi _
      have hx := List.getElem?_eq_getElem hi
      have h5 := R.r1 _ (List.getElem_mem hi)
      refine ⟨(), ?_, trivial⟩
      unfold L12_7
      simp only [g2, g3, g4, ltL_true hi, cond_true, idx_nat hi, Option.bind_some, getN_some hx, leI_f h5.1, cond_false, ltI_f h5.2.1, ltI_f h5.2.2, nextI (i := i) (by omega)]
      cases i with
      | zero => rfl
      | succ j =>
        have e : subI .i64 ((j + 1 : Nat) : Int) 1 = (j : Int) := by rw [subI_eq (by omega) (by omega)]; omega
        have hj : j < out.length := by omega
        have h6 := List.pairwise_iff_getElem.1 R.r2 j (j + 1) hj hi (by omega)
        simp only [ltI_t (show (0 : Int) < ((j + 1 : Nat) : Int) by omega), cond_true, e, idx_nat hj, Option.bind_some, getN_some (List.getElem?_eq_getElem hj), leI_f h6, cond_false]
    obtain ⟨r, h1, h2⟩ := iter_up (st := L12_7 q1 q2 q3 q4) (fun (_ : Unit) i => (out, (i : Int))) out.length (fun _ _ => True) (fun r => r = .inl ((out.length : Int), false, out)) key (fun _ _ => ⟨_, by unfold L12_7; simp only [g4]; rw [ltL_false (Nat.le_refl _)]; rfl, rfl⟩) () trivial
    rw [← h2]
    exact h1
  have s2 : ∃ y, iter (L12_13 q1 q2 q3) (p0, at1 + 1 + 1, out, 0) = some (.inl y) := by
    let enc : Int → Nat → List Int × Int × List S92 × Int := fun s i => (p0, s, out, (i : Int))
    have key : ∀ (i : Nat) (s : Int), i < 6 → (0 ≤ s ∧ s ≤ 2000 + i) → ∃ s', L12_13 q1 q2 q3 (enc s i) = some (.inl (enc s' (i + 1))) ∧ (0 ≤ s' ∧ s' ≤ 2000 + ((i + 1 : Nat) : Int)) := by
      intro i s hi hs
      obtain ⟨m, e5, m1, m2⟩ := range_ok (L := p0) (at_ := s) (lo := 0) (hi := 150) hL (by omega) (by omega) (by decide) (by decide) (by decide)
      refine ⟨s + 1, ?_, by omega⟩
      unfold L12_13
      simp only [enc, ltI_t (show (i : Int) < 6 by omega), cond_true, e5, Option.bind_some, g1, g2, g3, nextI (i := i) (by omega)]
      by_cases c1 : m < f
      · simp only [ltI_t c1, cond_true]
      · simp only [ltI_f (show f ≤ m by omega), cond_false]
        by_cases c2 : t ≤ m
        · simp only [leI_t c2, cond_true]
        · have hn : (l.any (onB m) == out.any (idB m)) = false := by
            have h5 := R.r3 m (by omega) (by omega)
            rw [← any_cov hP, ← any_inW] at h5
            cases h6 : l.any (onB m) <;> cases h7 : out.any (idB m) <;> rw [h6, h7] at h5 <;> simp at h5 ⊢
          simp only [leI_f (show m < t by omega), cond_false, on_ok hP, idle_on (show out.length ≤ 1000 by omega), Option.bind_some, hn]
    obtain ⟨r, h1, y, rfl⟩ := iter_up enc 6 (fun i s => 0 ≤ s ∧ s ≤ 2000 + (i : Int)) (fun r => ∃ y, r = .inl y) key (fun s _ => ⟨_, by unfold L12_13; simp only [enc]; rw [ltI_f (by decide)]; rfl, _, rfl⟩) (at1 + 1 + 1) (by omega)
    exact ⟨y, h1⟩
  obtain ⟨y, s2⟩ := s2
  have k1 : q3.2.1 = p0 := by rw [← hq3]
  have k2 : q3.2.2 = at1 + 1 + 1 := by rw [← hq3]
  subst hq4
  simp only [s1, Option.bind_some, Sum.elim_inl, s2, ready_ok]
end Go.Abs.TKI
