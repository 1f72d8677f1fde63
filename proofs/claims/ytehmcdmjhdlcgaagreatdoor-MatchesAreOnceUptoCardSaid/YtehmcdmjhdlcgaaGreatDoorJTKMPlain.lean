import Derived.Test.YtehmcdmjhdlcgaaGreatDoorJTKMR
import Derived.Test.YtehmcdmjhdlcgaaGreatDoorJPlS
import Derived.Test.YtehmcdmjhdlcgaaGreatDoorJPlU
set_option linter.unusedVariables false
set_option linter.unusedSimpArgs false
set_option maxRecDepth 10000
namespace Go.Abs.TKM
open Go.RowKit Go.Proofs Go.Abs
/-! The two rectangles of 'lit'. -/
theorem lit_sort1 (x : S182) : sortO (fun x y => T129 x y) [x] = some [x] := by
  obtain ⟨l', h1, h2, _⟩ := sortO_le (fun x y => T129 x y) (fun _ _ => True) (fun _ _ => .inl trivial) (fun _ _ _ _ _ => trivial) [x] (by simp) (by
    intro a ha b hb
    simp only [List.mem_singleton] at ha hb
    subst ha; subst hb
    refine ⟨_, rfl, ?_⟩
    have : subI .i64 b.f0 b.f0 = 0 := by unfold subI; rw [Int.sub_self]; rfl
    simp [this])
  rw [h1, List.perm_singleton.1 h2]
theorem lit_sort2 : sortO (fun x y => T129 x y) [⟨0, 2⟩, ⟨1, 3⟩] = some [⟨0, 2⟩, ⟨1, 3⟩] := by
  obtain ⟨l', h1, h2, h3⟩ := sortO_key (fun x y => T129 x y) (·.f0) [⟨0, 2⟩, ⟨1, 3⟩] (by simp) (by
    intro a ha b hb
    simp only [List.mem_cons, List.not_mem_nil, or_false] at ha hb
    rcases ha with rfl | rfl <;> rcases hb with rfl | rfl <;> exact ⟨_, rfl, by decide⟩)
  rw [h1]
  congr 1
  match l', h2.length_eq with
  | [a, b], _ =>
    have ha : a ∈ [(⟨0, 2⟩ : S182), ⟨1, 3⟩] := h2.mem_iff.1 (by simp)
    have hb : b ∈ [(⟨0, 2⟩ : S182), ⟨1, 3⟩] := h2.mem_iff.1 (by simp)
    have hp := h2.countP_eq (fun x : S182 => x.f0 == 0)
    simp only [List.mem_cons, List.not_mem_nil, or_false] at ha hb
    simp only [List.pairwise_cons, List.mem_singleton, forall_eq] at h3
    rcases ha with rfl | rfl <;> rcases hb with rfl | rfl
    · simp at hp
    · rfl
    · have := h3.1
      simp at this
    · simp at hp
abbrev r0 : S28 := S28.mk 0 0 2 2
abbrev r1 : S28 := S28.mk 1 1 2 2
theorem runs_nil (y : Int) : T106 [] y = some [] := by
  unfold T106
  rw [iter_run (r := (0, false, [])) 1 (by kernel_rfl)]
  simp only [Option.bind_some]
  rw [show sortO (fun x y => T129 x y) ([] : List S182) = some [] from by simp [sortO], Option.bind_some, iter_run (r := (0, false, [], [])) 1 (by kernel_rfl)]
  rfl
theorem runs0 : T106 [r0, r1] 0 = some [⟨0, 2⟩] := by
  unfold T106
  rw [iter_run (r := (2, false, [⟨0, 2⟩])) 3 (by kernel_rfl)]
  simp only [Option.bind_some]
  rw [lit_sort1, Option.bind_some, iter_run (r := (1, false, [⟨0, 2⟩], [⟨0, 2⟩])) 2 (by kernel_rfl)]
  rfl
theorem runs1 : T106 [r0, r1] 1 = some [⟨0, 3⟩] := by
  unfold T106
  rw [iter_run (r := (2, false, [⟨0, 2⟩, ⟨1, 3⟩])) 3 (by kernel_rfl)]
  simp only [Option.bind_some]
  rw [lit_sort2, Option.bind_some, iter_run (r := (2, false, [⟨0, 3⟩], [⟨0, 2⟩, ⟨1, 3⟩])) 3 (by kernel_rfl)]
  rfl
theorem runs2 : T106 [r0, r1] 2 = some [⟨1, 3⟩] := by
  unfold T106
  rw [iter_run (r := (2, false, [⟨1, 3⟩])) 3 (by kernel_rfl)]
  simp only [Option.bind_some]
  rw [lit_sort1, Option.bind_some, iter_run (r := (1, false, [⟨1, 3⟩], [⟨1, 3⟩])) 2 (by kernel_rfl)]
  rfl
theorem less_nil (x : S182) (hx : ltI x.f0 x.f1 = true) : T105 [x] [] = some [x] := by
  have h : L105_4 [x] [] ([], 0, 0) = some (.inl ([x], 0, 1)) := by
    unfold L105_4
    have e1 : ltI ((([], 0, 0) : List S182 × Int × Int).2.2) (lenL [x]) = true := rfl
    have e2 : listAt [x] ((([], 0, 0) : List S182 × Int × Int).2.2) = some x := rfl
    rw [e1, e2]
    simp only [cond_true, Option.bind_some]
    rw [iter_run (r := (0, false)) 1 (by kernel_rfl), Option.bind_some, iter_run (r := (0, false, [], x.f0)) 1 (by kernel_rfl)]
    simp only [Option.bind_some, hx, cond_true]
    rfl
  unfold T105
  rw [iter_inl h, iter_inr (r := (0, 1, false, [x])) (by kernel_rfl)]
  rfl
theorem same_no (a b : S182) (h : allB [eqI a.f0 b.f0, eqI a.f1 b.f1] = false) : T107 [a] [b] = some false := by
  unfold T107
  rw [iter_inr (r := .inr ()) (by
    unfold L107_4
    have e1 : ltI 0 (lenL [a]) = true := rfl
    have e2 : listAt [a] 0 = some a := rfl
    have e3 : listAt [b] 0 = some b := rfl
    rw [e1, e2, e3]
    simp only [cond_true, Option.bind_some, h, Bool.not_false])]
  rfl
theorem lit_region : T60 [r0, r1] [] = some [⟨0, 0, 2, 1⟩, ⟨0, 1, 3, 1⟩, ⟨1, 2, 2, 1⟩] := by
  unfold T60 T21
  rw [iter_run (r := (2, 2, false)) 3 (by kernel_rfl)]
  simp only [Option.bind_some]
  rw [show growO S28 32 2 = some [] by unfold growO; rw [if_pos (by decide)], Option.bind_some, iter_run (r := (2, false, [r0, r1])) 3 (by kernel_rfl)]
  simp only [Option.bind_some]
  rw [iter_run (r := (2, false, [0, 2, 1, 3], [r0, r1])) 3 (by kernel_rfl)]
  simp only [Option.bind_some]
  rw [show sortIO [0, 2, 1, 3] = some [0, 1, 2, 3] by
    unfold sortIO
    rw [if_pos (by simp), sortI_of (l' := [0, 1, 2, 3]) (by decide) (by decide)]]
  simp only [Option.bind_some]
  rw [show compIO [0, 1, 2, 3] = some [0, 1, 2, 3] by decide]
  simp only [Option.bind_some]
  have s0 : L60_13 [r0, r1] [] [0, 1, 2, 3] ([0, 1, 2, 3], [], [], 0, 0) = some (.inl ([0, 1, 2, 3], [], [⟨0, 2⟩], 0, 1)) := by
    unfold L60_13
    rw [show ltI ((([0, 1, 2, 3], [], [], 0, 0) : List Int × List S28 × List S182 × Int × Int).2.2.2.2) (lenL ([0, 1, 2, 3] : List Int)) = true by decide]
    simp only [cond_true]
    rw [show idxO (List.length ([0, 1, 2, 3] : List Int)) 0 = some 0 by decide]
    simp only [Option.bind_some]
    rw [show getN ([0, 1, 2, 3] : List Int) 0 = some 0 by decide]
    simp only [Option.bind_some]
    rw [show ltI (addI .i64 0 1) (lenL ([0, 1, 2, 3] : List Int)) = true by decide]
    simp only [cond_true]
    rw [runs0, runs_nil]
    simp only [Option.bind_some]
    rw [less_nil ⟨0, 2⟩ (by decide)]
    simp only [Option.bind_some]
    rw [show T107 [] [⟨0, 2⟩] = some false by unfold T107; rfl]
    simp only [Option.bind_some, cond_false]
    rw [iter_run (r := (0, false, [0, 1, 2, 3], [])) 1 (by kernel_rfl)]
    rfl
  have s1 : L60_13 [r0, r1] [] [0, 1, 2, 3] ([0, 1, 2, 3], [], [⟨0, 2⟩], 0, 1) = some (.inl ([0, 1, 2, 3], [⟨0, 0, 2, 1⟩], [⟨0, 3⟩], 1, 2)) := by
    unfold L60_13
    rw [show ltI ((([0, 1, 2, 3], [], [⟨0, 2⟩], 0, 1) : List Int × List S28 × List S182 × Int × Int).2.2.2.2) (lenL ([0, 1, 2, 3] : List Int)) = true by decide]
    simp only [cond_true]
    rw [show idxO (List.length ([0, 1, 2, 3] : List Int)) 1 = some 1 by decide]
    simp only [Option.bind_some]
    rw [show getN ([0, 1, 2, 3] : List Int) 1 = some 1 by decide]
    simp only [Option.bind_some]
    rw [show ltI (addI .i64 1 1) (lenL ([0, 1, 2, 3] : List Int)) = true by decide]
    simp only [cond_true]
    rw [runs1, runs_nil]
    simp only [Option.bind_some]
    rw [less_nil ⟨0, 3⟩ (by decide)]
    simp only [Option.bind_some]
    rw [same_no _ _ (by decide)]
    simp only [Option.bind_some, cond_false]
    rw [iter_run (r := (1, false, [0, 1, 2, 3], [⟨0, 0, 2, 1⟩])) 2 (by kernel_rfl)]
    rfl
  have s2 : L60_13 [r0, r1] [] [0, 1, 2, 3] ([0, 1, 2, 3], [⟨0, 0, 2, 1⟩], [⟨0, 3⟩], 1, 2) = some (.inl ([0, 1, 2, 3], [⟨0, 0, 2, 1⟩, ⟨0, 1, 3, 1⟩], [⟨1, 3⟩], 2, 3)) := by
    unfold L60_13
    rw [show ltI ((([0, 1, 2, 3], [⟨0, 0, 2, 1⟩], [⟨0, 3⟩], 1, 2) : List Int × List S28 × List S182 × Int × Int).2.2.2.2) (lenL ([0, 1, 2, 3] : List Int)) = true by decide]
    simp only [cond_true]
    rw [show idxO (List.length ([0, 1, 2, 3] : List Int)) 2 = some 2 by decide]
    simp only [Option.bind_some]
    rw [show getN ([0, 1, 2, 3] : List Int) 2 = some 2 by decide]
    simp only [Option.bind_some]
    rw [show ltI (addI .i64 2 1) (lenL ([0, 1, 2, 3] : List Int)) = true by decide]
    simp only [cond_true]
    rw [runs2, runs_nil]
    simp only [Option.bind_some]
    rw [less_nil ⟨1, 3⟩ (by decide)]
    simp only [Option.bind_some]
    rw [same_no _ _ (by decide)]
    simp only [Option.bind_some, cond_false]
    rw [iter_run (r := (1, false, [0, 1, 2, 3], [⟨0, 0, 2, 1⟩, ⟨0, 1, 3, 1⟩])) 2 (by kernel_rfl)]
    rfl
  have s3 : L60_13 [r0, r1] [] [0, 1, 2, 3] ([0, 1, 2, 3], [⟨0, 0, 2, 1⟩, ⟨0, 1, 3, 1⟩], [⟨1, 3⟩], 2, 3) = some (.inl ([0, 1, 2, 3], [⟨0, 0, 2, 1⟩, ⟨0, 1, 3, 1⟩, ⟨1, 2, 2, 1⟩], [], 3, 4)) := by
    unfold L60_13
    rw [show ltI ((([0, 1, 2, 3], [⟨0, 0, 2, 1⟩, ⟨0, 1, 3, 1⟩], [⟨1, 3⟩], 2, 3) : List Int × List S28 × List S182 × Int × Int).2.2.2.2) (lenL ([0, 1, 2, 3] : List Int)) = true by decide]
    simp only [cond_true]
    rw [show idxO (List.length ([0, 1, 2, 3] : List Int)) 3 = some 3 by decide]
    simp only [Option.bind_some]
    rw [show getN ([0, 1, 2, 3] : List Int) 3 = some 3 by decide]
    simp only [Option.bind_some]
    rw [show ltI (addI .i64 3 1) (lenL ([0, 1, 2, 3] : List Int)) = false by decide]
    simp only [cond_false]
    rw [show T107 [⟨1, 3⟩] [] = some false by unfold T107; rfl]
    simp only [Option.bind_some, cond_false]
    rw [iter_run (r := (1, false, [0, 1, 2, 3], [⟨0, 0, 2, 1⟩, ⟨0, 1, 3, 1⟩, ⟨1, 2, 2, 1⟩])) 2 (by kernel_rfl)]
    rfl
  rw [iter_inl s0, iter_inl s1, iter_inl s2, iter_inl s3, iter_inr (r := ([], 3, 4, false, [0, 1, 2, 3], [⟨0, 0, 2, 1⟩, ⟨0, 1, 3, 1⟩, ⟨1, 2, 2, 1⟩])) (by kernel_rfl)]
  rfl
theorem lit_area : T20 [r0, r1] = some (7, 0) := by
  unfold T20 T58 T61
  rw [iter_run (r := .inl (2, false)) 3 (by kernel_rfl)]
  rw [show (bif ltI 2000 (lenL ([r0, r1] : List S28)) then (some 2 : Option Int) else (some (Sum.inl (2, false) : (Int × Bool) ⊕ Int)).bind fun y3 => (Sum.elim (fun y3a => some 0) (fun y3b => some y3b) y3)) = some 0 by decide]
  simp only [Option.bind_some]
  rw [show neI 0 0 = false by decide]
  simp only [cond_false]
  rw [lit_region]
  simp only [Option.bind_some]
  rw [iter_run (r := (7, 3, false)) 4 (by kernel_rfl)]
  rfl
/-! All that 'ready' asks. -/
theorem r45 : T45 (S94.mk (ByteArray.mk #[97]) (ByteArray.mk #[]) (S92.mk 0 100) [] 10 0 0) 50 = some (5, 0) := by kernel_rfl
theorem r42 : T42 ([(S87.mk (ByteArray.mk #[112]) 0 100), (S87.mk (ByteArray.mk #[112]) 1000 1300)] : List S87) (ByteArray.mk #[112]) 700 = some (500, 0) := by kernel_rfl
theorem r67 : T67 (S136.mk (ByteArray.mk #[97]) (ByteArray.mk #[98]) 0 0 0 1 127 [] 1 2 0 [] false) 0 (S92.mk 0 86400000) = some ([S92.mk 60000 120000], 0) := by kernel_rfl
theorem r68 : T68 (S138.mk (ByteArray.mk #[97]) (ByteArray.mk #[115]) 1 [] 0 5 1 ([(S28.mk 0 0 2 2)] : List S28) (ByteArray.mk #[120])) (S142.mk (ByteArray.mk #[112]) 1 1) = some (true, 0) := by kernel_rfl
theorem ready_ok : T26 = some true := by
  unfold T26
  rw [lit_area, r45, r42, r67, r68]
  simp only [Option.bind_some]
  kernel_rfl
end Go.Abs.TKM

set_option linter.unusedVariables false
set_option linter.unusedSimpArgs false
set_option maxRecDepth 10000
namespace Go.Abs.TKM
open Go.RowKit Go.Proofs Go.Abs
/-! What a stream hands out. -/
theorem below_ok (x : Int) {n : Int} (hn : n ≤ 1000000000000000) : ∃ v, T102 x n = some v ∧ (1 ≤ n → 0 ≤ v ∧ v < n) ∧ (n < 1 → v = 0) := by
  unfold T102
  by_cases h : n < 1
  · rw [show ltI n 1 = true by unfold ltI; exact decide_eq_true h]
    exact ⟨0, rfl, fun h1 => by omega, fun _ => rfl⟩
  · rw [show ltI n 1 = false by unfold ltI; exact decide_eq_false h]
    have hr : remO .i64 x n = some (x.tmod n) := by unfold remO; rw [if_neg (by omega)]
    have h1 := Int.tmod_lt_of_pos x (by omega : 0 < n)
    have h2 := Int.lt_tmod_of_pos x (by omega : 0 < n)
    simp only [cond_false, hr, Option.bind_some]
    by_cases h0 : x.tmod n < 0
    · rw [show ltI (x.tmod n) 0 = true by unfold ltI; exact decide_eq_true h0]
      refine ⟨_, rfl, fun _ => ?_, fun h3 => by omega⟩
      rw [addI_eq (by omega) (by omega)]
      omega
    · rw [show ltI (x.tmod n) 0 = false by unfold ltI; exact decide_eq_false h0]
      exact ⟨_, rfl, fun _ => ⟨by omega, h1⟩, fun h3 => by omega⟩
theorem next_ok {L : List Int} {at_ n : Int} (hL : L.length ≤ 1048576) (h0 : 0 ≤ at_) (h1 : at_ ≤ 1000000000) (hn : n ≤ 1000000000000000) : ∃ v, T57 L at_ n = some (v, L, at_ + 1) ∧ (1 ≤ n → 0 ≤ v ∧ v < n) ∧ (n < 1 → v = 0) := by
  unfold T57
  have e1 : addI .i64 at_ 1 = at_ + 1 := addI_eq (by omega) (by omega)
  rw [e1]
  by_cases hl : L.length = 0
  · rw [show eqI (lenL L) 0 = true by rw [eqI_iff, lenL_eq, hl]; rfl]
    obtain ⟨v, h2, h3⟩ := below_ok (mulI .i64 (at_ + 1) 7919) hn
    simp only [cond_true, h2, Option.bind_some]
    exact ⟨v, rfl, h3⟩
  · rw [show eqI (lenL L) 0 = false by rw [eqI_iff, lenL_eq]; exact decide_eq_false (by omega)]
    have e2 : subI .i64 (at_ + 1) 1 = at_ := by rw [subI_eq (by omega) (by omega)]; omega
    have hr : remO .i64 at_ (lenL L) = some (at_.tmod L.length) := by unfold remO; rw [lenL_eq, if_neg (by omega)]
    have hq : ∃ q, quoO .i64 at_ (lenL L) = some q := by unfold quoO; rw [lenL_eq, if_neg (by omega)]; exact ⟨_, rfl⟩
    obtain ⟨q, hq⟩ := hq
    have h2 := Int.tmod_lt_of_pos at_ (by omega : (0 : Int) < L.length)
    have h3 := Int.tmod_nonneg (L.length : Int) h0
    generalize at_.tmod L.length = k at *
    obtain ⟨j, rfl⟩ : ∃ j : Nat, k = j := ⟨k.toNat, by omega⟩
    have hx := List.getElem?_eq_getElem (show j < L.length by omega)
    obtain ⟨v, h4, _⟩ := below_ok (L[j]'(by omega)) (n := 1073741824) (by omega)
    obtain ⟨u, h6, h7⟩ := below_ok (addI .i64 v (mulI .i64 q (addI .i64 7919 j))) hn
    simp only [cond_false, e2, hr, hq, Option.bind_some, listAt_some hx, h4, h6]
    exact ⟨u, rfl, h7⟩
theorem range_ok {L : List Int} {at_ lo hi : Int} (hL : L.length ≤ 1048576) (h0 : 0 ≤ at_) (h1 : at_ ≤ 1000000000) (hlo : -1000000000000 ≤ lo) (hle : lo ≤ hi) (hhi : hi ≤ 1000000000000) : ∃ v, T14 L at_ lo hi = some (v, L, at_ + 1) ∧ lo ≤ v ∧ v ≤ hi := by
  unfold T14
  rw [show ltI hi lo = false by unfold ltI; exact decide_eq_false (by omega)]
  have e1 : subI .i64 hi lo = hi - lo := subI_eq (by omega) (by omega)
  have e2 : addI .i64 (hi - lo) 1 = hi - lo + 1 := addI_eq (by omega) (by omega)
  obtain ⟨v, h2, h3, _⟩ := next_ok (n := hi - lo + 1) hL h0 h1 (by omega)
  have h4 := h3 (by omega)
  simp only [cond_false, e1, e2, h2, Option.bind_some]
  exact ⟨_, rfl, by rw [addI_eq (by omega) (by omega)]; omega, by rw [addI_eq (by omega) (by omega)]; omega⟩
/-! First errors. -/
theorem errs_ok : ∀ (l : List Int), l.length ≤ 100 → (∀ x ∈ l, x = 0) → T22 l = some 0 := by
  intro l hl h
  unfold T22
  have key : ∀ (i : Nat) (s : Unit), i < l.length → True → ∃ s' : Unit, L22_2 l (i : Int) = some (.inl ((i + 1 : Nat) : Int)) ∧ True := by
    intro i _ hi _
    have hx := List.getElem?_eq_getElem hi
    have := h _ (List.getElem_mem hi)
    refine ⟨(), ?_, trivial⟩
    unfold L22_2
    simp only [ltL_true hi, cond_true, listAt_some hx, Option.bind_some, this, show neI 0 0 = false from rfl, cond_false, nextI (i := i) (by omega)]
  obtain ⟨r, h1, y, rfl⟩ := iter_up (st := L22_2 l) (fun (_ : Unit) i => (i : Int)) l.length (fun _ _ => True) (fun r => ∃ y, r = .inl y) key (fun _ _ => ⟨_, by unfold L22_2; rw [ltL_false (Nat.le_refl _)]; rfl, _, rfl⟩) () trivial
  have h1 : iter (L22_2 l) 0 = some (.inl y) := h1
  rw [h1, Option.bind_some, Sum.elim_inl]
end Go.Abs.TKM

set_option linter.unusedVariables false
set_option linter.unusedSimpArgs false
set_option maxRecDepth 10000
namespace Go.Abs.TKM
open Go.RowKit Go.Proofs Go.Abs
/-! Plays that are drawn. -/
abbrev pA : ByteArray := ByteArray.mk #[112, 97]
abbrev pB : ByteArray := ByteArray.mk #[112, 98]
abbrev iA : ByteArray := ByteArray.mk #[105, 97]
abbrev iB : ByteArray := ByteArray.mk #[105, 98]
theorem ltI_t {a b : Int} (h : a < b) : ltI a b = true := by unfold ltI; exact decide_eq_true h
theorem ltI_f {a b : Int} (h : b ≤ a) : ltI a b = false := by unfold ltI; exact decide_eq_false (by omega)
theorem leI_t {a b : Int} (h : a ≤ b) : leI a b = true := by unfold leI; exact decide_eq_true h
theorem leI_f {a b : Int} (h : b < a) : leI a b = false := by unfold leI; exact decide_eq_false (by omega)
theorem neI_no (a : Int) : neI a a = false := by rw [neI_iff]; simp
theorem pick_ok {L : List Int} {at_ : Int} {l : List Int} (hL : L.length ≤ 1048576) (h0 : 0 ≤ at_) (h1 : at_ ≤ 1000000000) (hl : 1 ≤ l.length) (hl2 : l.length ≤ 1000) : ∃ v, T75 L at_ l = some (v, L, at_ + 1) ∧ v ∈ l := by
  obtain ⟨k, e, h2, _⟩ := next_ok (n := lenL l) hL h0 h1 (by rw [lenL_eq]; omega)
  rw [lenL_eq] at h2
  have h2 := h2 (by omega)
  obtain ⟨j, rfl⟩ : ∃ j : Nat, k = j := ⟨k.toNat, by omega⟩
  have hj : j < l.length := by omega
  refine ⟨l[j], ?_, List.getElem_mem hj⟩
  unfold T75
  simp only [e, Option.bind_some, listAt_some (List.getElem?_eq_getElem hj)]
theorem some_ok {L : List Int} {at_ : Int} {l : List ByteArray} (hL : L.length ≤ 1048576) (h0 : 0 ≤ at_) (h1 : at_ ≤ 1000000000) (hl : 1 ≤ l.length) (hl2 : l.length ≤ 1000) : ∃ v, T46 L at_ l = some (v, L, at_ + 1) ∧ v ∈ l := by
  obtain ⟨k, e, h2, _⟩ := next_ok (n := lenL l) hL h0 h1 (by rw [lenL_eq]; omega)
  rw [lenL_eq] at h2
  have h2 := h2 (by omega)
  obtain ⟨j, rfl⟩ : ∃ j : Nat, k = j := ⟨k.toNat, by omega⟩
  have hj : j < l.length := by omega
  refine ⟨l[j], ?_, List.getElem_mem hj⟩
  unfold T46
  simp only [e, Option.bind_some, listAt_some (List.getElem?_eq_getElem hj)]
/-- Plays of one player, one behind another. -/
structure Pn (pl : ByteArray) (hi : Int) (x : S99) : Prop where
  p : x.f0 = pl
  i : x.f1 = iA ∨ x.f1 = iB
  a : 0 ≤ x.f2
  b : x.f2 < hi
  c : 1 ≤ x.f3
  d : x.f3 ≤ 20
theorem Pn.mono {pl : ByteArray} {a b : Int} {x : S99} (h : Pn pl a x) (hab : a ≤ b) : Pn pl b x := ⟨h.p, h.i, h.a, by have := h.b; omega, h.c, h.d⟩
structure RunP (pl : ByteArray) (hi : Int) (l : List S99) : Prop where
  all : ∀ x ∈ l, Pn pl hi x
  up : l.Pairwise fun x y => x.f2 < y.f2
theorem runP_nil (pl : ByteArray) (hi : Int) : RunP pl hi [] := ⟨fun x hx => (by cases hx), .nil⟩
theorem runP_snoc {pl : ByteArray} {hi n : Int} {l : List S99} {x : S99} (h : RunP pl hi l) (hx : Pn pl (hi + n) x) (h2 : hi ≤ x.f2) (hn : 0 ≤ n) : RunP pl (hi + n) (l ++ [x]) := by
  refine ⟨fun y hy => ?_, List.pairwise_append.2 ⟨h.up, by simp, fun a ha b hb => ?_⟩⟩
  · rcases List.mem_append.1 hy with hy | hy
    · exact (h.all y hy).mono (by omega)
    · rw [List.mem_singleton] at hy; subst hy; exact hx
  · rw [List.mem_singleton] at hb; subst hb
    have := (h.all a ha).b
    omega
/-- One player's plays. -/
theorem inner_ok {L : List Int} (hL : L.length ≤ 1048576) (p1 : Int) (z : List Int × Int × List S99 × List ByteArray × Int) (pl : ByteArray) {n : Int} (q : List Int × Int) (hn : 0 ≤ n ∧ n ≤ 100) {at_ a : Int} (hat : 0 ≤ at_ ∧ at_ ≤ 100000) (ha : 0 ≤ a ∧ a ≤ 86399990) (base : List S99) (hb : base.length ≤ 1000) (ps : List ByteArray) :
    ∃ at' a' new, iter (L49_7 p1 z pl (n, q)) (L, at_, base, a, ps, 0) = some (a', n, false, L, at', base ++ new, ps) ∧ RunP pl a' new ∧ a' ≤ 86403000 ∧ 0 ≤ a' ∧ (new.length : Int) = n ∧ 0 ≤ at' ∧ at' ≤ at_ + 3 * n := by
  obtain ⟨m, rfl⟩ : ∃ m : Nat, n = m := ⟨n.toNat, by omega⟩
  let enc : Int × List S99 × Int → Nat → List Int × Int × List S99 × Int × List ByteArray × Int := fun s i => (L, s.1, base ++ s.2.1, s.2.2, ps, (i : Int))
  let Inv : Nat → Int × List S99 × Int → Prop := fun i s => (0 ≤ s.1 ∧ s.1 ≤ at_ + 3 * i) ∧ RunP pl s.2.2 s.2.1 ∧ s.2.1.length = i ∧ 0 ≤ s.2.2 ∧ s.2.2 ≤ 86399990 + 30 * i
  have h0 : Inv 0 (at_, [], a) := ⟨by simp only; omega, runP_nil _ _, rfl, ha.1, by simp only; omega⟩
  have key : ∀ (i : Nat) s, i < m → Inv i s → ∃ s', L49_7 p1 z pl ((m : Int), q) (enc s i) = some (.inl (enc s' (i + 1))) ∧ Inv (i + 1) s' := by
    rintro i ⟨at0, l, a0⟩ hi ⟨h1, h2, h3, h4, h5⟩
    simp only at h1 h2 h3 h4 h5
    obtain ⟨v1, e1, m1⟩ := some_ok (L := L) (at_ := at0) (l := [iA, iB]) hL (by omega) (by omega) (by decide) (by decide)
    obtain ⟨v2, e2, m2⟩ := pick_ok (L := L) (at_ := at0 + 1) (l := [1, 5, 10, 20]) hL (by omega) (by omega) (by decide) (by decide)
    obtain ⟨v3, e3, m3⟩ := pick_ok (L := L) (at_ := at0 + 1 + 1) (l := [1, 5, 10, 30]) hL (by omega) (by omega) (by decide) (by decide)
    have b2 : 1 ≤ v2 ∧ v2 ≤ 20 := by simp only [List.mem_cons, List.not_mem_nil, or_false] at m2; omega
    have b3 : 1 ≤ v3 ∧ v3 ≤ 30 := by simp only [List.mem_cons, List.not_mem_nil, or_false] at m3; omega
    have b1 : v1 = iA ∨ v1 = iB := by simpa using m1
    have ho : appO 48 (base ++ l) [(⟨pl, v1, a0, v2⟩ : S99)] = some (base ++ l ++ [⟨pl, v1, a0, v2⟩]) := appO_big (by decide) (by simp only [List.length_append, List.length_cons, List.length_nil]; omega)
    have e4 : addI .i64 a0 v3 = a0 + v3 := addI_eq (by omega) (by omega)
    refine ⟨(at0 + 1 + 1 + 1, l ++ [⟨pl, v1, a0, v2⟩], a0 + v3), ?_, ?_⟩
    · unfold L49_7
      simp only [enc, ltI_t (show (i : Int) < (m : Int) by omega), cond_true, e1, e2, e3, Option.bind_some, ho, e4, nextI (i := i) (by omega), List.append_assoc]
    · refine ⟨by simp only; omega, runP_snoc h2 ⟨rfl, b1, by simp only; omega, by simp only; omega, b2.1, b2.2⟩ (by simp only; omega) (by omega), by simp only [List.length_append, List.length_cons, List.length_nil]; omega, by simp only; omega, by simp only; omega⟩
  have kend : ∀ s, Inv m s → ∃ r, L49_7 p1 z pl ((m : Int), q) (enc s m) = some (.inr r) ∧ ∃ at' a' new, r = (a', (m : Int), false, L, at', base ++ new, ps) ∧ RunP pl a' new ∧ a' ≤ 86403000 ∧ 0 ≤ a' ∧ (new.length : Int) = m ∧ 0 ≤ at' ∧ at' ≤ at_ + 3 * m := by
    rintro ⟨at0, l, a0⟩ ⟨h1, h2, h3, h4, h5⟩
    simp only at h1 h2 h3 h4 h5
    refine ⟨_, by unfold L49_7; simp only [enc]; rw [ltI_f (Int.le_refl _)]; rfl, at0, a0, l, rfl, h2, by omega, h4, by omega, by omega, by omega⟩
  obtain ⟨r, h1, at', a', new, e, hI⟩ := iter_up enc m Inv _ key kend (at_, [], a) h0
  have h1 : iter (L49_7 p1 z pl ((m : Int), q)) (L, at_, base ++ [], a, ps, 0) = some r := h1
  rw [List.append_nil] at h1
  exact ⟨at', a', new, by rw [← e]; exact h1, hI⟩
theorem plays_ok {L : List Int} (hL : L.length ≤ 1048576) {at_ n : Int} (hat : 0 ≤ at_ ∧ at_ ≤ 1000) (hn : 0 ≤ n ∧ n ≤ 50) : ∃ a b at', T49 L at_ n = some (a ++ b, L, at') ∧ RunP pA 86403000 a ∧ RunP pB 86403000 b ∧ a.length ≤ n.toNat ∧ b.length ≤ n.toNat ∧ 0 ≤ at' ∧ at' ≤ at_ + 400 := by
  obtain ⟨s1, e1, m1⟩ := pick_ok (L := L) (at_ := at_) (l := [0, 5, 86399990]) hL (by omega) (by omega) (by decide) (by decide)
  obtain ⟨k1, f1, k1a, k1b⟩ := range_ok (L := L) (at_ := at_ + 1) (lo := 0) (hi := n) hL (by omega) (by omega) (by omega) (by omega) (by omega)
  have b1 : 0 ≤ s1 ∧ s1 ≤ 86399990 := by simp only [List.mem_cons, List.not_mem_nil, or_false] at m1; omega
  obtain ⟨at1, a1, new1, g1, r1, r1b, r1c, r1d, r1e, r1f⟩ := inner_ok hL n (L, at_, [], [pA, pB], 0) pA (n := k1) (L, at_ + 1 + 1) ⟨k1a, by omega⟩ (at_ := at_ + 1 + 1) (a := s1) (by omega) b1 [] (by decide) [pA, pB]
  obtain ⟨s2, e2, m2⟩ := pick_ok (L := L) (at_ := at1) (l := [0, 5, 86399990]) hL (by omega) (by omega) (by decide) (by decide)
  obtain ⟨k2, f2, k2a, k2b⟩ := range_ok (L := L) (at_ := at1 + 1) (lo := 0) (hi := n) hL (by omega) (by omega) (by omega) (by omega) (by omega)
  have b2 : 0 ≤ s2 ∧ s2 ≤ 86399990 := by simp only [List.mem_cons, List.not_mem_nil, or_false] at m2; omega
  obtain ⟨at2, a2, new2, g2, q1, q1b, q1c, q1d, q1e, q1f⟩ := inner_ok hL n (L, at1, new1, [pA, pB], 1) pB (n := k2) (L, at1 + 1 + 1) ⟨k2a, by omega⟩ (at_ := at1 + 1 + 1) (a := s2) (by omega) b2 new1 (by omega) [pA, pB]
  rw [List.nil_append] at g1
  have t0 : L49_3 n (L, at_, [], [pA, pB], 0) = some (.inl (L, at1, new1, [pA, pB], 1)) := by
    unfold L49_3
    simp only [show ltI 0 (lenL ([pA, pB] : List ByteArray)) = true from rfl, cond_true, show idxO (List.length ([pA, pB] : List ByteArray)) 0 = some 0 from rfl, Option.bind_some, show getN ([pA, pB] : List ByteArray) 0 = some pA from rfl, e1, f1, g1]
    rfl
  have t1 : L49_3 n (L, at1, new1, [pA, pB], 1) = some (.inl (L, at2, new1 ++ new2, [pA, pB], 2)) := by
    unfold L49_3
    simp only [show ltI 1 (lenL ([pA, pB] : List ByteArray)) = true from rfl, cond_true, show idxO (List.length ([pA, pB] : List ByteArray)) 1 = some 1 from rfl, Option.bind_some, show getN ([pA, pB] : List ByteArray) 1 = some pB from rfl, e2, f2, g2]
    rfl
  have t2 : L49_3 n (L, at2, new1 ++ new2, [pA, pB], 2) = some (.inr (2, false, L, at2, new1 ++ new2, [pA, pB])) := rfl
  refine ⟨new1, new2, at2, ?_, ⟨fun x hx => (r1.all x hx).mono r1b, r1.up⟩, ⟨fun x hx => (q1.all x hx).mono q1b, q1.up⟩, by omega, by omega, by omega, by omega⟩
  unfold T49
  rw [iter_inl t0, iter_inl t1, iter_inr t2]
  rfl
/-! Such plays are right. -/
def OrdP (x y : S99) : Prop := (x.f0 = y.f0 ∧ (x.f0 = pA ∨ x.f0 = pB) ∧ x.f2 < y.f2) ∨ (x.f0 = pA ∧ y.f0 = pB)
structure Pls (l : List S99) : Prop where
  all : ∀ x ∈ l, Pn pA 86403000 x ∨ Pn pB 86403000 x
  ord : l.Pairwise OrdP
  len : l.length ≤ 100
theorem pls_of {a b : List S99} (ha : RunP pA 86403000 a) (hb : RunP pB 86403000 b) (h1 : a.length ≤ 50) (h2 : b.length ≤ 50) : Pls (a ++ b) := by
  refine ⟨fun x hx => ?_, List.pairwise_append.2 ⟨?_, ?_, fun x hx y hy => .inr ⟨(ha.all x hx).p, (hb.all y hy).p⟩⟩, by rw [List.length_append]; omega⟩
  · rcases List.mem_append.1 hx with hx | hx
    · exact .inl (ha.all x hx)
    · exact .inr (hb.all x hx)
  · exact ha.up.imp_of_mem fun {x y} hx hy h => .inl ⟨by rw [(ha.all x hx).p, (ha.all y hy).p], .inl (ha.all x hx).p, h⟩
  · exact hb.up.imp_of_mem fun {x y} hx hy h => .inl ⟨by rw [(hb.all x hx).p, (hb.all y hy).p], .inr (hb.all x hx).p, h⟩
theorem t97 {s : ByteArray} (h : s = pA ∨ s = pB ∨ s = iA ∨ s = iB) : T97 s = some true := by
  rcases h with rfl | rfl | rfl | rfl <;> kernel_rfl
theorem or_fst (c : Int) : T140 [-1, c] = some (-1) := by kernel_rfl
theorem or_snd : T140 [0, -1] = some (-1) := by kernel_rfl
theorem ord_cmp {x y : S99} (h : OrdP x y) : T125 x y = some (-1) := by
  unfold T125
  have hc : ∃ c, T142 x.f2 y.f2 = some c := by
    unfold T142 T162
    rw [neI_no, neI_no]
    simp only [Option.bind_some, cond_false]
    cases ltI x.f2 y.f2 <;> cases ltI y.f2 x.f2 <;> exact ⟨_, rfl⟩
  rcases h with ⟨h1, h2, h3⟩ | ⟨h1, h2⟩
  · have e1 : T141 x.f0 y.f0 = some 0 := by
      rw [← h1]
      rcases h2 with h2 | h2 <;> rw [h2] <;> kernel_rfl
    have e2 : T142 x.f2 y.f2 = some (-1) := by
      unfold T142 T162
      rw [neI_no, neI_no, ltI_t h3]
      rfl
    rw [e1, e2]
    simp only [Option.bind_some, or_snd]
  · have e1 : T141 x.f0 y.f0 = some (-1) := by rw [h1, h2]; kernel_rfl
    obtain ⟨c, hc⟩ := hc
    rw [e1, hc]
    simp only [Option.bind_some, or_fst]
theorem t70_in {a b c : Int} (h1 : b ≤ a) (h2 : a ≤ c) : T70 a b c = some false := by
  unfold T70 ltI
  rw [decide_eq_false (by omega), decide_eq_false (by omega)]
  rfl
theorem plays_right {l : List S99} (h : Pls l) : T96 l = some 0 := by
  have hl := h.len
  have key : ∀ (i : Nat) (s : Unit), i < l.length → True → ∃ s' : Unit, L96_4 l (i : Int) = some (.inl ((i + 1 : Nat) : Int)) ∧ True := by
    intro i _ hi _
    have hx := List.getElem?_eq_getElem hi
    have hm := List.getElem_mem hi
    have hp := h.all _ hm
    have k1 : T97 (l[i]).f0 = some true := t97 (by rcases hp with hp | hp; exact .inl hp.p; exact .inr (.inl hp.p))
    have k2 : T97 (l[i]).f1 = some true := t97 (by rcases hp with hp | hp <;> rcases hp.i with q | q <;> simp [q])
    have b : 0 ≤ (l[i]).f2 ∧ (l[i]).f2 < 86403000 ∧ 1 ≤ (l[i]).f3 ∧ (l[i]).f3 ≤ 20 := by rcases hp with hp | hp <;> exact ⟨hp.a, hp.b, hp.c, hp.d⟩
    have k3 : T92 (l[i]).f2 = some true := by
      unfold T92
      rw [leI_t b.1, ltI_t (by omega)]
      rfl
    have k4 : T70 (l[i]).f3 1 86400000 = some false := t70_in b.2.2.1 (by omega)
    refine ⟨(), ?_, trivial⟩
    unfold L96_4
    simp only [ltL_true hi, cond_true, listAt_some hx, Option.bind_some, k1, k2, k3, k4, Bool.not_true, cond_false, nextI (i := i) (by omega)]
    cases i with
    | zero => rfl
    | succ j =>
      have e1 : subI .i64 ((j + 1 : Nat) : Int) 1 = (j : Int) := by rw [subI_eq (by omega) (by omega)]; omega
      have hj : j < l.length := by omega
      have hc := ord_cmp (List.pairwise_iff_getElem.1 h.ord j (j + 1) hj hi (by omega))
      simp only [ltI_t (show (0 : Int) < ((j + 1 : Nat) : Int) by omega), cond_true, e1, listAt_some (List.getElem?_eq_getElem hj), Option.bind_some, hc, show leI 0 (-1) = false from rfl, cond_false]
  obtain ⟨r, h1, y, rfl⟩ := iter_up (st := L96_4 l) (fun (_ : Unit) i => (i : Int)) l.length (fun _ _ => True) (fun r => ∃ y, r = .inl y) key (fun _ _ => ⟨_, by unfold L96_4; rw [ltL_false (Nat.le_refl _)]; rfl, _, rfl⟩) () trivial
  have h1 : iter (L96_4 l) 0 = some (.inl y) := h1
  unfold T96
  rw [show ltI 3000 (lenL l) = false by rw [lenL_eq]; exact ltI_f (by omega), h1]
  rfl
/-! Whether one of some is so. -/
theorem any_iter {α : Type} {st : Int → Option (Int ⊕ ((Int × Bool) ⊕ Int))} {l : List α} (p : α → Bool) (hl : l.length ≤ 1048576) (hs : ∀ (i : Nat) x, l[i]? = some x → st (i : Int) = some (bif p x then .inr (.inr (i : Int)) else .inl ((i + 1 : Nat) : Int)))
    (he : st (l.length : Int) = some (.inr (.inl ((l.length : Int), false)))) : ∃ v, ((iter st 0).bind fun y => Sum.elim (fun _ => some (-1)) (fun b => some b) y) = some v ∧ leI 0 v = l.any p := by
  have hstep : ∀ (i : Nat) (s : Unit), i < l.length → (∀ j x, j < i → l[j]? = some x → p x = false) → (∃ s' : Unit, st (i : Int) = some (.inl ((i + 1 : Nat) : Int)) ∧ ∀ j x, j < i + 1 → l[j]? = some x → p x = false) ∨ ∃ r, st (i : Int) = some (.inr r) ∧ ((∃ y, r = .inl y ∧ l.any p = false) ∨ ∃ k : Nat, r = .inr (k : Int) ∧ l.any p = true) := by
    intro i _ hi hI
    have hx := List.getElem?_eq_getElem hi
    have h1 := hs i _ hx
    cases hp : p l[i] with
    | true =>
      rw [hp] at h1
      exact .inr ⟨_, h1, .inr ⟨i, rfl, List.any_eq_true.2 ⟨_, List.getElem_mem hi, hp⟩⟩⟩
    | false =>
      rw [hp] at h1
      refine .inl ⟨(), h1, fun j x hj hjx => ?_⟩
      by_cases hji : j = i
      · subst hji
        rw [hx] at hjx
        cases hjx
        exact hp
      · exact hI j x (by omega) hjx
  obtain ⟨r, h1, h2⟩ := iter_upx (st := st) (fun (_ : Unit) i => (i : Int)) l.length (fun i _ => ∀ j x, j < i → l[j]? = some x → p x = false) (fun r => (∃ y, r = .inl y ∧ l.any p = false) ∨ ∃ k : Nat, r = .inr (k : Int) ∧ l.any p = true) hstep
    (fun _ hI => ⟨_, he, .inl ⟨_, rfl, List.any_eq_false.2 fun x hx => by
      obtain ⟨j, hj⟩ := List.getElem?_of_mem hx
      rw [hI j x (List.getElem?_eq_some_iff.1 hj).1 hj]
      decide⟩⟩) 0 () (Nat.zero_le _) (fun j x hj => by omega)
  have h1 : iter st 0 = some r := h1
  rcases h2 with ⟨y, rfl, h3⟩ | ⟨k, rfl, h3⟩
  · exact ⟨-1, by rw [h1]; rfl, by rw [h3]; rfl⟩
  · exact ⟨k, by rw [h1]; rfl, by rw [h3]; exact leI_t (by omega)⟩
end Go.Abs.TKM

set_option linter.unusedVariables false
set_option linter.unusedSimpArgs false
set_option maxRecDepth 10000
namespace Go.Abs.TKM
open Go.RowKit Go.Proofs Go.Abs
/-! Matches. -/
theorem eqS_t {a b : ByteArray} : (eqS a b = true) = (a = b) := by rw [eqS_iff]; simp
theorem eqS_f {a b : ByteArray} (h : a ≠ b) : eqS a b = false := by rw [eqS_iff]; exact decide_eq_false h
def Fit (most : Int) (w h : S99) : Prop := h.f0 = w.f0 ∧ h.f1 = w.f1 ∧ h.f2 - w.f2 ≤ most ∧ w.f2 - h.f2 ≤ most
def Cand (p1 : List S99) (most : Int) (w : S99) (tk : List Bool) (k : Nat) : Prop := tk[k]? = some false ∧ ∃ h, p1[k]? = some h ∧ Fit most w h
theorem pls_b {l : List S99} (hl : Pls l) {x : S99} (hx : x ∈ l) : 0 ≤ x.f2 ∧ x.f2 < 86403000 := by
  rcases hl.all x hx with h | h <;> exact ⟨h.a, h.b⟩
theorem apart_ok {a b : Int} (ha : 0 ≤ a ∧ a < 86403000) (hb : 0 ≤ b ∧ b < 86403000) : T100 a b = some (max (a - b) (b - a)) := by
  unfold T100
  rw [subI_eq (by omega) (by omega), subI_eq (by omega) (by omega), maxI_eq]
theorem best_ok {p0 p1 : List S99} (hl : Pls p1) {most : Int} {w : S99} (hw : 0 ≤ w.f2 ∧ w.f2 < 86403000) (z1 : List Bool × List S118 × Int) {tk : List Bool} (ht : tk.length = p1.length) (ms : List S118) :
    ∃ best, iter (L55_17 p0 p1 most z1 w) (tk, ms, -1, 0) = some (best, (p1.length : Int), false, tk, ms) ∧ ((best = -1 ∧ ∀ k, ¬ Cand p1 most w tk k) ∨ ∃ k : Nat, best = k ∧ Cand p1 most w tk k) := by
  have hlen := hl.len
  let enc : Int → Nat → List Bool × List S118 × Int × Int := fun s i => (tk, ms, s, (i : Int))
  let Inv : Nat → Int → Prop := fun i best => (best = -1 ∧ ∀ k, k < i → ¬ Cand p1 most w tk k) ∨ ∃ k : Nat, best = k ∧ k < i ∧ Cand p1 most w tk k
  have key : ∀ (i : Nat) (s : Int), i < p1.length → Inv i s → ∃ s', L55_17 p0 p1 most z1 w (enc s i) = some (.inl (enc s' (i + 1))) ∧ Inv (i + 1) s' := by
    intro i best hi hI
    have hx := List.getElem?_eq_getElem hi
    have hb := pls_b hl (List.getElem_mem hi)
    have htk := List.getElem?_eq_getElem (show i < tk.length by omega)
    have hn := nextI (i := i) (by omega)
    have hti := idx_nat (show i < tk.length by omega)
    generalize p1[i] = h at hx hb
    generalize tk[i]'(by omega) = b at htk
    have skip : ¬ Cand p1 most w tk i → Inv (i + 1) best := fun hc => by
      rcases hI with ⟨h1, h2⟩ | ⟨k, h1, h2, h3⟩
      · refine .inl ⟨h1, fun k hk => ?_⟩
        by_cases e : k = i
        · subst e; exact hc
        · exact h2 k (by omega)
      · exact .inr ⟨k, h1, by omega, h3⟩
    have take : Cand p1 most w tk i → Inv (i + 1) i := fun hc => .inr ⟨i, rfl, by omega, hc⟩
    have keep : ∀ k : Nat, best = k → k < i → Cand p1 most w tk k → Inv (i + 1) best := fun k h1 h2 h3 => .inr ⟨k, h1, by omega, h3⟩
    unfold L55_17
    simp only [enc, ltL_true hi, cond_true, listAt_some hx, Option.bind_some, hti, getN_some htk, hn]
    cases b with
    | true =>
      refine ⟨best, rfl, skip fun hc => ?_⟩
      have := hc.1
      rw [htk] at this
      cases this
    | false =>
      simp only [cond_false]
      by_cases e1 : h.f0 = w.f0
      · by_cases e2 : h.f1 = w.f1
        · rw [show eqS h.f0 w.f0 = true by rw [eqS_t]; exact e1, show eqS h.f1 w.f1 = true by rw [eqS_t]; exact e2]
          simp only [Bool.not_true, cond_false, apart_ok hb hw, Option.bind_some]
          by_cases e3 : most < max (h.f2 - w.f2) (w.f2 - h.f2)
          · rw [ltI_t e3]
            refine ⟨best, rfl, skip fun ⟨_, h', hh, hf⟩ => ?_⟩
            rw [hx] at hh
            cases hh
            have := hf.2.2
            omega
          · rw [ltI_f (by omega)]
            have hc : Cand p1 most w tk i := ⟨htk, h, hx, e1, e2, by omega, by omega⟩
            simp only [cond_false]
            rcases hI with ⟨h1, h2⟩ | ⟨k, h1, h2, h3⟩
            · subst h1
              rw [show ltI (-1) 0 = true from rfl]
              exact ⟨_, rfl, take hc⟩
            · subst h1
              obtain ⟨hk1, h', hk2, hk3⟩ := h3
              have hb' := pls_b hl (List.mem_of_getElem? hk2)
              rw [ltI_f (show (0 : Int) ≤ (k : Int) by omega)]
              simp only [cond_false, listAt_some hk2, Option.bind_some, apart_ok hb' hw]
              cases ltI (max (h.f2 - w.f2) (w.f2 - h.f2)) (max (h'.f2 - w.f2) (w.f2 - h'.f2)) with
              | true => exact ⟨_, rfl, take hc⟩
              | false => exact ⟨_, rfl, keep k rfl h2 ⟨hk1, h', hk2, hk3⟩⟩
        · rw [show eqS h.f0 w.f0 = true by rw [eqS_t]; exact e1, eqS_f e2]
          refine ⟨best, rfl, skip fun ⟨_, h', hh, hf⟩ => ?_⟩
          rw [hx] at hh
          cases hh
          exact e2 hf.2.1
      · rw [eqS_f e1]
        refine ⟨best, rfl, skip fun ⟨_, h', hh, hf⟩ => ?_⟩
        rw [hx] at hh
        cases hh
        exact e1 hf.1
  obtain ⟨r, h1, best, rfl, h2⟩ := iter_up enc p1.length Inv (fun r => ∃ best, r = (best, (p1.length : Int), false, tk, ms) ∧ Inv p1.length best) key (fun s hI => ⟨_, by unfold L55_17; simp only [enc]; rw [ltL_false (Nat.le_refl _)]; rfl, s, rfl, hI⟩) (-1) (.inl ⟨rfl, fun k hk => by omega⟩)
  refine ⟨best, h1, ?_⟩
  rcases h2 with ⟨h2, h3⟩ | ⟨k, h2, h3, h4⟩
  · refine .inl ⟨h2, fun k hc => ?_⟩
    obtain ⟨h, hh, _⟩ := hc.2
    exact h3 k (List.getElem?_eq_some_iff.1 hh).1 hc
  · exact .inr ⟨k, h2, h4⟩
/-- The plays that are expected, one by one. -/
theorem mid_ok {p0 p1 : List S99} (hl0 : Pls p0) (hl : Pls p1) {most : Int} (G : Nat → List Bool → List S118 → Prop) (h0 : G 0 (List.replicate p1.length false) [])
    (hs : ∀ i w tk ms, p0[i]? = some w → G i tk ms → tk.length = p1.length → ms.length = i → ((∀ k, ¬ Cand p1 most w tk k) → G (i + 1) tk (ms ++ [⟨i, -1⟩])) ∧ ∀ k : Nat, Cand p1 most w tk k → G (i + 1) (tk.set k true) (ms ++ [⟨i, k⟩])) :
    ∃ tk ms, iter (L55_13 p0 p1 most) (List.replicate p1.length false, [], 0) = some ((p0.length : Int), false, tk, ms) ∧ G p0.length tk ms ∧ tk.length = p1.length ∧ ms.length = p0.length := by
  have hlen0 := hl0.len
  have hlen := hl.len
  let enc : List Bool × List S118 → Nat → List Bool × List S118 × Int := fun s i => (s.1, s.2, (i : Int))
  let Inv : Nat → List Bool × List S118 → Prop := fun i s => G i s.1 s.2 ∧ s.1.length = p1.length ∧ s.2.length = i
  have key : ∀ (i : Nat) s, i < p0.length → Inv i s → ∃ s', L55_13 p0 p1 most (enc s i) = some (.inl (enc s' (i + 1))) ∧ Inv (i + 1) s' := by
    rintro i ⟨tk, ms⟩ hi ⟨hG, ht, hm⟩
    simp only at hG ht hm
    have hx := List.getElem?_eq_getElem hi
    have hb := pls_b hl0 (List.getElem_mem hi)
    generalize p0[i] = w at hx hb
    obtain ⟨best, e1, h2⟩ := best_ok (p0 := p0) (most := most) hl hb (tk, ms, (i : Int)) ht ms
    have hn := nextI (i := i) (by omega)
    obtain ⟨s1, s2⟩ := hs i w tk ms hx hG ht hm
    have ho : ∀ v : Int, appO 16 ms [(⟨(i : Int), v⟩ : S118)] = some (ms ++ [⟨i, v⟩]) := fun v => appO_big (by decide) (by simp only [List.length_cons, List.length_nil]; omega)
    unfold L55_13
    simp only [enc, ltL_true hi, cond_true, listAt_some hx, Option.bind_some, e1, ho, hn]
    rcases h2 with ⟨rfl, h3⟩ | ⟨k, rfl, h3⟩
    · rw [show leI 0 (-1) = false from rfl]
      exact ⟨(tk, ms ++ [⟨i, -1⟩]), rfl, s1 h3, ht, by simp [hm]⟩
    · have hk := (List.getElem?_eq_some_iff.1 h3.1).1
      rw [leI_t (show (0 : Int) ≤ (k : Int) by omega)]
      simp only [cond_true, idx_nat hk, Option.bind_some, getN_some h3.1]
      exact ⟨(tk.set k true, ms ++ [⟨i, k⟩]), rfl, s2 k h3, by simp [ht], by simp [hm]⟩
  obtain ⟨r, h1, tk, ms, rfl, h2, h3, h4⟩ := iter_up enc p0.length Inv (fun r => ∃ tk ms, r = ((p0.length : Int), false, tk, ms) ∧ G p0.length tk ms ∧ tk.length = p1.length ∧ ms.length = p0.length) key (fun s hI => ⟨_, by unfold L55_13; simp only [enc]; rw [ltL_false (Nat.le_refl _)]; rfl, s.1, s.2, rfl, hI.1, hI.2.1, hI.2.2⟩) (List.replicate p1.length false, []) ⟨h0, by simp, rfl⟩
  exact ⟨tk, ms, h1, h2, h3, h4⟩
theorem left_ok (y : Int × Bool × List Bool × List S118) (hl : y.2.2.1.length ≤ 1000) : ∃ left, iter (L55_29 y) ([], 0) = some ((y.2.2.1.length : Int), false, left) ∧ (∀ v ∈ left, ∃ j : Nat, v = j ∧ y.2.2.1[j]? = some false) ∧ left.length = y.2.2.1.countP (!·) := by
  generalize hT : y.2.2.1 = tk at hl
  let enc : List Int → Nat → List Int × Int := fun s i => (s, (i : Int))
  let Inv : Nat → List Int → Prop := fun i left => (∀ v ∈ left, ∃ j : Nat, v = j ∧ tk[j]? = some false) ∧ left.length = (tk.take i).countP (!·) ∧ left.length ≤ i
  have key : ∀ (i : Nat) s, i < tk.length → Inv i s → ∃ s', L55_29 y (enc s i) = some (.inl (enc s' (i + 1))) ∧ Inv (i + 1) s' := by
    rintro i left hi ⟨h1, h2, h3⟩
    have hx := List.getElem?_eq_getElem hi
    have hn := nextI (i := i) (by omega)
    have htk : tk.take (i + 1) = tk.take i ++ [tk[i]] := by rw [List.take_add_one, hx]; rfl
    unfold L55_29
    simp only [enc, hT, ltL_true hi, cond_true, listAt_some hx, Option.bind_some, hn]
    cases hb : tk[i] with
    | true =>
      simp only [Bool.not_true, cond_false]
      refine ⟨left, rfl, h1, ?_, by omega⟩
      rw [htk, hb, List.countP_append, ← h2]
      rfl
    | false =>
      have ho : appO 8 left [(i : Int)] = some (left ++ [(i : Int)]) := appO_big (by decide) (by simp only [List.length_cons, List.length_nil]; omega)
      simp only [Bool.not_false, cond_true, ho, Option.bind_some]
      refine ⟨left ++ [(i : Int)], rfl, fun v hv => ?_, ?_, by simp; omega⟩
      · rcases List.mem_append.1 hv with hv | hv
        · exact h1 v hv
        · rw [List.mem_singleton] at hv
          exact ⟨i, hv, by rw [hx, hb]⟩
      · rw [htk, hb, List.countP_append, ← h2, List.length_append]
        rfl
  obtain ⟨r, h1, left, rfl, h2, h3, _⟩ := iter_up enc tk.length Inv (fun r => ∃ left, r = ((tk.length : Int), false, left) ∧ Inv tk.length left) key (fun s hI => ⟨_, by unfold L55_29; simp only [enc, hT]; rw [ltL_false (Nat.le_refl _)]; rfl, s, rfl, hI⟩) [] ⟨fun v hv => (by cases hv), by simp, Nat.le_refl _⟩
  refine ⟨left, h1, h2, ?_⟩
  rw [h3, List.take_length]
theorem compare_ok {p0 p1 : List S99} (hl0 : Pls p0) (hl : Pls p1) {most : Int} (hm : 0 ≤ most ∧ most ≤ 1000) (G : Nat → List Bool → List S118 → Prop) (h0 : G 0 (List.replicate p1.length false) [])
    (hs : ∀ i w tk ms, p0[i]? = some w → G i tk ms → tk.length = p1.length → ms.length = i → ((∀ k, ¬ Cand p1 most w tk k) → G (i + 1) tk (ms ++ [⟨i, -1⟩])) ∧ ∀ k : Nat, Cand p1 most w tk k → G (i + 1) (tk.set k true) (ms ++ [⟨i, k⟩])) :
    ∃ tk ms left, T55 p0 p1 most = some (ms, left, 0) ∧ G p0.length tk ms ∧ tk.length = p1.length ∧ ms.length = p0.length ∧ (∀ v ∈ left, ∃ j : Nat, v = j ∧ tk[j]? = some false) ∧ left.length = tk.countP (!·) := by
  obtain ⟨tk, ms, e1, g1, g2, g3⟩ := mid_ok hl0 hl (most := most) G h0 hs
  have hlen := hl.len
  obtain ⟨left, e2, f1, f2⟩ := left_ok ((p0.length : Int), false, tk, ms) (by simp only; omega)
  refine ⟨tk, ms, left, ?_, g1, g2, g3, f1, f2⟩
  have c0 : L55_2 p0 p1 most 0 = some (.inl 1) := by
    unfold L55_2
    rw [show ltI 0 2 = true from rfl, show listAt [p0, p1] 0 = some p0 from rfl]
    simp only [cond_true, Option.bind_some, plays_right hl0, neI_no, cond_false]
    rfl
  have c1 : L55_2 p0 p1 most 1 = some (.inl 2) := by
    unfold L55_2
    rw [show ltI 1 2 = true from rfl, show listAt [p0, p1] 1 = some p1 from rfl]
    simp only [cond_true, Option.bind_some, plays_right hl, neI_no, cond_false]
    rfl
  have hz : mkZ 1 (false : Bool) (lenL p1) (lenL p1) = some (List.replicate p1.length false) := by
    unfold mkZ
    rw [lenL_eq, if_pos ⟨by omega, by omega, by omega, by omega⟩]
    simp
  unfold T55
  rw [iter_inl c0, iter_inl c1, iter_inr (r := .inl (2, false)) rfl]
  simp only [Option.bind_some, Sum.elim_inl, t70_in hm.1 (show most ≤ 86400000 by omega), cond_false, hz, e1, e2]
/-! Each at most once. -/
theorem cnt_set : ∀ (l : List Bool) (k : Nat), l[k]? = some false → (l.set k true).countP id = l.countP id + 1
  | [], k, h => by simp at h
  | b :: l, 0, h => by
    simp only [List.getElem?_cons_zero, Option.some.injEq] at h
    subst h
    simp [List.countP_cons]
  | b :: l, k + 1, h => by
    simp only [List.set_cons_succ, List.countP_cons]
    have := cnt_set l k (by simpa using h)
    omega
theorem cnt_not : ∀ (l : List Bool), l.countP id + l.countP (!·) = l.length
  | [] => rfl
  | b :: l => by
    have := cnt_not l
    simp only [List.countP_cons, List.length_cons]
    cases b <;> simp <;> omega
theorem get_snoc {α : Type} {l : List α} {x y : α} {j : Nat} (h : (l ++ [x])[j]? = some y) : l[j]? = some y ∨ (j = l.length ∧ y = x) := by
  rcases Nat.lt_or_ge j l.length with hj | hj
  · rw [List.getElem?_append_left hj] at h
    exact .inl h
  · rw [List.getElem?_append_right hj] at h
    have h2 := (List.getElem?_eq_some_iff.1 h).1
    simp only [List.length_cons, List.length_nil] at h2
    have : j = l.length := by omega
    subst this
    simp only [Nat.sub_self, List.getElem?_cons_zero, Option.some.injEq] at h
    exact .inr ⟨rfl, h.symm⟩
structure Once (p0 p1 : List S99) (most : Int) (tk : List Bool) (ms : List S118) : Prop where
  g1 : ∀ (j : Nat) y, ms[j]? = some y → y.f0 = (j : Int) ∧ (y.f1 = -1 ∨ ∃ k : Nat, y.f1 = k ∧ tk[k]? = some true ∧ ∃ p h, p0[j]? = some p ∧ p1[k]? = some h ∧ Fit most p h)
  g2 : ∀ (j j' : Nat) y y', j < j' → ms[j]? = some y → ms[j']? = some y' → 0 ≤ y.f1 → y.f1 ≠ y'.f1
  g3 : ms.countP (fun y : S118 => leI 0 y.f1) = tk.countP id
theorem once_ok {p0 p1 : List S99} (hl0 : Pls p0) (hl : Pls p1) {most : Int} (hm : 0 ≤ most ∧ most ≤ 1000) : ∃ tk ms left, T55 p0 p1 most = some (ms, left, 0) ∧ Once p0 p1 most tk ms ∧ tk.length = p1.length ∧ ms.length = p0.length ∧ (∀ v ∈ left, ∃ j : Nat, v = j ∧ tk[j]? = some false) ∧ left.length = tk.countP (!·) := by
  refine compare_ok hl0 hl hm (fun _ tk ms => Once p0 p1 most tk ms) ⟨fun j y h => (by simp at h), fun j j' y y' _ h => (by simp at h), ?_⟩ fun i w tk ms hw I ht hlen => ⟨fun hn => ?_, fun k hc => ?_⟩
  · simp [List.countP_replicate]
  · refine ⟨fun j y h => ?_, fun j j' y y' hj h h' h0 => ?_, ?_⟩
    · rcases get_snoc h with h | ⟨rfl, rfl⟩
      · exact I.g1 j y h
      · exact ⟨by rw [hlen], .inl rfl⟩
    · rcases get_snoc h' with h' | ⟨rfl, rfl⟩
      · rcases get_snoc h with h | ⟨rfl, rfl⟩
        · exact I.g2 j j' y y' hj h h' h0
        · have := (List.getElem?_eq_some_iff.1 h').1
          omega
      · intro e
        rw [e] at h0
        have h0 : (0 : Int) ≤ -1 := h0
        omega
    · rw [List.countP_append, I.g3]
      rfl
  · obtain ⟨h1, h, h2, h3⟩ := hc
    refine ⟨fun j y hy => ?_, fun j j' y y' hj hy hy' h0 => ?_, ?_⟩
    · rcases get_snoc hy with hy | ⟨rfl, rfl⟩
      · obtain ⟨e1, e2⟩ := I.g1 j y hy
        refine ⟨e1, ?_⟩
        rcases e2 with e2 | ⟨k', e2, e3, e4⟩
        · exact .inl e2
        · refine .inr ⟨k', e2, ?_, e4⟩
          have hne : k ≠ k' := fun e => by rw [e, e3] at h1; cases h1
          rw [List.getElem?_set_ne hne]
          exact e3
      · refine ⟨by rw [hlen], .inr ⟨k, rfl, ?_, w, h, by rw [hlen]; exact hw, h2, h3⟩⟩
        rw [List.getElem?_set_self (List.getElem?_eq_some_iff.1 h1).1]
    · rcases get_snoc hy' with hy' | ⟨rfl, rfl⟩
      · rcases get_snoc hy with hy | ⟨rfl, rfl⟩
        · exact I.g2 j j' y y' hj hy hy' h0
        · have := (List.getElem?_eq_some_iff.1 hy').1
          omega
      · rcases get_snoc hy with hy | ⟨rfl, rfl⟩
        · rcases (I.g1 j y hy).2 with e2 | ⟨k', e2, e3, _⟩
          · rw [e2] at h0; exact absurd h0 (by decide)
          · intro e
            rw [e2] at e
            have e : (k' : Int) = k := e
            have : k' = k := by omega
            subst this
            rw [e3] at h1
            cases h1
        · omega
    · rw [List.countP_append, I.g3, cnt_set tk k h1]
      have : leI 0 (k : Int) = true := leI_t (by omega)
      simp [List.countP_cons, this]
/-! With itself. -/
structure Self (i : Nat) (tk : List Bool) (ms : List S118) : Prop where
  s1 : ∀ (j : Nat) y, ms[j]? = some y → y.f1 = (j : Int)
  s2 : ∀ (k : Nat) b, tk[k]? = some b → b = decide (k < i)
theorem self_ok {p : List S99} (hl : Pls p) : ∃ tk ms left, T55 p p 0 = some (ms, left, 0) ∧ Self p.length tk ms ∧ tk.length = p.length ∧ ms.length = p.length ∧ (∀ v ∈ left, ∃ j : Nat, v = j ∧ tk[j]? = some false) ∧ left.length = tk.countP (!·) := by
  refine compare_ok hl hl (by decide) Self ⟨fun j y h => (by simp at h), fun k b h => ?_⟩ fun i w tk ms hw I ht hlen => ?_
  · rw [List.getElem?_replicate] at h
    split at h
    · cases h; rfl
    · cases h
  · have hi := (List.getElem?_eq_some_iff.1 hw).1
    have hti := List.getElem?_eq_getElem (show i < tk.length by omega)
    have hb := I.s2 i _ hti
    have hfi : tk[i]? = some false := by rw [hti, hb]; simp
    refine ⟨fun hn => absurd ⟨hfi, w, hw, rfl, rfl, by omega, by omega⟩ (hn i), fun k hc => ?_⟩
    obtain ⟨h1, h, h2, f1, f2, f3, f4⟩ := hc
    have hki : k = i := by
      obtain ⟨g1, rfl⟩ := List.getElem?_eq_some_iff.1 hw
      obtain ⟨g2, rfl⟩ := List.getElem?_eq_some_iff.1 h2
      rcases Nat.lt_trichotomy k i with q | q | q
      · rcases List.pairwise_iff_getElem.1 hl.ord k i g2 g1 q with r | r
        · have := r.2.2; omega
        · rw [r.1, r.2] at f1; exact absurd f1 (by decide)
      · exact q
      · rcases List.pairwise_iff_getElem.1 hl.ord i k g1 g2 q with r | r
        · have := r.2.2; omega
        · rw [r.1, r.2] at f1; exact absurd f1 (by decide)
    subst hki
    refine ⟨fun j y hy => ?_, fun k' b hk' => ?_⟩
    · rcases get_snoc hy with hy | ⟨rfl, rfl⟩
      · exact I.s1 j y hy
      · show (k : Int) = _
        rw [hlen]
    · by_cases e : k = k'
      · subst e
        rw [List.getElem?_set_self (by omega)] at hk'
        cases hk'
        simp
      · rw [List.getElem?_set_ne e] at hk'
        have := I.s2 k' b hk'
        rw [this]
        have : (k' < k) ↔ (k' < k + 1) := by omega
        simp [this]
/-! The law. -/
theorem has_ok {l : List Int} (hl : l.length ≤ 1000) (v : Int) : T56 l v = some (l.any (eqI v)) := by
  obtain ⟨u, h1, h2⟩ := any_iter (st := L101_2 l v) (l := l) (eqI v) (by omega) (fun i x hx => by
    have hi := (List.getElem?_eq_some_iff.1 hx).1
    unfold L101_2
    simp only [ltL_true hi, cond_true, listAt_some hx, Option.bind_some, nextI (i := i) (by omega)]
    cases eqI v x <;> rfl) (by unfold L101_2; rw [ltL_false (Nat.le_refl _)]; rfl)
  have h1 : T101 l v = some u := h1
  unfold T56
  rw [h1, Option.bind_some, h2]
theorem has_no {l : List Int} (hl : l.length ≤ 1000) {v : Int} (h : ∀ x ∈ l, x ≠ v) : T56 l v = some false := by
  rw [has_ok hl]
  congr 1
  exact List.any_eq_false.2 fun x hx => by
    rw [eqI_iff]
    simpa using fun e => h x hx e.symm
theorem plain (p0 : (List Int)) (h0 : (p0.length ≤ 1048576 ∧ ∀ x ∈ p0, okI x)) : T13 p0 = some true := by
  have hL := h0.1
  obtain ⟨a1, b1, at1, e1, ra, rb, la, lb, at1a, at1b⟩ := plays_ok (L := p0) hL (at_ := 0) (n := 6) (by decide) (by decide)
  have hP := pls_of ra rb (by omega) (by omega)
  generalize a1 ++ b1 = a at e1 hP
  obtain ⟨a2, b2, at2, e2, ra2, rb2, la2, lb2, at2a, at2b⟩ := plays_ok (L := p0) hL (at_ := at1) (n := 5) (by omega) (by decide)
  have hQ := pls_of ra2 rb2 (by omega) (by omega)
  generalize a2 ++ b2 = b at e2 hQ
  obtain ⟨most, e3, m1, m2⟩ := range_ok (L := p0) (at_ := at2) (lo := 0) (hi := 40) hL (by omega) (by omega) (by decide) (by decide) (by decide)
  obtain ⟨tk, ms, left, e4, O, tl, ml, lm, lc⟩ := once_ok hP hQ (most := most) ⟨m1, by omega⟩
  obtain ⟨tk2, ms2, left2, e5, Sf, tl2, ml2, lm2, lc2⟩ := self_ok hP
  have hal := hP.len
  have hbl := hQ.len
  have hcn := cnt_not tk
  unfold T13
  simp only [e1, e2, e3, e4, Option.bind_some, neI_no, cond_false]
  rw [show neI (lenL ms) (lenL a) = false by rw [lenL_eq, lenL_eq, ml]; exact neI_no _]
  simp only [cond_false]
  generalize hq1 : (a, p0, at1) = q1
  generalize hq2 : (b, p0, at2) = q2
  generalize hq3 : (most, p0, at2 + 1) = q3
  generalize hq4 : (ms, left, (0 : Int)) = q4
  have g1 : q1.1 = a := by rw [← hq1]
  have g2 : q2.1 = b := by rw [← hq2]
  have g3 : q3.1 = most := by rw [← hq3]
  have g4 : q4.1 = ms := by rw [← hq4]
  have g5 : q4.2.1 = left := by rw [← hq4]
  have hleft : left.length ≤ 1000 := by omega
  have s1 : ∃ used, iter (L13_8 q1 q2 q3 q4) ([], 0) = some (.inl ((ms.length : Int), false, used)) ∧ used.length = ms.countP (fun y : S118 => leI 0 y.f1) := by
    let enc : List Int → Nat → List Int × Int := fun s i => (s, (i : Int))
    let Inv : Nat → List Int → Prop := fun i used => (∀ v ∈ used, 0 ≤ v ∧ ∃ j y, j < i ∧ ms[j]? = some y ∧ y.f1 = v) ∧ used.length = (ms.take i).countP (fun y : S118 => leI 0 y.f1) ∧ used.length ≤ i
    have key : ∀ (i : Nat) s, i < ms.length → Inv i s → ∃ s', L13_8 q1 q2 q3 q4 (enc s i) = some (.inl (enc s' (i + 1))) ∧ Inv (i + 1) s' := by
      rintro i used hi ⟨h1, h2, h3⟩
      have hx := List.getElem?_eq_getElem hi
      have hn := nextI (i := i) (by omega)
      have htk : ms.take (i + 1) = ms.take i ++ [ms[i]] := by rw [List.take_add_one, hx]; rfl
      generalize ms[i] = y at hx htk
      obtain ⟨f1, f2⟩ := O.g1 i y hx
      unfold L13_8
      simp only [enc, g1, g2, g3, g4, g5, ltL_true hi, cond_true, listAt_some hx, Option.bind_some, f1, neI_no, cond_false, hn]
      have up : ∀ v ∈ used, 0 ≤ v ∧ ∃ j y, j < i + 1 ∧ ms[j]? = some y ∧ y.f1 = v := fun v hv => by
        obtain ⟨w1, j, y', w2, w3⟩ := h1 v hv
        exact ⟨w1, j, y', by omega, w3⟩
      rcases f2 with f2 | ⟨k, f2, f3, p, h, f4, f5, f6⟩
      · rw [f2, leI_f (show (-1 : Int) < lenL b by rw [lenL_eq]; omega), show ltI (-1) 0 = true from rfl]
        refine ⟨used, rfl, up, ?_, by omega⟩
        rw [htk, List.countP_append, ← h2]
        simp [List.countP_cons, f2, leI]
      · have hk := (List.getElem?_eq_some_iff.1 f5).1
        have hb1 := pls_b hP (List.mem_of_getElem? f4)
        have hb2 := pls_b hQ (List.mem_of_getElem? f5)
        have hu : T56 used (k : Int) = some false := has_no (by omega) fun v hv e => by
          obtain ⟨w1, j, y', w2, w3, w4⟩ := h1 v hv
          exact O.g2 j i y' y w2 w3 hx (by omega) (by rw [w4, e, f2])
        have hv : T56 left (k : Int) = some false := has_no hleft fun v hv e => by
          obtain ⟨j, w1, w2⟩ := lm v hv
          have : j = k := by omega
          subst this
          rw [f3] at w2
          cases w2
        have hd : ltI most (maxI (subI .i64 p.f2 h.f2) (subI .i64 h.f2 p.f2)) = false := by
          rw [subI_eq (by omega) (by omega), subI_eq (by omega) (by omega), maxI_eq]
          have := f6.2.2
          exact ltI_f (by omega)
        have ho : appO 8 used [(k : Int)] = some (used ++ [(k : Int)]) := appO_big (by decide) (by simp only [List.length_cons, List.length_nil]; omega)
        rw [f2]
        simp only [leI_f (show (k : Int) < lenL b by rw [lenL_eq]; omega), cond_false, ltI_f (show (0 : Int) ≤ (k : Int) by omega), listAt_some f4, listAt_some f5, Option.bind_some, hu, hv, f6.1, f6.2.1, eqS_self, Bool.not_true, hd, ho]
        refine ⟨used ++ [(k : Int)], rfl, fun v hv' => ?_, ?_, by simp; omega⟩
        · rcases List.mem_append.1 hv' with hv' | hv'
          · exact up v hv'
          · rw [List.mem_singleton] at hv'
            exact ⟨by omega, i, y, by omega, hx, by rw [f2, hv']⟩
        · rw [htk, List.countP_append, ← h2]
          have : leI 0 y.f1 = true := by rw [f2]; exact leI_t (by omega)
          simp [List.countP_cons, this]
    obtain ⟨r, h1, used, rfl, _, h3, _⟩ := iter_up enc ms.length Inv (fun r => ∃ used, r = .inl ((ms.length : Int), false, used) ∧ Inv ms.length used) key (fun s hI => ⟨_, by unfold L13_8; simp only [enc, g4]; rw [ltL_false (Nat.le_refl _)]; rfl, s, rfl, hI⟩) [] ⟨fun v hv => (by cases hv), by simp, Nat.le_refl _⟩
    refine ⟨used, h1, ?_⟩
    rw [h3, List.take_length]
  obtain ⟨used, s1, su⟩ := s1
  simp only [s1, Option.bind_some, Sum.elim_inl, e5]
  generalize hq5 : (ms2, left2, (0 : Int)) = q5
  have g6 : q5.1 = ms2 := by rw [← hq5]
  have s2 : iter (L13_20 q1 q2 q4 q5) (used, 0) = some (.inl ((ms2.length : Int), false, used)) := by
    have key : ∀ (i : Nat) (s : Unit), i < ms2.length → True → ∃ s' : Unit, L13_20 q1 q2 q4 q5 (used, (i : Int)) = some (.inl (used, ((i + 1 : Nat) : Int))) ∧ True := by
      intro i _ hi _
      have hx := List.getElem?_eq_getElem hi
      refine ⟨(), ?_, trivial⟩
      unfold L13_20
      simp only [g6, ltL_true hi, cond_true, listAt_some hx, Option.bind_some, Sf.s1 i _ hx, neI_no, cond_false, nextI (i := i) (by omega)]
    obtain ⟨r, h1, h2⟩ := iter_up (st := L13_20 q1 q2 q4 q5) (fun (_ : Unit) i => (used, (i : Int))) ms2.length (fun _ _ => True) (fun r => r = .inl ((ms2.length : Int), false, used)) key (fun _ _ => ⟨_, by unfold L13_20; simp only [g6]; rw [ltL_false (Nat.le_refl _)]; rfl, rfl⟩) () trivial
    rw [← h2]
    exact h1
  have hl2 : left2.length = 0 := by
    rw [lc2]
    refine List.countP_eq_zero.2 fun b hb => ?_
    obtain ⟨k, hk⟩ := List.getElem?_of_mem hb
    have h1 := Sf.s2 k b hk
    have h2 := (List.getElem?_eq_some_iff.1 hk).1
    rw [h1]
    simp
    omega
  have c1 : eqI (lenL ms2) (lenL a) = true := by rw [lenL_eq, lenL_eq, ml2]; exact eqI_self _
  have c2 : eqI (lenL left2) 0 = true := by rw [lenL_eq, hl2]; rfl
  have c3 : eqI (addI .i64 (lenL used) (lenL left)) (lenL b) = true := by
    have hg3 := O.g3
    rw [lenL_eq, lenL_eq, lenL_eq, addI_eq (by omega) (by omega), eqI_iff]
    exact decide_eq_true (by omega)
  have g7 : q4.2.1 = left := g5
  subst hq5
  simp only [s2, Option.bind_some, Sum.elim_inl, eqI_self, cond_true, c1, c2, g5, g2, c3, ready_ok]
end Go.Abs.TKM
