import Derived.Test.YtehmcdmjhdlcgaaGreatDoorPTKPR
import Derived.Test.YtehmcdmjhdlcgaaGreatDoorPPlS
import Derived.Test.YtehmcdmjhdlcgaaGreatDoorPPlU
import Derived.Test.YtehmcdmjhdlcgaaGreatDoorPPlT
set_option linter.unusedVariables false
set_option linter.unusedSimpArgs false
set_option maxRecDepth 10000
namespace Go.Abs.TKP
open Go.RowKit Go.Proofs Go.Abs
/-! The two rectangles of 'lit'. -/
theorem lit_sort1 (x : S182) : sortO (fun x y => T129 x y) [x] = some [x] := by
  obtain ⟨l', h1, h2, _⟩ := sortO_le (fun x y => T129 x y) (fun _ _ => True) (fun _ _ => .inl trivial) (fun _ _ _ _ _ => trivial) [x] (by simp) (by
    intro a ha b hb
    simp only [List.mem_singleton] at ha hb
    subst ha; subst hb
    refine ⟨_, rfl, ?_⟩
    have : subI .i64 b.f0 b.f0 = 0 := by unfold subI; rw [Int.sub_self]; rfl
    simp [this])
  rw [h1, List.perm_singleton.1 h2]
theorem lit_sort2 : sortO (fun x y => T129 x y) [⟨0, 2⟩, ⟨1, 3⟩] = some [⟨0, 2⟩, ⟨1, 3⟩] := by
  obtain ⟨l', h1, h2, h3⟩ := sortO_key (fun x y => T129 x y) (·.f0) [⟨0, 2⟩, ⟨1, 3⟩] (by simp) (by
    intro a ha b hb
    simp only [List.mem_cons, List.not_mem_nil, or_false] at ha hb
    rcases ha with rfl | rfl <;> rcases hb with rfl | rfl <;> exact ⟨_, rfl, by decide⟩)
  rw [h1]
  congr 1
  match l', h2.length_eq with
  | [a, b], _ =>
    have ha : a ∈ [(⟨0, 2⟩ : S182), ⟨1, 3⟩] := h2.mem_iff.1 (by simp)
    have hb : b ∈ [(⟨0, 2⟩ : S182), ⟨1, 3⟩] := h2.mem_iff.1 (by simp)
    have hp := h2.countP_eq (fun x : S182 => x.f0 == 0)
    simp only [List.mem_cons, List.not_mem_nil, or_false] at ha hb
    simp only [List.pairwise_cons, List.mem_singleton, forall_eq] at h3
    rcases ha with rfl | rfl <;> rcases hb with rfl | rfl
    · simp at hp
    · rfl
    · have := h3.1
      simp at this
    · simp at hp
abbrev r0 : S28 := S28.mk 0 0 2 2
abbrev r1 : S28 := S28.mk 1 1 2 2
theorem runs_nil (y : Int) : T106 [] y = some [] := by
  unfold T106
  rw [iter_run (r := (0, false, [])) 1 (by kernel_rfl)]
  simp only [Option.bind_some]
  rw [show sortO (fun x y => T129 x y) ([] : List S182) = some [] from by simp [sortO], Option.bind_some, iter_run (r := (0, false, [], [])) 1 (by kernel_rfl)]
  rfl
theorem runs0 : T106 [r0, r1] 0 = some [⟨0, 2⟩] := by
  unfold T106
  rw [iter_run (r := (2, false, [⟨0, 2⟩])) 3 (by kernel_rfl)]
  simp only [Option.bind_some]
  rw [lit_sort1, Option.bind_some, iter_run (r := (1, false, [⟨0, 2⟩], [⟨0, 2⟩])) 2 (by kernel_rfl)]
  rfl
theorem runs1 : T106 [r0, r1] 1 = some [⟨0, 3⟩] := by
  unfold T106
  rw [iter_run (r := (2, false, [⟨0, 2⟩, ⟨1, 3⟩])) 3 (by kernel_rfl)]
  simp only [Option.bind_some]
  rw [lit_sort2, Option.bind_some, iter_run (r := (2, false, [⟨0, 3⟩], [⟨0, 2⟩, ⟨1, 3⟩])) 3 (by kernel_rfl)]
  rfl
theorem runs2 : T106 [r0, r1] 2 = some [⟨1, 3⟩] := by
  unfold T106
  rw [iter_run (r := (2, false, [⟨1, 3⟩])) 3 (by kernel_rfl)]
  simp only [Option.bind_some]
  rw [lit_sort1, Option.bind_some, iter_run (r := (1, false, [⟨1, 3⟩], [⟨1, 3⟩])) 2 (by kernel_rfl)]
  rfl
theorem less_nil (x : S182) (hx : ltI x.f0 x.f1 = true) : T105 [x] [] = some [x] := by
  have h : L105_4 [x] [] ([], 0, 0) = some (.inl ([x], 0, 1)) := by
    unfold L105_4
    have e1 : ltI ((([], 0, 0) : List S182 × Int × Int).2.2) (lenL [x]) = true := rfl
    have e2 : listAt [x] ((([], 0, 0) : List S182 × Int × Int).2.2) = some x := rfl
    rw [e1, e2]
    simp only [cond_true, Option.bind_some]
    rw [iter_run (r := (0, false)) 1 (by kernel_rfl), Option.bind_some, iter_run (r := (0, false, [], x.f0)) 1 (by kernel_rfl)]
    simp only [Option.bind_some, hx, cond_true]
    rfl
  unfold T105
  rw [iter_inl h, iter_inr (r := (0, 1, false, [x])) (by kernel_rfl)]
  rfl
theorem same_no (a b : S182) (h : allB [eqI a.f0 b.f0, eqI a.f1 b.f1] = false) : T107 [a] [b] = some false := by
  unfold T107
  rw [iter_inr (r := .inr ()) (by
    unfold L107_4
    have e1 : ltI 0 (lenL [a]) = true := rfl
    have e2 : listAt [a] 0 = some a := rfl
    have e3 : listAt [b] 0 = some b := rfl
    rw [e1, e2, e3]
    simp only [cond_true, Option.bind_some, h, Bool.not_false])]
  rfl
theorem lit_region : T60 [r0, r1] [] = some [⟨0, 0, 2, 1⟩, ⟨0, 1, 3, 1⟩, ⟨1, 2, 2, 1⟩] := by
  unfold T60 T21
  rw [iter_run (r := (2, 2, false)) 3 (by kernel_rfl)]
  simp only [Option.bind_some]
  rw [show growO S28 32 2 = some [] by unfold growO; rw [if_pos (by decide)], Option.bind_some, iter_run (r := (2, false, [r0, r1])) 3 (by kernel_rfl)]
  simp only [Option.bind_some]
  rw [iter_run (r := (2, false, [0, 2, 1, 3], [r0, r1])) 3 (by kernel_rfl)]
  simp only [Option.bind_some]
  rw [show sortIO [0, 2, 1, 3] = some [0, 1, 2, 3] by
    unfold sortIO
    rw [if_pos (by simp), sortI_of (l' := [0, 1, 2, 3]) (by decide) (by decide)]]
  simp only [Option.bind_some]
  rw [show compIO [0, 1, 2, 3] = some [0, 1, 2, 3] by decide]
  simp only [Option.bind_some]
  have s0 : L60_13 [r0, r1] [] [0, 1, 2, 3] ([0, 1, 2, 3], [], [], 0, 0) = some (.inl ([0, 1, 2, 3], [], [⟨0, 2⟩], 0, 1)) := by
    unfold L60_13
    rw [show ltI ((([0, 1, 2, 3], [], [], 0, 0) : List Int × List S28 × List S182 × Int × Int).2.2.2.2) (lenL ([0, 1, 2, 3] : List Int)) = true by decide]
    simp only [cond_true]
    rw [show idxO (List.length ([0, 1, 2, 3] : List Int)) 0 = some 0 by decide]
    simp only [Option.bind_some]
    rw [show getN ([0, 1, 2, 3] : List Int) 0 = some 0 by decide]
    simp only [Option.bind_some]
    rw [show ltI (addI .i64 0 1) (lenL ([0, 1, 2, 3] : List Int)) = true by decide]
    simp only [cond_true]
    rw [runs0, runs_nil]
    simp only [Option.bind_some]
    rw [less_nil ⟨0, 2⟩ (by decide)]
    simp only [Option.bind_some]
    rw [show T107 [] [⟨0, 2⟩] = some false by unfold T107; rfl]
    simp only [Option.bind_some, cond_false]
    rw [iter_run (r := (0, false, [0, 1, 2, 3], [])) 1 (by kernel_rfl)]
    rfl
  have s1 : L60_13 [r0, r1] [] [0, 1, 2, 3] ([0, 1, 2, 3], [], [⟨0, 2⟩], 0, 1) = some (.inl ([0, 1, 2, 3], [⟨0, 0, 2, 1⟩], [⟨0, 3⟩], 1, 2)) := by
    unfold L60_13
    rw [show ltI ((([0, 1, 2, 3], [], [⟨0, 2⟩], 0, 1) : List Int × List S28 × List S182 × Int × Int).2.2.2.2) (lenL ([0, 1, 2, 3] : List Int)) = true by decide]
    simp only [cond_true]
    rw [show idxO (List.length ([0, 1, 2, 3] : List Int)) 1 = some 1 by decide]
    simp only [Option.bind_some]
    rw [show getN ([0, 1, 2, 3] : List Int) 1 = some 1 by decide]
    simp only [Option.bind_some]
    rw [show ltI (addI .i64 1 1) (lenL ([0, 1, 2, 3] : List Int)) = true by decide]
    simp only [cond_true]
    rw [runs1, runs_nil]
    simp only [Option.bind_some]
    rw [less_nil ⟨0, 3⟩ (by decide)]
    simp only [Option.bind_some]
    rw [same_no _ _ (by decide)]
    simp only [Option.bind_some, cond_false]
    rw [iter_run (r := (1, false, [0, 1, 2, 3], [⟨0, 0, 2, 1⟩])) 2 (by kernel_rfl)]
    rfl
  have s2 : L60_13 [r0, r1] [] [0, 1, 2, 3] ([0, 1, 2, 3], [⟨0, 0, 2, 1⟩], [⟨0, 3⟩], 1, 2) = some (.inl ([0, 1, 2, 3], [⟨0, 0, 2, 1⟩, ⟨0, 1, 3, 1⟩], [⟨1, 3⟩], 2, 3)) := by
    unfold L60_13
    rw [show ltI ((([0, 1, 2, 3], [⟨0, 0, 2, 1⟩], [⟨0, 3⟩], 1, 2) : List Int × List S28 × List S182 × Int × Int).2.2.2.2) (lenL ([0, 1, 2, 3] : List Int)) = true by decide]
    simp only [cond_true]
    rw [show idxO (List.length ([0, 1, 2, 3] : List Int)) 2 = some 2 by decide]
    simp only [Option.bind_some]
    rw [show getN ([0, 1, 2, 3] : List Int) 2 = some 2 by decide]
    simp only [Option.bind_some]
    rw [show ltI (addI .i64 2 1) (lenL ([0, 1, 2, 3] : List Int)) = true by decide]
    simp only [cond_true]
    rw [runs2, runs_nil]
    simp only [Option.bind_some]
    rw [less_nil ⟨1, 3⟩ (by decide)]
    simp only [Option.bind_some]
    rw [same_no _ _ (by decide)]
    simp only [Option.bind_some, cond_false]
    rw [iter_run (r := (1, false, [0, 1, 2, 3], [⟨0, 0, 2, 1⟩, ⟨0, 1, 3, 1⟩])) 2 (by kernel_rfl)]
    rfl
  have s3 : L60_13 [r0, r1] [] [0, 1, 2, 3] ([0, 1, 2, 3], [⟨0, 0, 2, 1⟩, ⟨0, 1, 3, 1⟩], [⟨1, 3⟩], 2, 3) = some (.inl ([0, 1, 2, 3], [⟨0, 0, 2, 1⟩, ⟨0, 1, 3, 1⟩, ⟨1, 2, 2, 1⟩], [], 3, 4)) := by
    unfold L60_13
    rw [show ltI ((([0, 1, 2, 3], [⟨0, 0, 2, 1⟩, ⟨0, 1, 3, 1⟩], [⟨1, 3⟩], 2, 3) : List Int × List S28 × List S182 × Int × Int).2.2.2.2) (lenL ([0, 1, 2, 3] : List Int)) = true by decide]
    simp only [cond_true]
    rw [show idxO (List.length ([0, 1, 2, 3] : List Int)) 3 = some 3 by decide]
    simp only [Option.bind_some]
    rw [show getN ([0, 1, 2, 3] : List Int) 3 = some 3 by decide]
    simp only [Option.bind_some]
    rw [show ltI (addI .i64 3 1) (lenL ([0, 1, 2, 3] : List Int)) = false by decide]
    simp only [cond_false]
    rw [show T107 [⟨1, 3⟩] [] = some false by unfold T107; rfl]
    simp only [Option.bind_some, cond_false]
    rw [iter_run (r := (1, false, [0, 1, 2, 3], [⟨0, 0, 2, 1⟩, ⟨0, 1, 3, 1⟩, ⟨1, 2, 2, 1⟩])) 2 (by kernel_rfl)]
    rfl
  rw [iter_inl s0, iter_inl s1, iter_inl s2, iter_inl s3, iter_inr (r := ([], 3, 4, false, [0, 1, 2, 3], [⟨0, 0, 2, 1⟩, ⟨0, 1, 3, 1⟩, ⟨1, 2, 2, 1⟩])) (by kernel_rfl)]
  rfl
theorem lit_area : T20 [r0, r1] = some (7, 0) := by
  unfold T20 T58 T61
  rw [iter_run (r := .inl (2, false)) 3 (by kernel_rfl)]
  rw [show (bif ltI 2000 (lenL ([r0, r1] : List S28)) then (some 2 : Option Int) else (some (Sum.inl (2, false) : (Int × Bool) ⊕ Int)).bind fun y3 => (Sum.elim (fun y3a => some 0) (fun y3b => some y3b) y3)) = some 0 by decide]
  simp only [Option.bind_some]
  rw [show neI 0 0 = false by decide]
  simp only [cond_false]
  rw [lit_region]
  simp only [Option.bind_some]
  rw [iter_run (r := (7, 3, false)) 4 (by kernel_rfl)]
  rfl
/-! All that 'ready' asks. -/
theorem r45 : T45 (S94.mk (ByteArray.mk #[97]) (ByteArray.mk #[]) (S92.mk 0 100) [] 10 0 0) 50 = some (5, 0) := by kernel_rfl
theorem r42 : T42 ([(S87.mk (ByteArray.mk #[112]) 0 100), (S87.mk (ByteArray.mk #[112]) 1000 1300)] : List S87) (ByteArray.mk #[112]) 700 = some (500, 0) := by kernel_rfl
theorem r67 : T67 (S136.mk (ByteArray.mk #[97]) (ByteArray.mk #[98]) 0 0 0 1 127 [] 1 2 0 [] false) 0 (S92.mk 0 86400000) = some ([S92.mk 60000 120000], 0) := by kernel_rfl
theorem r68 : T68 (S138.mk (ByteArray.mk #[97]) (ByteArray.mk #[115]) 1 [] 0 5 1 ([(S28.mk 0 0 2 2)] : List S28) (ByteArray.mk #[120])) (S142.mk (ByteArray.mk #[112]) 1 1) = some (true, 0) := by kernel_rfl
theorem ready_ok : T26 = some true := by
  unfold T26
  rw [lit_area, r45, r42, r67, r68]
  simp only [Option.bind_some]
  kernel_rfl
end Go.Abs.TKP

set_option linter.unusedVariables false
set_option linter.unusedSimpArgs false
set_option maxRecDepth 10000
namespace Go.Abs.TKP
open Go.RowKit Go.Proofs Go.Abs
/-! What a stream hands out. -/
theorem below_ok (x : Int) {n : Int} (hn : n ≤ 1000000000000000) : ∃ v, T102 x n = some v ∧ (1 ≤ n → 0 ≤ v ∧ v < n) ∧ (n < 1 → v = 0) := by
  unfold T102
  by_cases h : n < 1
  · rw [show ltI n 1 = true by unfold ltI; exact decide_eq_true h]
    exact ⟨0, rfl, fun h1 => by omega, fun _ => rfl⟩
  · rw [show ltI n 1 = false by unfold ltI; exact decide_eq_false h]
    have hr : remO .i64 x n = some (x.tmod n) := by unfold remO; rw [if_neg (by omega)]
    have h1 := Int.tmod_lt_of_pos x (by omega : 0 < n)
    have h2 := Int.lt_tmod_of_pos x (by omega : 0 < n)
    simp only [cond_false, hr, Option.bind_some]
    by_cases h0 : x.tmod n < 0
    · rw [show ltI (x.tmod n) 0 = true by unfold ltI; exact decide_eq_true h0]
      refine ⟨_, rfl, fun _ => ?_, fun h3 => by omega⟩
      rw [addI_eq (by omega) (by omega)]
      omega
    · rw [show ltI (x.tmod n) 0 = false by unfold ltI; exact decide_eq_false h0]
      exact ⟨_, rfl, fun _ => ⟨by omega, h1⟩, fun h3 => by omega⟩
theorem next_ok {L : List Int} {at_ n : Int} (hL : L.length ≤ 1048576) (h0 : 0 ≤ at_) (h1 : at_ ≤ 1000000000) (hn : n ≤ 1000000000000000) : ∃ v, T57 L at_ n = some (v, L, at_ + 1) ∧ (1 ≤ n → 0 ≤ v ∧ v < n) ∧ (n < 1 → v = 0) := by
  unfold T57
  have e1 : addI .i64 at_ 1 = at_ + 1 := addI_eq (by omega) (by omega)
  rw [e1]
  by_cases hl : L.length = 0
  · rw [show eqI (lenL L) 0 = true by rw [eqI_iff, lenL_eq, hl]; rfl]
    obtain ⟨v, h2, h3⟩ := below_ok (mulI .i64 (at_ + 1) 7919) hn
    simp only [cond_true, h2, Option.bind_some]
    exact ⟨v, rfl, h3⟩
  · rw [show eqI (lenL L) 0 = false by rw [eqI_iff, lenL_eq]; exact decide_eq_false (by omega)]
    have e2 : subI .i64 (at_ + 1) 1 = at_ := by rw [subI_eq (by omega) (by omega)]; omega
    have hr : remO .i64 at_ (lenL L) = some (at_.tmod L.length) := by unfold remO; rw [lenL_eq, if_neg (by omega)]
    have hq : ∃ q, quoO .i64 at_ (lenL L) = some q := by unfold quoO; rw [lenL_eq, if_neg (by omega)]; exact ⟨_, rfl⟩
    obtain ⟨q, hq⟩ := hq
    have h2 := Int.tmod_lt_of_pos at_ (by omega : (0 : Int) < L.length)
    have h3 := Int.tmod_nonneg (L.length : Int) h0
    generalize at_.tmod L.length = k at *
    obtain ⟨j, rfl⟩ : ∃ j : Nat, k = j := ⟨k.toNat, by omega⟩
    have hx := List.getElem?_eq_getElem (show j < L.length by omega)
    obtain ⟨v, h4, _⟩ := below_ok (L[j]'(by omega)) (n := 1073741824) (by omega)
    obtain ⟨u, h6, h7⟩ := below_ok (addI .i64 v (mulI .i64 q (addI .i64 7919 j))) hn
    simp only [cond_false, e2, hr, hq, Option.bind_some, listAt_some hx, h4, h6]
    exact ⟨u, rfl, h7⟩
theorem range_ok {L : List Int} {at_ lo hi : Int} (hL : L.length ≤ 1048576) (h0 : 0 ≤ at_) (h1 : at_ ≤ 1000000000) (hlo : -1000000000000 ≤ lo) (hle : lo ≤ hi) (hhi : hi ≤ 1000000000000) : ∃ v, T14 L at_ lo hi = some (v, L, at_ + 1) ∧ lo ≤ v ∧ v ≤ hi := by
  unfold T14
  rw [show ltI hi lo = false by unfold ltI; exact decide_eq_false (by omega)]
  have e1 : subI .i64 hi lo = hi - lo := subI_eq (by omega) (by omega)
  have e2 : addI .i64 (hi - lo) 1 = hi - lo + 1 := addI_eq (by omega) (by omega)
  obtain ⟨v, h2, h3, _⟩ := next_ok (n := hi - lo + 1) hL h0 h1 (by omega)
  have h4 := h3 (by omega)
  simp only [cond_false, e1, e2, h2, Option.bind_some]
  exact ⟨_, rfl, by rw [addI_eq (by omega) (by omega)]; omega, by rw [addI_eq (by omega) (by omega)]; omega⟩
/-! First errors. -/
theorem errs_ok : ∀ (l : List Int), l.length ≤ 100 → (∀ x ∈ l, x = 0) → T22 l = some 0 := by
  intro l hl h
  unfold T22
  have key : ∀ (i : Nat) (s : Unit), i < l.length → True → ∃ s' : Unit, L22_2 l (i : Int) = some (.inl ((i + 1 : Nat) : Int)) ∧ True := by
    intro i _ hi _
    have hx := List.getElem?_eq_getElem hi
    have := h _ (List.getElem_mem hi)
    refine ⟨(), ?_, trivial⟩
    unfold L22_2
    simp only [ltL_true hi, cond_true, listAt_some hx, Option.bind_some, this, show neI 0 0 = false from rfl, cond_false, nextI (i := i) (by omega)]
  obtain ⟨r, h1, y, rfl⟩ := iter_up (st := L22_2 l) (fun (_ : Unit) i => (i : Int)) l.length (fun _ _ => True) (fun r => ∃ y, r = .inl y) key (fun _ _ => ⟨_, by unfold L22_2; rw [ltL_false (Nat.le_refl _)]; rfl, _, rfl⟩) () trivial
  have h1 : iter (L22_2 l) 0 = some (.inl y) := h1
  rw [h1, Option.bind_some, Sum.elim_inl]
end Go.Abs.TKP

set_option linter.unusedVariables false
set_option linter.unusedSimpArgs false
set_option maxRecDepth 10000
namespace Go.Abs.TKP
open Go.RowKit Go.Proofs Go.Abs
theorem pick_ok {L : List Int} {at_ : Int} {l : List Int} (hL : L.length ≤ 1048576) (h0 : 0 ≤ at_) (h1 : at_ ≤ 1000000000) (hl : 1 ≤ l.length) (hl2 : l.length ≤ 1000) : ∃ v, T75 L at_ l = some (v, L, at_ + 1) ∧ v ∈ l := by
  obtain ⟨k, e, h2, _⟩ := next_ok (n := lenL l) hL h0 h1 (by rw [lenL_eq]; omega)
  rw [lenL_eq] at h2
  have h2 := h2 (by omega)
  obtain ⟨j, rfl⟩ : ∃ j : Nat, k = j := ⟨k.toNat, by omega⟩
  have hj : j < l.length := by omega
  refine ⟨l[j], ?_, List.getElem_mem hj⟩
  unfold T75
  simp only [e, Option.bind_some, listAt_some (List.getElem?_eq_getElem hj)]
theorem some_ok {L : List Int} {at_ : Int} {l : List ByteArray} (hL : L.length ≤ 1048576) (h0 : 0 ≤ at_) (h1 : at_ ≤ 1000000000) (hl : 1 ≤ l.length) (hl2 : l.length ≤ 1000) : ∃ v, T46 L at_ l = some (v, L, at_ + 1) ∧ v ∈ l := by
  obtain ⟨k, e, h2, _⟩ := next_ok (n := lenL l) hL h0 h1 (by rw [lenL_eq]; omega)
  rw [lenL_eq] at h2
  have h2 := h2 (by omega)
  obtain ⟨j, rfl⟩ : ∃ j : Nat, k = j := ⟨k.toNat, by omega⟩
  have hj : j < l.length := by omega
  refine ⟨l[j], ?_, List.getElem_mem hj⟩
  unfold T46
  simp only [e, Option.bind_some, listAt_some (List.getElem?_eq_getElem hj)]
theorem flip_ok {L : List Int} {at_ n : Int} (hL : L.length ≤ 1048576) (h0 : 0 ≤ at_) (h1 : at_ ≤ 1000000000) (hn : n ≤ 1000000000000000) : ∃ b, T76 L at_ n = some (b, L, at_ + 1) := by
  obtain ⟨k, e, _⟩ := next_ok (n := n) hL h0 h1 hn
  refine ⟨eqI k 0, ?_⟩
  unfold T76
  rw [e]
  rfl
/-! Campaigns that are drawn. -/
abbrev cA : ByteArray := ByteArray.mk #[99, 97]
abbrev cB : ByteArray := ByteArray.mk #[99, 98]
abbrev cC : ByteArray := ByteArray.mk #[99, 99]
abbrev cD : ByteArray := ByteArray.mk #[99, 100]
abbrev tC : ByteArray := ByteArray.mk #[99, 105, 116, 121]
abbrev tM : ByteArray := ByteArray.mk #[109, 97, 108, 108]
abbrev gN : ByteArray := ByteArray.mk #[]
abbrev gC : ByteArray := ByteArray.mk #[99, 97, 114, 115]
abbrev gF : ByteArray := ByteArray.mk #[102, 111, 111, 100]
abbrev K4 : List ByteArray := [cA, cB, cC, cD]
structure RC (c : S94) : Prop where
  key : c.f0 ∈ K4
  cls : c.f1 ∈ [gN, gC, gF]
  fr : 0 ≤ c.f2.f0 ∧ c.f2.f0 ≤ 20
  to : 30 ≤ c.f2.f1 ∧ c.f2.f1 ≤ 100
  tags : c.f3 ∈ [[], [tC], [tM], [tC, tM]]
  goal : 0 ≤ c.f4 ∧ c.f4 ≤ 6
  most : 0 ≤ c.f5 ∧ c.f5 ≤ 9
  cents : 0 ≤ c.f6 ∧ c.f6 ≤ 1500
theorem k_key {s : ByteArray} (h : s ∈ K4) : T97 s = some true := by
  simp only [List.mem_cons, List.not_mem_nil, or_false] at h
  rcases h with rfl | rfl | rfl | rfl <;> kernel_rfl
theorem k_ne {s : ByteArray} (h : s ∈ K4) : s ≠ gN := by
  simp only [List.mem_cons, List.not_mem_nil, or_false] at h
  rcases h with rfl | rfl | rfl | rfl <;> decide
theorem k_tags {l : List ByteArray} (h : l ∈ [[], [tC], [tM], [tC, tM]]) : T124 l = some 0 := by
  simp only [List.mem_cons, List.not_mem_nil, or_false] at h
  rcases h with rfl | rfl | rfl | rfl <;> kernel_rfl
theorem t70_in {a b c : Int} (h1 : b ≤ a) (h2 : a ≤ c) : T70 a b c = some false := by
  unfold T70
  rw [ltI_f h1, ltI_f h2]
  rfl
theorem t92_in {a : Int} (h1 : 0 ≤ a) (h2 : a < 345686400000) : T92 a = some true := by
  unfold T92
  rw [leI_t h1, ltI_t h2]
  rfl
theorem le_no {a b : ByteArray} (h : ltS a b = true) : (ltS b a || eqS b a) = false := leS_false.2 h
theorem camp_in {l : List S94} {i : Nat} {c : S94} (hc : RC c) (hi : l[i]? = some c) (hp : ∀ j d, j + 1 = i → l[j]? = some d → ltS d.f0 c.f0 = true) (hl : l.length ≤ 30) :
    L91_4 l (i : Int) = some (.inl ((i + 1 : Nat) : Int)) := by
  have hi' : i < l.length := (List.getElem?_eq_some_iff.1 hi).1
  have b1 := hc.fr
  have b2 := hc.to
  have e1 : T123 c.f2 = some true := by
    unfold T123
    rw [leI_t b1.1, ltI_t (by omega), leI_t (by omega)]
    rfl
  have e2 : T70 c.f4 0 1000000 = some false := t70_in hc.goal.1 (by have := hc.goal.2; omega)
  have e3 : T70 c.f5 0 1000000 = some false := t70_in hc.most.1 (by have := hc.most.2; omega)
  have e4 : T70 c.f6 0 1000000000 = some false := t70_in hc.cents.1 (by have := hc.cents.2; omega)
  have e5 := k_tags hc.tags
  have e6 := k_key hc.key
  have hprev : (i = 0) ∨ ∃ d, ltI 0 (i : Int) = true ∧ listAt l (subI .i64 (i : Int) 1) = some d ∧ (ltS c.f0 d.f0 || eqS c.f0 d.f0) = false := by
    rcases Nat.eq_zero_or_pos i with h | h
    · exact .inl h
    · obtain ⟨d, hd⟩ : ∃ d, l[i - 1]? = some d := ⟨_, List.getElem?_eq_getElem (by omega)⟩
      exact .inr ⟨d, ltI_t (by omega), by rw [prevI h (by omega)]; exact listAt_some hd, le_no (hp _ _ (by omega) hd)⟩
  unfold L91_4
  refine ct (ltL_true hi') ?_
  refine bs (listAt_some hi) ?_
  refine bs (a := .inl ()) ?_ ?_
  · refine bs e6 ?_
    refine cf rfl ?_
    have hcls := hc.cls
    simp only [List.mem_cons, List.not_mem_nil, or_false] at hcls
    rcases hcls with h | h
    · refine cf (by rw [h]; kernel_rfl) ?_
      rcases hprev with h0 | ⟨d, h1, h2, h3⟩
      · refine cf (by rw [h0]; rfl) ?_
        exact bs e1 (cf rfl (bs e2 (cf rfl (bs e3 (cf rfl (bs e4 (cf rfl rfl)))))))
      · refine ct h1 (bs h2 (cf h3 ?_))
        exact bs e1 (cf rfl (bs e2 (cf rfl (bs e3 (cf rfl (bs e4 (cf rfl rfl)))))))
    · refine ct (by rcases h with h | h <;> rw [h] <;> kernel_rfl) ?_
      refine bs (a := true) (by rcases h with h | h <;> rw [h] <;> kernel_rfl) ?_
      refine cf rfl ?_
      rcases hprev with h0 | ⟨d, h1, h2, h3⟩
      · refine cf (by rw [h0]; rfl) ?_
        exact bs e1 (cf rfl (bs e2 (cf rfl (bs e3 (cf rfl (bs e4 (cf rfl rfl)))))))
      · refine ct h1 (bs h2 (cf h3 ?_))
        exact bs e1 (cf rfl (bs e2 (cf rfl (bs e3 (cf rfl (bs e4 (cf rfl rfl)))))))
  · refine si ?_
    refine bs e5 ?_
    refine cf rfl ?_
    rw [nextI (i := i) (by omega)]
/-- Right campaigns, in order. -/
structure Camps (l : List S94) : Prop where
  all : ∀ c ∈ l, RC c
  ord : l.Pairwise fun a b => ltS a.f0 b.f0 = true
  few : l.length ≤ 4
theorem camps_right {l : List S94} (h : Camps l) : T91 l = some 0 := by
  have hf := h.few
  obtain ⟨r, h1, y, rfl⟩ := iter_up (st := L91_4 l) (fun (_ : Unit) i => (i : Int)) l.length (fun _ _ => True) (fun r => ∃ y, r = .inl y)
    (fun i _ hi _ => ⟨(), camp_in (h.all _ (List.getElem_mem hi)) (List.getElem?_eq_getElem hi) (fun j d hj hd => by
      have := List.pairwise_iff_getElem.1 h.ord j i (by omega) hi (by omega)
      have hd2 := (List.getElem?_eq_some_iff.1 hd).2
      rw [← hd2]
      exact this) (by omega), trivial⟩) (fun _ _ => ⟨_, by unfold L91_4; rw [ltL_false (Nat.le_refl _)]; rfl, _, rfl⟩) () trivial
  have h1 : iter (L91_4 l) 0 = some (.inl y) := h1
  unfold T91
  refine cf (by rw [lenL_eq]; exact ltI_f (by omega)) ?_
  exact bs h1 rfl
theorem camps_one {c : S94} (h : RC c) : Camps [c] := ⟨fun d hd => by rw [List.mem_singleton] at hd; subst hd; exact h, by simp, by simp⟩
/-- The tags of one. -/
theorem tags_drawn {L : List Int} (hL : L.length ≤ 1048576) (x1 : List ByteArray) (z0 : List Int × Int × List S94 × List ByteArray × Int) (x3 : ByteArray) (x5 : ByteArray × List Int × Int) (x6 x7 x8 x9 x10 : Int × List Int × Int) {at_ : Int} (h0 : 0 ≤ at_) (h1 : at_ ≤ 1000000) (out : List S94) (ks : List ByteArray) :
    ∃ tags, iter (L44_8 x1 z0 x3 x5 x6 x7 x8 x9 x10) (L, at_, out, [], ks, [tC, tM], 0) = some (2, false, L, at_ + 1 + 1, out, ks, [tC, tM], tags) ∧ tags ∈ [[], [tC], [tM], [tC, tM]] := by
  obtain ⟨b1, e1⟩ := flip_ok (L := L) (at_ := at_) (n := 4) hL h0 (by omega) (by decide)
  obtain ⟨b2, e2⟩ := flip_ok (L := L) (at_ := at_ + 1) (n := 4) hL (by omega) (by omega) (by decide)
  have s1 : L44_8 x1 z0 x3 x5 x6 x7 x8 x9 x10 (L, at_, out, [], ks, [tC, tM], 0) = some (.inl (L, at_ + 1, out, (bif b1 then [tC] else []), ks, [tC, tM], 1)) := by
    unfold L44_8
    refine ct rfl (bs (a := 0) rfl (bs (a := tC) rfl (bs e1 ?_)))
    cases b1 <;> rfl
  have s2 : L44_8 x1 z0 x3 x5 x6 x7 x8 x9 x10 (L, at_ + 1, out, (bif b1 then [tC] else []), ks, [tC, tM], 1) = some (.inl (L, at_ + 1 + 1, out, (bif b2 then (bif b1 then [tC] else []) ++ [tM] else (bif b1 then [tC] else [])), ks, [tC, tM], 2)) := by
    unfold L44_8
    refine ct rfl (bs (a := 1) rfl (bs (a := tM) rfl (bs e2 ?_)))
    cases b1 <;> cases b2 <;> rfl
  have s3 : L44_8 x1 z0 x3 x5 x6 x7 x8 x9 x10 (L, at_ + 1 + 1, out, (bif b2 then (bif b1 then [tC] else []) ++ [tM] else (bif b1 then [tC] else [])), ks, [tC, tM], 2) = some (.inr (2, false, L, at_ + 1 + 1, out, ks, [tC, tM], (bif b2 then (bif b1 then [tC] else []) ++ [tM] else (bif b1 then [tC] else [])))) := rfl
  refine ⟨(bif b2 then (bif b1 then [tC] else []) ++ [tM] else (bif b1 then [tC] else [])), ?_, ?_⟩
  · rw [iter_inl s1, iter_inl s2, iter_inr s3]
  · cases b1 <;> cases b2 <;> simp
theorem k01 : ltS cA cB = true := by kernel_rfl
theorem k02 : ltS cA cC = true := by kernel_rfl
theorem k03 : ltS cA cD = true := by kernel_rfl
theorem k12 : ltS cB cC = true := by kernel_rfl
theorem k13 : ltS cB cD = true := by kernel_rfl
theorem k23 : ltS cC cD = true := by kernel_rfl
theorem K4_ord : ∀ (i j : Nat) (a b : ByteArray), i < j → K4[i]? = some a → K4[j]? = some b → ltS a b = true := by
  intro i j a b hij ha hb
  have hj : j < 4 := (List.getElem?_eq_some_iff.1 hb).1
  have : (i = 0 ∧ j = 1) ∨ (i = 0 ∧ j = 2) ∨ (i = 0 ∧ j = 3) ∨ (i = 1 ∧ j = 2) ∨ (i = 1 ∧ j = 3) ∨ (i = 2 ∧ j = 3) := by omega
  rcases this with ⟨rfl, rfl⟩ | ⟨rfl, rfl⟩ | ⟨rfl, rfl⟩ | ⟨rfl, rfl⟩ | ⟨rfl, rfl⟩ | ⟨rfl, rfl⟩ <;> cases ha <;> cases hb
  · exact k01
  · exact k02
  · exact k03
  · exact k12
  · exact k13
  · exact k23
theorem camps_drawn {L : List Int} (hL : L.length ≤ 1048576) : ∃ l at', T44 L 0 4 = some (l, L, at') ∧ Camps l ∧ 0 ≤ at' ∧ at' ≤ 100 := by
  let enc : Int × List S94 → Nat → List Int × Int × List S94 × List ByteArray × Int := fun s i => (L, s.1, s.2, K4, (i : Int))
  let Inv : Nat → Int × List S94 → Prop := fun i s => (0 ≤ s.1 ∧ s.1 ≤ 9 * i) ∧ (∀ c ∈ s.2, RC c ∧ ∃ j, j < i ∧ K4[j]? = some c.f0) ∧ (s.2.Pairwise fun a b => ltS a.f0 b.f0 = true) ∧ s.2.length ≤ i
  have key : ∀ (i : Nat) s, i < 4 → Inv i s → ∃ s', L44_3 K4 (enc s i) = some (.inl (enc s' (i + 1))) ∧ Inv (i + 1) s' := by
    rintro i ⟨a, out⟩ hi ⟨h1, h2, h3, h4⟩
    simp only at h1 h2 h3 h4
    obtain ⟨k, hk⟩ : ∃ k, K4[i]? = some k := ⟨_, List.getElem?_eq_getElem (show i < K4.length from hi)⟩
    obtain ⟨b, e0⟩ := flip_ok (L := L) (at_ := a) (n := 5) hL (by omega) (by omega) (by decide)
    have c1 : ltI (i : Int) (lenL K4) = true := ltL_true (show i < K4.length from hi)
    cases b with
    | true =>
      refine ⟨(a + 1, out), ?_, by simp only; omega, fun c hc => ?_, h3, by simp only; omega⟩
      · unfold L44_3
        refine ct c1 (bs (idx_nat (show i < K4.length from hi)) (bs (getN_some hk) (bs e0 (ct rfl ?_))))
        simp only [enc, nextI (i := i) (by omega)]
      · obtain ⟨h5, j, h6, h7⟩ := h2 c hc
        exact ⟨h5, j, by omega, h7⟩
    | false =>
      obtain ⟨v5, e5, m5⟩ := some_ok (L := L) (at_ := a + 1) (l := [gN, gN, gC, gF]) hL (by omega) (by omega) (by decide) (by decide)
      obtain ⟨v6, e6, m6⟩ := pick_ok (L := L) (at_ := a + 1 + 1) (l := [0, 0, 10, 20]) hL (by omega) (by omega) (by decide) (by decide)
      obtain ⟨v7, e7, m7⟩ := pick_ok (L := L) (at_ := a + 1 + 1 + 1) (l := [30, 50, 60, 100]) hL (by omega) (by omega) (by decide) (by decide)
      obtain ⟨v8, e8, m8⟩ := pick_ok (L := L) (at_ := a + 1 + 1 + 1 + 1) (l := [0, 1, 2, 3, 4, 6]) hL (by omega) (by omega) (by decide) (by decide)
      obtain ⟨v9, e9, m9⟩ := pick_ok (L := L) (at_ := a + 1 + 1 + 1 + 1 + 1) (l := [0, 1, 2, 3, 9]) hL (by omega) (by omega) (by decide) (by decide)
      obtain ⟨v10, e10, m10⟩ := pick_ok (L := L) (at_ := a + 1 + 1 + 1 + 1 + 1 + 1) (l := [0, 500, 1000, 1500]) hL (by omega) (by omega) (by decide) (by decide)
      obtain ⟨tags, e11, m11⟩ := tags_drawn hL K4 (enc (a, out) i) k (v5, L, a + 1 + 1) (v6, L, a + 1 + 1 + 1) (v7, L, a + 1 + 1 + 1 + 1) (v8, L, a + 1 + 1 + 1 + 1 + 1) (v9, L, a + 1 + 1 + 1 + 1 + 1 + 1) (v10, L, a + 1 + 1 + 1 + 1 + 1 + 1 + 1) (at_ := a + 1 + 1 + 1 + 1 + 1 + 1 + 1) (by omega) (by omega) out K4
      simp only [List.mem_cons, List.not_mem_nil, or_false] at m6 m7 m8 m9 m10
      have hk4 : k ∈ K4 := List.mem_of_getElem? hk
      have hrc : RC ⟨k, v5, ⟨v6, v7⟩, tags, v8, v9, v10⟩ := ⟨hk4, by simpa using m5, by simp only; omega, by simp only; omega, m11, by simp only; omega, by simp only; omega, by simp only; omega⟩
      refine ⟨(a + 1 + 1 + 1 + 1 + 1 + 1 + 1 + 1 + 1, out ++ [⟨k, v5, ⟨v6, v7⟩, tags, v8, v9, v10⟩]), ?_, by simp only; omega, fun c hc => ?_, ?_, ?_⟩
      · unfold L44_3
        refine ct c1 (bs (idx_nat (show i < K4.length from hi)) (bs (getN_some hk) (bs e0 (cf rfl ?_))))
        refine bs e5 (bs e6 (bs e7 (bs e8 (bs e9 (bs e10 (bs e11 ?_))))))
        refine bs (appO_eq (l1 := out) (l2 := [S94.mk k v5 ⟨v6, v7⟩ tags v8 v9 v10]) ?_ ?_) ?_
        · simp only [List.length_cons, List.length_nil]; omega
        · simp only [List.length_cons, List.length_nil]; omega
        · simp only [enc, nextI (i := i) (by omega)]
      · rcases List.mem_append.1 hc with hc | hc
        · obtain ⟨h5, j, h6, h7⟩ := h2 c hc
          exact ⟨h5, j, by omega, h7⟩
        · rw [List.mem_singleton] at hc
          subst hc
          exact ⟨hrc, i, by omega, hk⟩
      · refine List.pairwise_append.2 ⟨h3, by simp, fun x hx y hy => ?_⟩
        rw [List.mem_singleton] at hy
        subst hy
        obtain ⟨_, j, h6, h7⟩ := h2 x hx
        exact K4_ord j i _ _ h6 h7 hk
      · simp only [List.length_append, List.length_cons, List.length_nil]; omega
  have kend : ∀ s, Inv 4 s → ∃ r, L44_3 K4 (enc s 4) = some (.inr r) ∧ ∃ a out, r = (4, false, L, a, out, K4) ∧ Camps out ∧ 0 ≤ a ∧ a ≤ 100 := by
    rintro ⟨a, out⟩ ⟨h1, h2, h3, h4⟩
    refine ⟨_, rfl, a, out, rfl, ⟨fun c hc => (h2 c hc).1, h3, h4⟩, h1.1, ?_⟩
    simp only at h1
    omega
  obtain ⟨r, h1, a, out, rfl, hc, ha⟩ := iter_up enc 4 Inv _ key kend (0, []) ⟨by simp only; omega, fun c hc => (by cases hc), .nil, Nat.le_refl _⟩
  have h1 : iter (L44_3 K4) (L, 0, [], K4, 0) = some (4, false, L, a, out, K4) := h1
  refine ⟨out, a, ?_, hc, ha⟩
  unfold T44
  exact bs (a := K4) rfl (bs h1 rfl)
end Go.Abs.TKP

set_option linter.unusedVariables false
set_option linter.unusedSimpArgs false
set_option maxRecDepth 10000
namespace Go.Abs.TKP
open Go.RowKit Go.Proofs Go.Abs
/-! What is due. -/
def dueF (c : S94) (a : Int) : Int := if a < c.f2.f0 then 0 else if c.f2.f1 ≤ a then c.f4 else c.f4 * (a - c.f2.f0) / (c.f2.f1 - c.f2.f0)
theorem due_mid {c : S94} (h : RC c) {a : Int} (h1 : c.f2.f0 ≤ a) (h2 : a ≤ c.f2.f1) : 0 ≤ c.f4 * (a - c.f2.f0) / (c.f2.f1 - c.f2.f0) ∧ c.f4 * (a - c.f2.f0) / (c.f2.f1 - c.f2.f0) ≤ c.f4 := by
  have b1 := h.fr
  have b2 := h.to
  have b3 := h.goal
  have hd : 0 < c.f2.f1 - c.f2.f0 := by omega
  refine ⟨Int.ediv_nonneg (Int.mul_nonneg (by omega) (by omega)) (by omega), ?_⟩
  refine Int.ediv_le_of_le_mul hd ?_
  exact Int.mul_le_mul_of_nonneg_left (by omega) (by omega)
theorem due_low {c : S94} (h : RC c) (a : Int) : 0 ≤ dueF c a ∧ dueF c a ≤ c.f4 := by
  have b3 := h.goal
  unfold dueF
  split
  · omega
  · split
    · omega
    · exact due_mid h (by omega) (by omega)
theorem due_mono {c : S94} (h : RC c) {a b : Int} (hab : a ≤ b) : dueF c a ≤ dueF c b := by
  have l1 := due_low h a
  have l2 := due_low h b
  have b1 := h.fr
  have b2 := h.to
  have b3 := h.goal
  by_cases c1 : a < c.f2.f0
  · rw [show dueF c a = 0 by unfold dueF; rw [if_pos c1]]; omega
  · by_cases c2 : c.f2.f1 ≤ b
    · rw [show dueF c b = c.f4 by unfold dueF; rw [if_neg (by omega), if_pos c2]]; omega
    · unfold dueF
      rw [if_neg c1, if_neg (by omega), if_neg (by omega), if_neg c2]
      exact Int.ediv_le_ediv (by omega) (Int.mul_le_mul_of_nonneg_left (by omega) (by omega))
theorem t93 {c : S94} (h : RC c) {a : Int} (h0 : 0 ≤ a) (h1 : a ≤ 1000) : T93 c a = some (dueF c a) := by
  have b1 := h.fr
  have b2 := h.to
  have b3 := h.goal
  unfold T93 dueF
  by_cases c1 : a < c.f2.f0
  · rw [if_pos c1]; exact ct (ltI_t c1) rfl
  · rw [if_neg c1]
    refine cf (ltI_f (by omega)) ?_
    by_cases c2 : c.f2.f1 ≤ a
    · rw [if_pos c2]; exact ct (leI_t c2) rfl
    · rw [if_neg c2]
      refine cf (leI_f (by omega)) ?_
      have m1 : 0 ≤ c.f4 * (a - c.f2.f0) := Int.mul_nonneg (by omega) (by omega)
      have m2 : c.f4 * (a - c.f2.f0) ≤ 6 * 1000 := Int.mul_le_mul (by omega) (by omega) (by omega) (by omega)
      have d1 := due_mid h (a := a) (by omega) (by omega)
      have e1 : subI .i64 a c.f2.f0 = a - c.f2.f0 := subI_eq (by omega) (by omega)
      have e2 : subI .i64 c.f2.f1 c.f2.f0 = c.f2.f1 - c.f2.f0 := subI_eq (by omega) (by omega)
      have e3 : mulI .i64 c.f4 (a - c.f2.f0) = c.f4 * (a - c.f2.f0) := mulI_eq (by omega) (by omega)
      rw [e1, e2, e3]
      refine bs (a := c.f4 * (a - c.f2.f0) / (c.f2.f1 - c.f2.f0)) ?_ rfl
      unfold quoO
      rw [if_neg (by omega), Int.tdiv_eq_ediv_of_nonneg m1]
      congr 1
      exact IntWalk.i64_in _ ⟨by omega, by omega⟩
theorem t45 {c : S94} (h : RC c) {a : Int} (h0 : 0 ≤ a) (h1 : a ≤ 1000) : T45 c a = some (dueF c a, 0) := by
  unfold T45
  exact bs (camps_right (camps_one h)) (cf rfl (bs (t92_in h0 (by omega)) (cf rfl (bs (t93 h h0 h1) rfl))))
/-! The first loop. -/
theorem loop1 {L : List Int} (hL : L.length ≤ 1048576) {cs : List S94} (hc : Camps cs) {v a0 a1 : Int} (hv : 0 ≤ v ∧ v ≤ 100) (h0 : 0 ≤ a1 ∧ a1 ≤ 1000) :
    ∃ a', iter (L11_4 (cs, L, a0) (v, L, a1)) (L, a1, 0) = some (.inl ((cs.length : Int), false, L, a')) ∧ 0 ≤ a' ∧ a' ≤ 2000 := by
  have hf := hc.few
  have key : ∀ (i : Nat) (s : Int), i < cs.length → (0 ≤ s ∧ s ≤ a1 + i) → ∃ s', L11_4 (cs, L, a0) (v, L, a1) (L, s, (i : Int)) = some (.inl (L, s', ((i + 1 : Nat) : Int))) ∧ (0 ≤ s' ∧ s' ≤ a1 + ((i + 1 : Nat) : Int)) := by
    intro i s hi hs
    have hx := List.getElem?_eq_getElem hi
    have hr := hc.all _ (List.getElem_mem hi)
    have b2 := hr.to
    obtain ⟨r, er, r1, r2⟩ := range_ok (L := L) (at_ := s) (lo := 0) (hi := 50) hL (by omega) (by omega) (by decide) (by decide) (by decide)
    refine ⟨s + 1, ?_, by omega⟩
    unfold L11_4
    refine ct (ltL_true hi) (bs (listAt_some hx) ?_)
    refine bs (t45 hr hv.1 (by omega)) (bs er ?_)
    refine bs (t45 hr (a := addI .i64 v r) (by rw [addI_eq (by omega) (by omega)]; omega) (by rw [addI_eq (by omega) (by omega)]; omega)) ?_
    refine bs (t45 hr (by omega) (by omega)) ?_
    refine bs (errs_ok [0, 0, 0] (by decide) (by decide)) ?_
    refine cf rfl ?_
    refine cf (ltI_f (due_mono hr (by rw [addI_eq (by omega) (by omega)]; omega))) ?_
    refine cf (by rw [show dueF cs[i] (cs[i]).f2.f1 = (cs[i]).f4 by unfold dueF; rw [if_neg (by have := hr.fr; omega), if_pos (Int.le_refl _)]]; exact neI_no _) ?_
    refine cf (ltI_f (due_low hr v).1) ?_
    rw [nextI (i := i) (by omega)]
  obtain ⟨r, h1, a', rfl, h2⟩ := iter_up (st := L11_4 (cs, L, a0) (v, L, a1)) (fun (s : Int) i => (L, s, (i : Int))) cs.length (fun i s => 0 ≤ s ∧ s ≤ a1 + i) (fun r => ∃ a', r = .inl ((cs.length : Int), false, L, a') ∧ 0 ≤ a' ∧ a' ≤ 2000) key
    (fun s hs => ⟨_, by unfold L11_4; rw [ltL_false (Nat.le_refl _)]; rfl, s, rfl, by omega, by omega⟩) a1 (by omega)
  exact ⟨a', h1, h2⟩
/-! Plays that are drawn. -/
abbrev pP : ByteArray := ByteArray.mk #[112]
structure PL (x : S99) : Prop where
  p : x.f0 = pP
  i : x.f1 ∈ [cA, cB, cC]
  a : 0 ≤ x.f2 ∧ x.f2 ≤ 60
  l : x.f3 = 1
theorem loop2 {L : List Int} (hL : L.length ≤ 1048576) (x1 : List S94 × List Int × Int) (x2 : Int × List Int × Int) {n a0 : Int} (hn : 0 ≤ n ∧ n ≤ 9) (h0 : 0 ≤ a0 ∧ a0 ≤ 10000) :
    ∃ a' ps, iter (L11_14 x1 x2 (n, L, a0)) (L, a0, [], 0) = some (n, false, L, a', ps) ∧ (∀ x ∈ ps, PL x) ∧ ps.length ≤ 9 := by
  obtain ⟨m, rfl⟩ : ∃ m : Nat, n = m := ⟨n.toNat, by omega⟩
  let enc : Int × List S99 → Nat → List Int × Int × List S99 × Int := fun s i => (L, s.1, s.2, (i : Int))
  let Inv : Nat → Int × List S99 → Prop := fun i s => (0 ≤ s.1 ∧ s.1 ≤ a0 + 2 * i) ∧ (∀ x ∈ s.2, PL x) ∧ s.2.length = i
  have key : ∀ (i : Nat) s, i < m → Inv i s → ∃ s', L11_14 x1 x2 ((m : Int), L, a0) (enc s i) = some (.inl (enc s' (i + 1))) ∧ Inv (i + 1) s' := by
    rintro i ⟨a, out⟩ hi ⟨h1, h2, h3⟩
    simp only at h1 h2 h3
    obtain ⟨v, e1, m1⟩ := some_ok (L := L) (at_ := a) (l := [cA, cB, cC]) hL (by omega) (by omega) (by decide) (by decide)
    obtain ⟨r, e2, r1, r2⟩ := range_ok (L := L) (at_ := a + 1) (lo := 0) (hi := 60) hL (by omega) (by omega) (by decide) (by decide) (by decide)
    refine ⟨(a + 1 + 1, out ++ [⟨pP, v, r, 1⟩]), ?_, by simp only; omega, fun x hx => ?_, by simp only [List.length_append, List.length_cons, List.length_nil]; omega⟩
    · unfold L11_14
      refine ct (ltI_t (by simp only [enc]; omega)) (bs e1 (bs e2 ?_))
      refine bs (appO_eq (l1 := out) (l2 := [S99.mk pP v r 1]) ?_ ?_) ?_
      · simp only [List.length_cons, List.length_nil]; omega
      · simp only [List.length_cons, List.length_nil]; omega
      · simp only [enc, nextI (i := i) (by omega)]
    · rcases List.mem_append.1 hx with hx | hx
      · exact h2 x hx
      · rw [List.mem_singleton] at hx
        subst hx
        exact ⟨rfl, m1, ⟨r1, r2⟩, rfl⟩
  have kend : ∀ s, Inv m s → ∃ r, L11_14 x1 x2 ((m : Int), L, a0) (enc s m) = some (.inr r) ∧ ∃ a' ps, r = ((m : Int), false, L, a', ps) ∧ (∀ x ∈ ps, PL x) ∧ ps.length ≤ 9 := by
    rintro ⟨a, out⟩ ⟨h1, h2, h3⟩
    refine ⟨_, by unfold L11_14; exact cf (ltI_f (Int.le_refl _)) rfl, a, out, ?_, h2, by simp only at h3; omega⟩
    rw [show ltI (enc (a, out) m).2.2.2 ((m : Int), L, a0).1 = false from ltI_f (Int.le_refl _)]
  obtain ⟨r, h1, a', ps, rfl, h2⟩ := iter_up enc m Inv _ key kend (a0, []) ⟨by simp only; omega, fun x hx => (by cases hx), rfl⟩
  exact ⟨a', ps, h1, h2⟩
/-! Paces. -/
theorem t94 {cs : List S94} (hc : Camps cs) {ps : List S99} (hp : ∀ x ∈ ps, PL x) (hl : ps.length ≤ 9) {v : Int} (hv : 0 ≤ v ∧ v ≤ 100) : T94 cs ps v = some 0 := by
  have key : ∀ (i : Nat) (s : Unit), i < ps.length → True → ∃ s' : Unit, L94_7 ps v (i : Int) = some (.inl ((i + 1 : Nat) : Int)) ∧ True := by
    intro i _ hi _
    have hx := List.getElem?_eq_getElem hi
    have h := hp _ (List.getElem_mem hi)
    have ha := h.a
    refine ⟨(), ?_, trivial⟩
    unfold L94_7
    refine ct (ltL_true hi) (bs (listAt_some hx) ?_)
    refine bs (a := true) (by rw [h.p]; kernel_rfl) (cf rfl ?_)
    refine bs (a := true) (k_key (by have := h.i; simp only [List.mem_cons, List.not_mem_nil, or_false] at this ⊢; rcases this with h | h | h <;> simp [h])) (cf rfl ?_)
    refine bs (t92_in ha.1 (by omega)) (cf rfl ?_)
    refine bs (a := false) (by rw [h.l]; exact t70_in (by decide) (by decide)) (cf rfl ?_)
    rw [nextI (i := i) (by omega)]
  obtain ⟨r, h1, y, rfl⟩ := iter_up (st := L94_7 ps v) (fun (_ : Unit) i => (i : Int)) ps.length (fun _ _ => True) (fun r => ∃ y, r = .inl y) key (fun _ _ => ⟨_, by unfold L94_7; rw [ltL_false (Nat.le_refl _)]; rfl, _, rfl⟩) () trivial
  have h1 : iter (L94_7 ps v) 0 = some (.inl y) := h1
  unfold T94
  refine bs (camps_right hc) (cf rfl ?_)
  refine cf (by rw [lenL_eq]; exact ltI_f (by omega)) ?_
  exact bs h1 (si (bs (t92_in hv.1 (by omega)) rfl))
theorem inner {p0 : List S94} {p1 : List S99} {p2 : Int} {z0 : List S105 × Int} {x1 : S94} {x2 : Int} (hl : p1.length ≤ 9) (out : List S105) :
    ∃ d, iter (L95_7 p0 p1 p2 z0 x1 x2) (out, 0, 0) = some ((p1.length : Int), false, out, d) ∧ 0 ≤ d ∧ d ≤ 9 := by
  have key : ∀ (i : Nat) (s : Int), i < p1.length → (0 ≤ s ∧ s ≤ i) → ∃ s', L95_7 p0 p1 p2 z0 x1 x2 (out, s, (i : Int)) = some (.inl (out, s', ((i + 1 : Nat) : Int))) ∧ (0 ≤ s' ∧ s' ≤ ((i + 1 : Nat) : Int)) := by
    intro i s hi hs
    have hx := List.getElem?_eq_getElem hi
    have e := nextI (i := i) (by omega)
    have e2 : addI .i64 s 1 = s + 1 := addI_eq (by omega) (by omega)
    unfold L95_7
    simp only [ltL_true hi, cond_true, listAt_some hx, Option.bind_some, e, e2]
    cases eqS (p1[i]).f1 x1.f0 <;> cases leI x1.f2.f0 (p1[i]).f2 <;> cases ltI (p1[i]).f2 x1.f2.f1 <;> cases ltI (p1[i]).f2 p2 <;> simp only [cond_true, cond_false] <;> exact ⟨_, rfl, by omega, by omega⟩
  obtain ⟨r, h1, d, rfl, h2⟩ := iter_up (st := L95_7 p0 p1 p2 z0 x1 x2) (fun (s : Int) i => (out, s, (i : Int))) p1.length (fun i s => 0 ≤ s ∧ s ≤ i) (fun r => ∃ d, r = ((p1.length : Int), false, out, d) ∧ 0 ≤ d ∧ d ≤ 9) key
    (fun s hs => ⟨_, by unfold L95_7; rw [ltL_false (Nat.le_refl _)]; rfl, s, rfl, by omega, by omega⟩) 0 (by omega)
  exact ⟨d, h1, h2⟩
theorem t95 {cs : List S94} (hc : Camps cs) {ps : List S99} (hl : ps.length ≤ 9) {v : Int} (hv : 0 ≤ v ∧ v ≤ 100) :
    ∃ q, T95 cs ps v = some q ∧ q.length = cs.length ∧ ∀ x ∈ q, (0 ≤ x.f1 ∧ x.f1 ≤ 6) ∧ 0 ≤ x.f2 ∧ x.f2 ≤ 9 := by
  have hf := hc.few
  have key : ∀ (i : Nat) (s : List S105), i < cs.length → (s.length = i ∧ ∀ x ∈ s, (0 ≤ x.f1 ∧ x.f1 ≤ 6) ∧ 0 ≤ x.f2 ∧ x.f2 ≤ 9) → ∃ s', L95_3 cs ps v (s, (i : Int)) = some (.inl (s', ((i + 1 : Nat) : Int))) ∧ (s'.length = i + 1 ∧ ∀ x ∈ s', (0 ≤ x.f1 ∧ x.f1 ≤ 6) ∧ 0 ≤ x.f2 ∧ x.f2 ≤ 9) := by
    rintro i s hi ⟨h1, h2⟩
    have hx := List.getElem?_eq_getElem hi
    have hr := hc.all _ (List.getElem_mem hi)
    have hg := hr.goal
    have hd := due_low hr v
    obtain ⟨d, e1, d1⟩ := inner (p0 := cs) (p1 := ps) (p2 := v) (z0 := (s, (i : Int))) (x1 := cs[i]) (x2 := dueF cs[i] v) hl s
    refine ⟨s ++ [⟨(cs[i]).f0, dueF cs[i] v, d⟩], ?_, by simp [h1], fun x hx => ?_⟩
    · unfold L95_3
      refine ct (ltL_true hi) (bs (listAt_some hx) (bs (t93 hr hv.1 (by omega)) (bs e1 ?_)))
      refine bs (appO_eq (l1 := s) (l2 := [S105.mk (cs[i]).f0 (dueF cs[i] v) d]) ?_ ?_) ?_
      · simp only [List.length_cons, List.length_nil]; omega
      · simp only [List.length_cons, List.length_nil]; omega
      · simp only [nextI (i := i) (by omega)]
    · rcases List.mem_append.1 hx with hx | hx
      · exact h2 x hx
      · rw [List.mem_singleton] at hx
        subst hx
        exact ⟨⟨hd.1, by simp only; omega⟩, d1⟩
  obtain ⟨r, h1, q, rfl, h2⟩ := iter_up (st := L95_3 cs ps v) (fun (s : List S105) i => (s, (i : Int))) cs.length (fun i s => s.length = i ∧ ∀ x ∈ s, (0 ≤ x.f1 ∧ x.f1 ≤ 6) ∧ 0 ≤ x.f2 ∧ x.f2 ≤ 9) (fun r => ∃ q, r = ((cs.length : Int), false, q) ∧ q.length = cs.length ∧ ∀ x ∈ q, (0 ≤ x.f1 ∧ x.f1 ≤ 6) ∧ 0 ≤ x.f2 ∧ x.f2 ≤ 9) key
    (fun s hs => ⟨_, by unfold L95_3; rw [ltL_false (Nat.le_refl _)]; rfl, s, rfl, hs⟩) [] ⟨rfl, fun x hx => (by cases hx)⟩
  have h1 : iter (L95_3 cs ps v) ([], 0) = some ((cs.length : Int), false, q) := h1
  refine ⟨q, ?_, h2⟩
  unfold T95
  exact bs h1 rfl
/-! Who is chosen. -/
def open_ (c : S94) (q : S105) (v : Int) : Bool := leI c.f2.f0 v && (ltI v c.f2.f1 && ltI q.f2 c.f4)
def OpenAt (cs : List S94) (q : List S105) (v : Int) (i : Nat) : Prop := ∃ c p, cs[i]? = some c ∧ q[i]? = some p ∧ open_ c p v = true
def BestP (cs : List S94) (q : List S105) (v : Int) (i : Nat) (b : Int) : Prop := (b = -1 ∧ ∀ j, j < i → ¬ OpenAt cs q v j) ∨ ∃ j : Nat, b = (j : Int) ∧ j < i ∧ OpenAt cs q v j
theorem le_not (a b : Int) : leI a b = !ltI b a := by
  unfold leI ltI
  rw [Bool.eq_iff_iff]
  simp
theorem choose_step {cs : List S94} {q : List S105} {v : Int} (hf : cs.length ≤ 4) (hq : q.length = cs.length) (hb : ∀ x ∈ q, (0 ≤ x.f1 ∧ x.f1 ≤ 6) ∧ 0 ≤ x.f2 ∧ x.f2 ≤ 9) (hc : Camps cs) {i : Nat} (hi : i < cs.length) {b : Int} (hB : BestP cs q v i b) :
    ∃ b', L47_7 cs v (q, b, (i : Int)) = some (.inl (q, b', ((i + 1 : Nat) : Int))) ∧ BestP cs q v (i + 1) b' := by
  have hx := List.getElem?_eq_getElem hi
  obtain ⟨p, hp⟩ : ∃ p, q[i]? = some p := ⟨_, List.getElem?_eq_getElem (by omega)⟩
  have e := nextI (i := i) (by omega)
  have hno : open_ cs[i] p v = false → BestP cs q v (i + 1) b := by
    intro ho
    rcases hB with ⟨h1, h2⟩ | ⟨j, h1, h2, h3⟩
    · refine .inl ⟨h1, fun j hj => ?_⟩
      by_cases hji : j = i
      · subst hji
        rintro ⟨c, p', h4, h5, h6⟩
        rw [hx] at h4; rw [hp] at h5
        cases h4; cases h5
        rw [ho] at h6
        cases h6
      · exact h2 j (by omega)
    · exact .inr ⟨j, h1, by omega, h3⟩
  have hi2 : i < q.length := by omega
  unfold L47_7
  simp only [ltL_true hi, cond_true, listAt_some hx, Option.bind_some, e]
  cases c1 : ltI v (cs[i]).f2.f0 with
  | true => exact ⟨b, rfl, hno (by unfold open_; rw [le_not, c1]; rfl)⟩
  | false =>
    simp only [cond_false]
    cases c2 : leI (cs[i]).f2.f1 v with
    | true => exact ⟨b, rfl, hno (by unfold open_; rw [show ltI v (cs[i]).f2.f1 = false by rw [le_not] at c2; simpa using c2]; simp)⟩
    | false =>
      simp only [cond_false, idx_nat hi2, Option.bind_some, getN_some hp]
      cases c3 : leI (cs[i]).f4 p.f2 with
      | true => exact ⟨b, rfl, hno (by unfold open_; rw [show ltI p.f2 (cs[i]).f4 = false by rw [le_not] at c3; simpa using c3]; simp)⟩
      | false =>
        have ho : OpenAt cs q v i := ⟨_, p, hx, hp, by
          unfold open_
          rw [le_not, c1, show ltI v (cs[i]).f2.f1 = true by rw [le_not] at c2; simpa using c2, show ltI p.f2 (cs[i]).f4 = true by rw [le_not] at c3; simpa using c3]
          rfl⟩
        simp only [cond_false]
        rcases hB with ⟨h1, h2⟩ | ⟨j, h1, h2, h3⟩
        · rw [h1, show ltI (-1) 0 = true from rfl]
          exact ⟨(i : Int), rfl, .inr ⟨i, rfl, by omega, ho⟩⟩
        · rw [h1, ltI_f (show (0 : Int) ≤ (j : Int) by omega)]
          obtain ⟨pj, hpj⟩ : ∃ p, q[j]? = some p := ⟨_, List.getElem?_eq_getElem (by omega)⟩
          have hj := List.getElem?_eq_getElem (show j < cs.length by omega)
          simp only [cond_false, listAt_some hj, Option.bind_some, idx_nat (show j < q.length by omega), getN_some hpj]
          cases ltI (mulI .i64 (subI .i64 pj.f1 pj.f2) (cs[i]).f4) (mulI .i64 (subI .i64 p.f1 p.f2) (cs[j]).f4) with
          | true => exact ⟨(i : Int), rfl, .inr ⟨i, rfl, by omega, ho⟩⟩
          | false => exact ⟨(j : Int), rfl, .inr ⟨j, rfl, by omega, h3⟩⟩
theorem t47 {cs : List S94} (hc : Camps cs) {ps : List S99} (hp : ∀ x ∈ ps, PL x) (hl : ps.length ≤ 9) {v : Int} (hv : 0 ≤ v ∧ v ≤ 100) {q : List S105} (e95 : T95 cs ps v = some q) (hq : q.length = cs.length) (hb : ∀ x ∈ q, (0 ≤ x.f1 ∧ x.f1 ≤ 6) ∧ 0 ≤ x.f2 ∧ x.f2 ≤ 9) :
    ∃ k ok, T47 cs ps v = some (k, ok, 0) ∧ ((ok = false ∧ k = gN ∧ ∀ j, ¬ OpenAt cs q v j) ∨ (ok = true ∧ ∃ j c, cs[j]? = some c ∧ k = c.f0 ∧ OpenAt cs q v j)) := by
  have hf := hc.few
  obtain ⟨r, h1, b, rfl, hB⟩ := iter_up (st := L47_7 cs v) (fun (s : Int) i => (q, s, (i : Int))) cs.length (fun i s => BestP cs q v i s) (fun r => ∃ b, r = (b, (cs.length : Int), false, q) ∧ BestP cs q v cs.length b)
    (fun i s hi hs => choose_step hf hq hb hc hi hs)
    (fun s hs => ⟨_, by unfold L47_7; rw [ltL_false (Nat.le_refl _)]; rfl, s, rfl, hs⟩) (-1) (.inl ⟨rfl, fun j hj => by omega⟩)
  have h1 : iter (L47_7 cs v) (q, -1, 0) = some (b, (cs.length : Int), false, q) := h1
  rcases hB with ⟨rfl, h2⟩ | ⟨j, rfl, h2, h3⟩
  · refine ⟨gN, false, ?_, .inl ⟨rfl, rfl, fun j hj => ?_⟩⟩
    · unfold T47
      exact bs (t94 hc hp hl hv) (cf rfl (bs e95 (bs h1 (ct rfl rfl))))
    · have hj' := hj
      obtain ⟨c, p, h4, _⟩ := hj
      exact h2 j (List.getElem?_eq_some_iff.1 h4).1 hj'
  · have hj := List.getElem?_eq_getElem h2
    refine ⟨(cs[j]).f0, true, ?_, .inr ⟨rfl, j, _, hj, rfl, h3⟩⟩
    unfold T47
    exact bs (t94 hc hp hl hv) (cf rfl (bs e95 (bs h1 (cf (ltI_f (by omega)) (bs (listAt_some hj) rfl)))))
theorem keys_apart {cs : List S94} (hc : Camps cs) {i j : Nat} {a b : S94} (ha : cs[i]? = some a) (hb : cs[j]? = some b) (h : a.f0 = b.f0) : i = j := by
  have hi := (List.getElem?_eq_some_iff.1 ha)
  have hj := (List.getElem?_eq_some_iff.1 hb)
  obtain ⟨hi, ea⟩ := hi
  obtain ⟨hj, eb⟩ := hj
  rcases Nat.lt_trichotomy i j with hlt | he | hlt
  · have := List.pairwise_iff_getElem.1 hc.ord i j hi hj hlt
    rw [ea, eb, h, ltS_irrefl] at this
    cases this
  · exact he
  · have := List.pairwise_iff_getElem.1 hc.ord j i hj hi hlt
    rw [ea, eb, h, ltS_irrefl] at this
    cases this
theorem loop3 {cs : List S94} (hc : Camps cs) (L : List Int) (a0 a1 : Int) {v : Int} {k : ByteArray} {ok : Bool} {q : List S105} (hq : q.length = cs.length)
    (hk : (ok = false ∧ k = gN ∧ ∀ j, ¬ OpenAt cs q v j) ∨ (ok = true ∧ ∃ j c, cs[j]? = some c ∧ k = c.f0 ∧ OpenAt cs q v j)) :
    ∃ y, iter (L11_22 (cs, L, a0) (v, L, a1) (k, ok, 0)) (q, 0) = some (.inl y) := by
  have hf := hc.few
  have key : ∀ (i : Nat) (s : Unit), i < cs.length → True → ∃ s' : Unit, L11_22 (cs, L, a0) (v, L, a1) (k, ok, 0) (q, (i : Int)) = some (.inl (q, ((i + 1 : Nat) : Int))) ∧ True := by
    intro i _ hi _
    have hx := List.getElem?_eq_getElem hi
    obtain ⟨p, hp⟩ : ∃ p, q[i]? = some p := ⟨_, List.getElem?_eq_getElem (by omega)⟩
    refine ⟨(), ?_, trivial⟩
    unfold L11_22
    refine ct (ltL_true hi) (bs (listAt_some hx) ?_)
    refine bs (a := open_ cs[i] p v) ?_ ?_
    · unfold open_
      cases leI (cs[i]).f2.f0 v with
      | false => rfl
      | true =>
        cases ltI v (cs[i]).f2.f1 with
        | false => rfl
        | true => exact bs (idx_nat (show i < q.length by omega)) (bs (getN_some hp) rfl)
    · have e := nextI (i := i) (by omega)
      rcases hk with ⟨rfl, rfl, h3⟩ | ⟨rfl, j, c, h3, rfl, h5⟩
      · have ho : open_ cs[i] p v = false := by
          cases h : open_ cs[i] p v with
          | false => rfl
          | true => exact absurd ⟨_, _, hx, hp, h⟩ (h3 i)
        refine cf (by rw [eqS_iff]; exact decide_eq_false (k_ne (hc.all _ (List.getElem_mem hi)).key)) ?_
        exact cf ho (by rw [e])
      · cases hk2 : eqS (cs[i]).f0 c.f0 with
        | true =>
          rw [eqS_iff, decide_eq_true_eq] at hk2
          have := keys_apart hc hx h3 hk2
          subst this
          obtain ⟨c', p', h6, h7, h8⟩ := h5
          rw [hx] at h6; rw [hp] at h7
          cases h6; cases h7
          rw [h8]
          exact congrArg (fun z => some (Sum.inl (q, z))) e
        | false =>
          cases open_ cs[i] p v <;> exact congrArg (fun z => some (Sum.inl (q, z))) e
  obtain ⟨r, h1, y, rfl⟩ := iter_up (st := L11_22 (cs, L, a0) (v, L, a1) (k, ok, 0)) (fun (_ : Unit) i => (q, (i : Int))) cs.length (fun _ _ => True) (fun r => ∃ y, r = .inl y) key (fun _ _ => ⟨_, by unfold L11_22; rw [ltL_false (Nat.le_refl _)]; rfl, _, rfl⟩) () trivial
  exact ⟨y, h1⟩
theorem plain (p0 : (List Int)) (h0 : (p0.length ≤ 1048576 ∧ ∀ x ∈ p0, okI x)) : T11 p0 = some true := by
  have hL := h0.1
  obtain ⟨cs, a0, e1, hc, ha0⟩ := camps_drawn hL
  obtain ⟨v, e2, v1, v2⟩ := range_ok (L := p0) (at_ := a0) (lo := 0) (hi := 100) hL (by omega) (by omega) (by decide) (by decide) (by decide)
  obtain ⟨a1, e3, ha1⟩ := loop1 hL hc (v := v) (a0 := a0) (a1 := a0 + 1) ⟨v1, v2⟩ (by omega)
  obtain ⟨n, e4, n1, n2⟩ := range_ok (L := p0) (at_ := a1) (lo := 0) (hi := 9) hL (by omega) (by omega) (by decide) (by decide) (by decide)
  obtain ⟨a2, ps, e5, hp, hl⟩ := loop2 hL (cs, p0, a0) (v, p0, a0 + 1) (n := n) (a0 := a1 + 1) ⟨n1, n2⟩ (by omega)
  obtain ⟨q, e6, hq, hb⟩ := t95 hc (ps := ps) hl (v := v) ⟨v1, v2⟩
  obtain ⟨k, ok, e7, hk⟩ := t47 hc hp hl ⟨v1, v2⟩ e6 hq hb
  have e8 : T48 cs ps v = some (q, 0) := by
    unfold T48
    exact bs (t94 hc hp hl ⟨v1, v2⟩) (cf rfl (bs e6 rfl))
  obtain ⟨y, e9⟩ := loop3 hc p0 a0 (a0 + 1) hq hk
  unfold T11
  refine bs e1 (bs e2 (bs e3 (si ?_)))
  refine bs e4 (bs e5 (bs e7 (bs e8 ?_)))
  refine cf rfl (cf rfl (cf ?_ ?_))
  · rw [lenL_eq, lenL_eq, hq]; exact neI_no _
  · exact bs e9 (si (bs ready_ok rfl))
end Go.Abs.TKP
