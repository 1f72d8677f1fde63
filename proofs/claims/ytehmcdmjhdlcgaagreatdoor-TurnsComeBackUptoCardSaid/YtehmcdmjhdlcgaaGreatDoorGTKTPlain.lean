import Derived.Test.YtehmcdmjhdlcgaaGreatDoorGTKTR
import Derived.Test.YtehmcdmjhdlcgaaGreatDoorGPlS
import Derived.Test.YtehmcdmjhdlcgaaGreatDoorGPlU
set_option linter.unusedVariables false
set_option linter.unusedSimpArgs false
set_option maxRecDepth 10000
namespace Go.Abs.TKT
open Go.RowKit Go.Proofs Go.Abs
/-! The two rectangles of 'lit'. -/
theorem lit_sort1 (x : S182) : sortO (fun x y => T129 x y) [x] = some [x] := by
  obtain ⟨l', h1, h2, _⟩ := sortO_le (fun x y => T129 x y) (fun _ _ => True) (fun _ _ => .inl trivial) (fun _ _ _ _ _ => trivial) [x] (by simp) (by
    intro a ha b hb
    simp only [List.mem_singleton] at ha hb
    subst ha; subst hb
    refine ⟨_, rfl, ?_⟩
    have : subI .i64 b.f0 b.f0 = 0 := by unfold subI; rw [Int.sub_self]; rfl
    simp [this])
  rw [h1, List.perm_singleton.1 h2]
theorem lit_sort2 : sortO (fun x y => T129 x y) [⟨0, 2⟩, ⟨1, 3⟩] = some [⟨0, 2⟩, ⟨1, 3⟩] := by
  obtain ⟨l', h1, h2, h3⟩ := sortO_key (fun x y => T129 x y) (·.f0) [⟨0, 2⟩, ⟨1, 3⟩] (by simp) (by
    intro a ha b hb
    simp only [List.mem_cons, List.not_mem_nil, or_false] at ha hb
    rcases ha with rfl | rfl <;> rcases hb with rfl | rfl <;> exact ⟨_, rfl, by decide⟩)
  rw [h1]
  congr 1
  match l', h2.length_eq with
  | [a, b], _ =>
    have ha : a ∈ [(⟨0, 2⟩ : S182), ⟨1, 3⟩] := h2.mem_iff.1 (by simp)
    have hb : b ∈ [(⟨0, 2⟩ : S182), ⟨1, 3⟩] := h2.mem_iff.1 (by simp)
    have hp := h2.countP_eq (fun x : S182 => x.f0 == 0)
    simp only [List.mem_cons, List.not_mem_nil, or_false] at ha hb
    simp only [List.pairwise_cons, List.mem_singleton, forall_eq] at h3
    rcases ha with rfl | rfl <;> rcases hb with rfl | rfl
    · simp at hp
    · rfl
    · have := h3.1
      simp at this
    · simp at hp
abbrev r0 : S28 := S28.mk 0 0 2 2
abbrev r1 : S28 := S28.mk 1 1 2 2
theorem runs_nil (y : Int) : T106 [] y = some [] := by
  unfold T106
  rw [iter_run (r := (0, false, [])) 1 (by kernel_rfl)]
  simp only [Option.bind_some]
  rw [show sortO (fun x y => T129 x y) ([] : List S182) = some [] from by simp [sortO], Option.bind_some, iter_run (r := (0, false, [], [])) 1 (by kernel_rfl)]
  rfl
theorem runs0 : T106 [r0, r1] 0 = some [⟨0, 2⟩] := by
  unfold T106
  rw [iter_run (r := (2, false, [⟨0, 2⟩])) 3 (by kernel_rfl)]
  simp only [Option.bind_some]
  rw [lit_sort1, Option.bind_some, iter_run (r := (1, false, [⟨0, 2⟩], [⟨0, 2⟩])) 2 (by kernel_rfl)]
  rfl
theorem runs1 : T106 [r0, r1] 1 = some [⟨0, 3⟩] := by
  unfold T106
  rw [iter_run (r := (2, false, [⟨0, 2⟩, ⟨1, 3⟩])) 3 (by kernel_rfl)]
  simp only [Option.bind_some]
  rw [lit_sort2, Option.bind_some, iter_run (r := (2, false, [⟨0, 3⟩], [⟨0, 2⟩, ⟨1, 3⟩])) 3 (by kernel_rfl)]
  rfl
theorem runs2 : T106 [r0, r1] 2 = some [⟨1, 3⟩] := by
  unfold T106
  rw [iter_run (r := (2, false, [⟨1, 3⟩])) 3 (by kernel_rfl)]
  simp only [Option.bind_some]
  rw [lit_sort1, Option.bind_some, iter_run (r := (1, false, [⟨1, 3⟩], [⟨1, 3⟩])) 2 (by kernel_rfl)]
  rfl
theorem less_nil (x : S182) (hx : ltI x.f0 x.f1 = true) : T105 [x] [] = some [x] := by
  have h : L105_4 [x] [] ([], 0, 0) = some (.inl ([x], 0, 1)) := by
    unfold L105_4
    have e1 : ltI ((([], 0, 0) : List S182 × Int × Int).2.2) (lenL [x]) = true := rfl
    have e2 : listAt [x] ((([], 0, 0) : List S182 × Int × Int).2.2) = some x := rfl
    rw [e1, e2]
    simp only [cond_true, Option.bind_some]
    rw [iter_run (r := (0, false)) 1 (by kernel_rfl), Option.bind_some, iter_run (r := (0, false, [], x.f0)) 1 (by kernel_rfl)]
    simp only [Option.bind_some, hx, cond_true]
    rfl
  unfold T105
  rw [iter_inl h, iter_inr (r := (0, 1, false, [x])) (by kernel_rfl)]
  rfl
theorem same_no (a b : S182) (h : allB [eqI a.f0 b.f0, eqI a.f1 b.f1] = false) : T107 [a] [b] = some false := by
  unfold T107
  rw [iter_inr (r := .inr ()) (by
    unfold L107_4
    have e1 : ltI 0 (lenL [a]) = true := rfl
    have e2 : listAt [a] 0 = some a := rfl
    have e3 : listAt [b] 0 = some b := rfl
    rw [e1, e2, e3]
    simp only [cond_true, Option.bind_some, h, Bool.not_false])]
  rfl
theorem lit_region : T60 [r0, r1] [] = some [⟨0, 0, 2, 1⟩, ⟨0, 1, 3, 1⟩, ⟨1, 2, 2, 1⟩] := by
  unfold T60 T21
  rw [iter_run (r := (2, 2, false)) 3 (by kernel_rfl)]
  simp only [Option.bind_some]
  rw [show growO S28 32 2 = some [] by unfold growO; rw [if_pos (by decide)], Option.bind_some, iter_run (r := (2, false, [r0, r1])) 3 (by kernel_rfl)]
  simp only [Option.bind_some]
  rw [iter_run (r := (2, false, [0, 2, 1, 3], [r0, r1])) 3 (by kernel_rfl)]
  simp only [Option.bind_some]
  rw [show sortIO [0, 2, 1, 3] = some [0, 1, 2, 3] by
    unfold sortIO
    rw [if_pos (by simp), sortI_of (l' := [0, 1, 2, 3]) (by decide) (by decide)]]
  simp only [Option.bind_some]
  rw [show compIO [0, 1, 2, 3] = some [0, 1, 2, 3] by decide]
  simp only [Option.bind_some]
  have s0 : L60_13 [r0, r1] [] [0, 1, 2, 3] ([0, 1, 2, 3], [], [], 0, 0) = some (.inl ([0, 1, 2, 3], [], [⟨0, 2⟩], 0, 1)) := by
    unfold L60_13
    rw [show ltI ((([0, 1, 2, 3], [], [], 0, 0) : List Int × List S28 × List S182 × Int × Int).2.2.2.2) (lenL ([0, 1, 2, 3] : List Int)) = true by decide]
    simp only [cond_true]
    rw [show idxO (List.length ([0, 1, 2, 3] : List Int)) 0 = some 0 by decide]
    simp only [Option.bind_some]
    rw [show getN ([0, 1, 2, 3] : List Int) 0 = some 0 by decide]
    simp only [Option.bind_some]
    rw [show ltI (addI .i64 0 1) (lenL ([0, 1, 2, 3] : List Int)) = true by decide]
    simp only [cond_true]
    rw [runs0, runs_nil]
    simp only [Option.bind_some]
    rw [less_nil ⟨0, 2⟩ (by decide)]
    simp only [Option.bind_some]
    rw [show T107 [] [⟨0, 2⟩] = some false by unfold T107; rfl]
    simp only [Option.bind_some, cond_false]
    rw [iter_run (r := (0, false, [0, 1, 2, 3], [])) 1 (by kernel_rfl)]
    rfl
  have s1 : L60_13 [r0, r1] [] [0, 1, 2, 3] ([0, 1, 2, 3], [], [⟨0, 2⟩], 0, 1) = some (.inl ([0, 1, 2, 3], [⟨0, 0, 2, 1⟩], [⟨0, 3⟩], 1, 2)) := by
    unfold L60_13
    rw [show ltI ((([0, 1, 2, 3], [], [⟨0, 2⟩], 0, 1) : List Int × List S28 × List S182 × Int × Int).2.2.2.2) (lenL ([0, 1, 2, 3] : List Int)) = true by decide]
    simp only [cond_true]
    rw [show idxO (List.length ([0, 1, 2, 3] : List Int)) 1 = some 1 by decide]
    simp only [Option.bind_some]
    rw [show getN ([0, 1, 2, 3] : List Int) 1 = some 1 by decide]
    simp only [Option.bind_some]
    rw [show ltI (addI .i64 1 1) (lenL ([0, 1, 2, 3] : List Int)) = true by decide]
    simp only [cond_true]
    rw [runs1, runs_nil]
    simp only [Option.bind_some]
    rw [less_nil ⟨0, 3⟩ (by decide)]
    simp only [Option.bind_some]
    rw [same_no _ _ (by decide)]
    simp only [Option.bind_some, cond_false]
    rw [iter_run (r := (1, false, [0, 1, 2, 3], [⟨0, 0, 2, 1⟩])) 2 (by kernel_rfl)]
    rfl
  have s2 : L60_13 [r0, r1] [] [0, 1, 2, 3] ([0, 1, 2, 3], [⟨0, 0, 2, 1⟩], [⟨0, 3⟩], 1, 2) = some (.inl ([0, 1, 2, 3], [⟨0, 0, 2, 1⟩, ⟨0, 1, 3, 1⟩], [⟨1, 3⟩], 2, 3)) := by
    unfold L60_13
    rw [show ltI ((([0, 1, 2, 3], [⟨0, 0, 2, 1⟩], [⟨0, 3⟩], 1, 2) : List Int × List S28 × List S182 × Int × Int).2.2.2.2) (lenL ([0, 1, 2, 3] : List Int)) = true by decide]
    simp only [cond_true]
    rw [show idxO (List.length ([0, 1, 2, 3] : List Int)) 2 = some 2 by decide]
    simp only [Option.bind_some]
    rw [show getN ([0, 1, 2, 3] : List Int) 2 = some 2 by decide]
    simp only [Option.bind_some]
    rw [show ltI (addI .i64 2 1) (lenL ([0, 1, 2, 3] : List Int)) = true by decide]
    simp only [cond_true]
    rw [runs2, runs_nil]
    simp only [Option.bind_some]
    rw [less_nil ⟨1, 3⟩ (by decide)]
    simp only [Option.bind_some]
    rw [same_no _ _ (by decide)]
    simp only [Option.bind_some, cond_false]
    rw [iter_run (r := (1, false, [0, 1, 2, 3], [⟨0, 0, 2, 1⟩, ⟨0, 1, 3, 1⟩])) 2 (by kernel_rfl)]
    rfl
  have s3 : L60_13 [r0, r1] [] [0, 1, 2, 3] ([0, 1, 2, 3], [⟨0, 0, 2, 1⟩, ⟨0, 1, 3, 1⟩], [⟨1, 3⟩], 2, 3) = some (.inl ([0, 1, 2, 3], [⟨0, 0, 2, 1⟩, ⟨0, 1, 3, 1⟩, ⟨1, 2, 2, 1⟩], [], 3, 4)) := by
    unfold L60_13
    rw [show ltI ((([0, 1, 2, 3], [⟨0, 0, 2, 1⟩, ⟨0, 1, 3, 1⟩], [⟨1, 3⟩], 2, 3) : List Int × List S28 × List S182 × Int × Int).2.2.2.2) (lenL ([0, 1, 2, 3] : List Int)) = true by decide]
    simp only [cond_true]
    rw [show idxO (List.length ([0, 1, 2, 3] : List Int)) 3 = some 3 by decide]
    simp only [Option.bind_some]
    rw [show getN ([0, 1, 2, 3] : List Int) 3 = some 3 by decide]
    simp only [Option.bind_some]
    rw [show ltI (addI .i64 3 1) (lenL ([0, 1, 2, 3] : List Int)) = false by decide]
    simp only [cond_false]
    rw [show T107 [⟨1, 3⟩] [] = some false by unfold T107; rfl]
    simp only [Option.bind_some, cond_false]
    rw [iter_run (r := (1, false, [0, 1, 2, 3], [⟨0, 0, 2, 1⟩, ⟨0, 1, 3, 1⟩, ⟨1, 2, 2, 1⟩])) 2 (by kernel_rfl)]
    rfl
  rw [iter_inl s0, iter_inl s1, iter_inl s2, iter_inl s3, iter_inr (r := ([], 3, 4, false, [0, 1, 2, 3], [⟨0, 0, 2, 1⟩, ⟨0, 1, 3, 1⟩, ⟨1, 2, 2, 1⟩])) (by kernel_rfl)]
  rfl
theorem lit_area : T20 [r0, r1] = some (7, 0) := by
  unfold T20 T58 T61
  rw [iter_run (r := .inl (2, false)) 3 (by kernel_rfl)]
  rw [show (bif ltI 2000 (lenL ([r0, r1] : List S28)) then (some 2 : Option Int) else (some (Sum.inl (2, false) : (Int × Bool) ⊕ Int)).bind fun y3 => (Sum.elim (fun y3a => some 0) (fun y3b => some y3b) y3)) = some 0 by decide]
  simp only [Option.bind_some]
  rw [show neI 0 0 = false by decide]
  simp only [cond_false]
  rw [lit_region]
  simp only [Option.bind_some]
  rw [iter_run (r := (7, 3, false)) 4 (by kernel_rfl)]
  rfl
/-! All that 'ready' asks. -/
theorem r45 : T45 (S94.mk (ByteArray.mk #[97]) (ByteArray.mk #[]) (S92.mk 0 100) [] 10 0 0) 50 = some (5, 0) := by kernel_rfl
theorem r42 : T42 ([(S87.mk (ByteArray.mk #[112]) 0 100), (S87.mk (ByteArray.mk #[112]) 1000 1300)] : List S87) (ByteArray.mk #[112]) 700 = some (500, 0) := by kernel_rfl
theorem r67 : T67 (S136.mk (ByteArray.mk #[97]) (ByteArray.mk #[98]) 0 0 0 1 127 [] 1 2 0 [] false) 0 (S92.mk 0 86400000) = some ([S92.mk 60000 120000], 0) := by kernel_rfl
theorem r68 : T68 (S138.mk (ByteArray.mk #[97]) (ByteArray.mk #[115]) 1 [] 0 5 1 ([(S28.mk 0 0 2 2)] : List S28) (ByteArray.mk #[120])) (S142.mk (ByteArray.mk #[112]) 1 1) = some (true, 0) := by kernel_rfl
theorem ready_ok : T26 = some true := by
  unfold T26
  rw [lit_area, r45, r42, r67, r68]
  simp only [Option.bind_some]
  kernel_rfl
end Go.Abs.TKT

set_option linter.unusedVariables false
set_option linter.unusedSimpArgs false
set_option maxRecDepth 10000
namespace Go.Abs.TKT
open Go.RowKit Go.Proofs Go.Abs
/-! What a stream hands out. -/
theorem below_ok (x : Int) {n : Int} (hn : n ≤ 1000000000000000) : ∃ v, T102 x n = some v ∧ (1 ≤ n → 0 ≤ v ∧ v < n) ∧ (n < 1 → v = 0) := by
  unfold T102
  by_cases h : n < 1
  · rw [show ltI n 1 = true by unfold ltI; exact decide_eq_true h]
    exact ⟨0, rfl, fun h1 => by omega, fun _ => rfl⟩
  · rw [show ltI n 1 = false by unfold ltI; exact decide_eq_false h]
    have hr : remO .i64 x n = some (x.tmod n) := by unfold remO; rw [if_neg (by omega)]
    have h1 := Int.tmod_lt_of_pos x (by omega : 0 < n)
    have h2 := Int.lt_tmod_of_pos x (by omega : 0 < n)
    simp only [cond_false, hr, Option.bind_some]
    by_cases h0 : x.tmod n < 0
    · rw [show ltI (x.tmod n) 0 = true by unfold ltI; exact decide_eq_true h0]
      refine ⟨_, rfl, fun _ => ?_, fun h3 => by omega⟩
      rw [addI_eq (by omega) (by omega)]
      omega
    · rw [show ltI (x.tmod n) 0 = false by unfold ltI; exact decide_eq_false h0]
      exact ⟨_, rfl, fun _ => ⟨by omega, h1⟩, fun h3 => by omega⟩
theorem next_ok {L : List Int} {at_ n : Int} (hL : L.length ≤ 1048576) (h0 : 0 ≤ at_) (h1 : at_ ≤ 1000000000) (hn : n ≤ 1000000000000000) : ∃ v, T57 L at_ n = some (v, L, at_ + 1) ∧ (1 ≤ n → 0 ≤ v ∧ v < n) ∧ (n < 1 → v = 0) := by
  unfold T57
  have e1 : addI .i64 at_ 1 = at_ + 1 := addI_eq (by omega) (by omega)
  rw [e1]
  by_cases hl : L.length = 0
  · rw [show eqI (lenL L) 0 = true by rw [eqI_iff, lenL_eq, hl]; rfl]
    obtain ⟨v, h2, h3⟩ := below_ok (mulI .i64 (at_ + 1) 7919) hn
    simp only [cond_true, h2, Option.bind_some]
    exact ⟨v, rfl, h3⟩
  · rw [show eqI (lenL L) 0 = false by rw [eqI_iff, lenL_eq]; exact decide_eq_false (by omega)]
    have e2 : subI .i64 (at_ + 1) 1 = at_ := by rw [subI_eq (by omega) (by omega)]; omega
    have hr : remO .i64 at_ (lenL L) = some (at_.tmod L.length) := by unfold remO; rw [lenL_eq, if_neg (by omega)]
    have hq : ∃ q, quoO .i64 at_ (lenL L) = some q := by unfold quoO; rw [lenL_eq, if_neg (by omega)]; exact ⟨_, rfl⟩
    obtain ⟨q, hq⟩ := hq
    have h2 := Int.tmod_lt_of_pos at_ (by omega : (0 : Int) < L.length)
    have h3 := Int.tmod_nonneg (L.length : Int) h0
    generalize at_.tmod L.length = k at *
    obtain ⟨j, rfl⟩ : ∃ j : Nat, k = j := ⟨k.toNat, by omega⟩
    have hx := List.getElem?_eq_getElem (show j < L.length by omega)
    obtain ⟨v, h4, _⟩ := below_ok (L[j]'(by omega)) (n := 1073741824) (by omega)
    obtain ⟨u, h6, h7⟩ := below_ok (addI .i64 v (mulI .i64 q (addI .i64 7919 j))) hn
    simp only [cond_false, e2, hr, hq, Option.bind_some, listAt_some hx, h4, h6]
    exact ⟨u, rfl, h7⟩
theorem range_ok {L : List Int} {at_ lo hi : Int} (hL : L.length ≤ 1048576) (h0 : 0 ≤ at_) (h1 : at_ ≤ 1000000000) (hlo : -1000000000000 ≤ lo) (hle : lo ≤ hi) (hhi : hi ≤ 1000000000000) : ∃ v, T14 L at_ lo hi = some (v, L, at_ + 1) ∧ lo ≤ v ∧ v ≤ hi := by
  unfold T14
  rw [show ltI hi lo = false by unfold ltI; exact decide_eq_false (by omega)]
  have e1 : subI .i64 hi lo = hi - lo := subI_eq (by omega) (by omega)
  have e2 : addI .i64 (hi - lo) 1 = hi - lo + 1 := addI_eq (by omega) (by omega)
  obtain ⟨v, h2, h3, _⟩ := next_ok (n := hi - lo + 1) hL h0 h1 (by omega)
  have h4 := h3 (by omega)
  simp only [cond_false, e1, e2, h2, Option.bind_some]
  exact ⟨_, rfl, by rw [addI_eq (by omega) (by omega)]; omega, by rw [addI_eq (by omega) (by omega)]; omega⟩
/-! First errors. -/
theorem errs_ok : ∀ (l : List Int), l.length ≤ 100 → (∀ x ∈ l, x = 0) → T22 l = some 0 := by
  intro l hl h
  unfold T22
  have key : ∀ (i : Nat) (s : Unit), i < l.length → True → ∃ s' : Unit, L22_2 l (i : Int) = some (.inl ((i + 1 : Nat) : Int)) ∧ True := by
    intro i _ hi _
    have hx := List.getElem?_eq_getElem hi
    have := h _ (List.getElem_mem hi)
    refine ⟨(), ?_, trivial⟩
    unfold L22_2
    simp only [ltL_true hi, cond_true, listAt_some hx, Option.bind_some, this, show neI 0 0 = false from rfl, cond_false, nextI (i := i) (by omega)]
  obtain ⟨r, h1, y, rfl⟩ := iter_up (st := L22_2 l) (fun (_ : Unit) i => (i : Int)) l.length (fun _ _ => True) (fun r => ∃ y, r = .inl y) key (fun _ _ => ⟨_, by unfold L22_2; rw [ltL_false (Nat.le_refl _)]; rfl, _, rfl⟩) () trivial
  have h1 : iter (L22_2 l) 0 = some (.inl y) := h1
  rw [h1, Option.bind_some, Sum.elim_inl]
def ok87 (N : Nat) (s : S87) : Prop := s.f0.size ≤ N ∧ okI s.f1 ∧ okI s.f2
end Go.Abs.TKT

set_option linter.unusedVariables false
set_option linter.unusedSimpArgs false
set_option maxRecDepth 10000
namespace Go.Abs.TKT
open Go.RowKit Go.Proofs Go.Abs
/-! Rectangles of a small picture, turned. -/
structure In (r : S28) (w h : Int) : Prop where
  i1 : 0 ≤ r.f0
  i2 : 0 ≤ r.f1
  i3 : 1 ≤ r.f2
  i4 : 1 ≤ r.f3
  i5 : r.f0 + r.f2 ≤ w
  i6 : r.f1 + r.f3 ≤ h
  i7 : w ≤ 20
  i8 : h ≤ 20
def t1 (w h : Int) (r : S28) : S28 := ⟨h - r.f1 - r.f3, r.f0, r.f3, r.f2⟩
theorem in_t1 {r : S28} {w h : Int} (i : In r w h) : In (t1 w h r) h w := by
  obtain ⟨h1, h2, h3, h4, h5, h6, h7, h8⟩ := i
  exact ⟨by simp only [t1]; omega, by simp only [t1]; omega, by simp only [t1]; omega, by simp only [t1]; omega, by simp only [t1]; omega, by simp only [t1]; omega, h8, h7⟩
def turns : Nat → Int → Int → S28 → S28
  | 0, _, _, r => r
  | n + 1, w, h, r => turns n h w (t1 w h r)
theorem t70_in {a b c : Int} (h1 : b ≤ a) (h2 : a ≤ c) : T70 a b c = some false := by
  unfold T70 ltI
  rw [decide_eq_false (by omega), decide_eq_false (by omega)]
  rfl
theorem rect_ok {r : S28} {w h : Int} (i : In r w h) : T63 r = some 0 := by
  obtain ⟨h1, h2, h3, h4, h5, h6, h7, h8⟩ := i
  unfold T63
  have e1 : subI .i64 100000 r.f0 = 100000 - r.f0 := subI_eq (by omega) (by omega)
  have e2 : subI .i64 100000 r.f1 = 100000 - r.f1 := subI_eq (by omega) (by omega)
  have c1 : T70 r.f0 (-100000) 100000 = some false := t70_in (by omega) (by omega)
  have c2 : T70 r.f1 (-100000) 100000 = some false := t70_in (by omega) (by omega)
  have c3 : T70 r.f2 1 (100000 - r.f0) = some false := t70_in (by omega) (by omega)
  have c4 : T70 r.f3 1 (100000 - r.f1) = some false := t70_in (by omega) (by omega)
  simp only [e1, e2, c1, c2, c3, c4, Option.bind_some, cond_false, Bool.not_false, cond_true]
theorem side_ok {a : Int} (h : 1 ≤ a) (h2 : a ≤ 20) : T69 a = some true := by
  unfold T69
  rw [t70_in h (by omega)]
  rfl
theorem inside_ok {r : S28} {w h : Int} (i : In r w h) : T71 r w h = some true := by
  obtain ⟨h1, h2, h3, h4, h5, h6, h7, h8⟩ := i
  have e1 : addI .i64 r.f0 r.f2 = r.f0 + r.f2 := addI_eq (by omega) (by omega)
  have e2 : addI .i64 r.f1 r.f3 = r.f1 + r.f3 := addI_eq (by omega) (by omega)
  have c1 : leI 0 r.f0 = true := by unfold leI; exact decide_eq_true h1
  have c2 : leI 0 r.f1 = true := by unfold leI; exact decide_eq_true h2
  have c3 : leI (r.f0 + r.f2) w = true := by unfold leI; exact decide_eq_true h5
  have c4 : leI (r.f1 + r.f3) h = true := by unfold leI; exact decide_eq_true h6
  unfold T71
  simp only [e1, e2, c1, c2, c3, c4, cond_true]
theorem run_ok (k : Nat) (hk : k ≤ 3) : ∀ (n i : Nat) (w h : Int) (r : S28), i + n = k → In r w h → ∃ a b c, iter (L27_9 (k : Int)) (w, h, r.f0, r.f1, r.f2, r.f3, (i : Int)) = some (a, b, (k : Int), c, (turns n w h r).f0, (turns n w h r).f1, (turns n w h r).f2, (turns n w h r).f3) := by
  intro n
  induction n with
  | zero =>
    intro i w h r hi hr
    have : i = k := by omega
    subst this
    have hlt : ltI (i : Int) (i : Int) = false := by unfold ltI; exact decide_eq_false (by omega)
    exact ⟨_, _, _, iter_inr (by unfold L27_9; simp only [hlt, cond_false]; rfl)⟩
  | succ n ih =>
    intro i w h r hi hr
    have hlt : ltI (i : Int) (k : Int) = true := by unfold ltI; exact decide_eq_true (by omega)
    obtain ⟨a, b, c, e⟩ := ih (i + 1) h w (t1 w h r) (by omega) (in_t1 hr)
    refine ⟨a, b, c, ?_⟩
    obtain ⟨h1, h2, h3, h4, h5, h6, h7, h8⟩ := hr
    have e1 : subI .i64 h r.f1 = h - r.f1 := subI_eq (by omega) (by omega)
    have e2 : subI .i64 (h - r.f1) r.f3 = h - r.f1 - r.f3 := subI_eq (by omega) (by omega)
    have hs : L27_9 (k : Int) (w, h, r.f0, r.f1, r.f2, r.f3, (i : Int)) = some (.inl (h, w, (t1 w h r).f0, (t1 w h r).f1, (t1 w h r).f2, (t1 w h r).f3, ((i + 1 : Nat) : Int))) := by
      unfold L27_9
      simp only [hlt, cond_true, e1, e2, nextI (i := i) (by omega), t1]
    rw [iter_inl hs]
    exact e
theorem turned_ok {r : S28} {w h : Int} (i : In r w h) (k : Nat) (hk : k ≤ 3) : T27 r w h (k : Int) = some (turns k w h r, 0) := by
  obtain ⟨a, b, c, e⟩ := run_ok k hk k 0 w h r (by omega) i
  have e : iter (L27_9 (k : Int)) (w, h, r.f0, r.f1, r.f2, r.f3, 0) = _ := e
  have hk4 : T70 (k : Int) 0 3 = some false := t70_in (by omega) (by omega)
  have hi := i
  obtain ⟨h1, h2, h3, h4, h5, h6, h7, h8⟩ := i
  unfold T27
  simp only [rect_ok hi, side_ok (show 1 ≤ w by omega) h7, side_ok (show 1 ≤ h by omega) h8, hk4, inside_ok hi, Option.bind_some, show neI 0 0 = false from rfl, cond_false, Bool.not_true, e]
theorem neI_self' (a : Int) : neI a a = false := by rw [neI_iff]; simp
theorem rnd {x1 x2 x3 x4 x5 x6 : Int × List Int × Int} (i : Nat) (hi : i ≤ 3) {x : S28} {y z : Int} (hx : In x y z) (hr : In ⟨x3.1, x4.1, x5.1, x6.1⟩ x1.1 x2.1) (e : turns i x1.1 x2.1 ⟨x3.1, x4.1, x5.1, x6.1⟩ = x) :
    L4_7 x1 x2 x3 x4 x5 x6 (x.f0, x.f1, x.f2, x.f3, y, z, (i : Int)) = some (.inl ((t1 y z x).f0, (t1 y z x).f1, (t1 y z x).f2, (t1 y z x).f3, z, y, ((i + 1 : Nat) : Int))) := by
  have hlt : ltI (i : Int) 4 = true := by unfold ltI; exact decide_eq_true (by omega)
  have h1 := turned_ok hr i hi
  rw [e] at h1
  have h2 : T27 ⟨x.f0, x.f1, x.f2, x.f3⟩ y z 1 = some (t1 y z x, 0) := turned_ok hx 1 (by omega)
  unfold L4_7
  simp only [hlt, cond_true, h1, Option.bind_some, show neI 0 0 = false from rfl, cond_false, eqI_self, allB, Bool.and_true, Bool.not_true, h2, nextI (i := i) (by omega)]
  simp only [t1, neI_self', cond_false]
theorem four {r : S28} {w h : Int} : turns 4 w h r = r := by
  cases r with
  | mk a b c d =>
    simp only [turns, t1]
    congr 1 <;> omega
theorem plain (p0 : (List Int)) (h0 : (p0.length ≤ 1048576 ∧ ∀ x ∈ p0, okI x)) : T4 p0 = some true := by
  have hL := h0.1
  obtain ⟨w, e1, w1, w2⟩ := range_ok (L := p0) (at_ := 0) (lo := 1) (hi := 20) hL (by decide) (by decide) (by decide) (by decide) (by decide)
  obtain ⟨h, e2, h1, h2⟩ := range_ok (L := p0) (at_ := 0 + 1) (lo := 1) (hi := 20) hL (by decide) (by decide) (by decide) (by decide) (by decide)
  have s1 : subI .i64 w 1 = w - 1 := subI_eq (by omega) (by omega)
  have s2 : subI .i64 h 1 = h - 1 := subI_eq (by omega) (by omega)
  obtain ⟨x, e3, x1, x2⟩ := range_ok (L := p0) (at_ := 0 + 1 + 1) (lo := 0) (hi := w - 1) hL (by decide) (by decide) (by decide) (by omega) (by omega)
  obtain ⟨y, e4, y1, y2⟩ := range_ok (L := p0) (at_ := 0 + 1 + 1 + 1) (lo := 0) (hi := h - 1) hL (by decide) (by decide) (by decide) (by omega) (by omega)
  have s3 : subI .i64 w x = w - x := subI_eq (by omega) (by omega)
  have s4 : subI .i64 h y = h - y := subI_eq (by omega) (by omega)
  obtain ⟨a, e5, a1, a2⟩ := range_ok (L := p0) (at_ := 0 + 1 + 1 + 1 + 1) (lo := 1) (hi := w - x) hL (by decide) (by decide) (by decide) (by omega) (by omega)
  obtain ⟨b, e6, b1, b2⟩ := range_ok (L := p0) (at_ := 0 + 1 + 1 + 1 + 1 + 1) (lo := 1) (hi := h - y) hL (by decide) (by decide) (by decide) (by omega) (by omega)
  have hr : In ⟨x, y, a, b⟩ w h := ⟨x1, y1, a1, b1, by simp only; omega, by simp only; omega, w2, h2⟩
  unfold T4
  simp only [e1, e2, e3, e4, e5, e6, s1, s2, s3, s4, Option.bind_some]
  generalize hq1 : (w, p0, (0 : Int) + 1) = q1
  generalize hq2 : (h, p0, (0 : Int) + 1 + 1) = q2
  generalize hq3 : (x, p0, (0 : Int) + 1 + 1 + 1) = q3
  generalize hq4 : (y, p0, (0 : Int) + 1 + 1 + 1 + 1) = q4
  generalize hq5 : (a, p0, (0 : Int) + 1 + 1 + 1 + 1 + 1) = q5
  generalize hq6 : (b, p0, (0 : Int) + 1 + 1 + 1 + 1 + 1 + 1) = q6
  have g1 : q1.1 = w := by rw [← hq1]
  have g2 : q2.1 = h := by rw [← hq2]
  have g3 : q3.1 = x := by rw [← hq3]
  have g4 : q4.1 = y := by rw [← hq4]
  have g5 : q5.1 = a := by rw [← hq5]
  have g6 : q6.1 = b := by rw [← hq6]
  have hr' : In ⟨q3.1, q4.1, q5.1, q6.1⟩ q1.1 q2.1 := by rw [g1, g2, g3, g4, g5, g6]; exact hr
  have i1 := in_t1 hr'
  have i2 := in_t1 i1
  have i3 := in_t1 i2
  have r0 := rnd (x1 := q1) (x2 := q2) (x3 := q3) (x4 := q4) (x5 := q5) (x6 := q6) 0 (by omega) hr' hr' rfl
  have r1 := rnd (x1 := q1) (x2 := q2) (x3 := q3) (x4 := q4) (x5 := q5) (x6 := q6) 1 (by omega) i1 hr' rfl
  have r2 := rnd (x1 := q1) (x2 := q2) (x3 := q3) (x4 := q4) (x5 := q5) (x6 := q6) 2 (by omega) i2 hr' rfl
  have r3 := rnd (x1 := q1) (x2 := q2) (x3 := q3) (x4 := q4) (x5 := q5) (x6 := q6) 3 (by omega) i3 hr' rfl
  have f4 : t1 q2.1 q1.1 (t1 q1.1 q2.1 (t1 q2.1 q1.1 (t1 q1.1 q2.1 ⟨q3.1, q4.1, q5.1, q6.1⟩))) = ⟨q3.1, q4.1, q5.1, q6.1⟩ := four (w := q1.1) (h := q2.1)
  rw [f4] at r3
  rw [g1, g2, g3, g4, g5, g6] at r0 r1 r2 r3
  have E : iter (L4_7 q1 q2 q3 q4 q5 q6) (x, y, a, b, w, h, 0) = some (.inl (w, h, 4, false, x, y, a, b)) := by
    have r0 : L4_7 q1 q2 q3 q4 q5 q6 (x, y, a, b, w, h, 0) = _ := r0
    rw [iter_inl r0, iter_inl r1, iter_inl r2, iter_inl r3]
    exact iter_inr rfl
  rw [E]
  simp only [Option.bind_some, Sum.elim_inl, eqI_self, allB, Bool.and_true, cond_true, ready_ok]
end Go.Abs.TKT
