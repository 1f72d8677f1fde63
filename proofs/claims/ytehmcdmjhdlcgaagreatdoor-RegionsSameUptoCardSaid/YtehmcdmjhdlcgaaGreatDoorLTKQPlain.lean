import Derived.Test.YtehmcdmjhdlcgaaGreatDoorLTKQR
import Derived.Test.YtehmcdmjhdlcgaaGreatDoorLPlS
import Derived.Test.YtehmcdmjhdlcgaaGreatDoorLPlU
import Derived.Test.YtehmcdmjhdlcgaaGreatDoorLPlL
set_option linter.unusedVariables false
set_option linter.unusedSimpArgs false
set_option maxRecDepth 10000
namespace Go.Abs.TKQ
open Go.RowKit Go.Proofs Go.Abs
theorem lit_sort1 (x : S182) : sortO (fun x y => T129 x y) [x] = some [x] := by
  obtain ⟨l', h1, h2, _⟩ := sortO_le (fun x y => T129 x y) (fun _ _ => True) (fun _ _ => .inl trivial) (fun _ _ _ _ _ => trivial) [x] (by simp) (by
    intro a ha b hb
    simp only [List.mem_singleton] at ha hb
    subst ha; subst hb
    refine ⟨_, rfl, ?_⟩
    have : subI .i64 b.f0 b.f0 = 0 := by unfold subI; rw [Int.sub_self]; rfl
    simp [this])
  rw [h1, List.perm_singleton.1 h2]
theorem lit_sort2 : sortO (fun x y => T129 x y) [⟨0, 2⟩, ⟨1, 3⟩] = some [⟨0, 2⟩, ⟨1, 3⟩] := by
  obtain ⟨l', h1, h2, h3⟩ := sortO_key (fun x y => T129 x y) (·.f0) [⟨0, 2⟩, ⟨1, 3⟩] (by simp) (by
    intro a ha b hb
    simp only [List.mem_cons, List.not_mem_nil, or_false] at ha hb
    rcases ha with rfl | rfl <;> rcases hb with rfl | rfl <;> exact ⟨_, rfl, by decide⟩)
  rw [h1]
  congr 1
  match l', h2.length_eq with
  | [a, b], _ =>
    have ha : a ∈ [(⟨0, 2⟩ : S182), ⟨1, 3⟩] := h2.mem_iff.1 (by simp)
    have hb : b ∈ [(⟨0, 2⟩ : S182), ⟨1, 3⟩] := h2.mem_iff.1 (by simp)
    have hp := h2.countP_eq (fun x : S182 => x.f0 == 0)
    simp only [List.mem_cons, List.not_mem_nil, or_false] at ha hb
    simp only [List.pairwise_cons, List.mem_singleton, forall_eq] at h3
    rcases ha with rfl | rfl <;> rcases hb with rfl | rfl
    · simp at hp
    · rfl
    · have := h3.1
      simp at this
    · simp at hp
abbrev r0 : S28 := S28.mk 0 0 2 2
abbrev r1 : S28 := S28.mk 1 1 2 2
theorem runs_nil (y : Int) : T106 [] y = some [] := by
  unfold T106
  rw [iter_run (r := (0, false, [])) 1 (by kernel_rfl)]
  simp only [Option.bind_some]
  rw [show sortO (fun x y => T129 x y) ([] : List S182) = some [] from by simp [sortO], Option.bind_some, iter_run (r := (0, false, [], [])) 1 (by kernel_rfl)]
  rfl
theorem runs0 : T106 [r0, r1] 0 = some [⟨0, 2⟩] := by
  unfold T106
  rw [iter_run (r := (2, false, [⟨0, 2⟩])) 3 (by kernel_rfl)]
  simp only [Option.bind_some]
  rw [lit_sort1, Option.bind_some, iter_run (r := (1, false, [⟨0, 2⟩], [⟨0, 2⟩])) 2 (by kernel_rfl)]
  rfl
theorem runs1 : T106 [r0, r1] 1 = some [⟨0, 3⟩] := by
  unfold T106
  rw [iter_run (r := (2, false, [⟨0, 2⟩, ⟨1, 3⟩])) 3 (by kernel_rfl)]
  simp only [Option.bind_some]
  rw [lit_sort2, Option.bind_some, iter_run (r := (2, false, [⟨0, 3⟩], [⟨0, 2⟩, ⟨1, 3⟩])) 3 (by kernel_rfl)]
  rfl
theorem runs2 : T106 [r0, r1] 2 = some [⟨1, 3⟩] := by
  unfold T106
  rw [iter_run (r := (2, false, [⟨1, 3⟩])) 3 (by kernel_rfl)]
  simp only [Option.bind_some]
  rw [lit_sort1, Option.bind_some, iter_run (r := (1, false, [⟨1, 3⟩], [⟨1, 3⟩])) 2 (by kernel_rfl)]
  rfl
theorem less_nil (x : S182) (hx : ltI x.f0 x.f1 = true) : T105 [x] [] = some [x] := by
  have h : L105_4 [x] [] ([], 0, 0) = some (.inl ([x], 0, 1)) := by
    unfold L105_4
    have e1 : ltI ((([], 0, 0) : List S182 × Int × Int).2.2) (lenL [x]) = true := rfl
    have e2 : listAt [x] ((([], 0, 0) : List S182 × Int × Int).2.2) = some x := rfl
    rw [e1, e2]
    simp only [cond_true, Option.bind_some]
    rw [iter_run (r := (0, false)) 1 (by kernel_rfl), Option.bind_some, iter_run (r := (0, false, [], x.f0)) 1 (by kernel_rfl)]
    simp only [Option.bind_some, hx, cond_true]
    rfl
  unfold T105
  rw [iter_inl h, iter_inr (r := (0, 1, false, [x])) (by kernel_rfl)]
  rfl
theorem same_no (a b : S182) (h : allB [eqI a.f0 b.f0, eqI a.f1 b.f1] = false) : T107 [a] [b] = some false := by
  unfold T107
  rw [iter_inr (r := .inr ()) (by
    unfold L107_4
    have e1 : ltI 0 (lenL [a]) = true := rfl
    have e2 : listAt [a] 0 = some a := rfl
    have e3 : listAt [b] 0 = some b := rfl
    rw [e1, e2, e3]
    simp only [cond_true, Option.bind_some, h, Bool.not_false])]
  rfl
theorem lit_region : T60 [r0, r1] [] = some [⟨0, 0, 2, 1⟩, ⟨0, 1, 3, 1⟩, ⟨1, 2, 2, 1⟩] := by
  unfold T60 T21
  rw [iter_run (r := (2, 2, false)) 3 (by kernel_rfl)]
  simp only [Option.bind_some]
  rw [show growO S28 32 2 = some [] by unfold growO; rw [if_pos (by decide)], Option.bind_some, iter_run (r := (2, false, [r0, r1])) 3 (by kernel_rfl)]
  simp only [Option.bind_some]
  rw [iter_run (r := (2, false, [0, 2, 1, 3], [r0, r1])) 3 (by kernel_rfl)]
  simp only [Option.bind_some]
  rw [show sortIO [0, 2, 1, 3] = some [0, 1, 2, 3] by
    unfold sortIO
    rw [if_pos (by simp), sortI_of (l' := [0, 1, 2, 3]) (by decide) (by decide)]]
  simp only [Option.bind_some]
  rw [show compIO [0, 1, 2, 3] = some [0, 1, 2, 3] by decide]
  simp only [Option.bind_some]
  have s0 : L60_13 [r0, r1] [] [0, 1, 2, 3] ([0, 1, 2, 3], [], [], 0, 0) = some (.inl ([0, 1, 2, 3], [], [⟨0, 2⟩], 0, 1)) := by
    unfold L60_13
    rw [show ltI ((([0, 1, 2, 3], [], [], 0, 0) : List Int × List S28 × List S182 × Int × Int).2.2.2.2) (lenL ([0, 1, 2, 3] : List Int)) = true by decide]
    simp only [cond_true]
    rw [show idxO (List.length ([0, 1, 2, 3] : List Int)) 0 = some 0 by decide]
    simp only [Option.bind_some]
    rw [show getN ([0, 1, 2, 3] : List Int) 0 = some 0 by decide]
    simp only [Option.bind_some]
    rw [show ltI (addI .i64 0 1) (lenL ([0, 1, 2, 3] : List Int)) = true by decide]
    simp only [cond_true]
    rw [runs0, runs_nil]
    simp only [Option.bind_some]
    rw [less_nil ⟨0, 2⟩ (by decide)]
    simp only [Option.bind_some]
    rw [show T107 [] [⟨0, 2⟩] = some false by unfold T107; rfl]
    simp only [Option.bind_some, cond_false]
    rw [iter_run (r := (0, false, [0, 1, 2, 3], [])) 1 (by kernel_rfl)]
    rfl
  have s1 : L60_13 [r0, r1] [] [0, 1, 2, 3] ([0, 1, 2, 3], [], [⟨0, 2⟩], 0, 1) = some (.inl ([0, 1, 2, 3], [⟨0, 0, 2, 1⟩], [⟨0, 3⟩], 1, 2)) := by
    unfold L60_13
    rw [show ltI ((([0, 1, 2, 3], [], [⟨0, 2⟩], 0, 1) : List Int × List S28 × List S182 × Int × Int).2.2.2.2) (lenL ([0, 1, 2, 3] : List Int)) = true by decide]
    simp only [cond_true]
    rw [show idxO (List.length ([0, 1, 2, 3] : List Int)) 1 = some 1 by decide]
    simp only [Option.bind_some]
    rw [show getN ([0, 1, 2, 3] : List Int) 1 = some 1 by decide]
    simp only [Option.bind_some]
    rw [show ltI (addI .i64 1 1) (lenL ([0, 1, 2, 3] : List Int)) = true by decide]
    simp only [cond_true]
    rw [runs1, runs_nil]
    simp only [Option.bind_some]
    rw [less_nil ⟨0, 3⟩ (by decide)]
    simp only [Option.bind_some]
    rw [same_no _ _ (by decide)]
    simp only [Option.bind_some, cond_false]
    rw [iter_run (r := (1, false, [0, 1, 2, 3], [⟨0, 0, 2, 1⟩])) 2 (by kernel_rfl)]
    rfl
  have s2 : L60_13 [r0, r1] [] [0, 1, 2, 3] ([0, 1, 2, 3], [⟨0, 0, 2, 1⟩], [⟨0, 3⟩], 1, 2) = some (.inl ([0, 1, 2, 3], [⟨0, 0, 2, 1⟩, ⟨0, 1, 3, 1⟩], [⟨1, 3⟩], 2, 3)) := by
    unfold L60_13
    rw [show ltI ((([0, 1, 2, 3], [⟨0, 0, 2, 1⟩], [⟨0, 3⟩], 1, 2) : List Int × List S28 × List S182 × Int × Int).2.2.2.2) (lenL ([0, 1, 2, 3] : List Int)) = true by decide]
    simp only [cond_true]
    rw [show idxO (List.length ([0, 1, 2, 3] : List Int)) 2 = some 2 by decide]
    simp only [Option.bind_some]
    rw [show getN ([0, 1, 2, 3] : List Int) 2 = some 2 by decide]
    simp only [Option.bind_some]
    rw [show ltI (addI .i64 2 1) (lenL ([0, 1, 2, 3] : List Int)) = true by decide]
    simp only [cond_true]
    rw [runs2, runs_nil]
    simp only [Option.bind_some]
    rw [less_nil ⟨1, 3⟩ (by decide)]
    simp only [Option.bind_some]
    rw [same_no _ _ (by decide)]
    simp only [Option.bind_some, cond_false]
    rw [iter_run (r := (1, false, [0, 1, 2, 3], [⟨0, 0, 2, 1⟩, ⟨0, 1, 3, 1⟩])) 2 (by kernel_rfl)]
    rfl
  have s3 : L60_13 [r0, r1] [] [0, 1, 2, 3] ([0, 1, 2, 3], [⟨0, 0, 2, 1⟩, ⟨0, 1, 3, 1⟩], [⟨1, 3⟩], 2, 3) = some (.inl ([0, 1, 2, 3], [⟨0, 0, 2, 1⟩, ⟨0, 1, 3, 1⟩, ⟨1, 2, 2, 1⟩], [], 3, 4)) := by
    unfold L60_13
    rw [show ltI ((([0, 1, 2, 3], [⟨0, 0, 2, 1⟩, ⟨0, 1, 3, 1⟩], [⟨1, 3⟩], 2, 3) : List Int × List S28 × List S182 × Int × Int).2.2.2.2) (lenL ([0, 1, 2, 3] : List Int)) = true by decide]
    simp only [cond_true]
    rw [show idxO (List.length ([0, 1, 2, 3] : List Int)) 3 = some 3 by decide]
    simp only [Option.bind_some]
    rw [show getN ([0, 1, 2, 3] : List Int) 3 = some 3 by decide]
    simp only [Option.bind_some]
    rw [show ltI (addI .i64 3 1) (lenL ([0, 1, 2, 3] : List Int)) = false by decide]
    simp only [cond_false]
    rw [show T107 [⟨1, 3⟩] [] = some false by unfold T107; rfl]
    simp only [Option.bind_some, cond_false]
    rw [iter_run (r := (1, false, [0, 1, 2, 3], [⟨0, 0, 2, 1⟩, ⟨0, 1, 3, 1⟩, ⟨1, 2, 2, 1⟩])) 2 (by kernel_rfl)]
    rfl
  rw [iter_inl s0, iter_inl s1, iter_inl s2, iter_inl s3, iter_inr (r := ([], 3, 4, false, [0, 1, 2, 3], [⟨0, 0, 2, 1⟩, ⟨0, 1, 3, 1⟩, ⟨1, 2, 2, 1⟩])) (by kernel_rfl)]
  rfl
theorem lit_area : T20 [r0, r1] = some (7, 0) := by
  unfold T20 T58 T61
  rw [iter_run (r := .inl (2, false)) 3 (by kernel_rfl)]
  rw [show (bif ltI 2000 (lenL ([r0, r1] : List S28)) then (some 2 : Option Int) else (some (Sum.inl (2, false) : (Int × Bool) ⊕ Int)).bind fun y3 => (Sum.elim (fun y3a => some 0) (fun y3b => some y3b) y3)) = some 0 by decide]
  simp only [Option.bind_some]
  rw [show neI 0 0 = false by decide]
  simp only [cond_false]
  rw [lit_region]
  simp only [Option.bind_some]
  rw [iter_run (r := (7, 3, false)) 4 (by kernel_rfl)]
  rfl
theorem r45 : T45 (S94.mk (ByteArray.mk #[97]) (ByteArray.mk #[]) (S92.mk 0 100) [] 10 0 0) 50 = some (5, 0) := by kernel_rfl
theorem r42 : T42 ([(S87.mk (ByteArray.mk #[112]) 0 100), (S87.mk (ByteArray.mk #[112]) 1000 1300)] : List S87) (ByteArray.mk #[112]) 700 = some (500, 0) := by kernel_rfl
theorem r67 : T67 (S136.mk (ByteArray.mk #[97]) (ByteArray.mk #[98]) 0 0 0 1 127 [] 1 2 0 [] false) 0 (S92.mk 0 86400000) = some ([S92.mk 60000 120000], 0) := by kernel_rfl
theorem r68 : T68 (S138.mk (ByteArray.mk #[97]) (ByteArray.mk #[115]) 1 [] 0 5 1 ([(S28.mk 0 0 2 2)] : List S28) (ByteArray.mk #[120])) (S142.mk (ByteArray.mk #[112]) 1 1) = some (true, 0) := by kernel_rfl
theorem ready_ok : T26 = some true := by
  unfold T26
  rw [lit_area, r45, r42, r67, r68]
  simp only [Option.bind_some]
  kernel_rfl
end Go.Abs.TKQ

set_option linter.unusedVariables false
set_option linter.unusedSimpArgs false
set_option maxRecDepth 10000
namespace Go.Abs.TKQ
open Go.RowKit Go.Proofs Go.Abs
theorem below_ok (x : Int) {n : Int} (hn : n ≤ 1000000000000000) : ∃ v, T102 x n = some v ∧ (1 ≤ n → 0 ≤ v ∧ v < n) ∧ (n < 1 → v = 0) := by
  unfold T102
  by_cases h : n < 1
  · rw [show ltI n 1 = true by unfold ltI; exact decide_eq_true h]
    exact ⟨0, rfl, fun h1 => by omega, fun _ => rfl⟩
  · rw [show ltI n 1 = false by unfold ltI; exact decide_eq_false h]
    have hr : remO .i64 x n = some (x.tmod n) := by unfold remO; rw [if_neg (by omega)]
    have h1 := Int.tmod_lt_of_pos x (by omega : 0 < n)
    have h2 := Int.lt_tmod_of_pos x (by omega : 0 < n)
    simp only [cond_false, hr, Option.bind_some]
    by_cases h0 : x.tmod n < 0
    · rw [show ltI (x.tmod n) 0 = true by unfold ltI; exact decide_eq_true h0]
      refine ⟨_, rfl, fun _ => ?_, fun h3 => by omega⟩
      rw [addI_eq (by omega) (by omega)]
      omega
    · rw [show ltI (x.tmod n) 0 = false by unfold ltI; exact decide_eq_false h0]
      exact ⟨_, rfl, fun _ => ⟨by omega, h1⟩, fun h3 => by omega⟩
theorem next_ok {L : List Int} {at_ n : Int} (hL : L.length ≤ 1048576) (h0 : 0 ≤ at_) (h1 : at_ ≤ 1000000000) (hn : n ≤ 1000000000000000) : ∃ v, T57 L at_ n = some (v, L, at_ + 1) ∧ (1 ≤ n → 0 ≤ v ∧ v < n) ∧ (n < 1 → v = 0) := by
  unfold T57
  have e1 : addI .i64 at_ 1 = at_ + 1 := addI_eq (by omega) (by omega)
  rw [e1]
  by_cases hl : L.length = 0
  · rw [show eqI (lenL L) 0 = true by rw [eqI_iff, lenL_eq, hl]; rfl]
    obtain ⟨v, h2, h3⟩ := below_ok (mulI .i64 (at_ + 1) 7919) hn
    simp only [cond_true, h2, Option.bind_some]
    exact ⟨v, rfl, h3⟩
  · rw [show eqI (lenL L) 0 = false by rw [eqI_iff, lenL_eq]; exact decide_eq_false (by omega)]
    have e2 : subI .i64 (at_ + 1) 1 = at_ := by rw [subI_eq (by omega) (by omega)]; omega
    have hr : remO .i64 at_ (lenL L) = some (at_.tmod L.length) := by unfold remO; rw [lenL_eq, if_neg (by omega)]
    have hq : ∃ q, quoO .i64 at_ (lenL L) = some q := by unfold quoO; rw [lenL_eq, if_neg (by omega)]; exact ⟨_, rfl⟩
    obtain ⟨q, hq⟩ := hq
    have h2 := Int.tmod_lt_of_pos at_ (by omega : (0 : Int) < L.length)
    have h3 := Int.tmod_nonneg (L.length : Int) h0
    generalize at_.tmod L.length = k at *
    obtain ⟨j, rfl⟩ : ∃ j : Nat, k = j := ⟨k.toNat, by omega⟩
    have hx := List.getElem?_eq_getElem (show j < L.length by omega)
    obtain ⟨v, h4, _⟩ := below_ok (L[j]'(by omega)) (n := 1073741824) (by omega)
    obtain ⟨u, h6, h7⟩ := below_ok (addI .i64 v (mulI .i64 q (addI .i64 7919 j))) hn
    simp only [cond_false, e2, hr, hq, Option.bind_some, listAt_some hx, h4, h6]
    exact ⟨u, rfl, h7⟩
theorem range_ok {L : List Int} {at_ lo hi : Int} (hL : L.length ≤ 1048576) (h0 : 0 ≤ at_) (h1 : at_ ≤ 1000000000) (hlo : -1000000000000 ≤ lo) (hle : lo ≤ hi) (hhi : hi ≤ 1000000000000) : ∃ v, T14 L at_ lo hi = some (v, L, at_ + 1) ∧ lo ≤ v ∧ v ≤ hi := by
  unfold T14
  rw [show ltI hi lo = false by unfold ltI; exact decide_eq_false (by omega)]
  have e1 : subI .i64 hi lo = hi - lo := subI_eq (by omega) (by omega)
  have e2 : addI .i64 (hi - lo) 1 = hi - lo + 1 := addI_eq (by omega) (by omega)
  obtain ⟨v, h2, h3, _⟩ := next_ok (n := hi - lo + 1) hL h0 h1 (by omega)
  have h4 := h3 (by omega)
  simp only [cond_false, e1, e2, h2, Option.bind_some]
  exact ⟨_, rfl, by rw [addI_eq (by omega) (by omega)]; omega, by rw [addI_eq (by omega) (by omega)]; omega⟩
theorem errs_ok : ∀ (l : List Int), l.length ≤ 100 → (∀ x ∈ l, x = 0) → T22 l = some 0 := by
  intro l hl h
  unfold T22
  have key : ∀ (i : Nat) (s : Unit), i < l.length → True → ∃ s' : Unit, L22_2 l (i : Int) = some (.inl ((i + 1 : Nat) : Int)) ∧ True := by
    intro i _ hi _
    have hx := List.getElem?_eq_getElem hi
    have := h _ (List.getElem_mem hi)
    refine ⟨(), ?_, trivial⟩
    unfold L22_2
    simp only [ltL_true hi, cond_true, listAt_some hx, Option.bind_some, this, show neI 0 0 = false from rfl, cond_false, nextI (i := i) (by omega)]
  obtain ⟨r, h1, y, rfl⟩ := iter_up (st := L22_2 l) (fun (_ : Unit) i => (i : Int)) l.length (fun _ _ => True) (fun r => ∃ y, r = .inl y) key (fun _ _ => ⟨_, by unfold L22_2; rw [ltL_false (Nat.le_refl _)]; rfl, _, rfl⟩) () trivial
  have h1 : iter (L22_2 l) 0 = some (.inl y) := h1
  rw [h1, Option.bind_some, Sum.elim_inl]
end Go.Abs.TKQ

set_option linter.unusedVariables false
set_option linter.unusedSimpArgs false
set_option maxRecDepth 10000
namespace Go.Abs.TKQ.R
open Go.RowKit Go.Proofs Go.Abs
def B (a : S182) : Prop := -100000 ≤ a.f0 ∧ a.f0 < a.f1 ∧ a.f1 ≤ 100000
def Can (l : List S182) : Prop := (∀ a ∈ l, B a) ∧ l.Pairwise fun a b => a.f1 < b.f0
def inn (l : List S182) (x : Int) : Prop := ∃ a, a ∈ l ∧ a.f0 ≤ x ∧ x < a.f1
theorem inn_nil (x : Int) : ¬ inn [] x := fun ⟨_, h, _⟩ => by simp at h
theorem inn_cons (a : S182) (l : List S182) (x : Int) : inn (a :: l) x ↔ (a.f0 ≤ x ∧ x < a.f1) ∨ inn l x := by
  unfold inn
  constructor
  · rintro ⟨b, h, h2⟩
    rcases List.mem_cons.1 h with e | e
    · subst e; exact .inl h2
    · exact .inr ⟨b, e, h2⟩
  · rintro (h | ⟨b, e, h2⟩)
    · exact ⟨a, by simp, h⟩
    · exact ⟨b, by simp [e], h2⟩
theorem inn_app (l : List S182) (a : S182) (x : Int) : inn (l ++ [a]) x ↔ inn l x ∨ (a.f0 ≤ x ∧ x < a.f1) := by
  unfold inn
  constructor
  · rintro ⟨b, h, h2⟩
    rcases List.mem_append.1 h with e | e
    · exact .inl ⟨b, e, h2⟩
    · rw [List.mem_singleton] at e
      subst e; exact .inr h2
  · rintro (⟨b, e, h2⟩ | h)
    · exact ⟨b, by simp [e], h2⟩
    · exact ⟨a, by simp, h⟩
theorem can_nil : Can [] := ⟨by simp, .nil⟩
theorem can_cons {a : S182} {l : List S182} : Can (a :: l) ↔ B a ∧ Can l ∧ ∀ b ∈ l, a.f1 < b.f0 := by
  unfold Can
  rw [List.pairwise_cons, List.forall_mem_cons]
  constructor
  · rintro ⟨⟨h1, h2⟩, h3, h4⟩
    exact ⟨h1, ⟨h2, h4⟩, h3⟩
  · rintro ⟨h1, ⟨h2, h4⟩, h3⟩
    exact ⟨⟨h1, h2⟩, h3, h4⟩
theorem can_app {a : S182} {l : List S182} : Can (l ++ [a]) ↔ B a ∧ Can l ∧ ∀ b ∈ l, b.f1 < a.f0 := by
  unfold Can
  rw [List.pairwise_append]
  constructor
  · rintro ⟨h1, h2, h3, h4⟩
    exact ⟨h1 a (by simp), ⟨fun b hb => h1 b (by simp [hb]), h2⟩, fun b hb => h4 b hb a (by simp)⟩
  · rintro ⟨h1, ⟨h2, h4⟩, h3⟩
    refine ⟨fun b hb => ?_, h4, by simp, fun b hb c hc => ?_⟩
    · rcases List.mem_append.1 hb with e | e
      · exact h2 b e
      · rw [List.mem_singleton] at e
        subst e; exact h1
    · rw [List.mem_singleton] at hc
      subst hc; exact h3 b hb
theorem can_lo {a : S182} {l : List S182} (h : Can (a :: l)) {x : Int} (hx : inn (a :: l) x) : a.f0 ≤ x := by
  obtain ⟨h1, h2, h3⟩ := can_cons.1 h
  rcases (inn_cons a l x).1 hx with h | ⟨b, hb, h⟩
  · exact h.1
  · have := h3 b hb
    unfold B at h1
    omega
theorem can_gap {a : S182} {l : List S182} (h : Can (a :: l)) {x : Int} (hx : inn l x) : a.f1 < x := by
  obtain ⟨h1, h2, h3⟩ := can_cons.1 h
  obtain ⟨b, hb, h⟩ := hx
  have := h3 b hb
  omega
theorem can_end {a b : S182} {l m : List S182} (hl : Can (a :: l)) (hm : Can (b :: m)) (h : ∀ x, inn (a :: l) x → inn (b :: m) x) (e : a.f0 = b.f0) : ¬ b.f1 < a.f1 := by
  intro hlt
  have hb := (can_cons.1 hm).1
  unfold B at hb
  have h1 : inn (b :: m) b.f1 := h _ ((inn_cons _ _ _).2 (.inl ⟨by omega, hlt⟩))
  rcases (inn_cons _ _ _).1 h1 with h2 | h2
  · omega
  · have := can_gap hm h2
    omega
theorem can_unique : ∀ (l m : List S182), Can l → Can m → (∀ x, inn l x ↔ inn m x) → l = m := by
  intro l
  induction l with
  | nil =>
    intro m _ hm h
    cases m with
    | nil => rfl
    | cons b m =>
      have hb := (can_cons.1 hm).1
      unfold B at hb
      exact absurd ((h b.f0).2 ((inn_cons _ _ _).2 (.inl ⟨Int.le_refl _, hb.2.1⟩))) (inn_nil _)
  | cons a l ih =>
    intro m hl hm h
    have ha := (can_cons.1 hl).1
    unfold B at ha
    cases m with
    | nil => exact absurd ((h a.f0).1 ((inn_cons _ _ _).2 (.inl ⟨Int.le_refl _, ha.2.1⟩))) (inn_nil _)
    | cons b m =>
      have hb := (can_cons.1 hm).1
      unfold B at hb
      have e0 : a.f0 = b.f0 := by
        have h1 := can_lo hm ((h a.f0).1 ((inn_cons _ _ _).2 (.inl ⟨Int.le_refl _, ha.2.1⟩)))
        have h2 := can_lo hl ((h b.f0).2 ((inn_cons _ _ _).2 (.inl ⟨Int.le_refl _, hb.2.1⟩)))
        omega
      have e1 : a.f1 = b.f1 := by
        have h1 := can_end hl hm (fun x => (h x).1) e0
        have h2 := can_end hm hl (fun x => (h x).2) e0.symm
        omega
      have e : a = b := by cases a; cases b; simp_all
      subst e
      rw [ih m (can_cons.1 hl).2.1 (can_cons.1 hm).2.1 fun x => ⟨fun hx => ?_, fun hx => ?_⟩]
      · have hg := can_gap hl hx
        rcases (inn_cons _ _ _).1 ((h x).1 ((inn_cons _ _ _).2 (.inr hx))) with h1 | h1
        · omega
        · exact h1
      · have hg := can_gap hm hx
        rcases (inn_cons _ _ _).1 ((h x).2 ((inn_cons _ _ _).2 (.inr hx))) with h1 | h1
        · omega
        · exact h1
theorem can_len_lo (l : List S182) (lo : Int) (h : Can l) (hlo : ∀ a ∈ l, lo ≤ a.f0) (hb : lo ≤ 100000) : (l.length : Int) ≤ 100000 - lo := by
  induction l generalizing lo with
  | nil => simp; omega
  | cons a l ih =>
    obtain ⟨h1, h2, h3⟩ := can_cons.1 h
    unfold B at h1
    have := ih a.f1 h2 (fun b hb => by have := h3 b hb; omega) (by omega)
    have h4 := hlo a (by simp)
    rw [List.length_cons]
    omega
theorem can_len {l : List S182} (h : Can l) : l.length ≤ 200000 := by
  have := can_len_lo l (-100000) h (fun a ha => (h.1 a ha).1) (by omega)
  omega
def W (r : S28) : Prop := -100000 ≤ r.f0 ∧ -100000 ≤ r.f1 ∧ 1 ≤ r.f2 ∧ r.f0 + r.f2 ≤ 100000 ∧ 1 ≤ r.f3 ∧ r.f1 + r.f3 ≤ 100000
def has (r : S28) (x y : Int) : Prop := r.f0 ≤ x ∧ x < r.f0 + r.f2 ∧ r.f1 ≤ y ∧ y < r.f1 + r.f3
def hasL (p : List S28) (x y : Int) : Prop := ∃ r, r ∈ p ∧ has r x y
theorem w_edge {r : S28} (h : W r) : addI .i64 r.f0 r.f2 = r.f0 + r.f2 ∧ addI .i64 r.f1 r.f3 = r.f1 + r.f3 := by
  unfold W at h
  exact ⟨addI_eq (by omega) (by omega), addI_eq (by omega) (by omega)⟩
theorem raw_ok (p : List S28) (y : Int) (hW : ∀ r ∈ p, W r) (hl : p.length ≤ 1000000) : ∃ r, iter (L106_3 p y) ([], 0) = some r ∧ r.2.2.length ≤ p.length ∧ (∀ a ∈ r.2.2, B a) ∧ ∀ x, inn r.2.2 x ↔ hasL p x y := by
  refine iter_up (st := L106_3 p y) (fun (s : List S182) i => (s, (i : Int))) p.length (fun i s => s.length ≤ i ∧ (∀ a ∈ s, B a) ∧ ∀ x, inn s x ↔ upto p i fun r => has r x y) (fun r => r.2.2.length ≤ p.length ∧ (∀ a ∈ r.2.2, B a) ∧ ∀ x, inn r.2.2 x ↔ hasL p x y) ?_ ?_ [] ⟨Nat.le_refl _, by simp, fun x => ⟨fun h => absurd h (inn_nil x), fun h => absurd h (upto_zero _ _)⟩⟩
  · intro i s hi ⟨h1, h2, h3⟩
    obtain ⟨r, hr⟩ : ∃ r, p[i]? = some r := ⟨_, List.getElem?_eq_getElem hi⟩
    have hw := hW r (List.mem_of_getElem? hr)
    have he := w_edge hw
    unfold W at hw
    have hno : ∀ s', s' = s → (∀ x, ¬ has r x y) → s'.length ≤ i + 1 ∧ (∀ a ∈ s', B a) ∧ ∀ x, inn s' x ↔ upto p (i + 1) fun r => has r x y := by
      intro s' e hx
      subst e
      refine ⟨by omega, h2, fun x => ?_⟩
      rw [upto_succ _ hr, h3]
      exact ⟨.inl, fun h => h.resolve_right (hx x)⟩
    simp only [L106_3, ltL_true hi, listAt_some hr, cond_true, Option.bind_some, he.1, he.2, nextI (show i < 9223372036854775807 by omega)]
    by_cases c1 : r.f1 ≤ y
    · rw [show leI r.f1 y = true from decide_eq_true c1]
      by_cases c2 : y < r.f1 + r.f3
      · rw [show ltI y (r.f1 + r.f3) = true from decide_eq_true c2, appO_big (by omega) (by simp only [List.length_cons, List.length_nil]; omega)]
        refine ⟨_, rfl, ?_, ?_, fun x => ?_⟩
        · simp only [List.length_append, List.length_cons, List.length_nil]; omega
        · intro a ha
          rcases List.mem_append.1 ha with e | e
          · exact h2 a e
          · rw [List.mem_singleton] at e
            subst e
            unfold B
            simp only
            omega
        · rw [inn_app, h3, upto_succ _ hr]
          simp only [has]
          constructor
          · rintro (h | h)
            · exact .inl h
            · exact .inr ⟨h.1, h.2, c1, c2⟩
          · rintro (h | h)
            · exact .inl h
            · exact .inr ⟨h.1, h.2.1⟩
      · rw [show ltI y (r.f1 + r.f3) = false from decide_eq_false c2]
        exact ⟨s, rfl, hno s rfl fun x h => by unfold has at h; omega⟩
    · rw [show leI r.f1 y = false from decide_eq_false c1]
      exact ⟨s, rfl, hno s rfl fun x h => by unfold has at h; omega⟩
  · intro s ⟨h1, h2, h3⟩
    simp only [L106_3, ltL_false (Nat.le_refl _), cond_false]
    exact ⟨_, rfl, h1, h2, fun x => (h3 x).trans (upto_len _)⟩
theorem sorted_ok (l : List S182) (hB : ∀ a ∈ l, B a) (hl : l.length ≤ 1000000) : ∃ l', sortO (fun x y => T129 x y) l = some l' ∧ l'.Perm l ∧ l'.Pairwise fun a b => a.f0 ≤ b.f0 :=
  sortO_key _ (fun a => a.f0) l (by omega) fun x hx y hy => by
    have h1 := hB x hx
    have h2 := hB y hy
    unfold B at h1 h2
    refine ⟨x.f0 - y.f0, ?_, by omega⟩
    unfold T129
    rw [subI_eq (by omega) (by omega)]
theorem merge_ok (l : List S182) (hB : ∀ a ∈ l, B a) (hs : l.Pairwise fun a b => a.f0 ≤ b.f0) (hl : l.length ≤ 1000000) : ∃ r, iter (L106_11 l) ([], l, 0) = some r ∧ Can r.2.2.1 ∧ ∀ x, inn r.2.2.1 x ↔ inn l x := by
  refine iter_up (st := L106_11 l) (fun (s : List S182) i => (s, l, (i : Int))) l.length (fun i s => Can s ∧ (∀ a ∈ s, ∃ j b, j < i ∧ l[j]? = some b ∧ a.f0 = b.f0) ∧ ∀ x, inn s x ↔ upto l i fun r => r.f0 ≤ x ∧ x < r.f1) (fun r => Can r.2.2.1 ∧ ∀ x, inn r.2.2.1 x ↔ inn l x) ?_ ?_ [] ⟨can_nil, by simp, fun x => ⟨fun h => absurd h (inn_nil x), fun h => absurd h (upto_zero _ _)⟩⟩
  · intro i s hi ⟨h1, h2, h3⟩
    obtain ⟨r, hr⟩ : ∃ r, l[i]? = some r := ⟨_, List.getElem?_eq_getElem hi⟩
    have hb := hB r (List.mem_of_getElem? hr)
    have hle : ∀ a ∈ s, a.f0 ≤ r.f0 := by
      intro a ha
      obtain ⟨j, b, hj, hjb, e⟩ := h2 a ha
      have := List.pairwise_iff_getElem.1 hs j i (by omega) hi hj
      rw [(List.getElem?_eq_some_iff.1 hjb).2, (List.getElem?_eq_some_iff.1 hr).2] at this
      omega
    have hlen := can_len h1
    simp only [L106_11, ltL_true hi, idx_nat hi, getN_some hr, cond_true, Option.bind_some, nextI (show i < 9223372036854775807 by omega)]
    rcases List.eq_nil_or_concat s with e | ⟨q, b, e⟩
    · subst e
      rw [show leI 0 (subI .i64 (lenL ([] : List S182)) 1) = false from rfl]
      simp only [cond_false]
      rw [appO_big (by omega) (by simp)]
      refine ⟨_, rfl, can_app.2 ⟨hb, h1, by simp⟩, ?_, fun x => ?_⟩
      · intro a ha
        rw [List.nil_append, List.mem_singleton] at ha
        subst ha
        exact ⟨i, a, by omega, hr, rfl⟩
      · rw [inn_app, h3, upto_succ _ hr]
    · subst e
      simp only [List.concat_eq_append] at *
      have hql : q.length < 200000 := by simp only [List.length_append, List.length_cons, List.length_nil] at hlen; omega
      have hlast := last_len q b (by omega)
      obtain ⟨hb1, hq, hqb⟩ := can_app.1 h1
      have hbr := hle b (by simp)
      simp only [hlast, idx_nat (show q.length < (q ++ [b]).length by simp), last_at, Option.bind_some, last_set]
      rw [show leI 0 (q.length : Int) = true from decide_eq_true (by omega)]
      simp only [cond_true]
      by_cases c : r.f0 ≤ b.f1
      · rw [show leI r.f0 b.f1 = true from decide_eq_true c]
        simp only [cond_true, maxI_eq]
        refine ⟨_, rfl, can_app.2 ⟨?_, hq, hqb⟩, ?_, fun x => ?_⟩
        · unfold B at *
          simp only
          omega
        · intro a ha
          rcases List.mem_append.1 ha with e | e
          · obtain ⟨j, b, hj, hjb, e⟩ := h2 a (by simp [e])
            exact ⟨j, b, by omega, hjb, e⟩
          · rw [List.mem_singleton] at e
            subst e
            obtain ⟨j, b', hj, hjb, e⟩ := h2 b (by simp)
            exact ⟨j, b', by omega, hjb, e⟩
        · have h4 := h3 x
          rw [inn_app] at h4
          rw [inn_app, upto_succ _ hr, ← h4]
          unfold B at *
          simp only
          generalize inn q x = A
          constructor
          · rintro (h | h)
            · exact .inl (.inl h)
            · by_cases hxb : x < b.f1
              · exact .inl (.inr ⟨h.1, hxb⟩)
              · exact .inr (by omega)
          · rintro ((h | h) | h)
            · exact .inl h
            · exact .inr (by omega)
            · exact .inr (by omega)
      · rw [show leI r.f0 b.f1 = false from decide_eq_false c]
        simp only [cond_false]
        rw [appO_big (by omega) (by simp only [List.length_append, List.length_cons, List.length_nil]; omega)]
        refine ⟨_, rfl, can_app.2 ⟨hb, h1, ?_⟩, ?_, fun x => ?_⟩
        · intro a ha
          rcases List.mem_append.1 ha with e | e
          · have := hqb a e
            unfold B at *
            omega
          · rw [List.mem_singleton] at e
            subst e
            omega
        · intro a ha
          rcases List.mem_append.1 ha with e | e
          · obtain ⟨j, b, hj, hjb, e⟩ := h2 a e
            exact ⟨j, b, by omega, hjb, e⟩
          · rw [List.mem_singleton] at e
            subst e
            exact ⟨i, a, by omega, hr, rfl⟩
        · rw [inn_app, h3, upto_succ _ hr]
  · intro s ⟨h1, h2, h3⟩
    simp only [L106_11, ltL_false (Nat.le_refl _), cond_false]
    exact ⟨_, rfl, h1, fun x => (h3 x).trans (upto_len _)⟩
theorem runs_ok (p : List S28) (y : Int) (hW : ∀ r ∈ p, W r) (hl : p.length ≤ 1000000) : ∃ l, T106 p y = some l ∧ Can l ∧ ∀ x, inn l x ↔ hasL p x y := by
  obtain ⟨r, h1, h2, h3, h4⟩ := raw_ok p y hW hl
  obtain ⟨l, h5, h6, h7⟩ := sorted_ok r.2.2 h3 (by omega)
  have hB : ∀ a ∈ l, B a := fun a ha => h3 a (h6.mem_iff.1 ha)
  obtain ⟨q, h8, h9, h10⟩ := merge_ok l hB h7 (by rw [h6.length_eq]; omega)
  refine ⟨q.2.2.1, ?_, h9, fun x => ?_⟩
  · unfold T106
    rw [h1, Option.bind_some, h5, Option.bind_some, h8, Option.bind_some]
  · rw [h10, ← h4]
    unfold inn
    exact ⟨fun ⟨a, h, e⟩ => ⟨a, h6.mem_iff.1 h, e⟩, fun ⟨a, h, e⟩ => ⟨a, h6.mem_iff.2 h, e⟩⟩
theorem skip_ok (l m : List S182) (z0 : List S182 × Int × Int) (x1 : S182) (hm : m.length ≤ 1000000) (j : Nat) (hj : j ≤ m.length) (hk : ∀ k b, k < j → m[k]? = some b → b.f1 ≤ x1.f0) :
    ∃ r, iter (L105_6 l m z0 x1) (j : Int) = some r ∧ ∃ j' : Nat, r.1 = (j' : Int) ∧ j' ≤ m.length ∧ ∀ k b, k < j' → m[k]? = some b → b.f1 ≤ x1.f0 := by
  refine iter_upx (st := L105_6 l m z0 x1) (fun (_ : Unit) i => (i : Int)) m.length (fun i _ => ∀ k b, k < i → m[k]? = some b → b.f1 ≤ x1.f0) (fun r => ∃ j' : Nat, r.1 = (j' : Int) ∧ j' ≤ m.length ∧ ∀ k b, k < j' → m[k]? = some b → b.f1 ≤ x1.f0) ?_ ?_ j () hj hk
  · intro i _ hi h
    obtain ⟨r, hr⟩ : ∃ r, m[i]? = some r := ⟨_, List.getElem?_eq_getElem hi⟩
    simp only [L105_6, ltL_true hi, listAt_some hr, cond_true, Option.bind_some, nextI (show i < 9223372036854775807 by omega)]
    by_cases c : r.f1 ≤ x1.f0
    · rw [show leI r.f1 x1.f0 = true from decide_eq_true c]
      refine .inl ⟨(), rfl, fun k b hk hb => ?_⟩
      by_cases e : k = i
      · subst e
        rw [hr] at hb
        cases hb
        exact c
      · exact h k b (by omega) hb
    · rw [show leI r.f1 x1.f0 = false from decide_eq_false c]
      exact .inr ⟨_, rfl, i, rfl, by omega, h⟩
  · intro _ h
    simp only [L105_6, ltL_false (Nat.le_refl _), cond_false]
    exact ⟨_, rfl, m.length, rfl, Nat.le_refl _, h⟩
theorem can_lt {m : List S182} (hm : Can m) {i j : Nat} {a b : S182} (ha : m[i]? = some a) (hb : m[j]? = some b) (h : i < j) : a.f1 < b.f0 := by
  have h1 := (List.getElem?_eq_some_iff.1 ha)
  have h2 := (List.getElem?_eq_some_iff.1 hb)
  obtain ⟨h1, e1⟩ := h1
  obtain ⟨h2, e2⟩ := h2
  have := List.pairwise_iff_getElem.1 hm.2 i j h1 h2 h
  rw [e1, e2] at this
  exact this
structure Cut (m : List S182) (x1 : S182) (P : Int → Prop) (i : Nat) (s : List S182) (fr : Int) : Prop where
  can : Can s
  lt : ∀ a ∈ s, a.f1 < fr
  hi : ∀ a ∈ s, a.f1 ≤ x1.f1
  lo : x1.f0 ≤ fr
  past : ∀ k b, k < i → m[k]? = some b → b.f1 ≤ fr
  pts : ∀ x, inn s x ↔ P x ∨ (x1.f0 ≤ x ∧ x < fr ∧ x < x1.f1 ∧ ¬ inn m x)
theorem cut_ok (l m : List S182) (z0 : List S182 × Int × Int) (x1 : S182) (y3 : Int × Bool) (hm : Can m) (hx1 : B x1) (P : Int → Prop) (j : Nat) (hj : j ≤ m.length) (s : List S182) (fr : Int) (hs : Cut m x1 P j s fr) :
    ∃ r, iter (L105_9 l m z0 x1 y3) (s, fr, (j : Int)) = some r ∧ ∃ i, Cut m x1 P i r.2.2.1 r.2.2.2 ∧ ∀ x, r.2.2.2 ≤ x → x < x1.f1 → ¬ inn m x := by
  have hlm := can_len hm
  refine iter_upx (st := L105_9 l m z0 x1 y3) (fun (s : List S182 × Int) i => (s.1, s.2, (i : Int))) m.length (fun i s => Cut m x1 P i s.1 s.2) (fun r => ∃ i, Cut m x1 P i r.2.2.1 r.2.2.2 ∧ ∀ x, r.2.2.2 ≤ x → x < x1.f1 → ¬ inn m x) ?_ ?_ j (s, fr) hj hs
  · rintro i ⟨s, fr⟩ hi h
    obtain ⟨r, hr⟩ : ∃ r, m[i]? = some r := ⟨_, List.getElem?_eq_getElem hi⟩
    have hb := hm.1 r (List.mem_of_getElem? hr)
    unfold B at hb hx1
    have hslen : s.length ≤ 200000 := can_len h.can
    simp only [L105_9, ltL_true hi, listAt_some hr, cond_true, Option.bind_some, nextI (show i < 9223372036854775807 by omega), maxI_eq]
    have hG : ∀ x, r.f0 ≤ x → x < r.f1 → inn m x := fun x h1 h2 => ⟨r, List.mem_of_getElem? hr, h1, h2⟩
    have hpast : ∀ k b, k < i + 1 → m[k]? = some b → b.f1 ≤ max fr r.f1 := by
      intro k b hk hkb
      by_cases e : k = i
      · subst e
        rw [hr] at hkb
        cases hkb
        omega
      · have := h.past k b (by omega) hkb
        omega
    by_cases c : r.f0 < x1.f1
    · rw [show ltI r.f0 x1.f1 = true from decide_eq_true c]
      simp only [cond_true]
      left
      by_cases c2 : fr < r.f0
      · rw [show ltI fr r.f0 = true from decide_eq_true c2, appO_big (by omega) (by simp only [List.length_cons, List.length_nil]; omega)]
        have hF : ∀ x, fr ≤ x → x < r.f0 → ¬ inn m x := by
          rintro x h1 h2 ⟨b, hbm, h3, h4⟩
          obtain ⟨k, hk⟩ := List.getElem?_of_mem hbm
          rcases Nat.lt_trichotomy k i with e | e | e
          · have := h.past k b e hk
            omega
          · subst e
            rw [hr] at hk
            cases hk
            omega
          · have := can_lt hm hr hk e
            omega
        have hlo := h.lo
        refine ⟨(_, _), rfl, ⟨can_app.2 ⟨?_, h.can, h.lt⟩, ?_, ?_, ?_, hpast, fun x => ?_⟩⟩
        · unfold B; simp only; omega
        · intro a ha
          simp only at ha ⊢
          rcases List.mem_append.1 ha with e | e
          · have := h.lt a e
            simp only at this
            omega
          · rw [List.mem_singleton] at e
            subst e
            simp only
            omega
        · intro a ha
          rcases List.mem_append.1 ha with e | e
          · exact h.hi a e
          · rw [List.mem_singleton] at e
            subst e
            simp only
            omega
        · simp only; simp only at hlo; omega
        · simp only
          rw [inn_app, h.pts x]
          simp only
          simp only at hlo
          constructor
          · rintro ((hh | hh) | hh)
            · exact .inl hh
            · exact .inr ⟨hh.1, by omega, hh.2.2.1, hh.2.2.2⟩
            · exact .inr ⟨by omega, by omega, by omega, hF x hh.1 hh.2⟩
          · rintro (hh | ⟨h1, h2, h3, h4⟩)
            · exact .inl (.inl hh)
            · by_cases hx : x < fr
              · exact .inl (.inr ⟨h1, hx, h3, h4⟩)
              · have : ¬ r.f0 ≤ x := fun h5 => h4 (hG x h5 (by omega))
                exact .inr ⟨by omega, by omega⟩
      · rw [show ltI fr r.f0 = false from decide_eq_false c2]
        have hlo := h.lo
        refine ⟨(_, _), rfl, ⟨h.can, ?_, h.hi, ?_, hpast, fun x => ?_⟩⟩
        · intro a ha
          have := h.lt a ha
          simp only at this ⊢
          omega
        · simp only; simp only at hlo; omega
        · simp only
          have := h.pts x
          simp only at this
          rw [this]
          constructor
          · rintro (hh | hh)
            · exact .inl hh
            · exact .inr ⟨hh.1, by omega, hh.2.2.1, hh.2.2.2⟩
          · rintro (hh | ⟨h1, h2, h3, h4⟩)
            · exact .inl hh
            · by_cases hx : x < fr
              · exact .inr ⟨h1, hx, h3, h4⟩
              · exact absurd (hG x (by omega) (by omega)) h4
    · rw [show ltI r.f0 x1.f1 = false from decide_eq_false c]
      right
      refine ⟨_, rfl, i, h, ?_⟩
      simp only
      rintro x h1 h2 ⟨b, hbm, h3, h4⟩
      obtain ⟨k, hk⟩ := List.getElem?_of_mem hbm
      rcases Nat.lt_trichotomy k i with e | e | e
      · have := h.past k b e hk
        simp only at this
        omega
      · subst e
        rw [hr] at hk
        cases hk
        omega
      · have := can_lt hm hr hk e
        omega
  · rintro ⟨s, fr⟩ h
    simp only [L105_9, ltL_false (Nat.le_refl _), cond_false]
    refine ⟨_, rfl, m.length, h, ?_⟩
    simp only
    rintro x h1 h2 ⟨b, hbm, h3, h4⟩
    obtain ⟨k, hk⟩ := List.getElem?_of_mem hbm
    have := h.past k b (List.getElem?_eq_some_iff.1 hk).1 hk
    simp only at this
    omega
theorem less_ok (l m : List S182) (hl : Can l) (hm : Can m) : ∃ o, T105 l m = some o ∧ Can o ∧ ∀ x, inn o x ↔ inn l x ∧ ¬ inn m x := by
  have hll := can_len hl
  have hlm := can_len hm
  suffices H : ∃ r, iter (L105_4 l m) ([], 0, 0) = some r ∧ Can r.2.2.2 ∧ ∀ x, inn r.2.2.2 x ↔ inn l x ∧ ¬ inn m x by
    obtain ⟨r, h1, h2, h3⟩ := H
    refine ⟨r.2.2.2, ?_, h2, h3⟩
    unfold T105
    rw [h1, Option.bind_some]
  refine iter_up (st := L105_4 l m) (fun (s : List S182 × Nat) i => (s.1, (s.2 : Int), (i : Int))) l.length
    (fun i s => Can s.1 ∧ s.2 ≤ m.length ∧ (∀ k b i' x, k < s.2 → m[k]? = some b → i ≤ i' → l[i']? = some x → b.f1 ≤ x.f0) ∧ (∀ a i' x, a ∈ s.1 → i ≤ i' → l[i']? = some x → a.f1 < x.f0) ∧ ∀ x, inn s.1 x ↔ (upto l i fun r => r.f0 ≤ x ∧ x < r.f1) ∧ ¬ inn m x)
    (fun r => Can r.2.2.2 ∧ ∀ x, inn r.2.2.2 x ↔ inn l x ∧ ¬ inn m x) ?_ ?_ ([], 0) ⟨can_nil, Nat.zero_le _, ?_, ?_, fun x => ⟨fun h => absurd h (inn_nil x), fun h => absurd h.1 (upto_zero _ _)⟩⟩
  · rintro i ⟨s, j⟩ hi ⟨h1, h2, h3, h4, h5⟩
    simp only at h1 h2 h3 h4 h5
    obtain ⟨r, hr⟩ : ∃ r, l[i]? = some r := ⟨_, List.getElem?_eq_getElem hi⟩
    have hb := hl.1 r (List.mem_of_getElem? hr)
    obtain ⟨q, q1, j', q2, q3, q4⟩ := skip_ok l m (s, (j : Int), (i : Int)) r (by omega) j h2 fun k b hk hkb => h3 k b i r hk hkb (Nat.le_refl _) hr
    have hcut : Cut m r (fun x => (upto l i fun r => r.f0 ≤ x ∧ x < r.f1) ∧ ¬ inn m x) j' s r.f0 := by
      refine ⟨h1, fun a ha => h4 a i r ha (Nat.le_refl _) hr, fun a ha => ?_, Int.le_refl _, q4, fun x => ?_⟩
      · have := h4 a i r ha (Nat.le_refl _) hr
        unfold B at hb
        omega
      · rw [h5]
        exact ⟨.inl, fun h => h.resolve_right fun h => by omega⟩
    obtain ⟨u, u1, i', u2, u3⟩ := cut_ok l m (s, (j : Int), (i : Int)) r q hm hb _ j' q3 s r.f0 hcut
    have hulen := can_len u2.can
    simp only [L105_4, ltL_true hi, listAt_some hr, cond_true, Option.bind_some, nextI (show i < 9223372036854775807 by omega)]
    rw [q1, Option.bind_some, q2, u1, Option.bind_some]
    have hnext : ∀ k b i' x, k < j' → m[k]? = some b → i + 1 ≤ i' → l[i']? = some x → b.f1 ≤ x.f0 := by
      intro k b i' x hk hkb hi' hx
      have h6 := q4 k b hk hkb
      have h7 := can_lt hl hr hx (by omega)
      unfold B at hb
      omega
    by_cases c : u.2.2.2 < r.f1
    · rw [show ltI u.2.2.2 r.f1 = true from decide_eq_true c, appO_big (by omega) (by simp only [List.length_cons, List.length_nil]; omega)]
      have hlo := u2.lo
      refine ⟨(_, j'), rfl, can_app.2 ⟨?_, u2.can, u2.lt⟩, q3, hnext, ?_, fun x => ?_⟩
      · unfold B at hb ⊢
        simp only
        omega
      · intro a i' x ha hi' hx
        have h7 := can_lt hl hr hx (by omega)
        simp only at ha
        rcases List.mem_append.1 ha with e | e
        · have := u2.hi a e
          omega
        · rw [List.mem_singleton] at e
          subst e
          exact h7
      · simp only
        rw [inn_app, u2.pts x, upto_succ _ hr]
        simp only
        constructor
        · rintro ((hh | hh) | hh)
          · exact ⟨.inl hh.1, hh.2⟩
          · exact ⟨.inr ⟨hh.1, hh.2.2.1⟩, hh.2.2.2⟩
          · exact ⟨.inr ⟨by omega, hh.2⟩, u3 x hh.1 hh.2⟩
        · rintro ⟨hh | hh, hn⟩
          · exact .inl (.inl ⟨hh, hn⟩)
          · by_cases hx : x < u.2.2.2
            · exact .inl (.inr ⟨hh.1, hx, hh.2, hn⟩)
            · exact .inr ⟨by omega, hh.2⟩
    · rw [show ltI u.2.2.2 r.f1 = false from decide_eq_false c]
      refine ⟨(_, j'), rfl, u2.can, q3, hnext, ?_, fun x => ?_⟩
      · intro a i' x ha hi' hx
        have h7 := can_lt hl hr hx (by omega)
        have := u2.hi a ha
        omega
      · simp only
        rw [u2.pts x, upto_succ _ hr]
        constructor
        · rintro (hh | hh)
          · exact ⟨.inl hh.1, hh.2⟩
          · exact ⟨.inr ⟨hh.1, hh.2.2.1⟩, hh.2.2.2⟩
        · rintro ⟨hh | hh, hn⟩
          · exact .inl ⟨hh, hn⟩
          · exact .inr ⟨hh.1, by omega, hh.2, hn⟩
  · rintro ⟨s, j⟩ ⟨h1, h2, h3, h4, h5⟩
    simp only [L105_4, ltL_false (Nat.le_refl _), cond_false]
    refine ⟨_, rfl, h1, fun x => ?_⟩
    simp only
    simp only at h5
    rw [h5, upto_len]
    rfl
  · intro k b i' x hk; exact absurd hk (Nat.not_lt_zero k)
  · intro a i' x ha; simp at ha
theorem same_ok (a b : List S182) (hl : a.length ≤ 1000000) : ∃ c, T107 a b = some c ∧ (c = true ↔ a = b) := by
  unfold T107
  by_cases hlen : a.length = b.length
  · have e : neI (lenL a) (lenL b) = false := by rw [neI_iff, lenL_eq, lenL_eq, hlen]; simp
    rw [e]
    simp only [cond_false]
    obtain ⟨r, h1, h2⟩ : ∃ r, iter (L107_4 a b) 0 = some r ∧ (r.isLeft = true ↔ a = b) := by
      refine iter_upx (st := L107_4 a b) (fun (_ : Unit) i => (i : Int)) a.length (fun i _ => ∀ j, j < i → a[j]? = b[j]?) (fun r => r.isLeft = true ↔ a = b) ?_ ?_ 0 () (Nat.zero_le _) (fun j h => absurd h (Nat.not_lt_zero j))
      · intro i _ hi h
        obtain ⟨r, hr⟩ : ∃ r, a[i]? = some r := ⟨_, List.getElem?_eq_getElem hi⟩
        obtain ⟨q, hq⟩ : ∃ r, b[i]? = some r := ⟨_, List.getElem?_eq_getElem (by omega)⟩
        simp only [L107_4, ltL_true hi, listAt_some hr, listAt_some hq, cond_true, Option.bind_some, nextI (show i < 9223372036854775807 by omega), allB, Bool.and_true]
        by_cases c : r.f0 = q.f0 ∧ r.f1 = q.f1
        · left
          rw [eqI_iff, eqI_iff, decide_eq_true c.1, decide_eq_true c.2]
          refine ⟨(), rfl, fun j hj => ?_⟩
          by_cases e : j = i
          · subst e
            rw [hr, hq]
            cases r; cases q
            simp_all
          · exact h j (by omega)
        · right
          have : (eqI r.f0 q.f0 && eqI r.f1 q.f1) = false := by
            rw [eqI_iff, eqI_iff, Bool.and_eq_false_iff]
            by_cases c1 : r.f0 = q.f0
            · exact .inr (decide_eq_false fun c2 => c ⟨c1, c2⟩)
            · exact .inl (decide_eq_false c1)
          rw [this]
          refine ⟨_, rfl, ?_⟩
          simp only [Sum.isLeft_inr, Bool.false_eq_true, false_iff]
          intro e
          subst e
          rw [hr] at hq
          cases hq
          exact c ⟨rfl, rfl⟩
      · intro _ h
        simp only [L107_4, ltL_false (Nat.le_refl _), cond_false]
        refine ⟨_, rfl, ?_⟩
        simp only [Sum.isLeft_inl, true_iff]
        refine List.ext_getElem? fun j => ?_
        by_cases hj : j < a.length
        · exact h j hj
        · rw [List.getElem?_eq_none (by omega), List.getElem?_eq_none (by omega)]
    rw [h1, Option.bind_some]
    cases r with
    | inl y => exact ⟨true, rfl, by simpa using h2⟩
    | inr y => exact ⟨false, rfl, by simpa using h2⟩
  · have e : neI (lenL a) (lenL b) = true := by
      rw [neI_iff, lenL_eq, lenL_eq]
      have : ¬ (a.length : Int) = b.length := by omega
      simp [this]
    rw [e]
    exact ⟨false, rfl, by simp only [Bool.false_eq_true, false_iff]; intro h; exact hlen (by rw [h])⟩
end Go.Abs.TKQ.R

set_option linter.unusedVariables false
set_option linter.unusedSimpArgs false
set_option maxRecDepth 10000
namespace Go.Abs.TKQ.R
open Go.RowKit Go.Proofs Go.Abs
noncomputable def G9 (h : Int → Int → Option Bool) (z0 : ((List Int) × (List Int) × (List S28) × (List S28) × Int)) (z1 : ((List Int) × (List Int) × (List S28) × (List S28) × (List S28) × Int)) : Option (((List Int) × (List Int) × (List S28) × (List S28) × (List S28) × Int) ⊕ (Int × Bool × (List Int) × (List Int) × (List S28) × (List S28) × (List S28))) := (bif (ltI (addI .i64 z1.2.2.2.2.2 1) (lenL z1.1)) then ((idxO (List.length z1.1) z1.2.2.2.2.2).bind fun x3 => ((getN z1.1 x3).bind fun x4 => ((idxO (List.length z1.2.1) z0.2.2.2.2).bind fun x5 => ((getN z1.2.1 x5).bind fun x6 => ((h x4 x6).bind fun x7 => (bif (!x7) then (some (.inl (z1.1, z1.2.1, z1.2.2.1, z1.2.2.2.1, z1.2.2.2.2.1, (addI .i64 z1.2.2.2.2.2 1)))) else (bif (leI 0 (subI .i64 (lenL z1.2.2.2.2.1) 1)) then ((idxO (List.length z1.2.2.2.2.1) (subI .i64 (lenL z1.2.2.2.2.1) 1)).bind fun x8 => ((getN z1.2.2.2.2.1 x8).bind fun x9 => ((idxO (List.length z1.2.2.2.2.1) (subI .i64 (lenL z1.2.2.2.2.1) 1)).bind fun x10 => ((getN z1.2.2.2.2.1 x10).bind fun x11 => ((idxO (List.length z1.1) z1.2.2.2.2.2).bind fun x12 => ((getN z1.1 x12).bind fun x13 => (bif (eqI (addI .i64 x9.f0 x11.f2) x13) then ((idxO (List.length z1.1) (addI .i64 z1.2.2.2.2.2 1)).bind fun x14 => ((getN z1.1 x14).bind fun x15 => ((idxO (List.length z1.2.2.2.2.1) (subI .i64 (lenL z1.2.2.2.2.1) 1)).bind fun x16 => ((getN z1.2.2.2.2.1 x16).bind fun x17 => ((idxO (List.length z1.2.2.2.2.1) (subI .i64 (lenL z1.2.2.2.2.1) 1)).bind fun x18 => ((getN z1.2.2.2.2.1 x18).bind fun x19 => (some (.inl (z1.1, z1.2.1, z1.2.2.1, z1.2.2.2.1, (List.set z1.2.2.2.2.1 x18 (S28.mk x19.f0 x19.f1 (subI .i64 x15 x17.f0) x19.f3)), (addI .i64 z1.2.2.2.2.2 1)))))))))) else ((idxO (List.length z1.1) z1.2.2.2.2.2).bind fun x20 => ((getN z1.1 x20).bind fun x21 => ((idxO (List.length z1.2.1) z0.2.2.2.2).bind fun x22 => ((getN z1.2.1 x22).bind fun x23 => ((idxO (List.length z1.1) (addI .i64 z1.2.2.2.2.2 1)).bind fun x24 => ((getN z1.1 x24).bind fun x25 => ((idxO (List.length z1.1) z1.2.2.2.2.2).bind fun x26 => ((getN z1.1 x26).bind fun x27 => ((idxO (List.length z1.2.1) (addI .i64 z0.2.2.2.2 1)).bind fun x28 => ((getN z1.2.1 x28).bind fun x29 => ((idxO (List.length z1.2.1) z0.2.2.2.2).bind fun x30 => ((getN z1.2.1 x30).bind fun x31 => ((appO 32 z1.2.2.2.2.1 ([(S28.mk x21 x23 (subI .i64 x25 x27) (subI .i64 x29 x31))] : List S28)).bind fun x32 => (some (.inl (z1.1, z1.2.1, z1.2.2.1, z1.2.2.2.1, x32, (addI .i64 z1.2.2.2.2.2 1)))))))))))))))))))))))) else ((idxO (List.length z1.1) z1.2.2.2.2.2).bind fun x33 => ((getN z1.1 x33).bind fun x34 => ((idxO (List.length z1.2.1) z0.2.2.2.2).bind fun x35 => ((getN z1.2.1 x35).bind fun x36 => ((idxO (List.length z1.1) (addI .i64 z1.2.2.2.2.2 1)).bind fun x37 => ((getN z1.1 x37).bind fun x38 => ((idxO (List.length z1.1) z1.2.2.2.2.2).bind fun x39 => ((getN z1.1 x39).bind fun x40 => ((idxO (List.length z1.2.1) (addI .i64 z0.2.2.2.2 1)).bind fun x41 => ((getN z1.2.1 x41).bind fun x42 => ((idxO (List.length z1.2.1) z0.2.2.2.2).bind fun x43 => ((getN z1.2.1 x43).bind fun x44 => ((appO 32 z1.2.2.2.2.1 ([(S28.mk x34 x36 (subI .i64 x38 x40) (subI .i64 x42 x44))] : List S28)).bind fun x45 => (some (.inl (z1.1, z1.2.1, z1.2.2.1, z1.2.2.2.1, x45, (addI .i64 z1.2.2.2.2.2 1)))))))))))))))))))))))) else (some (.inr (z1.2.2.2.2.2, (ltI (addI .i64 z1.2.2.2.2.2 1) (lenL z1.1)), z1.1, z1.2.1, z1.2.2.1, z1.2.2.2.1, z1.2.2.2.2.1))))
noncomputable def G19 (h : Int → Int → Option Bool) (z0 : ((List Int) × (List Int) × (List S28) × (List S28) × Int)) (y46 : (Int × Bool × (List Int) × (List Int) × (List S28) × (List S28) × (List S28))) (z2 : ((List Int) × (List Int) × (List S28) × (List S28) × (List S28) × Int)) : Option (((List Int) × (List Int) × (List S28) × (List S28) × (List S28) × Int) ⊕ (Int × Bool × (List Int) × (List Int) × (List S28) × (List S28) × (List S28))) := (bif (ltI z2.2.2.2.2.2 (lenL y46.2.2.2.2.2.1)) then ((idxO (List.length z2.2.2.2.1) z2.2.2.2.2.2).bind fun x48 => ((getN z2.2.2.2.1 x48).bind fun x49 => ((idxO (List.length z2.2.2.2.2.1) z2.2.2.2.2.2).bind fun x50 => ((getN z2.2.2.2.2.1 x50).bind fun x51 => ((idxO (List.length z2.2.2.2.1) z2.2.2.2.2.2).bind fun x52 => ((getN z2.2.2.2.1 x52).bind fun x53 => (some (.inl (z2.1, z2.2.1, z2.2.2.1, (List.set z2.2.2.2.1 x52 (S28.mk x53.f0 x53.f1 x53.f2 (addI .i64 x49.f3 x51.f3))), z2.2.2.2.2.1, (addI .i64 z2.2.2.2.2.2 1)))))))))) else (some (.inr (z2.2.2.2.2.2, (ltI z2.2.2.2.2.2 (lenL y46.2.2.2.2.2.1)), z2.1, z2.2.1, z2.2.2.1, z2.2.2.2.1, z2.2.2.2.2.1))))
def eX (p : List S28) : List Int := p.flatMap fun r => [r.f0, addI .i64 r.f0 r.f2]
def eY (p : List S28) : List Int := p.flatMap fun r => [r.f1, addI .i64 r.f1 r.f3]
theorem eY_len (p : List S28) : (eY p).length = 2 * p.length := by
  unfold eY
  induction p with
  | nil => rfl
  | cons a p ih => rw [List.flatMap_cons, List.length_append, ih, List.length_cons]; simp; omega
theorem take_next {α : Type} {l : List α} {i : Nat} {x : α} (h : l[i]? = some x) : l.take (i + 1) = l.take i ++ [x] := by
  rw [List.take_add_one, h]; rfl
theorem fm_next {α : Type} (f : α → List Int) {l : List α} {i : Nat} {x : α} (h : l[i]? = some x) : (l.take (i + 1)).flatMap f = (l.take i).flatMap f ++ f x := by
  rw [take_next h, List.flatMap_append]; simp
theorem edges_loop (p q x1 : List S28) (hl : x1.length ≤ 1000000) : ∃ r, iter (L60_3 p q x1) ([], x1, 0) = some r ∧ r.2.2 = (eY x1, x1) := by
  refine iter_up (st := L60_3 p q x1) (fun (s : List Int) i => (s, x1, (i : Int))) x1.length (fun i s => s = eY (x1.take i)) (fun r => r.2.2 = (eY x1, x1)) ?_ ?_ [] rfl
  · intro i s hi h
    obtain ⟨r, hr⟩ : ∃ r, x1[i]? = some r := ⟨_, List.getElem?_eq_getElem hi⟩
    have hs : s.length ≤ 2000000 := by rw [h, eY_len, List.length_take]; omega
    simp only [L60_3, ltL_true hi, idx_nat hi, getN_some hr, cond_true, Option.bind_some, nextI (show i < 9223372036854775807 by omega)]
    rw [appO_big (by omega) (by simp only [List.length_cons, List.length_nil]; omega)]
    refine ⟨_, rfl, ?_⟩
    rw [h]
    exact (fm_next _ hr).symm
  · intro s h
    simp only [L60_3, ltL_false (Nat.le_refl _), cond_false]
    refine ⟨_, rfl, ?_⟩
    rw [h, List.take_length]
theorem both_ok (p q : List S28) (hp : p.length ≤ 1000000) (hq : q.length ≤ 1000000) : T21 [p, q] = some (p ++ q) := by
  unfold T21
  have e1 : lenL p = (p.length : Int) := rfl
  have e2 : lenL q = (q.length : Int) := rfl
  have hlt0 : ltI 0 (lenL [p, q]) = true := rfl
  have hlt1 : ltI 1 (lenL [p, q]) = true := rfl
  have hlt2 : ltI 2 (lenL [p, q]) = false := rfl
  have n0 : addI .i64 0 1 = 1 := by decide
  have n1 : addI .i64 1 1 = 2 := by decide
  have a0 : listAt [p, q] 0 = some p := rfl
  have a1 : listAt [p, q] 1 = some q := rfl
  have s0 : addI .i64 0 (p.length : Int) = (p.length : Int) := by rw [addI_eq (by omega) (by omega)]; omega
  have s1 : addI .i64 (p.length : Int) (q.length : Int) = ((p.length + q.length : Nat) : Int) := by rw [addI_eq (by omega) (by omega)]; omega
  have l0 : ltI (p.length : Int) 0 = false := decide_eq_false (by omega)
  have l1 : ltI ((p.length + q.length : Nat) : Int) 0 = false := decide_eq_false (by omega)
  have h0 : L21_3 [p, q] (0, 0) = some (.inl ((p.length : Int), 1)) := by
    simp only [L21_3, hlt0, cond_true, a0, Option.bind_some, e1, s0, l0, cond_false, n0]
  have h1 : L21_3 [p, q] ((p.length : Int), 1) = some (.inl (((p.length + q.length : Nat) : Int), 2)) := by
    simp only [L21_3, hlt1, cond_true, a1, Option.bind_some, e2, s1, l1, cond_false, n1]
  have h2 : L21_3 [p, q] (((p.length + q.length : Nat) : Int), 2) = some (.inr (((p.length + q.length : Nat) : Int), 2, false)) := by
    simp only [L21_3, hlt2, cond_false]
  rw [iter_inl h0, iter_inl h1, iter_inr h2, Option.bind_some]
  have hg : growO S28 32 ((p.length + q.length : Nat) : Int) = some [] := by
    unfold growO
    rw [if_pos ⟨by omega, by omega, by omega⟩]
  simp only [hg, Option.bind_some]
  have k0 : L21_11 [p, q] ([], 0) = some (.inl (p, 1)) := by
    simp only [L21_11, hlt0, cond_true, a0, Option.bind_some, n0]
    rw [appO_big (by omega) (by simp only [List.length_nil]; omega)]
    rfl
  have k1 : L21_11 [p, q] (p, 1) = some (.inl (p ++ q, 2)) := by
    simp only [L21_11, hlt1, cond_true, a1, Option.bind_some, n1]
    rw [appO_big (by omega) (by omega)]
    rfl
  have k2 : L21_11 [p, q] (p ++ q, 2) = some (.inr (2, false, p ++ q)) := by
    simp only [L21_11, hlt2, cond_false]
  rw [iter_inl k0, iter_inl k1, iter_inr k2, Option.bind_some]
theorem next_to {xs : List Int} (hs : xs.Pairwise (· < ·)) {j : Nat} {a b v : Int} (ha : xs[j]? = some a) (hb : xs[j + 1]? = some b) (hv : v ∈ xs) : v ≤ a ∨ b ≤ v := by
  obtain ⟨k, hk, rfl⟩ := List.getElem_of_mem hv
  obtain ⟨h1, rfl⟩ := List.getElem?_eq_some_iff.1 ha
  obtain ⟨h2, rfl⟩ := List.getElem?_eq_some_iff.1 hb
  have hp := List.pairwise_iff_getElem.1 hs
  rcases Nat.lt_trichotomy k j with h | h | h
  · have := hp k j hk h1 h
    omega
  · subst h; exact .inl (Int.le_refl _)
  · by_cases e : k = j + 1
    · subst e; exact .inr (Int.le_refl _)
    · have := hp (j + 1) k h2 hk (by omega)
      omega
theorem between : ∀ (xs : List Int), xs.Pairwise (· < ·) → ∀ x u v : Int, u ∈ xs → u ≤ x → v ∈ xs → x < v → ∃ j a b, xs[j]? = some a ∧ xs[j + 1]? = some b ∧ a ≤ x ∧ x < b := by
  intro xs
  induction xs with
  | nil => intro _ x u v hu; simp at hu
  | cons c t ih =>
    intro hs x u v hu hux hv hxv
    obtain ⟨hc, ht⟩ := List.pairwise_cons.1 hs
    cases t with
    | nil => simp at hu hv; omega
    | cons d t =>
      by_cases hx : x < d
      · refine ⟨0, c, d, rfl, rfl, ?_, hx⟩
        rcases List.mem_cons.1 hu with e | e
        · omega
        · have := hc u e; omega
      · have hcd := hc d (by simp)
        have hv' : v ∈ d :: t := by
          rcases List.mem_cons.1 hv with e | e
          · omega
          · exact e
        obtain ⟨j, a, b, h1, h2, h3⟩ := ih ht x d v (by simp) (by omega) hv' hxv
        exact ⟨j + 1, a, b, h1, h2, h3⟩
def cell (y h : Int) (a : S182) : S28 := ⟨a.f0, y, a.f1 - a.f0, h⟩
def pts (xs : List Int) (H : Int → Prop) (i : Nat) (x : Int) : Prop := ∃ j a b, j < i ∧ xs[j]? = some a ∧ xs[j + 1]? = some b ∧ a ≤ x ∧ x < b ∧ H a
theorem emit_ok {st : ((List Int) × (List S28) × Int) → Option (((List Int) × (List S28) × Int) ⊕ (Int × Bool × (List Int) × (List S28)))} (ys : List Int) (cur : List S182) (f h : Int) (out : List S28) (hout : out.length ≤ 1900000000000) (hcur : cur.length ≤ 1000000)
    (h1 : ∀ (s : List S28) (i : Nat) a, i < cur.length → cur[i]? = some a → st (ys, s, (i : Int)) = (appO 32 s [cell f h a]).bind fun x => some (.inl (ys, x, ((i + 1 : Nat) : Int)))) (h2 : ∀ s, st (ys, s, (cur.length : Int)) = some (.inr ((cur.length : Int), false, ys, s))) :
    ∃ r, iter st (ys, out, 0) = some r ∧ r.2.2 = (ys, out ++ cur.map (cell f h)) := by
  refine iter_up (st := st) (fun (s : List S28) i => (ys, s, (i : Int))) cur.length (fun i s => s = out ++ (cur.take i).map (cell f h)) (fun r => r.2.2 = (ys, out ++ cur.map (cell f h))) ?_ ?_ out (by simp)
  · intro i s hi hs
    obtain ⟨a, ha⟩ : ∃ r, cur[i]? = some r := ⟨_, List.getElem?_eq_getElem hi⟩
    have hlen : s.length ≤ 1900001000000 := by rw [hs, List.length_append, List.length_map, List.length_take]; omega
    refine ⟨s ++ [cell f h a], ?_, ?_⟩
    · rw [h1 s i a hi ha, appO_big (by omega) (by simp only [List.length_cons, List.length_nil]; omega)]
      rfl
    · rw [hs, take_next ha, List.map_append, List.append_assoc]
      rfl
  · intro s hs
    refine ⟨_, h2 s, ?_⟩
    rw [hs, List.take_length]
end Go.Abs.TKQ.R

set_option linter.unusedVariables false
set_option linter.unusedSimpArgs false
set_option maxRecDepth 10000
namespace Go.Abs.TKQ.R
open Go.RowKit Go.Proofs Go.Abs
noncomputable def rowAt (p q : List S28) (y : Int) : List S182 := ((T106 p y).bind fun a => (T106 q y).bind fun b => T105 a b).getD []
theorem rowAt_ok (p q : List S28) (y : Int) (hp : ∀ r ∈ p, W r) (hq : ∀ r ∈ q, W r) (lp : p.length ≤ 1000000) (lq : q.length ≤ 1000000) :
    ∃ a b, T106 p y = some a ∧ T106 q y = some b ∧ T105 a b = some (rowAt p q y) ∧ Can (rowAt p q y) ∧ ∀ x, inn (rowAt p q y) x ↔ hasL p x y ∧ ¬ hasL q x y := by
  obtain ⟨a, a1, a2, a3⟩ := runs_ok p y hp lp
  obtain ⟨b, b1, b2, b3⟩ := runs_ok q y hq lq
  obtain ⟨o, o1, o2, o3⟩ := less_ok a b a2 b2
  have e : rowAt p q y = o := by
    unfold rowAt
    rw [a1, Option.bind_some, b1, Option.bind_some, o1, Option.getD_some]
  rw [e]
  exact ⟨a, b, a1, b1, o1, o2, fun x => by rw [o3, a3, b3]⟩
attribute [local irreducible] rowAt
open Classical in
noncomputable def St (R : Int → List S182) (ys : List Int) : Nat → List S28 × List S182 × Int
  | 0 => ([], [], 0)
  | k + 1 => if (St R ys k).2.1 = R (ys.getD k 0) then St R ys k else ((St R ys k).1 ++ (St R ys k).2.1.map (cell (St R ys k).2.2 (ys.getD k 0 - (St R ys k).2.2)), R (ys.getD k 0), ys.getD k 0)
noncomputable def Fin (R : Int → List S182) (ys : List Int) : List S28 :=
  (St R ys (ys.length - 1)).1 ++ (St R ys (ys.length - 1)).2.1.map (cell (St R ys (ys.length - 1)).2.2 (ys.getD (ys.length - 1) 0 - (St R ys (ys.length - 1)).2.2))
theorem St_same {R : Int → List S182} {ys : List Int} {k : Nat} {y : Int} (hy : ys[k]? = some y) (h : (St R ys k).2.1 = R y) : St R ys (k + 1) = St R ys k := by
  rw [St]
  rw [List.getD_eq_getElem?_getD, hy, Option.getD_some, if_pos h]
theorem St_new {R : Int → List S182} {ys : List Int} {k : Nat} {y : Int} (hy : ys[k]? = some y) (h : ¬ (St R ys k).2.1 = R y) : St R ys (k + 1) = ((St R ys k).1 ++ (St R ys k).2.1.map (cell (St R ys k).2.2 (y - (St R ys k).2.2)), R y, y) := by
  rw [St]
  rw [List.getD_eq_getElem?_getD, hy, Option.getD_some, if_neg h]
theorem St_ok (R : Int → List S182) (ys : List Int) (hR : ∀ y, Can (R y)) (hys : ∀ y ∈ ys, -100000 ≤ y ∧ y ≤ 100000) : ∀ k, k ≤ ys.length → (St R ys k).1.length ≤ k * 200000 ∧ Can (St R ys k).2.1 ∧ -100000 ≤ (St R ys k).2.2 ∧ (St R ys k).2.2 ≤ 100000 := by
  intro k
  induction k with
  | zero => intro _; exact ⟨by simp [St], can_nil, by simp [St], by simp [St]⟩
  | succ k ih =>
    intro hk
    obtain ⟨h1, h2, h3, h4⟩ := ih (by omega)
    obtain ⟨y, hy⟩ : ∃ r, ys[k]? = some r := ⟨_, List.getElem?_eq_getElem (by omega)⟩
    have hb := hys y (List.mem_of_getElem? hy)
    by_cases c : (St R ys k).2.1 = R y
    · rw [St_same hy c]
      exact ⟨Nat.le_trans h1 (Nat.mul_le_mul_right _ (Nat.le_succ k)), h2, h3, h4⟩
    · rw [St_new hy c]
      have hl := can_len h2
      refine ⟨?_, hR y, hb.1, hb.2⟩
      simp only [List.length_append, List.length_map]
      rw [Nat.succ_mul]
      omega
theorem prog_ok (p q : List S28) (ys : List Int) (hp : ∀ r ∈ p, W r) (hq : ∀ r ∈ q, W r) (lp : p.length ≤ 1000000) (lq : q.length ≤ 1000000) (hys : ∀ y ∈ ys, -100000 ≤ y ∧ y ≤ 100000) (hl : ys.length ≤ 1000000) :
    ∃ r, iter (L60_13 p q ys) (ys, [], [], 0, 0) = some r ∧ r.2.2.2.2.2 = Fin (rowAt p q) ys := by
  have hR : ∀ y, Can (rowAt p q y) := fun y => by obtain ⟨_, _, _, _, _, h, _⟩ := rowAt_ok p q y hp hq lp lq; exact h
  refine iter_up (st := L60_13 p q ys) (fun (s : List S28 × List S182 × Int) i => (ys, s.1, s.2.1, s.2.2, (i : Int))) ys.length (fun i s => (i < ys.length → s = St (rowAt p q) ys i) ∧ (i = ys.length → s.1 = Fin (rowAt p q) ys))
    (fun r => r.2.2.2.2.2 = Fin (rowAt p q) ys) ?_ ?_ ([], [], 0) ⟨fun _ => rfl, fun h => ?_⟩
  · intro i s hi ⟨hs, _⟩
    have hs := hs hi
    obtain ⟨o1, o2, o3, o4⟩ := St_ok (rowAt p q) ys hR hys i (by omega)
    obtain ⟨y, hy⟩ : ∃ r, ys[i]? = some r := ⟨_, List.getElem?_eq_getElem hi⟩
    have hb := hys y (List.mem_of_getElem? hy)
    obtain ⟨a, b, r1, r2, r3, r4, r5⟩ := rowAt_ok p q y hp hq lp lq
    rw [← hs] at o1 o2 o3 o4
    have hlen := can_len o2
    obtain ⟨out, cur, fr⟩ := s
    simp only at o1 o2 o3 o4 hlen hs
    have ho : out.length ≤ 1900000000000 := by
      have : i * 200000 ≤ 1000000 * 200000 := Nat.mul_le_mul (by omega) (Nat.le_refl _)
      omega
    have hsub : subI .i64 y fr = y - fr := subI_eq (by omega) (by omega)
    simp only [L60_13, ltL_true hi, idx_nat hi, getN_some hy, cond_true, Option.bind_some, nextI (show i < 9223372036854775807 by omega)]
    have hcell : ∀ a ∈ cur, subI .i64 a.f1 a.f0 = a.f1 - a.f0 := by
      intro a ha
      have := o2.1 a ha
      unfold B at this
      exact subI_eq (by omega) (by omega)
    by_cases hi1 : i + 1 < ys.length
    · simp only [ltL_true hi1, cond_true, r1, r2, r3, Option.bind_some]
      obtain ⟨c, c1, c2⟩ := same_ok cur (rowAt p q y) (by omega)
      rw [c1, Option.bind_some]
      cases c with
      | true =>
        have e := c2.1 rfl
        refine ⟨(out, cur, fr), rfl, fun _ => ?_, fun h => by omega⟩
        rw [St_same hy (by rw [← hs]; exact e)]
        exact hs
      | false =>
        have e : ¬ cur = rowAt p q y := fun e => by simpa using c2.2 e
        obtain ⟨v, v1, v2⟩ := emit_ok (st := L60_20 p q ys (ys, out, cur, fr, (i : Int)) y (rowAt p q y)) ys cur fr (y - fr) out ho (by omega) (fun s j a hj ha => by
          simp only [L60_20, ltL_true hj, listAt_some ha, cond_true, Option.bind_some, nextI (show j < 9223372036854775807 by omega), hsub, hcell a (List.mem_of_getElem? ha)]
          rfl) (fun s => by simp only [L60_20, ltL_false (Nat.le_refl _), cond_false])
        simp only [cond_false]
        rw [v1, Option.bind_some, v2]
        refine ⟨(_, _, _), rfl, fun _ => ?_, fun h => by omega⟩
        rw [St_new hy (by rw [← hs]; exact e), ← hs]
    · have hlt : ltI ((i + 1 : Nat) : Int) (lenL ys) = false := ltL_false (by omega)
      simp only [hlt, cond_false]
      obtain ⟨c, c1, c2⟩ := same_ok cur [] (by omega)
      rw [c1, Option.bind_some]
      have hii : i = ys.length - 1 := by omega
      have hgd : ys.getD (ys.length - 1) 0 = y := by rw [← hii, List.getD_eq_getElem?_getD, hy, Option.getD_some]
      cases c with
      | true =>
        have e := c2.1 rfl
        refine ⟨(out, cur, fr), rfl, fun h => by omega, fun _ => ?_⟩
        unfold Fin
        rw [← hii, ← hs]
        simp only [e, List.map_nil, List.append_nil]
      | false =>
        obtain ⟨v, v1, v2⟩ := emit_ok (st := L60_20_v1 p q ys (ys, out, cur, fr, (i : Int)) y) ys cur fr (y - fr) out ho (by omega) (fun s j a hj ha => by
          simp only [L60_20_v1, ltL_true hj, listAt_some ha, cond_true, Option.bind_some, nextI (show j < 9223372036854775807 by omega), hsub, hcell a (List.mem_of_getElem? ha)]
          rfl) (fun s => by simp only [L60_20_v1, ltL_false (Nat.le_refl _), cond_false])
        simp only [cond_false]
        rw [v1, Option.bind_some, v2]
        refine ⟨(_, _, _), rfl, fun h => by omega, fun _ => ?_⟩
        unfold Fin
        rw [hgd, ← hii, ← hs]
  · intro s ⟨_, h⟩
    simp only [L60_13, ltL_false (Nat.le_refl _), cond_false]
    exact ⟨_, rfl, h rfl⟩
  · simp only
    unfold Fin
    rw [← h]
    simp [St]
theorem mem_eY {p : List S28} {x : Int} : x ∈ eY p ↔ ∃ r ∈ p, x = r.f1 ∨ x = addI .i64 r.f1 r.f3 := by
  unfold eY
  rw [List.mem_flatMap]
  simp only [List.mem_cons, List.not_mem_nil, or_false]
end Go.Abs.TKQ.R

set_option linter.unusedVariables false
set_option linter.unusedSimpArgs false
set_option maxRecDepth 10000
namespace Go.Abs.TKQ.R
open Go.RowKit Go.Proofs Go.Abs
open Classical in
noncomputable def stp (R : Int → List S182) (s : List S28 × List S182 × Int) (y : Int) : List S28 × List S182 × Int :=
  if s.2.1 = R y then s else (s.1 ++ s.2.1.map (cell s.2.2 (y - s.2.2)), R y, y)
theorem stp_cur (R : Int → List S182) (s : List S28 × List S182 × Int) (y : Int) : (stp R s y).2.1 = R y := by
  unfold stp
  by_cases h : s.2.1 = R y
  · rw [if_pos h, h]
  · rw [if_neg h]
theorem St_fold (R : Int → List S182) (ys : List Int) : ∀ k, k ≤ ys.length → St R ys k = (ys.take k).foldl (stp R) ([], [], 0) := by
  intro k
  induction k with
  | zero => intro _; simp [St]
  | succ k ih =>
    intro hk
    obtain ⟨y, hy⟩ : ∃ r, ys[k]? = some r := ⟨_, List.getElem?_eq_getElem (by omega)⟩
    rw [take_next hy, List.foldl_append, ← ih (by omega), List.foldl_cons, List.foldl_nil]
    unfold stp
    by_cases h : (St R ys k).2.1 = R y
    · rw [St_same hy h, if_pos h]
    · rw [St_new hy h, if_neg h]
theorem Fin_fold (R : Int → List S182) (ys : List Int) (h : ∀ y, ys.getLast? = some y → R y = []) : Fin R ys = (ys.foldl (stp R) ([], [], 0)).1 := by
  cases hn : ys.length with
  | zero =>
    have : ys = [] := List.eq_nil_of_length_eq_zero hn
    subst this
    simp [Fin, St]
  | succ n =>
    obtain ⟨y, hy⟩ : ∃ r, ys[n]? = some r := ⟨_, List.getElem?_eq_getElem (by omega)⟩
    have hlast : R y = [] := h y (by rw [List.getLast?_eq_getElem?, hn]; simpa using hy)
    have hall : ys = ys.take n ++ [y] := by
      have := take_next hy
      rw [List.take_of_length_le (by omega)] at this
      exact this
    have hgd : ys.getD n 0 = y := by rw [List.getD_eq_getElem?_getD, hy, Option.getD_some]
    unfold Fin
    rw [hn, Nat.add_sub_cancel, hgd, St_fold R ys n (by omega)]
    conv => rhs; rw [hall, List.foldl_append, List.foldl_cons, List.foldl_nil]
    generalize (ys.take n).foldl (stp R) ([], [], 0) = s
    unfold stp
    by_cases e : s.2.1 = R y
    · rw [if_pos e, e, hlast]
      simp
    · rw [if_neg e]
theorem fold_skip (R : Int → List S182) (E : List Int) (hK : ∀ a b, a ≤ b → (∀ e ∈ E, ¬ (a < e ∧ e ≤ b)) → R a = R b) :
    ∀ (ys : List Int) (s : List S28 × List S182 × Int) (c : Int), ys.Pairwise (· < ·) → (∀ y ∈ ys, c < y) → s.2.1 = R c → (∀ e ∈ E, c < e → e ∈ ys) → ys.foldl (stp R) s = (ys.filter fun y => decide (y ∈ E)).foldl (stp R) s := by
  intro ys
  induction ys with
  | nil => intro s c _ _ _ _; rfl
  | cons y ys ih =>
    intro s c hp hc hs hE
    obtain ⟨h1, h2⟩ := List.pairwise_cons.1 hp
    have hcy := hc y (by simp)
    have hE2 : ∀ e ∈ E, y < e → e ∈ ys := by
      intro e he hye
      rcases List.mem_cons.1 (hE e he (by omega)) with h | h
      · omega
      · exact h
    by_cases hy : y ∈ E
    · rw [List.filter_cons_of_pos (by simpa using hy), List.foldl_cons, List.foldl_cons]
      exact ih _ y h2 (fun z hz => h1 z hz) (stp_cur R s y) hE2
    · rw [List.filter_cons_of_neg (by simpa using hy), List.foldl_cons]
      have hR : R c = R y := hK c y (by omega) fun e he hh => by
        rcases List.mem_cons.1 (hE e he hh.1) with h | h
        · subst h; exact hy he
        · have := h1 e h; omega
      have hst : stp R s y = s := by
        unfold stp
        rw [if_pos (hs.trans hR)]
      rw [hst]
      exact ih s y h2 (fun z hz => h1 z hz) (hs.trans hR) hE2
theorem sorted_same {l m : List Int} (hl : l.Pairwise (· < ·)) (hm : m.Pairwise (· < ·)) (h : ∀ x, x ∈ l ↔ x ∈ m) : l = m := by
  have n1 : l.Nodup := hl.imp fun h => Int.ne_of_lt h
  have n2 : m.Nodup := hm.imp fun h => Int.ne_of_lt h
  exact List.Perm.eq_of_pairwise (le := (· < ·)) (fun a b _ _ h1 h2 => absurd h1 (by omega)) hl hm ((List.perm_ext_iff_of_nodup n1 n2).2 h)
theorem fin_more (R : Int → List S182) (ys ys' : List Int) (h1 : ys.Pairwise (· < ·)) (h2 : ys'.Pairwise (· < ·)) (hsub : ∀ y ∈ ys, y ∈ ys') (hK : ∀ a b, a ≤ b → (∀ e ∈ ys, ¬ (a < e ∧ e ≤ b)) → R a = R b)
    (hlo : ∀ y, (∀ e ∈ ys, y < e) → R y = []) (hhi : ∀ y, (∀ e ∈ ys, e ≤ y) → R y = []) (hb : ∀ y ∈ ys', -100000 ≤ y) : Fin R ys = Fin R ys' := by
  have hlast : ∀ (l : List Int), l.Pairwise (· < ·) → (∀ y ∈ ys, y ∈ l) → ∀ y, l.getLast? = some y → R y = [] := by
    intro l hl hsl y hy
    refine hhi y fun e he => ?_
    have hel := hsl e he
    obtain ⟨m, hm⟩ : ∃ m, l = m ++ [y] := by
      obtain ⟨m, hm⟩ := List.getLast?_eq_some_iff.1 hy
      exact ⟨m, hm⟩
    rw [hm] at hel hl
    rcases List.mem_append.1 hel with h | h
    · have := (List.pairwise_append.1 hl).2.2 e h y (by simp)
      omega
    · rw [List.mem_singleton] at h
      omega
  rw [Fin_fold R ys (hlast ys h1 fun y hy => hy), Fin_fold R ys' (hlast ys' h2 hsub)]
  have hbot : R (-100001) = [] := hlo _ fun e he => by have := hb e (hsub e he); omega
  rw [fold_skip R ys hK ys' ([], [], 0) (-100001) h2 (fun y hy => by have := hb y hy; omega) hbot.symm (fun e he _ => hsub e he)]
  have : (ys'.filter fun y => decide (y ∈ ys)) = ys := by
    refine sorted_same (h2.filter _) h1 fun x => ?_
    rw [List.mem_filter]
    constructor
    · rintro ⟨_, h⟩
      simpa using h
    · intro h
      exact ⟨hsub x h, by simpa using h⟩
  rw [this]
theorem row_same (p q : List S28) (a b : Int) (hp : ∀ r ∈ p, W r) (hq : ∀ r ∈ q, W r) (lp : p.length ≤ 1000000) (lq : q.length ≤ 1000000) (h : ∀ r, r ∈ p ∨ r ∈ q → ∀ x, has r x a ↔ has r x b) : rowAt p q a = rowAt p q b := by
  obtain ⟨_, _, _, _, _, c1, d1⟩ := rowAt_ok p q a hp hq lp lq
  obtain ⟨_, _, _, _, _, c2, d2⟩ := rowAt_ok p q b hp hq lp lq
  have key : ∀ (l : List S28), (∀ r ∈ l, r ∈ p ∨ r ∈ q) → ∀ x, hasL l x a ↔ hasL l x b := fun l hl x => ⟨fun ⟨r, hr, h1⟩ => ⟨r, hr, (h r (hl r hr) x).1 h1⟩, fun ⟨r, hr, h1⟩ => ⟨r, hr, (h r (hl r hr) x).2 h1⟩⟩
  refine can_unique _ _ c1 c2 fun x => ?_
  rw [d1, d2, key p (fun r => .inl) x, key q (fun r => .inr) x]
theorem row_none (p q : List S28) (y : Int) (hp : ∀ r ∈ p, W r) (hq : ∀ r ∈ q, W r) (lp : p.length ≤ 1000000) (lq : q.length ≤ 1000000) (h : ∀ r ∈ p, ∀ x, ¬ has r x y) : rowAt p q y = [] := by
  obtain ⟨_, _, _, _, _, c1, d1⟩ := rowAt_ok p q y hp hq lp lq
  refine can_unique _ _ c1 can_nil fun x => ?_
  rw [d1]
  constructor
  · rintro ⟨⟨r, hr, h1⟩, _⟩
    exact absurd h1 (h r hr x)
  · intro h1; exact absurd h1 (inn_nil x)
def edgesY (p : List S28) : List Int := Lib.compact (sortI (eY p))
def edgesX (p : List S28) : List Int := Lib.compact (sortI (eX p))
theorem edgesY_ok (p : List S28) (hp : ∀ r ∈ p, W r) : (edgesY p).Pairwise (· < ·) ∧ (∀ y, y ∈ edgesY p ↔ ∃ r ∈ p, y = r.f1 ∨ y = r.f1 + r.f3) ∧ (∀ y ∈ edgesY p, -100000 ≤ y ∧ y ≤ 100000) ∧ (edgesY p).length ≤ 2 * p.length := by
  have fy := compact_facts (sortI (eY p)) (sortI_sorted _)
  have my : ∀ y, y ∈ edgesY p ↔ ∃ r ∈ p, y = r.f1 ∨ y = r.f1 + r.f3 := fun y => by
    unfold edgesY
    rw [fy.2, (sortI_perm _).mem_iff, mem_eY]
    exact ⟨fun ⟨r, hr, h⟩ => ⟨r, hr, by rw [(w_edge (hp r hr)).2] at h; exact h⟩, fun ⟨r, hr, h⟩ => ⟨r, hr, by rw [(w_edge (hp r hr)).2]; exact h⟩⟩
  refine ⟨fy.1, my, fun y hy => ?_, ?_⟩
  · obtain ⟨r, hr, e⟩ := (my y).1 hy
    have hw := hp r hr
    unfold W at hw
    rcases e with e | e <;> omega
  · have h1 := compact_le (sortI (eY p))
    have h2 := (sortI_perm (eY p)).length_eq
    rw [eY_len] at h2
    unfold edgesY
    omega
end Go.Abs.TKQ.R

set_option linter.unusedVariables false
set_option linter.unusedSimpArgs false
set_option maxRecDepth 10000
namespace Go.Abs.TKQ.R
open Go.RowKit Go.Proofs Go.Abs
theorem countP_or {α : Type} (p q : α → Bool) : ∀ (l : List α), (∀ x ∈ l, ¬ (p x = true ∧ q x = true)) → l.countP (fun x => p x || q x) = l.countP p + l.countP q
  | [], _ => rfl
  | a :: l, h => by
    have ih := countP_or p q l fun x hx => h x (by simp [hx])
    have ha := h a (by simp)
    rw [List.countP_cons, List.countP_cons, List.countP_cons, ih]
    cases hp : p a <;> cases hq : q a <;> simp_all <;> omega
theorem count_upto (u v : Nat) : ∀ n, (List.range n).countP (fun i => decide (u ≤ i ∧ i < v)) = min v n - min u n
  | 0 => by simp
  | n + 1 => by
    rw [List.range_succ, List.countP_append, count_upto u v n, List.countP_singleton]
    by_cases h : u ≤ n ∧ n < v
    · rw [decide_eq_true h]
      simp only [if_true]
      omega
    · rw [decide_eq_false h]
      simp only [Bool.false_eq_true, if_false]
      omega
open Classical in
noncomputable def cnt1 (P : Int → Prop) : Nat := (List.range 200001).countP fun i : Nat => decide (P ((i : Int) - 100000))
noncomputable def cnt (P : Int → Int → Prop) : Nat := ((List.range 200001).map fun j : Nat => cnt1 fun x => P x ((j : Int) - 100000)).sum
theorem cnt_ext {P Q : Int → Int → Prop} (h : ∀ x y, P x y ↔ Q x y) : cnt P = cnt Q := by
  have : P = Q := funext fun x => funext fun y => propext (h x y)
  rw [this]
theorem cnt1_or {P Q : Int → Prop} (h : ∀ x, ¬ (P x ∧ Q x)) : cnt1 (fun x => P x ∨ Q x) = cnt1 P + cnt1 Q := by
  unfold cnt1
  rw [← countP_or _ _ _ fun i _ => by simpa using h _]
  congr 1
  funext i
  rw [Bool.eq_iff_iff]
  simp
theorem sum_add {α : Type} (f g : α → Nat) : ∀ l : List α, (l.map fun x => f x + g x).sum = (l.map f).sum + (l.map g).sum
  | [] => rfl
  | a :: l => by simp only [List.map_cons, List.sum_cons, sum_add f g l]; omega
theorem cnt_or {P Q : Int → Int → Prop} (h : ∀ x y, ¬ (P x y ∧ Q x y)) : cnt (fun x y => P x y ∨ Q x y) = cnt P + cnt Q := by
  unfold cnt
  generalize List.range 200001 = L
  rw [← sum_add]
  have e : ∀ j : Nat, cnt1 (fun x => P x ((j : Int) - 100000) ∨ Q x ((j : Int) - 100000)) = cnt1 (fun x => P x ((j : Int) - 100000)) + cnt1 (fun x => Q x ((j : Int) - 100000)) := fun j => cnt1_or fun x => h x _
  simp only [e]
theorem cnt1_none {P : Int → Prop} (h : ∀ x, ¬ P x) : cnt1 P = 0 := by
  unfold cnt1
  rw [List.countP_eq_zero]
  intro i _
  simp [h]
theorem sum_const {α : Type} (f : α → Nat) (p : α → Bool) (c : Nat) : ∀ l : List α, (∀ x ∈ l, f x = if p x = true then c else 0) → (l.map f).sum = c * l.countP p
  | [], _ => by simp
  | a :: l, h => by
    rw [List.map_cons, List.sum_cons, sum_const f p c l fun x hx => h x (by simp [hx]), h a (by simp), List.countP_cons]
    cases p a <;> simp [Nat.mul_add] <;> omega
theorem cnt_none : cnt (fun _ _ => False) = 0 := by
  unfold cnt
  rw [sum_const _ (fun _ => false) 0 _ fun x _ => by simp [cnt1_none]]
  simp
open Classical in
theorem cnt_has {r : S28} (h : W r) : (cnt (has r) : Int) = r.f2 * r.f3 := by
  unfold W at h
  have hx : ∀ y, (r.f1 ≤ y ∧ y < r.f1 + r.f3) → cnt1 (fun x => has r x y) = r.f2.toNat := by
    intro y hy
    unfold cnt1
    rw [List.countP_congr (q := fun i : Nat => decide ((r.f0 + 100000).toNat ≤ i ∧ i < (r.f0 + r.f2 + 100000).toNat)) fun i _ => by
      constructor
      · intro h0
        have h1 := of_decide_eq_true h0
        refine decide_eq_true ?_
        unfold has at h1
        omega
      · intro h0
        have h1 := of_decide_eq_true h0
        refine decide_eq_true ?_
        unfold has
        omega, count_upto]
    omega
  have hx0 : ∀ y, ¬ (r.f1 ≤ y ∧ y < r.f1 + r.f3) → cnt1 (fun x => has r x y) = 0 := fun y hy => cnt1_none fun x hh => by unfold has at hh; omega
  unfold cnt
  rw [sum_const _ (fun j : Nat => decide ((r.f1 + 100000).toNat ≤ j ∧ j < (r.f1 + r.f3 + 100000).toNat)) r.f2.toNat _ fun j _ => by
    by_cases hj : r.f1 ≤ (j : Int) - 100000 ∧ (j : Int) - 100000 < r.f1 + r.f3
    · rw [hx _ hj, decide_eq_true (show (r.f1 + 100000).toNat ≤ j ∧ j < (r.f1 + r.f3 + 100000).toNat by omega)]
      rfl
    · rw [hx0 _ hj, decide_eq_false (show ¬ ((r.f1 + 100000).toNat ≤ j ∧ j < (r.f1 + r.f3 + 100000).toNat) by omega)]
      rfl, count_upto]
  have e : min (r.f1 + r.f3 + 100000).toNat 200001 - min (r.f1 + 100000).toNat 200001 = r.f3.toNat := by omega
  rw [e, Int.natCast_mul]
  congr 1 <;> omega
def disj (r s : S28) : Prop := ∀ x y, ¬ (has r x y ∧ has s x y)
def areaL (l : List S28) : Int := (l.map fun r => r.f2 * r.f3).sum
theorem hasL_cons (r : S28) (l : List S28) (x y : Int) : hasL (r :: l) x y ↔ has r x y ∨ hasL l x y := by
  unfold hasL
  constructor
  · rintro ⟨s, hs, h⟩
    rcases List.mem_cons.1 hs with e | e
    · subst e; exact .inl h
    · exact .inr ⟨s, e, h⟩
  · rintro (h | ⟨s, hs, h⟩)
    · exact ⟨r, by simp, h⟩
    · exact ⟨s, by simp [hs], h⟩
theorem hasL_app (l m : List S28) (x y : Int) : hasL (l ++ m) x y ↔ hasL l x y ∨ hasL m x y := by
  unfold hasL
  constructor
  · rintro ⟨s, hs, h⟩
    rcases List.mem_append.1 hs with e | e
    · exact .inl ⟨s, e, h⟩
    · exact .inr ⟨s, e, h⟩
  · rintro (⟨s, hs, h⟩ | ⟨s, hs, h⟩)
    · exact ⟨s, by simp [hs], h⟩
    · exact ⟨s, by simp [hs], h⟩
theorem cnt_list : ∀ (l : List S28), (∀ r ∈ l, W r) → l.Pairwise disj → (cnt (hasL l) : Int) = areaL l
  | [], _, _ => by
    have : cnt (hasL []) = 0 := by
      rw [← cnt_none]
      exact cnt_ext fun x y => ⟨fun ⟨r, hr, _⟩ => by simp at hr, False.elim⟩
    rw [this]
    rfl
  | r :: l, hW, hd => by
    obtain ⟨h1, h2⟩ := List.pairwise_cons.1 hd
    have ih := cnt_list l (fun s hs => hW s (by simp [hs])) h2
    have e : cnt (hasL (r :: l)) = cnt (has r) + cnt (hasL l) := by
      rw [← cnt_or (P := has r) (Q := hasL l) fun x y ⟨a, s, hs, b⟩ => h1 s hs x y ⟨a, b⟩]
      exact cnt_ext fun x y => hasL_cons r l x y
    rw [e, Int.natCast_add, ih, cnt_has (hW r (by simp))]
    simp [areaL]
theorem hasL_cells (c : List S182) (f h x v : Int) : hasL (c.map (cell f h)) x v ↔ inn c x ∧ f ≤ v ∧ v < f + h := by
  unfold hasL inn
  constructor
  · rintro ⟨r, hr, h1⟩
    obtain ⟨a, ha, rfl⟩ := List.mem_map.1 hr
    unfold has cell at h1
    simp only at h1
    exact ⟨⟨a, ha, by omega⟩, by omega⟩
  · rintro ⟨⟨a, ha, h1⟩, h2⟩
    refine ⟨cell f h a, List.mem_map.2 ⟨a, ha, rfl⟩, ?_⟩
    unfold has cell
    simp only
    omega
theorem cells_disj {c : List S182} (hc : Can c) (f h : Int) : (c.map (cell f h)).Pairwise disj := by
  rw [List.pairwise_map]
  refine hc.2.imp fun {a b} hab => ?_
  rintro x y ⟨h1, h2⟩
  unfold has cell at h1 h2
  simp only at h1 h2
  omega
structure Passed (R : Int → List S182) (ys : List Int) (k : Nat) (y : Int) (S : List S28 × List S182 × Int) : Prop where
  from_lt : (S.2.1 = [] ∧ S.1 = []) ∨ (-100000 ≤ S.2.2 ∧ S.2.2 < y)
  ends : ∀ r ∈ S.1, r.f1 + r.f3 ≤ S.2.2
  wf : ∀ r ∈ S.1, W r
  apart : S.1.Pairwise disj
  pix : ∀ x v, v < y → (hasL (S.1 ++ S.2.1.map (cell S.2.2 (y - S.2.2))) x v ↔ inn (R v) x)
theorem passed_all {R : Int → List S182} {ys : List Int} {k : Nat} {y : Int} {S : List S28 × List S182 × Int} (h : Passed R ys k y S) (hc : Can S.2.1) (hy : y ≤ 100000) :
    (∀ r ∈ S.1 ++ S.2.1.map (cell S.2.2 (y - S.2.2)), W r ∧ r.f1 + r.f3 ≤ y) ∧ (S.1 ++ S.2.1.map (cell S.2.2 (y - S.2.2))).Pairwise disj := by
  have hcell : ∀ a ∈ S.2.1, W (cell S.2.2 (y - S.2.2) a) ∧ (cell S.2.2 (y - S.2.2) a).f1 + (cell S.2.2 (y - S.2.2) a).f3 ≤ y := by
    intro a ha
    have hB := hc.1 a ha
    unfold B at hB
    rcases h.from_lt with ⟨h1, _⟩ | h1
    · rw [h1] at ha; simp at ha
    · unfold W cell
      simp only
      omega
  constructor
  · intro r hr
    rcases List.mem_append.1 hr with e | e
    · refine ⟨h.wf r e, ?_⟩
      have h1 := h.ends r e
      rcases h.from_lt with ⟨_, h2⟩ | h2
      · rw [h2] at e; simp at e
      · omega
    · obtain ⟨a, ha, rfl⟩ := List.mem_map.1 e
      exact hcell a ha
  · refine List.pairwise_append.2 ⟨h.apart, cells_disj hc _ _, fun r hr s hs => ?_⟩
    obtain ⟨a, ha, rfl⟩ := List.mem_map.1 hs
    have h1 := h.ends r hr
    rintro x v ⟨h2, h3⟩
    simp only [has, cell] at h2 h3
    omega
theorem passed (R : Int → List S182) (ys : List Int) (hR : ∀ y, Can (R y)) (hord : ys.Pairwise (· < ·)) (hys : ∀ y ∈ ys, -100000 ≤ y ∧ y ≤ 100000) (hK : ∀ a b, a ≤ b → (∀ e ∈ ys, ¬ (a < e ∧ e ≤ b)) → R a = R b) (hlo : ∀ y, (∀ e ∈ ys, y < e) → R y = []) :
    ∀ k y, ys[k]? = some y → Passed R ys k y (St R ys k) := by
  intro k
  induction k with
  | zero =>
    intro y hy
    refine ⟨.inl ⟨rfl, rfl⟩, by simp [St], by simp [St], by simp [St], fun x v hv => ?_⟩
    have : R v = [] := hlo v fun e he => by
      obtain ⟨j, hj⟩ := List.getElem?_of_mem he
      by_cases e0 : j = 0
      · subst e0; rw [hy] at hj; cases hj; exact hv
      · have := List.pairwise_iff_getElem.1 hord 0 j (List.getElem?_eq_some_iff.1 hy).1 (List.getElem?_eq_some_iff.1 hj).1 (by omega)
        rw [(List.getElem?_eq_some_iff.1 hy).2, (List.getElem?_eq_some_iff.1 hj).2] at this
        omega
    rw [this]
    simp only [St, List.map_nil, List.append_nil]
    exact ⟨fun ⟨r, hr, _⟩ => by simp at hr, fun h => absurd h (inn_nil x)⟩
  | succ k ih =>
    intro y' hy'
    have hlt := (List.getElem?_eq_some_iff.1 hy').1
    obtain ⟨y, hy⟩ : ∃ r, ys[k]? = some r := ⟨_, List.getElem?_eq_getElem (by omega)⟩
    have P := ih y hy
    have hyy : y < y' := by
      have := List.pairwise_iff_getElem.1 hord k (k + 1) (by omega) hlt (by omega)
      rw [(List.getElem?_eq_some_iff.1 hy).2, (List.getElem?_eq_some_iff.1 hy').2] at this
      exact this
    have hb := hys y (List.mem_of_getElem? hy)
    obtain ⟨_, hcan, _⟩ := St_ok R ys hR hys k (by omega)
    obtain ⟨A1, A2⟩ := passed_all P hcan hb.2
    have hconst : ∀ v, y ≤ v → v < y' → R y = R v := fun v h1 h2 => hK y v h1 fun e he hh => by
      rcases next_to hord hy hy' he with h | h <;> omega
    have hnone : ∀ x v, y ≤ v → ¬ hasL ((St R ys k).1 ++ (St R ys k).2.1.map (cell (St R ys k).2.2 (y - (St R ys k).2.2))) x v := by
      rintro x v hv ⟨r, hr, hh⟩
      have := (A1 r hr).2
      unfold has at hh
      omega
    by_cases c : (St R ys k).2.1 = R y
    · rw [St_same hy c]
      refine ⟨?_, P.ends, P.wf, P.apart, fun x v hv => ?_⟩
      · rcases P.from_lt with h | h
        · exact .inl h
        · exact .inr (by omega)
      · rw [hasL_app, hasL_cells]
        have h0 := P.pix x v
        rw [hasL_app, hasL_cells] at h0
        have hends : ∀ v, (St R ys k).2.2 ≤ v → ¬ hasL (St R ys k).1 x v := by
          rintro v hv ⟨r, hr, hh⟩
          have := P.ends r hr
          unfold has at hh
          omega
        by_cases hvy : v < y
        · rw [← h0 hvy]
          constructor
          · rintro (h | h)
            · exact .inl h
            · exact .inr ⟨h.1, h.2.1, by omega⟩
          · rintro (h | h)
            · exact .inl h
            · exact .inr ⟨h.1, h.2.1, by omega⟩
        · rw [← hconst v (by omega) hv, ← c]
          rcases P.from_lt with ⟨g1, g2⟩ | g
          · rw [g1, g2]
            exact ⟨fun h => h.elim (fun ⟨r, hr, _⟩ => by simp at hr) fun h => h.1, fun h => absurd h (inn_nil x)⟩
          · constructor
            · rintro (h | h)
              · exact absurd h (hends v (by omega))
              · exact h.1
            · intro h
              exact .inr ⟨h, by omega, by omega⟩
    · rw [St_new hy c]
      refine ⟨.inr ⟨hb.1, hyy⟩, fun r hr => (A1 r hr).2, fun r hr => (A1 r hr).1, A2, fun x v hv => ?_⟩
      simp only
      rw [hasL_app, hasL_cells]
      by_cases hvy : v < y
      · rw [P.pix x v hvy]
        exact ⟨fun h => h.elim id fun h => by omega, .inl⟩
      · rw [← hconst v (by omega) hv]
        constructor
        · rintro (h | h)
          · exact absurd h (hnone x v (by omega))
          · exact h.1
        · intro h
          exact .inr ⟨h, by omega, by omega⟩
theorem fin_pix (p q : List S28) (hp : ∀ r ∈ p, W r) (hq : ∀ r ∈ q, W r) (lp : p.length ≤ 1000000) (lq : q.length ≤ 1000000) :
    (∀ r ∈ Fin (rowAt p q) (edgesY (p ++ q)), W r) ∧ (Fin (rowAt p q) (edgesY (p ++ q))).Pairwise disj ∧ ∀ x y, hasL (Fin (rowAt p q) (edgesY (p ++ q))) x y ↔ hasL p x y ∧ ¬ hasL q x y := by
  have hall : ∀ r ∈ p ++ q, W r := fun r hr => by
    rcases List.mem_append.1 hr with e | e
    · exact hp r e
    · exact hq r e
  obtain ⟨y1, y2, y3, y4⟩ := edgesY_ok (p ++ q) hall
  have hR : ∀ y, Can (rowAt p q y) := fun y => by obtain ⟨_, _, _, _, _, h, _⟩ := rowAt_ok p q y hp hq lp lq; exact h
  have hRx : ∀ y x, inn (rowAt p q y) x ↔ hasL p x y ∧ ¬ hasL q x y := fun y => by obtain ⟨_, _, _, _, _, _, h⟩ := rowAt_ok p q y hp hq lp lq; exact h
  have mem : ∀ r, r ∈ p ∨ r ∈ q → r.f1 ∈ edgesY (p ++ q) ∧ r.f1 + r.f3 ∈ edgesY (p ++ q) := fun r hr => ⟨(y2 _).2 ⟨r, List.mem_append.2 hr, .inl rfl⟩, (y2 _).2 ⟨r, List.mem_append.2 hr, .inr rfl⟩⟩
  have hK : ∀ a b, a ≤ b → (∀ e ∈ edgesY (p ++ q), ¬ (a < e ∧ e ≤ b)) → rowAt p q a = rowAt p q b := fun a b hab hE => by
    refine row_same p q a b hp hq lp lq fun r hr x => ?_
    have h1 := hE _ (mem r hr).1
    have h2 := hE _ (mem r hr).2
    unfold has
    omega
  have hlo : ∀ y, (∀ e ∈ edgesY (p ++ q), y < e) → rowAt p q y = [] := fun y hE => by
    refine row_none p q y hp hq lp lq fun r hr x hx => ?_
    have h1 := hE _ (mem r (.inl hr)).1
    unfold has at hx
    omega
  have hP := passed (rowAt p q) (edgesY (p ++ q)) hR y1 y3 hK hlo
  have hSt := St_ok (rowAt p q) (edgesY (p ++ q)) hR y3
  generalize hys : edgesY (p ++ q) = ys at *
  cases hn : ys.length with
  | zero =>
    have h0 : ys = [] := List.eq_nil_of_length_eq_zero hn
    subst h0
    have hnone : ∀ r, ¬ (r ∈ p ∨ r ∈ q) := fun r hr => by have := (mem r hr).1; simp at this
    refine ⟨by simp [Fin, St], by simp [Fin, St], fun x y => ?_⟩
    constructor
    · rintro ⟨r, hr, _⟩
      simp [Fin, St] at hr
    · rintro ⟨⟨r, hr, _⟩, _⟩
      exact absurd (.inl hr) (hnone r)
  | succ n =>
    obtain ⟨y, hy⟩ : ∃ r, ys[n]? = some r := ⟨_, List.getElem?_eq_getElem (by omega)⟩
    have P := hP n y hy
    have hb := y3 y (List.mem_of_getElem? hy)
    obtain ⟨_, hcan, _⟩ := hSt n (by omega)
    obtain ⟨A1, A2⟩ := passed_all P hcan hb.2
    have e : Fin (rowAt p q) ys = (St (rowAt p q) ys n).1 ++ (St (rowAt p q) ys n).2.1.map (cell (St (rowAt p q) ys n).2.2 (y - (St (rowAt p q) ys n).2.2)) := by
      unfold Fin
      rw [hn, Nat.add_sub_cancel, List.getD_eq_getElem?_getD, hy, Option.getD_some]
    rw [e]
    refine ⟨fun r hr => (A1 r hr).1, A2, fun x v => ?_⟩
    by_cases hv : v < y
    · rw [P.pix x v hv, hRx]
    · constructor
      · rintro ⟨r, hr, hh⟩
        have := (A1 r hr).2
        unfold has at hh
        omega
      · rintro ⟨⟨r, hr, hh⟩, _⟩
        have hmem := (mem r (.inl hr)).2
        obtain ⟨j, hj⟩ := List.getElem?_of_mem hmem
        have hjl := (List.getElem?_eq_some_iff.1 hj).1
        have hle : r.f1 + r.f3 ≤ y := by
          by_cases e0 : j = n
          · subst e0; rw [hy] at hj; cases hj; exact Int.le_refl _
          · have := List.pairwise_iff_getElem.1 y1 j n hjl (by omega) (by omega)
            rw [(List.getElem?_eq_some_iff.1 hj).2, (List.getElem?_eq_some_iff.1 hy).2] at this
            omega
        unfold has at hh
        omega
end Go.Abs.TKQ.R

set_option linter.unusedVariables false
set_option linter.unusedSimpArgs false
set_option maxRecDepth 10000
namespace Go.Abs.TKQ.R
open Go.RowKit Go.Proofs Go.Abs
def inB (a b c : Int) : Bool := leI b a && leI a c
theorem t126 (a b c : Int) : T70 a b c = some (!inB a b c) := by
  unfold T70 inB ltI leI
  by_cases h1 : a < b
  · have : ¬ b ≤ a := by omega
    simp [h1, this]
  · have : b ≤ a := by omega
    by_cases h2 : c < a
    · have h3 : ¬ a ≤ c := by omega
      simp [h1, h2, this, h3]
    · have h3 : a ≤ c := by omega
      simp [h1, h2, this, h3]
def good (r : S28) : Bool := inB r.f0 (-100000) 100000 && inB r.f1 (-100000) 100000 && inB r.f2 1 (subI .i64 100000 r.f0) && inB r.f3 1 (subI .i64 100000 r.f1)
theorem t117 (r : S28) : T63 r = some (bif good r then 0 else 1) := by
  unfold T63 good
  simp only [t126, Option.bind_some]
  cases inB r.f0 (-100000) 100000 <;> cases inB r.f1 (-100000) 100000 <;> cases inB r.f2 1 (subI .i64 100000 r.f0) <;> cases inB r.f3 1 (subI .i64 100000 r.f1) <;> rfl
theorem neI_code (b : Bool) : neI (bif b then (0 : Int) else 1) 0 = !b := by cases b <;> rfl
def code (p : List S28) : Int := if 2000 < p.length then 2 else if p.all good = true then 0 else 1
theorem t211 (p : List S28) (hl : p.length ≤ 1048576) : T58 p = some (code p) := by
  unfold T58 code
  by_cases h : 2000 < p.length
  · rw [if_pos h, show ltI 2000 (lenL p) = true from decide_eq_true (by rw [lenL_eq]; omega)]
    rfl
  · rw [if_neg h, show ltI 2000 (lenL p) = false from decide_eq_false (by rw [lenL_eq]; omega)]
    simp only [cond_false]
    obtain ⟨r, h1, h2⟩ : ∃ r, iter (L58_4 p) 0 = some r ∧ ((r.isLeft = true ∧ p.all good = true) ∨ (r = .inr 1 ∧ ¬ p.all good = true)) := by
      refine iter_upx (st := L58_4 p) (fun (_ : Unit) i => (i : Int)) p.length (fun i _ => ∀ j x, j < i → p[j]? = some x → good x = true) (fun r => (r.isLeft = true ∧ p.all good = true) ∨ (r = .inr 1 ∧ ¬ p.all good = true)) ?_ ?_ 0 () (Nat.zero_le _) (fun j _ h => absurd h (Nat.not_lt_zero j))
      · intro i _ hi hinv
        obtain ⟨r, hr⟩ : ∃ r, p[i]? = some r := ⟨_, List.getElem?_eq_getElem hi⟩
        simp only [L58_4, ltL_true hi, listAt_some hr, cond_true, Option.bind_some, nextI (show i < 9223372036854775807 by omega), t117, neI_code]
        cases hg : good r with
        | true =>
          refine .inl ⟨(), rfl, fun j x hj hx => ?_⟩
          by_cases e : j = i
          · subst e
            rw [hr] at hx
            cases hx
            exact hg
          · exact hinv j x (by omega) hx
        | false =>
          refine .inr ⟨_, rfl, .inr ⟨rfl, fun h => ?_⟩⟩
          have := List.all_eq_true.1 h r (List.mem_of_getElem? hr)
          rw [hg] at this
          cases this
      · intro _ hinv
        simp only [L58_4, ltL_false (Nat.le_refl _), cond_false]
        refine ⟨_, rfl, .inl ⟨rfl, List.all_eq_true.2 fun x hx => ?_⟩⟩
        obtain ⟨j, hj⟩ := List.getElem?_of_mem hx
        exact hinv j x (List.getElem?_eq_some_iff.1 hj).1 hj
    rw [h1, Option.bind_some]
    rcases h2 with ⟨h2, h3⟩ | ⟨h2, h3⟩
    · rw [if_pos h3]
      cases r with
      | inl y => rfl
      | inr y => cases h2
    · rw [if_neg h3, h2]
      rfl
theorem t36_self (l : List S28) (hl : l.length ≤ 2000000000000) : T23 l l = some true := by
  unfold T23
  have e : neI (lenL l) (lenL l) = false := by rw [neI_iff]; simp
  rw [e]
  simp only [cond_false]
  obtain ⟨r, h1, h2⟩ : ∃ r, iter (L23_4 l l) 0 = some r ∧ r.isLeft = true := by
    refine iter_up (st := L23_4 l l) (fun (_ : Unit) i => (i : Int)) l.length (fun _ _ => True) (fun r => r.isLeft = true) ?_ ?_ () trivial
    · intro i _ hi _
      obtain ⟨r, hr⟩ : ∃ r, l[i]? = some r := ⟨_, List.getElem?_eq_getElem hi⟩
      simp only [L23_4, ltL_true hi, listAt_some hr, cond_true, Option.bind_some, nextI (show i < 9223372036854775807 by omega), eqI_self, allB, Bool.and_true, Bool.not_true, cond_false]
      exact ⟨(), by first | rfl | trivial, trivial⟩
    · intro _ _
      simp only [L23_4, ltL_false (Nat.le_refl _), cond_false]
      exact ⟨_, rfl, rfl⟩
  rw [h1, Option.bind_some]
  cases r with
  | inl y => rfl
  | inr y => cases h2
end Go.Abs.TKQ.R

set_option linter.unusedVariables false
set_option linter.unusedSimpArgs false
set_option maxRecDepth 10000
namespace Go.Abs.TKQ.R
open Go.RowKit Go.Proofs Go.Abs
theorem reg_ok (p q : List S28) (hp : ∀ r ∈ p, W r) (hq : ∀ r ∈ q, W r) (lp : p.length ≤ 2000) (lq : q.length ≤ 2000) : T60 p q = some (Fin (rowAt p q) (edgesY (p ++ q))) := by
  have hall : ∀ r ∈ p ++ q, W r := fun r hr => by
    rcases List.mem_append.1 hr with e | e
    · exact hp r e
    · exact hq r e
  have hl4 : (p ++ q).length ≤ 4000 := by rw [List.length_append]; omega
  have hl : (p ++ q).length ≤ 1000000 := by omega
  obtain ⟨y1, y2, y3, y4⟩ := edgesY_ok (p ++ q) hall
  obtain ⟨e, e1, e2⟩ := edges_loop p q (p ++ q) hl
  obtain ⟨u, u1, u2⟩ := prog_ok p q (edgesY (p ++ q)) hp hq (by omega) (by omega) y3 (by omega)
  unfold T60
  rw [both_ok p q (by omega) (by omega), Option.bind_some, e1, Option.bind_some, e2]
  unfold sortIO compIO
  rw [if_pos (by rw [eY_len]; omega), Option.bind_some, Option.bind_some]
  unfold edgesY at u1 u2
  rw [u1, Option.bind_some, u2]
  rfl
theorem row_can (p q : List S28) (hp : ∀ r ∈ p, W r) (hq : ∀ r ∈ q, W r) (lp : p.length ≤ 1000000) (lq : q.length ≤ 1000000) (y : Int) : Can (rowAt p q y) ∧ ∀ x, inn (rowAt p q y) x ↔ hasL p x y ∧ ¬ hasL q x y := by
  obtain ⟨_, _, _, _, _, h1, h2⟩ := rowAt_ok p q y hp hq lp lq
  exact ⟨h1, h2⟩
theorem nil_W : ∀ r ∈ ([] : List S28), W r := fun r hr => by cases hr
theorem nil_has (x y : Int) : ¬ hasL [] x y := fun ⟨_, h, _⟩ => by cases h
theorem fin_union (p p' : List S28) (hp : ∀ r ∈ p, W r) (hp' : ∀ r ∈ p', W r) (lp : p.length ≤ 100000) : Fin (rowAt p []) (edgesY p) = Fin (rowAt p []) (edgesY (p ++ p')) := by
  have hall : ∀ r ∈ p ++ p', W r := fun r hr => by
    rcases List.mem_append.1 hr with e | e
    · exact hp r e
    · exact hp' r e
  obtain ⟨y1, y2, y3, y4⟩ := edgesY_ok p hp
  obtain ⟨z1, z2, z3, z4⟩ := edgesY_ok (p ++ p') hall
  have mem : ∀ r ∈ p, r.f1 ∈ edgesY p ∧ r.f1 + r.f3 ∈ edgesY p := fun r hr => ⟨(y2 _).2 ⟨r, hr, .inl rfl⟩, (y2 _).2 ⟨r, hr, .inr rfl⟩⟩
  refine fin_more _ _ _ y1 z1 (fun y hy => ?_) (fun a b hab hE => ?_) (fun y hE => ?_) (fun y hE => ?_) fun y hy => (z3 y hy).1
  · obtain ⟨r, hr, e⟩ := (y2 y).1 hy
    exact (z2 y).2 ⟨r, List.mem_append_left _ hr, e⟩
  · refine row_same p [] a b hp nil_W (by omega) (by decide) fun r hr x => ?_
    rcases hr with hr | hr
    · have h1 := hE _ (mem r hr).1
      have h2 := hE _ (mem r hr).2
      unfold has
      omega
    · cases hr
  · refine row_none p [] y hp nil_W (by omega) (by decide) fun r hr x hx => ?_
    have h1 := hE _ (mem r hr).1
    unfold has at hx
    omega
  · refine row_none p [] y hp nil_W (by omega) (by decide) fun r hr x hx => ?_
    have h2 := hE _ (mem r hr).2
    unfold has at hx
    omega
theorem reg_ext (p p' : List S28) (hp : ∀ r ∈ p, W r) (hp' : ∀ r ∈ p', W r) (lp : p.length ≤ 100000) (lp' : p'.length ≤ 100000) (h : ∀ x y, hasL p x y ↔ hasL p' x y) : Fin (rowAt p []) (edgesY p) = Fin (rowAt p' []) (edgesY p') := by
  have hR : rowAt p [] = rowAt p' [] := by
    funext y
    obtain ⟨c1, d1⟩ := row_can p [] hp nil_W (by omega) (by decide) y
    obtain ⟨c2, d2⟩ := row_can p' [] hp' nil_W (by omega) (by decide) y
    exact can_unique _ _ c1 c2 fun x => by rw [d1, d2, h]
  rw [fin_union p p' hp hp' lp, fin_union p' p hp' hp lp', hR]
  congr 1
  have a1 : ∀ r ∈ p ++ p', W r := fun r hr => by
    rcases List.mem_append.1 hr with e | e
    · exact hp r e
    · exact hp' r e
  have a2 : ∀ r ∈ p' ++ p, W r := fun r hr => by
    rcases List.mem_append.1 hr with e | e
    · exact hp' r e
    · exact hp r e
  obtain ⟨y1, y2, _⟩ := edgesY_ok (p ++ p') a1
  obtain ⟨z1, z2, _⟩ := edgesY_ok (p' ++ p) a2
  refine sorted_same y1 z1 fun x => ?_
  rw [y2, z2]
  constructor
  · rintro ⟨r, hr, e⟩
    exact ⟨r, List.mem_append.2 (List.mem_append.1 hr).symm, e⟩
  · rintro ⟨r, hr, e⟩
    exact ⟨r, List.mem_append.2 (List.mem_append.1 hr).symm, e⟩
theorem good_of {r : S28} (h : W r) : good r = true := by
  unfold W at h
  unfold good inB leI
  rw [subI_eq (by omega) (by omega), subI_eq (by omega) (by omega)]
  simp only [Bool.and_eq_true, decide_eq_true_eq]
  omega
theorem fault_ok {p : List S28} (hp : ∀ r ∈ p, W r) (lp : p.length ≤ 2000) : T58 p = some 0 := by
  rw [t211 p (by omega)]
  unfold code
  rw [if_neg (by omega), if_pos (List.all_eq_true.2 fun r hr => good_of (hp r hr))]
theorem rect_ok {r : S28} (h : W r) : T63 r = some 0 := by
  rw [t117, good_of h]
  rfl
theorem region_is {p : List S28} (hp : ∀ r ∈ p, W r) (lp : p.length ≤ 2000) (hl : (Fin (rowAt p []) (edgesY p)).length ≤ 2000) : T16 p = some (Fin (rowAt p []) (edgesY p), 0) := by
  unfold T16
  rw [fault_ok hp lp, Option.bind_some, reg_ok p [] hp nil_W lp (by decide), List.append_nil]
  simp only [show neI 0 0 = false from rfl, cond_false, Option.bind_some]
  unfold T59
  rw [show ltI 2000 (lenL (Fin (rowAt p []) (edgesY p))) = false by rw [lenL_eq]; exact decide_eq_false (by omega)]
  rfl
end Go.Abs.TKQ.R

set_option linter.unusedVariables false
set_option linter.unusedSimpArgs false
set_option maxRecDepth 10000
namespace Go.Abs.TKQ
open Go.RowKit Go.Proofs Go.Abs R
theorem ltI_t {a b : Int} (h : a < b) : ltI a b = true := by unfold ltI; exact decide_eq_true h
theorem ltI_f {a b : Int} (h : b ≤ a) : ltI a b = false := by unfold ltI; exact decide_eq_false (by omega)
theorem leI_t {a b : Int} (h : a ≤ b) : leI a b = true := by unfold leI; exact decide_eq_true h
theorem leI_f {a b : Int} (h : b < a) : leI a b = false := by unfold leI; exact decide_eq_false (by omega)
theorem neI_no (a : Int) : neI a a = false := by rw [neI_iff]; simp
theorem any_iter {α : Type} {st : Int → Option (Int ⊕ ((Int × Bool) ⊕ Int))} {l : List α} (p : α → Bool) (hl : l.length ≤ 1048576) (hs : ∀ (i : Nat) x, l[i]? = some x → st (i : Int) = some (bif p x then .inr (.inr (i : Int)) else .inl ((i + 1 : Nat) : Int)))
    (he : st (l.length : Int) = some (.inr (.inl ((l.length : Int), false)))) : ∃ v, ((iter st 0).bind fun y => Sum.elim (fun _ => some (-1)) (fun b => some b) y) = some v ∧ leI 0 v = l.any p := by
  have hstep : ∀ (i : Nat) (s : Unit), i < l.length → (∀ j x, j < i → l[j]? = some x → p x = false) → (∃ s' : Unit, st (i : Int) = some (.inl ((i + 1 : Nat) : Int)) ∧ ∀ j x, j < i + 1 → l[j]? = some x → p x = false) ∨ ∃ r, st (i : Int) = some (.inr r) ∧ ((∃ y, r = .inl y ∧ l.any p = false) ∨ ∃ k : Nat, r = .inr (k : Int) ∧ l.any p = true) := by
    intro i _ hi hI
    have hx := List.getElem?_eq_getElem hi
    have h1 := hs i _ hx
    cases hp : p l[i] with
    | true =>
      rw [hp] at h1
      exact .inr ⟨_, h1, .inr ⟨i, rfl, List.any_eq_true.2 ⟨_, List.getElem_mem hi, hp⟩⟩⟩
    | false =>
      rw [hp] at h1
      refine .inl ⟨(), h1, fun j x hj hjx => ?_⟩
      by_cases hji : j = i
      · subst hji
        rw [hx] at hjx
        cases hjx
        exact hp
      · exact hI j x (by omega) hjx
  obtain ⟨r, h1, h2⟩ := iter_upx (st := st) (fun (_ : Unit) i => (i : Int)) l.length (fun i _ => ∀ j x, j < i → l[j]? = some x → p x = false) (fun r => (∃ y, r = .inl y ∧ l.any p = false) ∨ ∃ k : Nat, r = .inr (k : Int) ∧ l.any p = true) hstep
    (fun _ hI => ⟨_, he, .inl ⟨_, rfl, List.any_eq_false.2 fun x hx => by
      obtain ⟨j, hj⟩ := List.getElem?_of_mem hx
      rw [hI j x (List.getElem?_eq_some_iff.1 hj).1 hj]
      decide⟩⟩) 0 () (Nat.zero_le _) (fun j x hj => by omega)
  have h1 : iter st 0 = some r := h1
  rcases h2 with ⟨y, rfl, h3⟩ | ⟨k, rfl, h3⟩
  · exact ⟨-1, by rw [h1]; rfl, by rw [h3]; rfl⟩
  · exact ⟨k, by rw [h1]; rfl, by rw [h3]; exact leI_t (by omega)⟩
def Sm (r : S28) : Prop := -2 ≤ r.f0 ∧ -2 ≤ r.f1 ∧ 1 ≤ r.f2 ∧ 1 ≤ r.f3 ∧ r.f0 + r.f2 ≤ 13 ∧ r.f1 + r.f3 ≤ 13
theorem sm_W {r : S28} (h : Sm r) : W r := by unfold Sm at h; unfold W; omega
def big : S28 := ⟨-2, -2, 15, 15⟩
theorem sm_big {r : S28} (h : Sm r) {x y : Int} (hh : has r x y) : has big x y := by unfold Sm at h; unfold has at hh; unfold has big; simp only; omega
theorem rect_drawn {L : List Int} {at_ : Int} (hL : L.length ≤ 1048576) (h0 : 0 ≤ at_) (h1 : at_ ≤ 1000000) : ∃ r, T15 L at_ = some (r, L, at_ + 1 + 1 + 1 + 1) ∧ Sm r := by
  obtain ⟨x, e1, x1, x2⟩ := range_ok (L := L) (at_ := at_) (lo := -2) (hi := 8) hL h0 (by omega) (by decide) (by decide) (by decide)
  obtain ⟨y, e2, y1, y2⟩ := range_ok (L := L) (at_ := at_ + 1) (lo := -2) (hi := 8) hL (by omega) (by omega) (by decide) (by decide) (by decide)
  obtain ⟨w, e3, w1, w2⟩ := range_ok (L := L) (at_ := at_ + 1 + 1) (lo := 1) (hi := 5) hL (by omega) (by omega) (by decide) (by decide) (by decide)
  obtain ⟨h, e4, h1, h2⟩ := range_ok (L := L) (at_ := at_ + 1 + 1 + 1) (lo := 1) (hi := 5) hL (by omega) (by omega) (by decide) (by decide) (by decide)
  refine ⟨⟨x, y, w, h⟩, ?_, ?_⟩
  · unfold T15
    simp only [e1, e2, e3, e4, Option.bind_some]
  · unfold Sm; simp only; omega
structure Drw (l : List S28) (i : Nat) (at0 at_ : Int) : Prop where
  a : ∀ r ∈ l, Sm r
  n : l.length = i
  s : 0 ≤ at_ ∧ at_ ≤ at0 + 4 * i
theorem draw1 {L : List Int} (hL : L.length ≤ 1048576) {n at0 : Int} (hn : 0 ≤ n ∧ n ≤ 100) (hat : 0 ≤ at0 ∧ at0 ≤ 1000) (q : List Int × Int) : ∃ l at', iter (L3_4 (n, q)) (L, at0, [], 0) = some (n, false, L, at', l) ∧ Drw l n.toNat at0 at' := by
  obtain ⟨m, rfl⟩ : ∃ m : Nat, n = m := ⟨n.toNat, by omega⟩
  let enc : Int × List S28 → Nat → List Int × Int × List S28 × Int := fun s i => (L, s.1, s.2, (i : Int))
  have key : ∀ (i : Nat) s, i < m → Drw s.2 i at0 s.1 → ∃ s', L3_4 ((m : Int), q) (enc s i) = some (.inl (enc s' (i + 1))) ∧ Drw s'.2 (i + 1) at0 s'.1 := by
    rintro i ⟨a, l⟩ hi ⟨h1, h2, h3⟩
    simp only at h1 h2 h3
    obtain ⟨r, e1, hr⟩ := rect_drawn (L := L) (at_ := a) hL (by omega) (by omega)
    have ho : appO 32 l [r] = some (l ++ [r]) := appO_big (by decide) (by simp only [List.length_cons, List.length_nil]; omega)
    refine ⟨(a + 1 + 1 + 1 + 1, l ++ [r]), ?_, fun x hx => ?_, by simp [h2], by simp only; omega⟩
    · unfold L3_4
      simp only [enc, ltI_t (show (i : Int) < (m : Int) by omega), cond_true, e1, Option.bind_some, ho, nextI (i := i) (by omega)]
    · rcases List.mem_append.1 hx with hx | hx
      · exact h1 x hx
      · rw [List.mem_singleton] at hx; subst hx; exact hr
  obtain ⟨r, h1, at', l, rfl, h2⟩ := iter_up enc m (fun i s => Drw s.2 i at0 s.1) (fun r => ∃ at' l, r = ((m : Int), false, L, at', l) ∧ Drw l m at0 at') key (fun s hI => ⟨_, by unfold L3_4; simp only [enc]; rw [ltI_f (Int.le_refl _)]; rfl, s.1, s.2, rfl, hI⟩) (at0, []) ⟨fun x hx => (by cases hx), rfl, by simp only; omega⟩
  exact ⟨l, at', h1, h2⟩
theorem draw2 {L : List Int} (hL : L.length ≤ 1048576) (y : Int × Bool × List Int × Int × List S28) {n at0 : Int} (hn : 0 ≤ n ∧ n ≤ 100) (hat : 0 ≤ at0 ∧ at0 ≤ 10000) (q : List Int × Int) : ∃ l at', iter (L3_8 y (n, q)) (L, at0, [], 0) = some (n, false, L, at', l) ∧ Drw l n.toNat at0 at' := by
  obtain ⟨m, rfl⟩ : ∃ m : Nat, n = m := ⟨n.toNat, by omega⟩
  let enc : Int × List S28 → Nat → List Int × Int × List S28 × Int := fun s i => (L, s.1, s.2, (i : Int))
  have key : ∀ (i : Nat) s, i < m → Drw s.2 i at0 s.1 → ∃ s', L3_8 y ((m : Int), q) (enc s i) = some (.inl (enc s' (i + 1))) ∧ Drw s'.2 (i + 1) at0 s'.1 := by
    rintro i ⟨a, l⟩ hi ⟨h1, h2, h3⟩
    simp only at h1 h2 h3
    obtain ⟨r, e1, hr⟩ := rect_drawn (L := L) (at_ := a) hL (by omega) (by omega)
    have ho : appO 32 l [r] = some (l ++ [r]) := appO_big (by decide) (by simp only [List.length_cons, List.length_nil]; omega)
    refine ⟨(a + 1 + 1 + 1 + 1, l ++ [r]), ?_, fun x hx => ?_, by simp [h2], by simp only; omega⟩
    · unfold L3_8
      simp only [enc, ltI_t (show (i : Int) < (m : Int) by omega), cond_true, e1, Option.bind_some, ho, nextI (i := i) (by omega)]
    · rcases List.mem_append.1 hx with hx | hx
      · exact h1 x hx
      · rw [List.mem_singleton] at hx; subst hx; exact hr
  obtain ⟨r, h1, at', l, rfl, h2⟩ := iter_up enc m (fun i s => Drw s.2 i at0 s.1) (fun r => ∃ at' l, r = ((m : Int), false, L, at', l) ∧ Drw l m at0 at') key (fun s hI => ⟨_, by unfold L3_8; simp only [enc]; rw [ltI_f (Int.le_refl _)]; rfl, s.1, s.2, rfl, hI⟩) (at0, []) ⟨fun x hx => (by cases hx), rfl, by simp only; omega⟩
  exact ⟨l, at', h1, h2⟩
theorem cnt_le {P Q : Int → Int → Prop} (h : ∀ x y, P x y → Q x y) : cnt P ≤ cnt Q := by
  have : cnt Q = cnt P + cnt (fun x y => Q x y ∧ ¬ P x y) := by
    rw [← cnt_or (P := P) (Q := fun x y => Q x y ∧ ¬ P x y) fun x y ⟨a, b⟩ => b.2 a]
    refine cnt_ext fun x y => ?_
    constructor
    · intro hq
      by_cases hp : P x y
      · exact .inl hp
      · exact .inr ⟨hq, hp⟩
    · rintro (hp | hp)
      · exact h x y hp
      · exact hp.1
  omega
theorem area_len : ∀ (l : List S28), (∀ r ∈ l, W r) → (l.length : Int) ≤ areaL l ∧ ∀ r ∈ l, 1 ≤ r.f2 * r.f3 ∧ r.f2 * r.f3 ≤ areaL l
  | [], _ => ⟨by simp [areaL], fun r hr => by cases hr⟩
  | a :: l, h => by
    obtain ⟨h1, h2⟩ := area_len l fun r hr => h r (List.mem_cons_of_mem _ hr)
    have hw := h a (by simp)
    unfold W at hw
    have h3 : 1 ≤ a.f2 * a.f3 := by
      have := Int.mul_le_mul (show (1 : Int) ≤ a.f2 by omega) (show (1 : Int) ≤ a.f3 by omega) (by decide) (by omega)
      omega
    have e : areaL (a :: l) = a.f2 * a.f3 + areaL l := by simp [areaL]
    have h0 : 0 ≤ areaL l := by omega
    refine ⟨by rw [e, List.length_cons]; omega, fun r hr => ?_⟩
    rcases List.mem_cons.1 hr with rfl | hr
    · omega
    · have := h2 r hr; omega
theorem areaL_app (l m : List S28) : areaL (l ++ m) = areaL l + areaL m := by simp [areaL, List.map_append]
structure Ap (l : List S28) : Prop where
  w : ∀ r ∈ l, W r
  d : l.Pairwise disj
  b : ∀ x y, hasL l x y → has big x y
theorem ap_area {l : List S28} (h : Ap l) : (cnt (hasL l) : Int) = areaL l ∧ areaL l ≤ 225 ∧ 0 ≤ areaL l ∧ l.length ≤ 225 := by
  have h1 := cnt_list l h.w h.d
  have h2 := cnt_le h.b
  have h3 : (cnt (has big) : Int) = 15 * 15 := cnt_has (r := big) (by unfold W big; simp only; omega)
  have h4 := (area_len l h.w).1
  refine ⟨h1, by omega, by omega, by omega⟩
theorem sum_ok {l : List S28} (h : Ap l) : T61 l = some (areaL l) := by
  obtain ⟨_, h2, h3, h4⟩ := ap_area h
  have hal := (area_len l h.w).2
  let enc : Int → Nat → Int × Int := fun s i => (s, (i : Int))
  have tk : ∀ (i : Nat) r, l[i]? = some r → areaL (l.take (i + 1)) = areaL (l.take i) + r.f2 * r.f3 := fun i r hr => by
    rw [List.take_add_one, hr]
    simp [areaL]
  have mono : ∀ i, i ≤ l.length → 0 ≤ areaL (l.take i) ∧ areaL (l.take i) ≤ areaL l := fun i hi => by
    have e : areaL l = areaL (l.take i) + areaL (l.drop i) := by
      rw [← areaL_app, List.take_append_drop]
    have h5 := (area_len (l.take i) fun r hr => h.w r (List.mem_of_mem_take hr)).1
    have h6 := (area_len (l.drop i) fun r hr => h.w r (List.mem_of_mem_drop hr)).1
    omega
  have key : ∀ (i : Nat) s, i < l.length → s = areaL (l.take i) → ∃ s', L61_3 l (enc s i) = some (.inl (enc s' (i + 1))) ∧ s' = areaL (l.take (i + 1)) := by
    rintro i _ hi rfl
    have hx := List.getElem?_eq_getElem hi
    have hm := hal _ (List.getElem_mem hi)
    have m1 := mono i (by omega)
    refine ⟨_, ?_, rfl⟩
    unfold L61_3
    simp only [enc, ltL_true hi, cond_true, listAt_some hx, Option.bind_some, nextI (i := i) (by omega)]
    rw [mulI_eq (by omega) (by omega), addI_eq (by omega) (by omega), tk i _ hx]
  obtain ⟨r, h1, h2⟩ := iter_up enc l.length (fun i s => s = areaL (l.take i)) (fun r => r.1 = areaL l) key (fun s hs => ⟨_, by unfold L61_3; simp only [enc]; rw [ltL_false (Nat.le_refl _)]; rfl, by rw [List.take_length] at hs; exact hs⟩) 0 (by simp [areaL])
  have h1 : iter (L61_3 l) (0, 0) = some r := h1
  unfold T61
  rw [h1, Option.bind_some, h2]
noncomputable def Reg (p q : List S28) : List S28 := Fin (R.rowAt p q) (edgesY (p ++ q))
theorem reg_ap {p q : List S28} (hp : ∀ r ∈ p, W r) (hb : ∀ x y, hasL p x y → has big x y) (hq : ∀ r ∈ q, W r) (lp : p.length ≤ 2000) (lq : q.length ≤ 2000) : Ap (Reg p q) ∧ ∀ x y, hasL (Reg p q) x y ↔ hasL p x y ∧ ¬ hasL q x y := by
  obtain ⟨h1, h2, h3⟩ := fin_pix p q hp hq (by omega) (by omega)
  exact ⟨⟨h1, h2, fun x y h => hb x y ((h3 x y).1 h).1⟩, h3⟩
theorem reg_nil (p : List S28) : Reg p [] = Fin (R.rowAt p []) (edgesY p) := by unfold Reg; rw [List.append_nil]
theorem region_ok {p : List S28} (hp : ∀ r ∈ p, W r) (hb : ∀ x y, hasL p x y → has big x y) (lp : p.length ≤ 2000) : T16 p = some (Reg p [], 0) := by
  have h := reg_ap hp hb nil_W lp (by decide)
  have hl := (ap_area h.1).2.2.2
  rw [reg_nil] at hl ⊢
  exact region_is hp lp (by omega)
theorem area_ok {p : List S28} (hp : ∀ r ∈ p, W r) (hb : ∀ x y, hasL p x y → has big x y) (lp : p.length ≤ 2000) : T20 p = some (areaL (Reg p []), 0) := by
  have h := reg_ap hp hb nil_W lp (by decide)
  unfold T20
  rw [fault_ok hp lp, Option.bind_some, reg_ok p [] hp nil_W lp (by decide)]
  simp only [show neI 0 0 = false from rfl, cond_false, Option.bind_some]
  have := sum_ok h.1
  unfold Reg at this ⊢
  rw [this]
  rfl
theorem without_ok {p q : List S28} (hp : ∀ r ∈ p, W r) (hb : ∀ x y, hasL p x y → has big x y) (hq : ∀ r ∈ q, W r) (lp : p.length ≤ 2000) (lq : q.length ≤ 2000) : T19 p q = some (Reg p q, 0) := by
  have h := reg_ap hp hb hq lp lq
  have hl := (ap_area h.1).2.2.2
  unfold T19
  have c0 : L19_2 p q 0 = some (.inl 1) := by
    unfold L19_2
    rw [show ltI 0 2 = true from rfl, show listAt [p, q] 0 = some p from rfl]
    simp only [cond_true, Option.bind_some, fault_ok hp lp, neI_no, cond_false]
    rfl
  have c1 : L19_2 p q 1 = some (.inl 2) := by
    unfold L19_2
    rw [show ltI 1 2 = true from rfl, show listAt [p, q] 1 = some q from rfl]
    simp only [cond_true, Option.bind_some, fault_ok hq lq, neI_no, cond_false]
    rfl
  rw [iter_inl c0, iter_inl c1, iter_inr (r := .inl (2, false)) rfl]
  simp only [Option.bind_some, Sum.elim_inl, reg_ok p q hp hq lp lq]
  show (T59 (Reg p q)).bind _ = _
  unfold T59
  rw [show ltI 2000 (lenL (Reg p q)) = false by rw [lenL_eq]; exact ltI_f (by omega)]
  rfl
theorem reg_same {p p' : List S28} (hp : ∀ r ∈ p, W r) (hp' : ∀ r ∈ p', W r) (lp : p.length ≤ 2000) (lp' : p'.length ≤ 2000) (h : ∀ x y, hasL p x y ↔ hasL p' x y) : Reg p [] = Reg p' [] := by
  rw [reg_nil, reg_nil]
  exact reg_ext p p' hp hp' (by omega) (by omega) h
def hasB (x y : Int) (r : S28) : Bool := leI r.f0 x && ltI x (addI .i64 r.f0 r.f2) && (leI r.f1 y && ltI y (addI .i64 r.f1 r.f3))
theorem one_ok {l : List S28} (hl : l.length ≤ 2000) (x y : Int) : T25 l x y = some (l.any (hasB x y)) := by
  obtain ⟨v, h1, h2⟩ := any_iter (st := L108_1_2 l x y) (l := l) (hasB x y) (by omega) (fun i r hr => by
    have hi := (List.getElem?_eq_some_iff.1 hr).1
    have e : T66 r x y = some (hasB x y r) := by
      unfold T66 T35 hasB
      cases leI r.f0 x <;> cases ltI x (addI .i64 r.f0 r.f2) <;> cases leI r.f1 y <;> rfl
    unfold L108_1_2
    simp only [ltL_true hi, cond_true, listAt_some hr, Option.bind_some, e, nextI (i := i) (by omega)]
    cases hasB x y r <;> rfl) (by unfold L108_1_2; rw [ltL_false (Nat.le_refl _)]; rfl)
  have h1 : T108_1 l x y = some v := h1
  unfold T25 T65_1
  rw [h1, Option.bind_some, Option.bind_some, h2]
theorem any_has {l : List S28} (hW : ∀ r ∈ l, W r) (x y : Int) : (l.any (hasB x y) = true) ↔ hasL l x y := by
  rw [List.any_eq_true]
  unfold hasL
  refine exists_congr fun r => and_congr_right fun hr => ?_
  have hw := w_edge (hW r hr)
  unfold hasB has
  rw [hw.1, hw.2]
  unfold leI ltI
  simp only [Bool.and_eq_true, decide_eq_true_eq, and_assoc]
theorem disj_apart {r s : S28} (hr : W r) (hs : W s) (h : disj r s) : r.f0 + r.f2 ≤ s.f0 ∨ s.f0 + s.f2 ≤ r.f0 ∨ r.f1 + r.f3 ≤ s.f1 ∨ s.f1 + s.f3 ≤ r.f1 := by
  have := h (max r.f0 s.f0) (max r.f1 s.f1)
  unfold has at this
  unfold W at hr hs
  omega
theorem meet_no {r s : S28} (hr : W r) (hs : W s) (h : disj r s) : ∃ v, T24 r s = some (v, false, 0) := by
  have ha := disj_apart hr hs h
  have c0 : L24_2 r s 0 = some (.inl 1) := by
    unfold L24_2
    rw [show ltI 0 2 = true from rfl, show listAt [r, s] 0 = some r from rfl]
    simp only [cond_true, Option.bind_some, rect_ok hr, neI_no, cond_false]
    rfl
  have c1 : L24_2 r s 1 = some (.inl 2) := by
    unfold L24_2
    rw [show ltI 1 2 = true from rfl, show listAt [r, s] 1 = some s from rfl]
    simp only [cond_true, Option.bind_some, rect_ok hs, neI_no, cond_false]
    rfl
  have er := w_edge hr
  have es := w_edge hs
  unfold W at hr hs
  unfold T24
  rw [iter_inl c0, iter_inl c1, iter_inr (r := .inl (2, false)) rfl]
  simp only [Option.bind_some, Sum.elim_inl]
  unfold T64
  rw [er.1, er.2, es.1, es.2]
  simp only [minI_eq, maxI_eq]
  rw [subI_eq (by omega) (by omega), subI_eq (by omega) (by omega)]
  by_cases q1 : min (r.f0 + r.f2) (s.f0 + s.f2) - max r.f0 s.f0 ≤ 0
  · rw [leI_t q1]
    exact ⟨_, rfl⟩
  · rw [leI_f (by omega), leI_t (show min (r.f1 + r.f3) (s.f1 + s.f3) - max r.f1 s.f1 ≤ 0 by omega)]
    exact ⟨_, rfl⟩
theorem cut_take {l : List S28} {i : Nat} (h : i ≤ l.length) : cutL l none (some (i : Int)) = some (l.take i) := by
  have h1 : (0 : Int) ≤ (i : Int) ∧ (i : Int) ≤ (l.length : Int) := by omega
  unfold cutL cutB
  simp only [if_pos h1, Option.bind_some, Option.map_some, Int.toNat_natCast, List.drop_zero]
theorem disj_symm {r s : S28} (h : disj r s) : disj s r := fun x y hh => h x y ⟨hh.2, hh.1⟩
theorem each_ok {l : List S28} (h : Ap l) (y4 y8 : Int × Bool × List Int × Int × List S28) (x9 : List S28 × Int) (h9 : x9.1 = l) (x14 : List S28 × Int) (x15 : Int × Int) : ∃ b, iter (L3_25 y4 y8 x9 x14 x15) (0, 0) = some (.inl (areaL l, (l.length : Int), b)) := by
  obtain ⟨_, h2, h3, h4⟩ := ap_area h
  have hal := (area_len l h.w).2
  let enc : Int → Nat → Int × Int := fun s i => (s, (i : Int))
  have tk : ∀ (i : Nat) r, l[i]? = some r → areaL (l.take (i + 1)) = areaL (l.take i) + r.f2 * r.f3 := fun i r hr => by
    rw [List.take_add_one, hr]
    simp [areaL]
  have mono : ∀ i, i ≤ l.length → 0 ≤ areaL (l.take i) ∧ areaL (l.take i) ≤ areaL l := fun i hi => by
    have e : areaL l = areaL (l.take i) + areaL (l.drop i) := by
      rw [← areaL_app, List.take_append_drop]
    have h5 := (area_len (l.take i) fun r hr => h.w r (List.mem_of_mem_take hr)).1
    have h6 := (area_len (l.drop i) fun r hr => h.w r (List.mem_of_mem_drop hr)).1
    omega
  have key : ∀ (i : Nat) s, i < l.length → s = areaL (l.take i) → ∃ s', L3_25 y4 y8 x9 x14 x15 (enc s i) = some (.inl (enc s' (i + 1))) ∧ s' = areaL (l.take (i + 1)) := by
    rintro i _ hi rfl
    have hx := List.getElem?_eq_getElem hi
    have hm := hal _ (List.getElem_mem hi)
    have hwr := h.w _ (List.getElem_mem hi)
    have m1 := mono i (by omega)
    have hin : ∃ y, iter (L3_29 y4 y8 x9 x14 x15 (areaL (l.take i), (i : Int)) l[i] (l.take i)) 0 = some (.inl y) := by
      have key2 : ∀ (j : Nat) (s : Unit), j < (l.take i).length → True → ∃ s' : Unit, L3_29 y4 y8 x9 x14 x15 (areaL (l.take i), (i : Int)) l[i] (l.take i) (j : Int) = some (.inl ((j + 1 : Nat) : Int)) ∧ True := by
        intro j _ hj _
        have hx2 := List.getElem?_eq_getElem hj
        have hjl : j < i := by rw [List.length_take] at hj; omega
        have e : (l.take i)[j] = l[j]'(by omega) := List.getElem_take
        have hd := disj_symm (List.pairwise_iff_getElem.1 h.d j i (by omega) hi hjl)
        obtain ⟨v, hv⟩ := meet_no hwr (h.w _ (List.getElem_mem (by omega : j < l.length))) hd
        rw [← e] at hv
        refine ⟨(), ?_, trivial⟩
        unfold L3_29
        simp only [ltL_true hj, cond_true, listAt_some hx2, Option.bind_some, hv, neI_no, cond_false, nextI (i := j) (by omega)]
      obtain ⟨r, g1, y, rfl⟩ := iter_up (st := L3_29 y4 y8 x9 x14 x15 (areaL (l.take i), (i : Int)) l[i] (l.take i)) (fun (_ : Unit) i => (i : Int)) (l.take i).length (fun _ _ => True) (fun r => ∃ y, r = .inl y) key2 (fun _ _ => ⟨_, by unfold L3_29; rw [ltL_false (Nat.le_refl _)]; rfl, _, rfl⟩) () trivial
      exact ⟨y, g1⟩
    obtain ⟨y, hy⟩ := hin
    refine ⟨_, ?_, rfl⟩
    unfold L3_25
    simp only [enc, h9, ltL_true hi, cond_true, listAt_some hx, Option.bind_some, cut_take (show i ≤ l.length by omega), hy, Sum.elim_inl, nextI (i := i) (by omega)]
    rw [mulI_eq (by omega) (by omega), addI_eq (by omega) (by omega), tk i _ hx]
  obtain ⟨r, h1, b, rfl⟩ := iter_up enc l.length (fun i s => s = areaL (l.take i)) (fun r => ∃ b, r = .inl (areaL l, (l.length : Int), b)) key (fun s hs => ⟨_, by unfold L3_25; simp only [enc, h9]; rw [ltL_false (Nat.le_refl _)]; rfl, false, by rw [List.take_length] at hs; rw [hs]⟩) 0 (by simp [areaL])
  exact ⟨b, h1⟩
theorem five_ok (p0 : List Int) (hL : p0.length ≤ 1048576) (y4 y8 : Int × Bool × List Int × Int × List S28) (x9 x14 : List S28 × Int) (x15 : Int × Int) (y28 : Int × Int × Bool) (at2 : Int)
    (hp1 : ∀ x y, x9.1.any (hasB x y) = y4.2.2.2.2.any (hasB x y)) (hp2 : ∀ x y, x14.1.any (hasB x y) = (y4.2.2.2.2.any (hasB x y) && !y8.2.2.2.2.any (hasB x y))) (l1 : x9.1.length ≤ 2000) (l2 : y4.2.2.2.2.length ≤ 2000) (l3 : x14.1.length ≤ 2000) (l4 : y8.2.2.2.2.length ≤ 2000) (hat : 0 ≤ at2 ∧ at2 ≤ 2000) :
    ∃ y, iter (L3_37 y4 y8 x9 x14 x15 y28) (p0, at2, 0) = some (.inl y) := by
  let enc : Int → Nat → List Int × Int × Int := fun s i => (p0, s, (i : Int))
  have key : ∀ (i : Nat) (s : Int), i < 5 → (0 ≤ s ∧ s ≤ 2000 + 2 * i) → ∃ s', L3_37 y4 y8 x9 x14 x15 y28 (enc s i) = some (.inl (enc s' (i + 1))) ∧ (0 ≤ s' ∧ s' ≤ 2000 + 2 * ((i + 1 : Nat) : Int)) := by
    intro i s hi hs
    obtain ⟨x, f1, _, _⟩ := range_ok (L := p0) (at_ := s) (lo := -3) (hi := 14) hL (by omega) (by omega) (by decide) (by decide) (by decide)
    obtain ⟨y, f2, _, _⟩ := range_ok (L := p0) (at_ := s + 1) (lo := -3) (hi := 14) hL (by omega) (by omega) (by decide) (by decide) (by decide)
    refine ⟨s + 1 + 1, ?_, by omega⟩
    unfold L3_37
    simp only [enc, ltI_t (show (i : Int) < 5 by omega), cond_true, f1, f2, Option.bind_some, one_ok l1, one_ok l2, one_ok l3, one_ok l4, hp1, hp2, nextI (i := i) (by omega)]
    generalize y4.2.2.2.2.any (hasB x y) = u
    generalize y8.2.2.2.2.any (hasB x y) = v
    cases u <;> cases v <;> rfl
  obtain ⟨r, g1, y, rfl⟩ := iter_up enc 5 (fun i s => 0 ≤ s ∧ s ≤ 2000 + 2 * (i : Int)) (fun r => ∃ y, r = .inl y) key (fun s _ => ⟨_, by unfold L3_37; simp only [enc]; rw [ltI_f (by decide)]; rfl, _, rfl⟩) at2 hat
  exact ⟨y, g1⟩
theorem bs {α β : Type} {x : Option α} {a : α} {f : α → Option β} {b : Option β} (h : x = some a) (h2 : f a = b) : x.bind f = b := by rw [h]; exact h2
theorem cf {α : Type} {c : Bool} {x y b : α} (h : c = false) (h2 : y = b) : (bif c then x else y) = b := by rw [h]; exact h2
theorem ct {α : Type} {c : Bool} {x y b : α} (h : c = true) (h2 : x = b) : (bif c then x else y) = b := by rw [h]; exact h2
theorem se {α β γ : Type} {f : α → γ} {g : β → γ} {a : α} {b : γ} (h : f a = b) : Sum.elim f g (.inl a) = b := h
theorem final (p0 : List Int) (hL : p0.length ≤ 1048576) (n m at1 at2 : Int) (a b ra w ab : List S28) (sA sW sAB sB : Int) (e1 : T14 p0 0 0 5 = some (n, p0, 0 + 1)) (e2 : iter (L3_4 (n, p0, 0 + 1)) (p0, 0 + 1, [], 0) = some (n, false, p0, at1, a))
    (e3 : T14 p0 at1 0 3 = some (m, p0, at1 + 1)) (e4 : iter (L3_8 (n, false, p0, at1, a) (m, p0, at1 + 1)) (p0, at1 + 1, [], 0) = some (m, false, p0, at2, b)) (hr1 : T16 a = some (ra, 0)) (hcl : appO 32 ([] : List S28) a = some a) (hr2 : T16 a.reverse = some (ra, 0)) (hr3 : T16 ra = some (ra, 0))
    (hw : T19 a b = some (w, 0)) (ar1 : T20 a = some (sA, 0)) (ar2 : T20 w = some (sW, 0)) (hboth : T21 [a, b] = some ab) (ar3 : T20 ab = some (sAB, 0)) (ar4 : T20 b = some (sB, 0)) (hsub : subI .i64 sAB sB = sW) (t23 : T23 ra ra = some true) (A1 : Ap ra) (hsA : sA = areaL ra)
    (hp1 : ∀ x y, ra.any (hasB x y) = a.any (hasB x y)) (hp2 : ∀ x y, w.any (hasB x y) = (a.any (hasB x y) && !b.any (hasB x y))) (l1 : ra.length ≤ 2000) (l2 : a.length ≤ 2000) (l3 : w.length ≤ 2000) (l4 : b.length ≤ 2000) (hat : 0 ≤ at2 ∧ at2 ≤ 2000) : T3 p0 = some true := by
  subst hsA
  obtain ⟨bb1, e5⟩ := each_ok A1 (n, false, p0, at1, a) (m, false, p0, at2, b) (ra, 0) rfl (w, 0) (areaL ra, 0)
  obtain ⟨y, s2⟩ := five_ok p0 hL (n, false, p0, at1, a) (m, false, p0, at2, b) (ra, 0) (w, 0) (areaL ra, 0) (areaL ra, (ra.length : Int), bb1) at2 hp1 hp2 l1 l2 l3 l4 hat
  have hrev : revO a = some a.reverse := rfl
  have herr : T22 [0, 0, 0, 0, 0, 0, 0, 0] = some 0 := errs_ok [0, 0, 0, 0, 0, 0, 0, 0] (by decide) (by simp)
  have hne : neI sW (subI .i64 sAB sB) = false := by rw [hsub]; exact neI_no _
  unfold T3
  refine bs e1 ?_
  refine bs e2 ?_
  refine bs e3 ?_
  refine bs e4 ?_
  refine bs hr1 ?_
  refine bs hcl ?_
  refine bs hrev ?_
  refine bs hr2 ?_
  refine bs hr3 ?_
  refine bs hw ?_
  refine bs ar1 ?_
  refine bs ar2 ?_
  refine bs hboth ?_
  refine bs ar3 ?_
  refine bs ar4 ?_
  refine bs herr ?_
  refine cf (neI_no 0) ?_
  refine bs t23 ?_
  refine cf rfl ?_
  refine bs t23 ?_
  refine cf rfl ?_
  refine cf hne ?_
  refine bs e5 ?_
  refine se ?_
  refine bs s2 ?_
  refine se ?_
  refine ct (eqI_self _) ?_
  refine bs ready_ok ?_
  rfl
theorem plain (p0 : (List Int)) (h0 : (p0.length ≤ 1048576 ∧ ∀ x ∈ p0, okI x)) : T3 p0 = some true := by
  have hL := h0.1
  obtain ⟨n, e1, n1, n2⟩ := range_ok (L := p0) (at_ := 0) (lo := 0) (hi := 5) hL (by decide) (by decide) (by decide) (by decide) (by decide)
  obtain ⟨a, at1, e2, da⟩ := draw1 hL (n := n) (at0 := 0 + 1) ⟨n1, by omega⟩ (by decide) (p0, 0 + 1)
  obtain ⟨sa, la, ta⟩ := da
  obtain ⟨m, e3, m1, m2⟩ := range_ok (L := p0) (at_ := at1) (lo := 0) (hi := 3) hL (by omega) (by omega) (by decide) (by decide) (by decide)
  obtain ⟨b, at2, e4, db⟩ := draw2 hL (n, false, p0, at1, a) (n := m) (at0 := at1 + 1) ⟨m1, by omega⟩ (by omega) (p0, at1 + 1)
  obtain ⟨sb, lb, tb⟩ := db
  have wa : ∀ r ∈ a, W r := fun r hr => sm_W (sa r hr)
  have wb : ∀ r ∈ b, W r := fun r hr => sm_W (sb r hr)
  have ba : ∀ x y, hasL a x y → has big x y := fun x y ⟨r, hr, hh⟩ => sm_big (sa r hr) hh
  have bb : ∀ x y, hasL b x y → has big x y := fun x y ⟨r, hr, hh⟩ => sm_big (sb r hr) hh
  have lea : a.length ≤ 5 := by omega
  have leb : b.length ≤ 3 := by omega
  have wab : ∀ r ∈ a ++ b, W r := fun r hr => by rcases List.mem_append.1 hr with h | h; exact wa r h; exact wb r h
  have bab : ∀ x y, hasL (a ++ b) x y → has big x y := fun x y h => by
    rcases (hasL_app a b x y).1 h with h | h
    · exact ba x y h
    · exact bb x y h
  have war : ∀ r ∈ a.reverse, W r := fun r hr => wa r (List.mem_reverse.1 hr)
  have har : ∀ x y, hasL a.reverse x y ↔ hasL a x y := fun x y => ⟨fun ⟨r, hr, h⟩ => ⟨r, List.mem_reverse.1 hr, h⟩, fun ⟨r, hr, h⟩ => ⟨r, List.mem_reverse.2 hr, h⟩⟩
  have hr1 := region_ok wa ba (show a.length ≤ 2000 by omega)
  obtain ⟨A1, X1⟩ := reg_ap wa ba nil_W (show a.length ≤ 2000 by omega) (by decide)
  have hr2 := region_ok war (fun x y h => ba x y ((har x y).1 h)) (show a.reverse.length ≤ 2000 by rw [List.length_reverse]; omega)
  have q2 : Reg a.reverse [] = Reg a [] := reg_same war wa (by rw [List.length_reverse]; omega) (by omega) har
  rw [q2] at hr2
  have lr := (ap_area A1).2.2.2
  have hpx : ∀ x y, hasL (Reg a []) x y ↔ hasL a x y := fun x y => (X1 x y).trans ⟨fun h => h.1, fun h => ⟨h, nil_has x y⟩⟩
  have hr3 := region_ok A1.w A1.b (show (Reg a []).length ≤ 2000 by omega)
  have q3 : Reg (Reg a []) [] = Reg a [] := reg_same A1.w wa (by omega) (by omega) hpx
  rw [q3] at hr3
  have hw := without_ok wa ba wb (show a.length ≤ 2000 by omega) (show b.length ≤ 2000 by omega)
  obtain ⟨A2, X2⟩ := reg_ap wa ba wb (show a.length ≤ 2000 by omega) (show b.length ≤ 2000 by omega)
  have lw := (ap_area A2).2.2.2
  have ar1 := area_ok wa ba (show a.length ≤ 2000 by omega)
  have ar2 := area_ok A2.w A2.b (show (Reg a b).length ≤ 2000 by omega)
  have ar3 := area_ok wab bab (show (a ++ b).length ≤ 2000 by rw [List.length_append]; omega)
  have ar4 := area_ok wb bb (show b.length ≤ 2000 by omega)
  obtain ⟨A3, X3⟩ := reg_ap wab bab nil_W (show (a ++ b).length ≤ 2000 by rw [List.length_append]; omega) (by decide)
  obtain ⟨A4, X4⟩ := reg_ap wb bb nil_W (show b.length ≤ 2000 by omega) (by decide)
  obtain ⟨A5, X5⟩ := reg_ap A2.w A2.b nil_W (show (Reg a b).length ≤ 2000 by omega) (by decide)
  have c3 := ap_area A3
  have c4 := ap_area A4
  have c5 := ap_area A5
  have hsum : areaL (Reg (Reg a b) []) = areaL (Reg (a ++ b) []) - areaL (Reg b []) := by
    have : cnt (hasL (Reg (a ++ b) [])) = cnt (hasL (Reg (Reg a b) [])) + cnt (hasL (Reg b [])) := by
      rw [← cnt_or (P := hasL (Reg (Reg a b) [])) (Q := hasL (Reg b [])) fun x y ⟨h1, h2⟩ => ((X2 x y).1 ((X5 x y).1 h1).1).2 ((X4 x y).1 h2).1]
      refine cnt_ext fun x y => ?_
      rw [X3, X5, X4, X2, hasL_app]
      have := nil_has x y
      constructor
      · rintro ⟨h | h, _⟩
        · by_cases hb : hasL b x y
          · exact .inr ⟨hb, this⟩
          · exact .inl ⟨⟨h, hb⟩, this⟩
        · exact .inr ⟨h, this⟩
      · rintro (h | h)
        · exact ⟨.inl h.1.1, this⟩
        · exact ⟨.inr h.1, this⟩
    omega
  have hboth : T21 [a, b] = some (a ++ b) := both_ok a b (by omega) (by omega)
  have hcl : appO 32 ([] : List S28) a = some a := appO_big (by decide) (by simp only [List.length_nil]; omega)
  have hp1 : ∀ x y, (Reg a []).any (hasB x y) = a.any (hasB x y) := fun x y => by
    rw [Bool.eq_iff_iff, any_has A1.w, any_has wa]
    exact hpx x y
  have hp2 : ∀ x y, (Reg a b).any (hasB x y) = (a.any (hasB x y) && !b.any (hasB x y)) := fun x y => by
    rw [Bool.eq_iff_iff, any_has A2.w, X2, Bool.and_eq_true, any_has wa, Bool.not_eq_true', ← Bool.not_eq_true, any_has wb]
  have hsub : subI .i64 (areaL (Reg (a ++ b) [])) (areaL (Reg b [])) = areaL (Reg (Reg a b) []) := by
    rw [subI_eq (by omega) (by omega), ← hsum]
  exact final p0 hL n m at1 at2 a b (Reg a []) (Reg a b) (a ++ b) _ _ _ _ e1 e2 e3 e4 hr1 hcl hr2 hr3 hw ar1 ar2 hboth ar3 ar4 hsub (t36_self (Reg a []) (by omega)) A1 rfl hp1 hp2 (by omega) (by omega) (by omega) (by omega) (by omega)
end Go.Abs.TKQ
