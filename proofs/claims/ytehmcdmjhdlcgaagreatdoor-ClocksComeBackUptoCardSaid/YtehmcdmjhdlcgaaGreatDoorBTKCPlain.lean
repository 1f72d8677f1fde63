import Derived.Test.YtehmcdmjhdlcgaaGreatDoorBTKCR
import Derived.Test.YtehmcdmjhdlcgaaGreatDoorBPlS
import Derived.Test.YtehmcdmjhdlcgaaGreatDoorBPlU
import Derived.Test.YtehmcdmjhdlcgaaGreatDoorBPl
set_option linter.unusedVariables false
set_option linter.unusedSimpArgs false
set_option maxRecDepth 10000
namespace Go.Abs.TKC
open Go.RowKit Go.Proofs Go.Abs
/-! The two rectangles of 'lit'. -/
theorem lit_sort1 (x : S182) : sortO (fun x y => T129 x y) [x] = some [x] := by
  obtain ⟨l', h1, h2, _⟩ := sortO_le (fun x y => T129 x y) (fun _ _ => True) (fun _ _ => .inl trivial) (fun _ _ _ _ _ => trivial) [x] (by simp) (by
    intro a ha b hb
    simp only [List.mem_singleton] at ha hb
    subst ha; subst hb
    refine ⟨_, rfl, ?_⟩
    have : subI .i64 b.f0 b.f0 = 0 := by unfold subI; rw [Int.sub_self]; rfl
    simp [this])
  rw [h1, List.perm_singleton.1 h2]
theorem lit_sort2 : sortO (fun x y => T129 x y) [⟨0, 2⟩, ⟨1, 3⟩] = some [⟨0, 2⟩, ⟨1, 3⟩] := by
  obtain ⟨l', h1, h2, h3⟩ := sortO_key (fun x y => T129 x y) (·.f0) [⟨0, 2⟩, ⟨1, 3⟩] (by simp) (by
    intro a ha b hb
    simp only [List.mem_cons, List.not_mem_nil, or_false] at ha hb
    rcases ha with rfl | rfl <;> rcases hb with rfl | rfl <;> exact ⟨_, rfl, by decide⟩)
  rw [h1]
  congr 1
  match l', h2.length_eq with
  | [a, b], _ =>
    have ha : a ∈ [(⟨0, 2⟩ : S182), ⟨1, 3⟩] := h2.mem_iff.1 (by simp)
    have hb : b ∈ [(⟨0, 2⟩ : S182), ⟨1, 3⟩] := h2.mem_iff.1 (by simp)
    have hp := h2.countP_eq (fun x : S182 => x.f0 == 0)
    simp only [List.mem_cons, List.not_mem_nil, or_false] at ha hb
    simp only [List.pairwise_cons, List.mem_singleton, forall_eq] at h3
    rcases ha with rfl | rfl <;> rcases hb with rfl | rfl
    · simp at hp
    · rfl
    · have := h3.1
      simp at this
    · simp at hp
abbrev r0 : S28 := S28.mk 0 0 2 2
abbrev r1 : S28 := S28.mk 1 1 2 2
theorem runs_nil (y : Int) : T106 [] y = some [] := by
  unfold T106
  rw [iter_run (r := (0, false, [])) 1 (by kernel_rfl)]
  simp only [Option.bind_some]
  rw [show sortO (fun x y => T129 x y) ([] : List S182) = some [] from by simp [sortO], Option.bind_some, iter_run (r := (0, false, [], [])) 1 (by kernel_rfl)]
  rfl
theorem runs0 : T106 [r0, r1] 0 = some [⟨0, 2⟩] := by
  unfold T106
  rw [iter_run (r := (2, false, [⟨0, 2⟩])) 3 (by kernel_rfl)]
  simp only [Option.bind_some]
  rw [lit_sort1, Option.bind_some, iter_run (r := (1, false, [⟨0, 2⟩], [⟨0, 2⟩])) 2 (by kernel_rfl)]
  rfl
theorem runs1 : T106 [r0, r1] 1 = some [⟨0, 3⟩] := by
  unfold T106
  rw [iter_run (r := (2, false, [⟨0, 2⟩, ⟨1, 3⟩])) 3 (by kernel_rfl)]
  simp only [Option.bind_some]
  rw [lit_sort2, Option.bind_some, iter_run (r := (2, false, [⟨0, 3⟩], [⟨0, 2⟩, ⟨1, 3⟩])) 3 (by kernel_rfl)]
  rfl
theorem runs2 : T106 [r0, r1] 2 = some [⟨1, 3⟩] := by
  unfold T106
  rw [iter_run (r := (2, false, [⟨1, 3⟩])) 3 (by kernel_rfl)]
  simp only [Option.bind_some]
  rw [lit_sort1, Option.bind_some, iter_run (r := (1, false, [⟨1, 3⟩], [⟨1, 3⟩])) 2 (by kernel_rfl)]
  rfl
theorem less_nil (x : S182) (hx : ltI x.f0 x.f1 = true) : T105 [x] [] = some [x] := by
  have h : L105_4 [x] [] ([], 0, 0) = some (.inl ([x], 0, 1)) := by
    unfold L105_4
    have e1 : ltI ((([], 0, 0) : List S182 × Int × Int).2.2) (lenL [x]) = true := rfl
    have e2 : listAt [x] ((([], 0, 0) : List S182 × Int × Int).2.2) = some x := rfl
    rw [e1, e2]
    simp only [cond_true, Option.bind_some]
    rw [iter_run (r := (0, false)) 1 (by kernel_rfl), Option.bind_some, iter_run (r := (0, false, [], x.f0)) 1 (by kernel_rfl)]
    simp only [Option.bind_some, hx, cond_true]
    rfl
  unfold T105
  rw [iter_inl h, iter_inr (r := (0, 1, false, [x])) (by kernel_rfl)]
  rfl
theorem same_no (a b : S182) (h : allB [eqI a.f0 b.f0, eqI a.f1 b.f1] = false) : T107 [a] [b] = some false := by
  unfold T107
  rw [iter_inr (r := .inr ()) (by
    unfold L107_4
    have e1 : ltI 0 (lenL [a]) = true := rfl
    have e2 : listAt [a] 0 = some a := rfl
    have e3 : listAt [b] 0 = some b := rfl
    rw [e1, e2, e3]
    simp only [cond_true, Option.bind_some, h, Bool.not_false])]
  rfl
theorem lit_region : T60 [r0, r1] [] = some [⟨0, 0, 2, 1⟩, ⟨0, 1, 3, 1⟩, ⟨1, 2, 2, 1⟩] := by
  unfold T60 T21
  rw [iter_run (r := (2, 2, false)) 3 (by kernel_rfl)]
  simp only [Option.bind_some]
  rw [show growO S28 32 2 = some [] by unfold growO; rw [if_pos (by decide)], Option.bind_some, iter_run (r := (2, false, [r0, r1])) 3 (by kernel_rfl)]
  simp only [Option.bind_some]
  rw [iter_run (r := (2, false, [0, 2, 1, 3], [r0, r1])) 3 (by kernel_rfl)]
  simp only [Option.bind_some]
  rw [show sortIO [0, 2, 1, 3] = some [0, 1, 2, 3] by
    unfold sortIO
    rw [if_pos (by simp), sortI_of (l' := [0, 1, 2, 3]) (by decide) (by decide)]]
  simp only [Option.bind_some]
  rw [show compIO [0, 1, 2, 3] = some [0, 1, 2, 3] by decide]
  simp only [Option.bind_some]
  have s0 : L60_13 [r0, r1] [] [0, 1, 2, 3] ([0, 1, 2, 3], [], [], 0, 0) = some (.inl ([0, 1, 2, 3], [], [⟨0, 2⟩], 0, 1)) := by
    unfold L60_13
    rw [show ltI ((([0, 1, 2, 3], [], [], 0, 0) : List Int × List S28 × List S182 × Int × Int).2.2.2.2) (lenL ([0, 1, 2, 3] : List Int)) = true by decide]
    simp only [cond_true]
    rw [show idxO (List.length ([0, 1, 2, 3] : List Int)) 0 = some 0 by decide]
    simp only [Option.bind_some]
    rw [show getN ([0, 1, 2, 3] : List Int) 0 = some 0 by decide]
    simp only [Option.bind_some]
    rw [show ltI (addI .i64 0 1) (lenL ([0, 1, 2, 3] : List Int)) = true by decide]
    simp only [cond_true]
    rw [runs0, runs_nil]
    simp only [Option.bind_some]
    rw [less_nil ⟨0, 2⟩ (by decide)]
    simp only [Option.bind_some]
    rw [show T107 [] [⟨0, 2⟩] = some false by unfold T107; rfl]
    simp only [Option.bind_some, cond_false]
    rw [iter_run (r := (0, false, [0, 1, 2, 3], [])) 1 (by kernel_rfl)]
    rfl
  have s1 : L60_13 [r0, r1] [] [0, 1, 2, 3] ([0, 1, 2, 3], [], [⟨0, 2⟩], 0, 1) = some (.inl ([0, 1, 2, 3], [⟨0, 0, 2, 1⟩], [⟨0, 3⟩], 1, 2)) := by
    unfold L60_13
    rw [show ltI ((([0, 1, 2, 3], [], [⟨0, 2⟩], 0, 1) : List Int × List S28 × List S182 × Int × Int).2.2.2.2) (lenL ([0, 1, 2, 3] : List Int)) = true by decide]
    simp only [cond_true]
    rw [show idxO (List.length ([0, 1, 2, 3] : List Int)) 1 = some 1 by decide]
    simp only [Option.bind_some]
    rw [show getN ([0, 1, 2, 3] : List Int) 1 = some 1 by decide]
    simp only [Option.bind_some]
    rw [show ltI (addI .i64 1 1) (lenL ([0, 1, 2, 3] : List Int)) = true by decide]
    simp only [cond_true]
    rw [runs1, runs_nil]
    simp only [Option.bind_some]
    rw [less_nil ⟨0, 3⟩ (by decide)]
    simp only [Option.bind_some]
    rw [same_no _ _ (by decide)]
    simp only [Option.bind_some, cond_false]
    rw [iter_run (r := (1, false, [0, 1, 2, 3], [⟨0, 0, 2, 1⟩])) 2 (by kernel_rfl)]
    rfl
  have s2 : L60_13 [r0, r1] [] [0, 1, 2, 3] ([0, 1, 2, 3], [⟨0, 0, 2, 1⟩], [⟨0, 3⟩], 1, 2) = some (.inl ([0, 1, 2, 3], [⟨0, 0, 2, 1⟩, ⟨0, 1, 3, 1⟩], [⟨1, 3⟩], 2, 3)) := by
    unfold L60_13
    rw [show ltI ((([0, 1, 2, 3], [⟨0, 0, 2, 1⟩], [⟨0, 3⟩], 1, 2) : List Int × List S28 × List S182 × Int × Int).2.2.2.2) (lenL ([0, 1, 2, 3] : List Int)) = true by decide]
    simp only [cond_true]
    rw [show idxO (List.length ([0, 1, 2, 3] : List Int)) 2 = some 2 by decide]
    simp only [Option.bind_some]
    rw [show getN ([0, 1, 2, 3] : List Int) 2 = some 2 by decide]
    simp only [Option.bind_some]
    rw [show ltI (addI .i64 2 1) (lenL ([0, 1, 2, 3] : List Int)) = true by decide]
    simp only [cond_true]
    rw [runs2, runs_nil]
    simp only [Option.bind_some]
    rw [less_nil ⟨1, 3⟩ (by decide)]
    simp only [Option.bind_some]
    rw [same_no _ _ (by decide)]
    simp only [Option.bind_some, cond_false]
    rw [iter_run (r := (1, false, [0, 1, 2, 3], [⟨0, 0, 2, 1⟩, ⟨0, 1, 3, 1⟩])) 2 (by kernel_rfl)]
    rfl
  have s3 : L60_13 [r0, r1] [] [0, 1, 2, 3] ([0, 1, 2, 3], [⟨0, 0, 2, 1⟩, ⟨0, 1, 3, 1⟩], [⟨1, 3⟩], 2, 3) = some (.inl ([0, 1, 2, 3], [⟨0, 0, 2, 1⟩, ⟨0, 1, 3, 1⟩, ⟨1, 2, 2, 1⟩], [], 3, 4)) := by
    unfold L60_13
    rw [show ltI ((([0, 1, 2, 3], [⟨0, 0, 2, 1⟩, ⟨0, 1, 3, 1⟩], [⟨1, 3⟩], 2, 3) : List Int × List S28 × List S182 × Int × Int).2.2.2.2) (lenL ([0, 1, 2, 3] : List Int)) = true by decide]
    simp only [cond_true]
    rw [show idxO (List.length ([0, 1, 2, 3] : List Int)) 3 = some 3 by decide]
    simp only [Option.bind_some]
    rw [show getN ([0, 1, 2, 3] : List Int) 3 = some 3 by decide]
    simp only [Option.bind_some]
    rw [show ltI (addI .i64 3 1) (lenL ([0, 1, 2, 3] : List Int)) = false by decide]
    simp only [cond_false]
    rw [show T107 [⟨1, 3⟩] [] = some false by unfold T107; rfl]
    simp only [Option.bind_some, cond_false]
    rw [iter_run (r := (1, false, [0, 1, 2, 3], [⟨0, 0, 2, 1⟩, ⟨0, 1, 3, 1⟩, ⟨1, 2, 2, 1⟩])) 2 (by kernel_rfl)]
    rfl
  rw [iter_inl s0, iter_inl s1, iter_inl s2, iter_inl s3, iter_inr (r := ([], 3, 4, false, [0, 1, 2, 3], [⟨0, 0, 2, 1⟩, ⟨0, 1, 3, 1⟩, ⟨1, 2, 2, 1⟩])) (by kernel_rfl)]
  rfl
theorem lit_area : T20 [r0, r1] = some (7, 0) := by
  unfold T20 T58 T61
  rw [iter_run (r := .inl (2, false)) 3 (by kernel_rfl)]
  rw [show (bif ltI 2000 (lenL ([r0, r1] : List S28)) then (some 2 : Option Int) else (some (Sum.inl (2, false) : (Int × Bool) ⊕ Int)).bind fun y3 => (Sum.elim (fun y3a => some 0) (fun y3b => some y3b) y3)) = some 0 by decide]
  simp only [Option.bind_some]
  rw [show neI 0 0 = false by decide]
  simp only [cond_false]
  rw [lit_region]
  simp only [Option.bind_some]
  rw [iter_run (r := (7, 3, false)) 4 (by kernel_rfl)]
  rfl
/-! All that 'ready' asks. -/
theorem r45 : T45 (S94.mk (ByteArray.mk #[97]) (ByteArray.mk #[]) (S92.mk 0 100) [] 10 0 0) 50 = some (5, 0) := by kernel_rfl
theorem r42 : T42 ([(S87.mk (ByteArray.mk #[112]) 0 100), (S87.mk (ByteArray.mk #[112]) 1000 1300)] : List S87) (ByteArray.mk #[112]) 700 = some (500, 0) := by kernel_rfl
theorem r67 : T67 (S136.mk (ByteArray.mk #[97]) (ByteArray.mk #[98]) 0 0 0 1 127 [] 1 2 0 [] false) 0 (S92.mk 0 86400000) = some ([S92.mk 60000 120000], 0) := by kernel_rfl
theorem r68 : T68 (S138.mk (ByteArray.mk #[97]) (ByteArray.mk #[115]) 1 [] 0 5 1 ([(S28.mk 0 0 2 2)] : List S28) (ByteArray.mk #[120])) (S142.mk (ByteArray.mk #[112]) 1 1) = some (true, 0) := by kernel_rfl
theorem ready_ok : T26 = some true := by
  unfold T26
  rw [lit_area, r45, r42, r67, r68]
  simp only [Option.bind_some]
  kernel_rfl
end Go.Abs.TKC

set_option linter.unusedVariables false
set_option linter.unusedSimpArgs false
set_option maxRecDepth 10000
namespace Go.Abs.TKC
open Go.RowKit Go.Proofs Go.Abs
/-! What a stream hands out. -/
theorem below_ok (x : Int) {n : Int} (hn : n ≤ 1000000000000000) : ∃ v, T102 x n = some v ∧ (1 ≤ n → 0 ≤ v ∧ v < n) ∧ (n < 1 → v = 0) := by
  unfold T102
  by_cases h : n < 1
  · rw [show ltI n 1 = true by unfold ltI; exact decide_eq_true h]
    exact ⟨0, rfl, fun h1 => by omega, fun _ => rfl⟩
  · rw [show ltI n 1 = false by unfold ltI; exact decide_eq_false h]
    have hr : remO .i64 x n = some (x.tmod n) := by unfold remO; rw [if_neg (by omega)]
    have h1 := Int.tmod_lt_of_pos x (by omega : 0 < n)
    have h2 := Int.lt_tmod_of_pos x (by omega : 0 < n)
    simp only [cond_false, hr, Option.bind_some]
    by_cases h0 : x.tmod n < 0
    · rw [show ltI (x.tmod n) 0 = true by unfold ltI; exact decide_eq_true h0]
      refine ⟨_, rfl, fun _ => ?_, fun h3 => by omega⟩
      rw [addI_eq (by omega) (by omega)]
      omega
    · rw [show ltI (x.tmod n) 0 = false by unfold ltI; exact decide_eq_false h0]
      exact ⟨_, rfl, fun _ => ⟨by omega, h1⟩, fun h3 => by omega⟩
theorem next_ok {L : List Int} {at_ n : Int} (hL : L.length ≤ 1048576) (h0 : 0 ≤ at_) (h1 : at_ ≤ 1000000000) (hn : n ≤ 1000000000000000) : ∃ v, T57 L at_ n = some (v, L, at_ + 1) ∧ (1 ≤ n → 0 ≤ v ∧ v < n) ∧ (n < 1 → v = 0) := by
  unfold T57
  have e1 : addI .i64 at_ 1 = at_ + 1 := addI_eq (by omega) (by omega)
  rw [e1]
  by_cases hl : L.length = 0
  · rw [show eqI (lenL L) 0 = true by rw [eqI_iff, lenL_eq, hl]; rfl]
    obtain ⟨v, h2, h3⟩ := below_ok (mulI .i64 (at_ + 1) 7919) hn
    simp only [cond_true, h2, Option.bind_some]
    exact ⟨v, rfl, h3⟩
  · rw [show eqI (lenL L) 0 = false by rw [eqI_iff, lenL_eq]; exact decide_eq_false (by omega)]
    have e2 : subI .i64 (at_ + 1) 1 = at_ := by rw [subI_eq (by omega) (by omega)]; omega
    have hr : remO .i64 at_ (lenL L) = some (at_.tmod L.length) := by unfold remO; rw [lenL_eq, if_neg (by omega)]
    have hq : ∃ q, quoO .i64 at_ (lenL L) = some q := by unfold quoO; rw [lenL_eq, if_neg (by omega)]; exact ⟨_, rfl⟩
    obtain ⟨q, hq⟩ := hq
    have h2 := Int.tmod_lt_of_pos at_ (by omega : (0 : Int) < L.length)
    have h3 := Int.tmod_nonneg (L.length : Int) h0
    generalize at_.tmod L.length = k at *
    obtain ⟨j, rfl⟩ : ∃ j : Nat, k = j := ⟨k.toNat, by omega⟩
    have hx := List.getElem?_eq_getElem (show j < L.length by omega)
    obtain ⟨v, h4, _⟩ := below_ok (L[j]'(by omega)) (n := 1073741824) (by omega)
    obtain ⟨u, h6, h7⟩ := below_ok (addI .i64 v (mulI .i64 q (addI .i64 7919 j))) hn
    simp only [cond_false, e2, hr, hq, Option.bind_some, listAt_some hx, h4, h6]
    exact ⟨u, rfl, h7⟩
theorem range_ok {L : List Int} {at_ lo hi : Int} (hL : L.length ≤ 1048576) (h0 : 0 ≤ at_) (h1 : at_ ≤ 1000000000) (hlo : -1000000000000 ≤ lo) (hle : lo ≤ hi) (hhi : hi ≤ 1000000000000) : ∃ v, T14 L at_ lo hi = some (v, L, at_ + 1) ∧ lo ≤ v ∧ v ≤ hi := by
  unfold T14
  rw [show ltI hi lo = false by unfold ltI; exact decide_eq_false (by omega)]
  have e1 : subI .i64 hi lo = hi - lo := subI_eq (by omega) (by omega)
  have e2 : addI .i64 (hi - lo) 1 = hi - lo + 1 := addI_eq (by omega) (by omega)
  obtain ⟨v, h2, h3, _⟩ := next_ok (n := hi - lo + 1) hL h0 h1 (by omega)
  have h4 := h3 (by omega)
  simp only [cond_false, e1, e2, h2, Option.bind_some]
  exact ⟨_, rfl, by rw [addI_eq (by omega) (by omega)]; omega, by rw [addI_eq (by omega) (by omega)]; omega⟩
/-! First errors. -/
theorem errs_ok : ∀ (l : List Int), l.length ≤ 100 → (∀ x ∈ l, x = 0) → T22 l = some 0 := by
  intro l hl h
  unfold T22
  have key : ∀ (i : Nat) (s : Unit), i < l.length → True → ∃ s' : Unit, L22_2 l (i : Int) = some (.inl ((i + 1 : Nat) : Int)) ∧ True := by
    intro i _ hi _
    have hx := List.getElem?_eq_getElem hi
    have := h _ (List.getElem_mem hi)
    refine ⟨(), ?_, trivial⟩
    unfold L22_2
    simp only [ltL_true hi, cond_true, listAt_some hx, Option.bind_some, this, show neI 0 0 = false from rfl, cond_false, nextI (i := i) (by omega)]
  obtain ⟨r, h1, y, rfl⟩ := iter_up (st := L22_2 l) (fun (_ : Unit) i => (i : Int)) l.length (fun _ _ => True) (fun r => ∃ y, r = .inl y) key (fun _ _ => ⟨_, by unfold L22_2; rw [ltL_false (Nat.le_refl _)]; rfl, _, rfl⟩) () trivial
  have h1 : iter (L22_2 l) 0 = some (.inl y) := h1
  rw [h1, Option.bind_some, Sum.elim_inl]
def ok87 (N : Nat) (s : S87) : Prop := s.f0.size ≤ N ∧ okI s.f1 ∧ okI s.f2
end Go.Abs.TKC

set_option linter.unusedVariables false
set_option linter.unusedSimpArgs false
namespace Go.Abs.TKC.C
open Go.RowKit
/-! Keys. -/
def wc (x : Int) : Bool := (leI 97 x && leI x 122) || ((leI 48 x && leI x 57) || eqI x 45 || eqI x 95)
def okAt (i : Nat) (c : UInt8) : Bool := (leI 97 c.toNat && leI c.toNat 122) || (ltI 0 i && ((leI 48 c.toNat && leI c.toNat 57) || eqI c.toNat 45 || eqI c.toNat 95))
def key (s : ByteArray) : Bool := ((by_ s).zipIdx.all fun q => okAt q.2 q.1) && !eqS s (ByteArray.mk #[]) && leI (lenS s) 40
theorem T97_eq (s : ByteArray) (h : s.size ≤ 1048576) : T97 s = some (key s) := by
  have hi : iter (L97_2 s) ((0 : Nat) : Int) = some (Sum.elim (fun _ : Unit => .inl ((s.size : Int), false)) (fun _ : Unit => .inr ()) (wp (fun i (_ : Unit) x => bif okAt i x then (.inl () : Unit ⊕ Unit) else .inr ()) 0 () (by_ s))) := by
    refine iter_wpS (fun _ i => (i : Int)) _ _ s _ (fun _ _ => True) (fun i u x hx _ => ⟨?_, fun _ _ => trivial⟩) (fun u _ => ?_) () trivial
    · have hlt : i < s.size := by rw [← by_len]; exact (List.getElem?_eq_some_iff.1 hx).1
      have h1 : ltI (i : Int) (lenS s) = true := by rw [ltI_iff, lenS_eq]; simpa using hlt
      have h2 : addI .i64 (i : Int) 1 = ((i + 1 : Nat) : Int) := by rw [addI_eq (by omega) (by omega)]; omega
      simp only [L97_2, h1, cond_true, byteAt_some hx, Option.bind_some, h2, okAt]
      generalize leI 97 (x.toNat : Int) = b1
      generalize leI (x.toNat : Int) 122 = b2
      generalize ltI 0 (i : Int) = b3
      generalize leI 48 (x.toNat : Int) = b4
      generalize leI (x.toNat : Int) 57 = b5
      generalize eqI (x.toNat : Int) 45 = b6
      generalize eqI (x.toNat : Int) 95 = b7
      cases b1 <;> cases b2 <;> cases b3 <;> cases b4 <;> cases b5 <;> cases b6 <;> cases b7 <;> rfl
    · have h1 : ltI (s.size : Int) (lenS s) = false := by rw [ltI_iff, lenS_eq]; simp
      simp only [L97_2, h1, cond_false]
  unfold T97
  rw [show (0 : Int) = ((0 : Nat) : Int) from rfl, hi, wp_all okAt, elim_cond, Option.bind_some]
  unfold key
  cases (by_ s).zipIdx.all fun q => okAt q.2 q.1 <;> cases eqS s (ByteArray.mk #[]) <;> rfl
def smalls : ByteArray := ByteArray.mk #[97, 98, 99, 100, 101, 102, 103, 104, 105, 106, 107, 108, 109, 110, 111, 112, 113, 114, 115, 116, 117, 118, 119, 120, 121, 122]
def words : ByteArray := ByteArray.mk #[97, 98, 99, 100, 101, 102, 103, 104, 105, 106, 107, 108, 109, 110, 111, 112, 113, 114, 115, 116, 117, 118, 119, 120, 121, 122, 48, 49, 50, 51, 52, 53, 54, 55, 56, 57, 45, 95]
theorem smalls_idx : ∀ n : Fin 256, (!ltI (Lib.indexByte (by_ smalls) (UInt8.ofNat n.val)) 0) = (leI 97 n.val && leI n.val 122) := by decide +kernel
theorem words_idx : ∀ n : Fin 256, (!ltI (Lib.indexByte (by_ words) (UInt8.ofNat n.val)) 0) = wc n.val := by decide +kernel
theorem smalls_at (c : UInt8) : (!ltI (idxB smalls c.toNat) 0) = (leI 97 c.toNat && leI c.toNat 122) := by
  have := smalls_idx ⟨c.toNat, c.toNat_lt⟩
  simpa [idxB] using this
theorem words_at (c : UInt8) : (!ltI (idxB words c.toNat) 0) = wc c.toNat := by
  have := words_idx ⟨c.toNat, c.toNat_lt⟩
  simpa [idxB] using this
theorem okAt_pos {i : Nat} (h : 1 ≤ i) (c : UInt8) : okAt i c = wc c.toNat := by
  have : ltI 0 (i : Int) = true := by rw [ltI_iff]; simp; omega
  simp only [okAt, wc, this, Bool.true_and]
theorem okAt_all (l : List UInt8) (k : Nat) (h : 1 ≤ k) : ((l.zipIdx k).all fun q => okAt q.2 q.1) = l.all fun c => wc c.toNat := by
  induction l generalizing k with
  | nil => rfl
  | cons a l ih => simp only [List.zipIdx_cons, List.all_cons, okAt_pos h, ih (k + 1) (by omega)]
theorem eqS_empty {s : ByteArray} (h : s.size ≠ 0) : eqS s (ByteArray.mk #[]) = false := by
  rw [eqS_iff]
  simp only [decide_eq_false_iff_not]
  intro e
  rw [e] at h
  exact h rfl
theorem key_pos {s : ByteArray} (h : key s = true) : s.size ≠ 0 := by
  intro h0
  unfold key at h
  have : eqS s (ByteArray.mk #[]) = true := by
    rw [eqS_iff]; simp only [decide_eq_true_eq]
    apply by_inj
    exact List.eq_nil_of_length_eq_zero (by rw [by_len]; exact h0)
  rw [this] at h
  simp at h
/-! Strings, and how they are ordered. -/
theorem leS_empty {s : ByteArray} (h : s.size ≠ 0) : leS s (ByteArray.mk #[]) = false := by
  unfold leS
  rw [eqS_empty h, ltS_eq]
  cases hb : by_ s with
  | nil => rfl
  | cons c l => rfl
def outB (a b c : Int) : Bool := ltI a b || ltI c a
theorem T70_eq (a b c : Int) : T70 a b c = some (outB a b c) := by
  unfold T70 outB
  cases ltI a b <;> rfl
theorem ltI_not (a b : Int) : ltI a b = !leI b a := by
  rw [ltI_iff, leI_iff, Bool.eq_iff_iff]; simp
theorem leI_not (a b : Int) : leI a b = !ltI b a := by
  rw [ltI_iff, leI_iff, Bool.eq_iff_iff]; simp
theorem listAt_mem {α : Type} {l : List α} {i : Int} {x : α} (h : listAt l i = some x) : x ∈ l := by
  unfold listAt at h
  split at h
  · exact List.mem_of_getElem? h
  · cases h
theorem inB (a b c : Int) : (leI b a && leI a c) = !outB a b c := by
  unfold outB
  rw [ltI_not a b, ltI_not c a]
  cases leI b a <;> cases leI a c <;> rfl
theorem wp_true {α : Type} (i : Nat) (l : List α) : (wp (fun _ (_ : Unit) (_ : α) => (.inl () : Unit ⊕ Unit)) i () l) = .inl () := by
  induction l generalizing i with
  | nil => rfl
  | cons a l ih => exact ih (i + 1)
theorem eqI_self (a : Int) : eqI a a = true := by rw [eqI_iff]; simp
theorem neI_false {a b : Int} : neI a b = false ↔ a = b := by rw [neI_iff]; simp
theorem outB_false {a b c : Int} (h : outB a b c = false) : b ≤ a ∧ a ≤ c := by
  unfold outB at h
  rw [ltI_iff, ltI_iff, Bool.or_eq_false_iff, decide_eq_false_iff_not, decide_eq_false_iff_not] at h
  omega
theorem neI_self (a : Int) : neI a a = false := neI_false.2 rfl
theorem bne_self (b : Bool) : (b != b) = false := by cases b <;> rfl
theorem idxO_nat {n i : Nat} (h : i < n) : idxO n (i : Int) = some i := by
  unfold idxO
  rw [if_pos (by omega), Int.toNat_natCast, if_pos h]
theorem same_iter {α : Type} (st : Int → Option (Int ⊕ ((Int × Bool) ⊕ Unit))) (l : List α) (h : l.length ≤ 1048576)
    (hs : ∀ (i : Nat) (x : α), l[i]? = some x → ltI (i : Int) (lenL l) = true → addI .i64 (i : Int) 1 = ((i + 1 : Nat) : Int) → st (i : Int) = some (.inl ((i + 1 : Nat) : Int)))
    (he : ltI (l.length : Int) (lenL l) = false → st (l.length : Int) = some (.inr (.inl ((l.length : Int), false)))) : iter st 0 = some (.inl ((l.length : Int), false)) := by
  have hi : iter st ((0 : Nat) : Int) = some (Sum.elim (fun _ => .inl ((l.length : Int), false)) (fun r => .inr r) (wp (fun _ (_ : Unit) (_ : α) => (.inl () : Unit ⊕ Unit)) 0 () l)) := by
    refine iter_wp (fun _ i => (i : Int)) _ _ l _ (fun _ _ => True) (fun i u x hx _ => ⟨?_, fun _ _ => trivial⟩) (fun u _ => ?_) _ trivial
    · have hlt : i < l.length := (List.getElem?_eq_some_iff.1 hx).1
      exact hs i x hx (by rw [ltI_iff, lenL_eq]; simpa using hlt) (by rw [addI_eq (by omega) (by omega)]; omega)
    · exact he (by rw [ltI_iff, lenL_eq]; simp)
  rw [show (0 : Int) = ((0 : Nat) : Int) from rfl, hi, wp_true]
  rfl
theorem lenL_self {α : Type} (l : List α) : neI (lenL l) (lenL l) = false := neI_self _
theorem eqI_neI (a b : Int) : eqI a b = !neI a b := by rw [eqI_iff, neI_iff, Bool.not_not]
end Go.Abs.TKC.C

set_option linter.unusedVariables false
set_option linter.unusedSimpArgs false
namespace Go.Abs.TKC.C
open Go.RowKit
/-! How strings compare. -/
theorem cmp_spec : ∀ x y : List UInt8, Lib.compareBytes x y = if Op.bytesLess x y = true then -1 else if Op.bytesLess y x = true then 1 else 0
  | [], [] => rfl
  | [], _ :: _ => rfl
  | _ :: _, [] => rfl
  | a :: x, b :: y => by
    have ih := cmp_spec x y
    simp only [Lib.compareBytes, Op.bytesLess]
    by_cases h1 : a < b
    · simp [h1]
    · by_cases h2 : b < a
      · have h3 : ¬ a = b := fun e => by subst e; exact h1 h2
        simp [h1, h2, h3]
      · have h3 : a = b := UInt8.toNat_inj.1 (by
          have h4 := UInt8.lt_iff_toNat_lt (a := a) (b := b)
          have h5 := UInt8.lt_iff_toNat_lt (a := b) (b := a)
          rw [h4] at h1
          rw [h5] at h2
          omega)
        subst h3
        simp [h1, ih]
theorem cmpS_eq (a b : ByteArray) : cmpS a b = if ltS a b = true then -1 else if ltS b a = true then 1 else 0 := by
  unfold cmpS
  rw [cmp_spec, ltS_eq, ltS_eq]
theorem T142_eq (p q : Int) : T142 p q = some (bif ltI p q then -1 else bif ltI q p then 1 else 0) := by
  unfold T142 T162
  rw [neI_self, neI_self]
  cases ltI p q <;> cases ltI q p <;> rfl
theorem T140_eq (a b : Int) : T140 [a, b] = some (bif neI a 0 then a else b) := by
  have e0 : L140_3 [a, b] 0 = some (bif neI a 0 then .inr (.inr a) else .inl 1) := by
    show (bif neI a 0 then _ else _) = _
    cases neI a 0 <;> rfl
  have e1 : L140_3 [a, b] 1 = some (bif neI b 0 then .inr (.inr b) else .inl 2) := by
    show (bif neI b 0 then _ else _) = _
    cases neI b 0 <;> rfl
  have e2 : L140_3 [a, b] 2 = some (.inr (.inl (2, false))) := rfl
  unfold T140
  cases ha : neI a 0 with
  | true => rw [ha] at e0; rw [iter_stop e0]; rfl
  | false =>
    rw [ha] at e0
    rw [iter_next e0]
    cases hb : neI b 0 with
    | true => rw [hb] at e1; rw [iter_stop e1]; rfl
    | false => rw [hb] at e1; rw [iter_next e1, iter_stop e2, neI_false.1 hb]; rfl
/-- The order of beats. -/
def aft (a b : S87) : Bool := ltS a.f0 b.f0 || (eqS a.f0 b.f0 && ltI a.f1 b.f1)
theorem eqS_comm (a b : ByteArray) : eqS a b = eqS b a := by
  rw [eqS_iff, eqS_iff, Bool.eq_iff_iff]
  simp only [decide_eq_true_eq]
  exact ⟨Eq.symm, Eq.symm⟩
theorem ltS_cases (a b : ByteArray) : (ltS a b = true ∧ ltS b a = false ∧ eqS a b = false) ∨ (a = b ∧ ltS a b = false ∧ ltS b a = false ∧ eqS a b = true) ∨ (ltS a b = false ∧ ltS b a = true ∧ eqS a b = false) := by
  have hne : ∀ x y, ltS x y = true → ltS y x = false ∧ eqS x y = false := fun x y h => by
    constructor
    · cases h1 : ltS y x with
      | false => rfl
      | true => have := ltS_trans h h1; rw [ltS_irrefl] at this; cases this
    · rw [eqS_iff]
      simp only [decide_eq_false_iff_not]
      intro e
      rw [e, ltS_irrefl] at h
      cases h
  rcases ltS_total a b with h | h | h
  · exact .inl ⟨h, hne a b h⟩
  · subst h
    exact .inr (.inl ⟨rfl, ltS_irrefl a, ltS_irrefl a, eqS_self a⟩)
  · refine .inr (.inr ⟨(hne b a h).1, h, ?_⟩)
    rw [eqS_comm]
    exact (hne b a h).2
theorem T138_eq (a b : S87) : ∃ c, T138 a b = some c ∧ leI 0 c = !aft a b := by
  unfold T138 T141
  rw [T142_eq, cmpS_eq]
  simp only [Option.bind_some, T140_eq]
  refine ⟨_, rfl, ?_⟩
  unfold aft
  rcases ltS_cases a.f0 b.f0 with ⟨h1, h2, h3⟩ | ⟨_, h1, h2, h3⟩ | ⟨h1, h2, h3⟩
  · simp only [h1, if_true, Bool.true_or]
    rfl
  · simp only [h1, h2, h3, Bool.false_eq_true, if_false, Bool.false_or, Bool.true_and, neI_self, cond_false]
    cases hlt : ltI a.f1 b.f1 <;> cases hgt : ltI b.f1 a.f1 <;> rfl
  · simp only [h1, h2, h3, Bool.false_eq_true, if_false, if_true, Bool.false_or, Bool.false_and]
    rfl
def mom (x : Int) : Bool := leI 0 x && leI x 345686399999
theorem ltI_leI (x : Int) : ltI x 345686400000 = leI x 345686399999 := by
  rw [ltI_iff, leI_iff, Bool.eq_iff_iff]
  simp only [decide_eq_true_eq]
  omega
theorem T92_eq (x : Int) : T92 x = some (mom x) := by
  unfold T92 mom
  rw [ltI_leI]
  cases leI 0 x <;> rfl
theorem out_mom (x : Int) : outB x 0 345686399999 = !mom x := by
  unfold mom
  rw [inB, Bool.not_not]
def bF (_ : Nat) (last : Option S87) (x : S87) : Option S87 ⊕ Int :=
  bif !key x.f0 then .inr 5 else bif !(mom x.f1 && mom x.f2) then .inr 1 else match last with
    | none => .inl (some x)
    | some o => bif !aft o x then .inr 7 else bif eqS x.f0 o.f0 && leI x.f2 o.f2 then .inr 16 else .inl (some x)
def beatsF (l : List S87) : Int := bif ltI 500 (lenL l) then 2 else Sum.elim (fun _ => 0) id (wp bF 0 none l)
def PrevB (l : List S87) (i : Nat) (s : Option S87) : Prop := (i = 0 ∧ s = none) ∨ ∃ x, 0 < i ∧ l[i - 1]? = some x ∧ s = some x
theorem bF_inl {i : Nat} {u s : Option S87} {x : S87} (h : bF i u x = .inl s) : s = some x ∧ mom x.f1 = true ∧ mom x.f2 = true ∧ ∀ o, u = some o → aft o x = true ∧ (eqS x.f0 o.f0 && leI x.f2 o.f2) = false := by
  unfold bF at h
  cases h1 : key x.f0 <;> rw [h1] at h; · cases h
  cases h2 : (mom x.f1 && mom x.f2) <;> rw [h2] at h; · cases h
  have h3 := (Bool.and_eq_true _ _).mp h2
  cases u with
  | none => cases h; exact ⟨rfl, h3.1, h3.2, fun o ho => by cases ho⟩
  | some o =>
    simp only [Bool.not_true, cond_false] at h
    cases h4 : aft o x <;> rw [h4] at h; · cases h
    cases h5 : (eqS x.f0 o.f0 && leI x.f2 o.f2) <;> rw [h5] at h; rotate_left; · cases h
    cases h
    exact ⟨rfl, h3.1, h3.2, fun o' ho => by cases ho; exact ⟨h4, h5⟩⟩
theorem bF_inr {i : Nat} {u : Option S87} {r : Int} {x : S87} (h : bF i u x = .inr r) : r ≠ 0 := by
  unfold bF at h
  cases h1 : key x.f0 <;> rw [h1] at h; · cases h; decide
  cases h2 : (mom x.f1 && mom x.f2) <;> rw [h2] at h; · cases h; decide
  cases u with
  | none => cases h
  | some o =>
    simp only [Bool.not_true, cond_false] at h
    cases h4 : aft o x <;> rw [h4] at h; · cases h; decide
    cases h5 : (eqS x.f0 o.f0 && leI x.f2 o.f2) <;> rw [h5] at h
    · cases h
    · cases h; decide
theorem T120_eq (l : List S87) (h : l.length ≤ 1048576) (hs : ∀ x ∈ l, ok87 1048576 x) : T120 l = some (beatsF l) := by
  have hi : iter (L120_4 l) ((0 : Nat) : Int) = some (Sum.elim (fun _ => .inl ((l.length : Int), false)) (fun r => .inr r) (wp bF 0 none l)) := by
    refine iter_wp (fun _ i => (i : Int)) _ _ l bF (PrevB l) (fun i u x hx hI => ?_) (fun u _ => ?_) _ (.inl ⟨rfl, rfl⟩)
    · have hlt : i < l.length := (List.getElem?_eq_some_iff.1 hx).1
      have h1 : ltI (i : Int) (lenL l) = true := by rw [ltI_iff, lenL_eq]; simpa using hlt
      have h2 : addI .i64 (i : Int) 1 = ((i + 1 : Nat) : Int) := by rw [addI_eq (by omega) (by omega)]; omega
      have h3 := T97_eq x.f0 (hs x (List.mem_of_getElem? hx)).1
      refine ⟨?_, fun s' hf => .inr ⟨x, by omega, by simpa using hx, (bF_inl hf).1⟩⟩
      simp only [L120_4, h1, cond_true, listAt_some hx, Option.bind_some, h3, T92_eq, T70_eq, out_mom, h2, bF]
      cases key x.f0; · rfl
      cases mom x.f1; · rfl
      cases mom x.f2; · rfl
      simp only [Bool.not_true, cond_false, Bool.and_self]
      rcases hI with ⟨rfl, rfl⟩ | ⟨y, hi0, hy, rfl⟩
      · have h4 : ltI 0 ((0 : Nat) : Int) = false := rfl
        rw [h4]
        rfl
      · have h4 : ltI 0 (i : Int) = true := by rw [ltI_iff]; simp; omega
        have h5 : subI .i64 (i : Int) 1 = ((i - 1 : Nat) : Int) := by rw [subI_eq (by omega) (by omega)]; omega
        obtain ⟨c, h6, h7⟩ := T138_eq y x
        simp only [h4, cond_true, h5, listAt_some hy, Option.bind_some, h6, h7]
        cases aft y x; · rfl
        cases eqS x.f0 y.f0; · rfl
        cases leI x.f2 y.f2 <;> rfl
    · have h1 : ltI (l.length : Int) (lenL l) = false := by rw [ltI_iff, lenL_eq]; simp
      simp only [L120_4, h1, cond_false]
  unfold T120 beatsF
  rw [show (0 : Int) = ((0 : Nat) : Int) from rfl, hi]
  cases ltI 500 (lenL l) <;> cases wp bF 0 none l <;> rfl
/-! What right beats are like. -/
def Aft (a b : S87) : Prop := ltS a.f0 b.f0 = true ∨ (a.f0 = b.f0 ∧ a.f1 < b.f1 ∧ a.f2 < b.f2)
theorem Aft.trans {a b c : S87} (h1 : Aft a b) (h2 : Aft b c) : Aft a c := by
  rcases h1 with h1 | ⟨e1, h1, h1'⟩
  · rcases h2 with h2 | ⟨e2, _⟩
    · exact .inl (ltS_trans h1 h2)
    · exact .inl (e2 ▸ h1)
  · rcases h2 with h2 | ⟨e2, h2, h2'⟩
    · exact .inl (e1 ▸ h2)
    · exact .inr ⟨e1.trans e2, by omega, by omega⟩
theorem aft_Aft {o x : S87} (h1 : aft o x = true) (h2 : (eqS x.f0 o.f0 && leI x.f2 o.f2) = false) : Aft o x := by
  unfold aft at h1
  rcases ltS_cases o.f0 x.f0 with ⟨k1, k2, k3⟩ | ⟨e, k1, k2, k3⟩ | ⟨k1, k2, k3⟩
  · exact .inl k1
  · rw [k1, k3, Bool.false_or, Bool.true_and, ltI_iff] at h1
    rw [eqS_comm, k3, Bool.true_and, leI_iff] at h2
    simp only [decide_eq_true_eq] at h1
    simp only [decide_eq_false_iff_not] at h2
    exact .inr ⟨e, h1, by omega⟩
  · rw [k1, k3] at h1; cases h1
theorem mom_iff {x : Int} : mom x = true ↔ 0 ≤ x ∧ x ≤ 345686399999 := by
  unfold mom
  rw [leI_iff, leI_iff]
  simp
theorem wp_bF : ∀ (l : List S87) (i : Nat) (u : Option S87), (∀ r, wp bF i u l = .inr r → r ≠ 0) ∧ ∀ s, wp bF i u l = .inl s → (∀ x ∈ l, (mom x.f1 = true ∧ mom x.f2 = true) ∧ ∀ o, u = some o → Aft o x) ∧ l.Pairwise Aft
  | [], i, u => ⟨fun r h => by simp [wp] at h, fun s h => ⟨by simp, .nil⟩⟩
  | x :: l, i, u => by
    simp only [wp]
    cases hf : bF i u x with
    | inl s' =>
      obtain ⟨rfl, h1, h2, h3⟩ := bF_inl hf
      have ih := wp_bF l (i + 1) (some x)
      refine ⟨ih.1, fun s hs => ?_⟩
      obtain ⟨h4, h5⟩ := ih.2 s hs
      refine ⟨fun y hy => ?_, .cons (fun y hy => (h4 y hy).2 x rfl) h5⟩
      rcases List.mem_cons.1 hy with rfl | hy
      · exact ⟨⟨h1, h2⟩, fun o ho => aft_Aft (h3 o ho).1 (h3 o ho).2⟩
      · exact ⟨(h4 y hy).1, fun o ho => (aft_Aft (h3 o ho).1 (h3 o ho).2).trans ((h4 y hy).2 x rfl)⟩
    | inr r => exact ⟨fun r' h => by cases h; exact bF_inr hf, fun s h => by cases h⟩
theorem beatsF_ok {l : List S87} (h : beatsF l = 0) : l.length ≤ 500 ∧ (∀ x ∈ l, mom x.f1 = true ∧ mom x.f2 = true) ∧ l.Pairwise Aft := by
  unfold beatsF at h
  cases h1 : ltI 500 (lenL l) with
  | true => rw [h1] at h; cases h
  | false =>
    rw [h1, cond_false] at h
    have h0 : l.length ≤ 500 := by
      rw [ltI_iff, lenL_eq] at h1
      simp only [decide_eq_false_iff_not] at h1
      omega
    cases h2 : wp bF 0 none l with
    | inl s =>
      obtain ⟨h3, h4⟩ := (wp_bF l 0 none).2 s h2
      exact ⟨h0, fun x hx => (h3 x hx).1, h4⟩
    | inr r => rw [h2] at h; exact absurd h ((wp_bF l 0 none).1 r h2)
end Go.Abs.TKC.C

set_option linter.unusedVariables false
set_option linter.unusedSimpArgs false
namespace Go.Abs.TKC.C
open Go.RowKit
/-! The beats of a player. -/
def mine (p : ByteArray) (x : S87) : Bool := eqS x.f0 p
def own (l : List S87) (p : ByteArray) : List S87 := l.filter (mine p)
theorem own_len (l : List S87) (p : ByteArray) : (own l p).length ≤ l.length := List.length_filter_le _ _
/-! Clocks and moments. -/
def fwd (b : S87) : S212 := ⟨b.f2, b.f1⟩
def swp (b : S87) : S87 := ⟨b.f0, b.f2, b.f1⟩
theorem T122_eq (l : List S87) (p : ByteArray) (back : Bool) (h : l.length ≤ 1048576) : T122 l p back = some ((own l p).map fun b => bif back then fwd (swp b) else fwd b) := by
  have hi : iter (L122_3 l p back) ([], ((0 : Nat) : Int)) = some (Sum.elim (fun s => ((l.length : Int), false, s)) (fun r : Empty => nomatch r) (wp (fun _ (s : List S212) (x : S87) => (.inl (bif mine p x then s ++ [bif back then fwd (swp x) else fwd x] else s) : List S212 ⊕ Empty)) 0 [] l)) := by
    refine iter_wp (fun s i => (s, (i : Int))) _ _ l _ (fun i s => s.length ≤ i) (fun i u x hx hI => ⟨?_, fun s' hs' => ?_⟩) (fun u _ => ?_) _ (Nat.le_refl _)
    · have hlt : i < l.length := (List.getElem?_eq_some_iff.1 hx).1
      have h1 : ltI (i : Int) (lenL l) = true := by rw [ltI_iff, lenL_eq]; simpa using hlt
      have h2 : addI .i64 (i : Int) 1 = ((i + 1 : Nat) : Int) := by rw [addI_eq (by omega) (by omega)]; omega
      have h4 : ∀ y : S212, appO 16 u [y] = some (u ++ [y]) := fun y => appO_eq (by simp; omega) (by simp; omega)
      simp only [L122_3, h1, cond_true, listAt_some hx, Option.bind_some, h4, h2, mine]
      cases eqS x.f0 p <;> cases back <;> rfl
    · cases hs'
      cases mine p x
      · exact Nat.le_succ_of_le hI
      · simpa using hI
    · have h1 : ltI (l.length : Int) (lenL l) = false := by rw [ltI_iff, lenL_eq]; simp
      simp only [L122_3, h1, cond_false]
  have hw : ∀ (m : List S87) (i : Nat) (s : List S212), wp (fun _ (s : List S212) (x : S87) => (.inl (bif mine p x then s ++ [bif back then fwd (swp x) else fwd x] else s) : List S212 ⊕ Empty)) i s m = .inl (s ++ (own m p).map fun b => bif back then fwd (swp b) else fwd b) := by
    intro m
    induction m with
    | nil => intro i s; simp [wp, own]
    | cons a m ih =>
      intro i s
      simp only [wp]
      rw [ih]
      unfold own
      cases hm : mine p a with
      | true => rw [List.filter_cons_of_pos hm]; simp
      | false => rw [List.filter_cons_of_neg (by rw [hm]; simp)]; simp
  unfold T122
  rw [show (0 : Int) = ((0 : Nat) : Int) from rfl, hi, hw]
  rfl
theorem own_swp (l : List S87) (p : ByteArray) : own (l.map swp) p = (own l p).map swp := by
  unfold own
  rw [List.filter_map]
  rfl
end Go.Abs.TKC.C

set_option linter.unusedVariables false
set_option linter.unusedSimpArgs false
namespace Go.Abs.TKC.C
open Go.RowKit
/-! What belongs to a number by beats. -/
def far (p q : S87) : Bool := ltI 2592000000 (q.f1 - p.f1) || ltI 2592000000 (q.f2 - p.f2)
def seg (n : Int) : S87 → List S87 → Int ⊕ Unit
  | p, [] => .inl (p.f1 + n - p.f2)
  | p, q :: rest => if q.f2 ≤ n then seg n q rest else if far p q = true then .inr () else .inl (p.f1 + ((n - p.f2) * (q.f1 - p.f1)).tdiv (q.f2 - p.f2))
def val (n : Int) : List S87 → Int ⊕ Unit
  | [] => .inr ()
  | p :: rest => if n < p.f2 then .inl (p.f1 + n - p.f2) else seg n p rest
def fin (v : Int ⊕ Unit) : Int × Int := Sum.elim (fun y => bif !mom y then (0, 11) else (y, 0)) (fun _ => (0, 2)) v
structure Inc (l : List S87) : Prop where
  len : l.length ≤ 500
  m1 : ∀ x ∈ l, 0 ≤ x.f1 ∧ x.f1 ≤ 345686399999
  m2 : ∀ x ∈ l, 0 ≤ x.f2 ∧ x.f2 ≤ 345686399999
  up : l.Pairwise fun a b => a.f1 < b.f1 ∧ a.f2 < b.f2
theorem interp {a b c : Int} (ha : 0 ≤ a ∧ a ≤ 2592000000) (hb : 0 ≤ b ∧ b ≤ 2592000000) (hc : 0 < c) : mulI .i64 a b = a * b ∧ quoO .i64 (a * b) c = some ((a * b).tdiv c) ∧ 0 ≤ (a * b).tdiv c ∧ (a * b).tdiv c ≤ 6718464000000000000 := by
  have h1 : 0 ≤ a * b := Int.mul_nonneg ha.1 hb.1
  have h2 : a * b ≤ 2592000000 * 2592000000 := Int.mul_le_mul ha.2 hb.2 hb.1 (by decide)
  have h3 : (a * b).tdiv c = a * b / c := Int.tdiv_eq_ediv_of_nonneg h1
  have h4 : 0 ≤ a * b / c := Int.ediv_nonneg h1 (by omega)
  have h5 : a * b / c ≤ a * b := Int.ediv_le_self _ h1
  have h6 : (2592000000 * 2592000000 : Int) = 6718464000000000000 := by decide
  refine ⟨mulI_eq (by omega) (by omega), ?_, by omega, by omega⟩
  unfold quoO
  rw [if_neg (by omega), h3]
  congr 1
  exact IntWalk.i64_in _ ⟨by omega, by omega⟩
theorem seg_at (n : Int) : ∀ (rest : List S87) (p : S87) (k : Nat) (P : S87), (∀ j x, j < k → rest[j]? = some x → x.f2 ≤ n) → (p :: rest)[k]? = some P →
    (k = rest.length → seg n p rest = .inl (P.f1 + n - P.f2)) ∧ ∀ Q, rest[k]? = some Q → n < Q.f2 → seg n p rest = if far P Q = true then .inr () else .inl (P.f1 + ((n - P.f2) * (Q.f1 - P.f1)).tdiv (Q.f2 - P.f2))
  | [], p, k, P, hk, hP => by
    cases k with
    | zero =>
      simp only [List.getElem?_cons_zero, Option.some.injEq] at hP
      subst hP
      exact ⟨fun _ => rfl, fun Q hQ => by simp at hQ⟩
    | succ k => simp at hP
  | q :: rest, p, k, P, hk, hP => by
    cases k with
    | zero =>
      simp only [List.getElem?_cons_zero, Option.some.injEq] at hP
      subst hP
      refine ⟨fun h => by simp at h, fun Q hQ hlt => ?_⟩
      simp only [List.getElem?_cons_zero, Option.some.injEq] at hQ
      subst hQ
      simp only [seg]
      rw [if_neg (by omega)]
    | succ k =>
      have hq : q.f2 ≤ n := hk 0 q (by omega) rfl
      have ih := seg_at n rest q k P (fun j x hj hx => hk (j + 1) x (by omega) (by simpa using hx)) (by simpa using hP)
      simp only [seg]
      rw [if_pos hq]
      exact ⟨fun h => ih.1 (by simpa using h), fun Q hQ => ih.2 Q (by simpa using hQ)⟩
theorem Inc.get {l : List S87} (I : Inc l) {i : Nat} {x : S87} (h : l[i]? = some x) : (0 ≤ x.f1 ∧ x.f1 ≤ 345686399999) ∧ (0 ≤ x.f2 ∧ x.f2 ≤ 345686399999) := ⟨I.m1 x (List.mem_of_getElem? h), I.m2 x (List.mem_of_getElem? h)⟩
theorem Inc.lt {l : List S87} (I : Inc l) {i j : Nat} {x y : S87} (hij : i < j) (hx : l[i]? = some x) (hy : l[j]? = some y) : x.f1 < y.f1 ∧ x.f2 < y.f2 := by
  obtain ⟨h1, rfl⟩ := List.getElem?_eq_some_iff.1 hx
  obtain ⟨h2, rfl⟩ := List.getElem?_eq_some_iff.1 hy
  exact List.pairwise_iff_getElem.1 I.up i j h1 h2 hij
theorem T121_eq (gl : List S87) (I : Inc gl) (hne : gl ≠ []) {n : Int} (hn : 0 ≤ n ∧ n ≤ 345686399999) : T121 (gl.map fwd) n = some (fin (val n gl)) := by
  have hI := I.len
  have hl0 : 0 < gl.length := List.length_pos_iff.2 hne
  have hloop : ∃ r, iter (L121_4 (gl.map fwd) n) ((0 : Nat) : Int) = some r ∧ ∃ k : Nat, r.1 = (k : Int) ∧ k ≤ gl.length ∧ (∀ j x, j < k → gl[j]? = some x → x.f2 ≤ n) ∧ ∀ x, gl[k]? = some x → n < x.f2 := by
    refine iter_meas (fun z => ∃ k : Nat, z = (k : Int) ∧ k ≤ gl.length ∧ ∀ j x, j < k → gl[j]? = some x → x.f2 ≤ n) (fun z => (gl.length - z).toNat) _ ?_ _ ⟨0, rfl, Nat.zero_le _, fun j x hj => by omega⟩
    rintro _ ⟨k, rfl, hk, hall⟩
    by_cases hlt : k < gl.length
    · have h1 : ltI (k : Int) (lenL (gl.map fwd)) = true := by rw [ltI_iff, lenL_eq, List.length_map]; simpa using hlt
      have h2 : addI .i64 (k : Int) 1 = ((k + 1 : Nat) : Int) := by rw [addI_eq (by omega) (by omega)]; omega
      have hx := List.getElem?_eq_getElem hlt
      have hx2 : (gl.map fwd)[k]? = some (fwd gl[k]) := by rw [List.getElem?_map, hx]; rfl
      by_cases hc : (gl[k]).f2 ≤ n
      · left
        have h3 : leI (fwd gl[k]).f0 n = true := decide_eq_true hc
        refine ⟨((k + 1 : Nat) : Int), by simp only [L121_4, h1, cond_true, listAt_some hx2, Option.bind_some, h3, h2], ⟨k + 1, rfl, by omega, fun j x hj hjx => ?_⟩, by omega⟩
        rcases Nat.lt_or_ge j k with h4 | h4
        · exact hall j x h4 hjx
        · have : j = k := by omega
          subst this
          rw [hx] at hjx
          cases hjx
          exact hc
      · right
        have h3 : leI (fwd gl[k]).f0 n = false := decide_eq_false hc
        refine ⟨((k : Int), false), by simp only [L121_4, h1, cond_true, listAt_some hx2, Option.bind_some, h3, cond_false], k, rfl, hk, hall, fun x hx3 => ?_⟩
        rw [hx] at hx3
        cases hx3
        omega
    · right
      have h1 : ltI (k : Int) (lenL (gl.map fwd)) = false := by rw [ltI_iff, lenL_eq, List.length_map]; simp; omega
      refine ⟨((k : Int), false), by simp only [L121_4, h1, cond_false], k, rfl, hk, hall, fun x hx3 => ?_⟩
      have := (List.getElem?_eq_some_iff.1 hx3).1
      omega
  obtain ⟨r, h1, k, h2, hk, hall, hnext⟩ := hloop
  have hL : eqI (lenL (gl.map fwd)) 0 = false := by rw [eqI_iff, lenL_eq, List.length_map]; simp; omega
  have post : ∀ v : Int ⊕ Unit, (Sum.elim (fun y10a => ((T92 y10a).bind fun x11 => (bif (!x11) then (some ((0 : Int), (11 : Int))) else (some (y10a, 0))))) (fun y10b => (some (0, 2))) v) = some (fin v) := by
    intro v
    cases v with
    | inl y => simp only [Sum.elim_inl, T92_eq, Option.bind_some, fin]; cases mom y <;> rfl
    | inr u => rfl
  unfold T121
  rw [hL, cond_false, show (0 : Int) = ((0 : Nat) : Int) from rfl, h1, Option.bind_some, h2]
  have hat : ∀ (i : Nat) (x : S87), gl[i]? = some x → listAt (gl.map fwd) (i : Int) = some (fwd x) := fun i x hx => listAt_some (by rw [List.getElem?_map, hx]; rfl)
  match gl, hne, I, hl0, hk, hall, hnext, hat, hI with
  | a :: rest, _, I, _, hk, hall, hnext, hat, hI =>
  cases k with
  | zero =>
    have h3 : eqI ((0 : Nat) : Int) ((0 : Nat) : Int) = true := rfl
    have h4 := hat 0 a rfl
    have ha := I.get (i := 0) (x := a) rfl
    have hlt : n < a.f2 := hnext a rfl
    have e1 : subI .i64 a.f2 n = a.f2 - n := subI_eq (by omega) (by omega)
    have e2 : subI .i64 a.f1 (a.f2 - n) = a.f1 - (a.f2 - n) := subI_eq (by omega) (by omega)
    simp only [h3, cond_true, h4, Option.bind_some, fwd, e1, e2]
    have e3 : val n (a :: rest) = .inl (a.f1 - (a.f2 - n)) := by
      simp only [val]
      rw [if_pos hlt]
      congr 1
      omega
    rw [e3]
    exact post _
  | succ k =>
    have h3 : eqI ((k + 1 : Nat) : Int) ((0 : Nat) : Int) = false := by rw [eqI_iff]; simp; omega
    have h5 : subI .i64 ((k + 1 : Nat) : Int) 1 = (k : Int) := by rw [subI_eq (by omega) (by omega)]; omega
    have ha2 : a.f2 ≤ n := hall 0 a (by omega) rfl
    have hv : val n (a :: rest) = seg n a rest := by
      simp only [val]
      rw [if_neg (by omega)]
    have hkl : k < (a :: rest).length := by omega
    have hP := List.getElem?_eq_getElem hkl
    generalize (a :: rest)[k] = P at hP
    have hPv := I.get hP
    have hPn : P.f2 ≤ n := hall k P (by omega) hP
    have hsg := seg_at n rest a k P (fun j x hj hx => hall (j + 1) x (by omega) (by simpa using hx)) hP
    have h6 := hat k P hP
    rw [hv]
    simp only [h3, cond_false, h5, h6, Option.bind_some]
    by_cases hkk : k + 1 = (a :: rest).length
    · have h7 : eqI ((k + 1 : Nat) : Int) (lenL ((a :: rest).map fwd)) = true := by rw [eqI_iff, lenL_eq, List.length_map, hkk]; simp
      have e1 : addI .i64 P.f1 n = P.f1 + n := addI_eq (by omega) (by omega)
      have e2 : subI .i64 (P.f1 + n) P.f2 = P.f1 + n - P.f2 := subI_eq (by omega) (by omega)
      rw [hsg.1 (by simpa using hkk)]
      simp only [h7, cond_true, fwd, e1, e2, Option.bind_some]
      exact post _
    · have h7 : eqI ((k + 1 : Nat) : Int) (lenL ((a :: rest).map fwd)) = false := by
        rw [eqI_iff, lenL_eq, List.length_map]
        simp only [decide_eq_false_iff_not]
        omega
      have hkl2 : k + 1 < (a :: rest).length := by omega
      have hQ := List.getElem?_eq_getElem hkl2
      generalize (a :: rest)[k + 1] = Q at hQ
      have hQv := I.get hQ
      have hQn : n < Q.f2 := hnext Q hQ
      have hPQ := I.lt (by omega : k < k + 1) hP hQ
      have h8 := hat (k + 1) Q hQ
      rw [hsg.2 Q (by simpa using hQ) hQn]
      have e1 : subI .i64 Q.f2 P.f2 = Q.f2 - P.f2 := subI_eq (by omega) (by omega)
      have e2 : subI .i64 Q.f1 P.f1 = Q.f1 - P.f1 := subI_eq (by omega) (by omega)
      have e3 : subI .i64 n P.f2 = n - P.f2 := subI_eq (by omega) (by omega)
      simp only [h7, cond_false, h8, Option.bind_some, fwd, e1, e2, e3, far]
      rcases Bool.eq_false_or_eq_true (ltI 2592000000 (Q.f2 - P.f2)) with h9 | h9
      · simp only [h9, cond_true, Bool.or_true, if_true, Option.bind_some]; exact post _
      · rcases Bool.eq_false_or_eq_true (ltI 2592000000 (Q.f1 - P.f1)) with h10 | h10
        · simp only [h9, h10, cond_true, cond_false, Bool.or_false, Bool.true_or, if_true, Option.bind_some]; exact post _
        · have h9' := h9
          have h10' := h10
          rw [ltI_iff] at h9' h10'
          simp only [decide_eq_false_iff_not] at h9' h10'
          obtain ⟨m1, m2, m3, m4⟩ := interp (a := n - P.f2) (b := Q.f1 - P.f1) (c := Q.f2 - P.f2) ⟨by omega, by omega⟩ ⟨by omega, by omega⟩ (by omega)
          have e4 : addI .i64 P.f1 (((n - P.f2) * (Q.f1 - P.f1)).tdiv (Q.f2 - P.f2)) = P.f1 + ((n - P.f2) * (Q.f1 - P.f1)).tdiv (Q.f2 - P.f2) := addI_eq (by omega) (by omega)
          simp only [h9, h10, cond_false, m1, m2, Option.bind_some, e4, Bool.or_false, Bool.false_eq_true, if_false]
          exact post _
end Go.Abs.TKC.C

set_option linter.unusedVariables false
set_option linter.unusedSimpArgs false
namespace Go.Abs.TKC.C
open Go.RowKit
abbrev Y53 := (Int × Int × Int × Bool × List S87 × ByteArray × Int × Int) ⊕ ((Int × Int × Bool × List S87) ⊕ Unit)
def e3 (y : Y53) : Int ⊕ Unit := Sum.elim (fun a => .inl a.1) (fun b => Sum.elim (fun c => .inl c.1) (fun _ => .inr ()) b) y
def tgt (n at_ : Int) : List S87 → Int ⊕ Unit
  | [] => .inl at_
  | p :: rest => if n < p.f2 then .inl at_ else seg n p rest
def code (gl : List S87) (n : Int) : Int × Int := match gl with
  | [] => (0, 8)
  | a :: rest => fin (val n (a :: rest))
theorem T121_code (gl : List S87) (I : Inc gl) {n : Int} (hn : 0 ≤ n ∧ n ≤ 345686399999) : T121 (gl.map fwd) n = some (code gl n) := by
  match gl, I with
  | [], _ => rfl
  | a :: rest, I => exact T121_eq (a :: rest) I (by simp) hn
theorem inc_own {l : List S87} (h : beatsF l = 0) (p : ByteArray) : Inc (own l p) := by
  obtain ⟨h1, h2, h3⟩ := beatsF_ok h
  have hm : ∀ x ∈ own l p, x ∈ l ∧ x.f0 = p := fun x hx => by
    obtain ⟨h4, h5⟩ := List.mem_filter.1 hx
    refine ⟨h4, ?_⟩
    unfold mine at h5
    rw [eqS_iff] at h5
    simpa using h5
  refine ⟨Nat.le_trans (own_len l p) h1, fun x hx => mom_iff.1 (h2 x (hm x hx).1).1, fun x hx => mom_iff.1 (h2 x (hm x hx).1).2, ?_⟩
  have hs : (own l p).Pairwise Aft := List.Pairwise.sublist List.filter_sublist h3
  refine List.Pairwise.imp_of_mem ?_ hs
  intro a b ha hb hab
  rcases hab with hab | hab
  · rw [(hm a ha).2, (hm b hb).2, ltS_irrefl] at hab
    cases hab
  · exact hab.2
theorem inc_swp {l : List S87} (I : Inc l) : Inc (l.map swp) := by
  refine ⟨by rw [List.length_map]; exact I.len, fun x hx => ?_, fun x hx => ?_, ?_⟩
  · obtain ⟨y, hy, rfl⟩ := List.mem_map.1 hx
    exact I.m2 y hy
  · obtain ⟨y, hy, rfl⟩ := List.mem_map.1 hx
    exact I.m1 y hy
  · rw [List.pairwise_map]
    exact I.up.imp fun h => ⟨h.2, h.1⟩
end Go.Abs.TKC.C

set_option linter.unusedVariables false
set_option linter.unusedSimpArgs false
namespace Go.Abs.TKC.C
open Go.RowKit
/-! Lowest terms. -/
theorem quoO_some (a : Int) {b : Int} (hb : b ≠ 0) : ∃ c, quoO .i64 a b = some c := ⟨_, by unfold quoO; rw [if_neg hb]⟩
/-! What is asked. -/
def codeB (l : List S87) (p : ByteArray) (n : Int) (back : Bool) : Int × Int := bif neI (beatsF l) 0 then (0, beatsF l) else bif !key p then (0, 5) else bif !mom n then (0, 1) else code (bif back then (own l p).map swp else own l p) n
theorem T90_eq (l : List S87) (p : ByteArray) (n : Int) (back : Bool) (h : l.length ≤ 1048576) (hs : ∀ x ∈ l, ok87 1048576 x) (hp : p.size ≤ 1048576) : T90 l p n back = some (codeB l p n back) := by
  unfold T90 codeB
  rw [T120_eq l h hs, Option.bind_some, T97_eq p hp, Option.bind_some, T92_eq, Option.bind_some]
  cases hF : neI (beatsF l) 0; rotate_left; · rfl
  cases hK : key p; · rfl
  cases hM : mom n; · rfl
  have I := inc_own (neI_false.1 hF) p
  have hn := mom_iff.1 hM
  simp only [cond_false, Bool.not_true, T122_eq l p back h, Option.bind_some]
  have hmap : ((own l p).map fun b => bif back then fwd (swp b) else fwd b) = (bif back then (own l p).map swp else own l p).map fwd := by
    cases back
    · rfl
    · simp [Function.comp_def]
  rw [hmap, T121_code _ (by cases back <;> first | exact I | exact inc_swp I) hn]
  rfl
theorem T42_eq (l : List S87) (p : ByteArray) (n : Int) (h : l.length ≤ 1048576) (hs : ∀ x ∈ l, ok87 1048576 x) (hp : p.size ≤ 1048576) : T42 l p n = some (codeB l p n false) := by
  unfold T42
  rw [T90_eq l p n false h hs hp]
  rfl
theorem T43_eq (l : List S87) (p : ByteArray) (n : Int) (h : l.length ≤ 1048576) (hs : ∀ x ∈ l, ok87 1048576 x) (hp : p.size ≤ 1048576) : T43 l p n = some (codeB l p n true) := by
  unfold T43
  rw [T90_eq l p n true h hs hp]
  rfl
end Go.Abs.TKC.C

set_option linter.unusedVariables false
set_option linter.unusedSimpArgs false
namespace Go.Abs.TKC.C
open Go.RowKit
/-! The example; lists that are the same; all of it. -/
def b0 : List S87 := [(S87.mk (ByteArray.mk #[112]) 0 100), (S87.mk (ByteArray.mk #[112]) 1000 1300)]
def p0' : ByteArray := ByteArray.mk #[112]
theorem b0_ok : ∀ x ∈ b0, ok87 1048576 x := by
  intro x hx
  simp only [b0, List.mem_cons, List.not_mem_nil, or_false] at hx
  rcases hx with rfl | rfl <;> exact ⟨by decide, ⟨by decide, by decide⟩, ⟨by decide, by decide⟩⟩
theorem T42_0 : T42 b0 p0' 700 = some (500, 0) := by
  rw [T42_eq b0 p0' 700 (by decide) b0_ok (by decide)]
  congr 1
  decide +kernel
theorem eqB_self (a : ByteArray) : eqB a a = true := by
  unfold eqB
  cases a with
  | mk x => show (x == x) = true; simp
theorem allB_tt : allB [true, true] = true := rfl
end Go.Abs.TKC.C

set_option linter.unusedVariables false
set_option linter.unusedSimpArgs false
namespace Go.Abs.TKC.C
open Go.RowKit
/-! Beats with small gaps: what belongs to a clock, and back. -/
structure Gap (p q : S87) : Prop where
  a1 : 50 ≤ q.f1 - p.f1
  a2 : q.f1 - p.f1 ≤ 300
  c1 : 50 ≤ q.f2 - p.f2
  c2 : q.f2 - p.f2 ≤ 300
def Gaps : S87 → List S87 → Prop
  | _, [] => True
  | p, q :: r => Gap p q ∧ Gaps q r
theorem far_false {p q : S87} (h : Gap p q) : far p q = false := by
  obtain ⟨h1, h2, h3, h4⟩ := h
  unfold far ltI
  rw [Bool.or_eq_false_iff]
  exact ⟨decide_eq_false (by omega), decide_eq_false (by omega)⟩
theorem gap_swp {p q : S87} (h : Gap p q) : Gap (swp p) (swp q) := ⟨h.c1, h.c2, h.a1, h.a2⟩
theorem gaps_swp : ∀ (r : List S87) (p : S87), Gaps p r → Gaps (swp p) (r.map swp)
  | [], _, _ => trivial
  | q :: r, p, h => ⟨gap_swp h.1, gaps_swp r q h.2⟩
theorem gaps_le : ∀ (r : List S87) (p : S87), Gaps p r → ∀ x ∈ p :: r, p.f1 ≤ x.f1 ∧ p.f2 ≤ x.f2
  | [], p, _, x, hx => by
    rw [List.mem_singleton] at hx
    subst hx
    omega
  | q :: r, p, h, x, hx => by
    rcases List.mem_cons.1 hx with rfl | hx
    · omega
    · have := gaps_le r q h.2 x hx
      have g := h.1.a1
      have g2 := h.1.c1
      omega
/-- Within two beats. -/
theorem step_facts {d a c : Int} (hd : 0 ≤ d) (hdc : d < c) (ha : 50 ≤ a ∧ a ≤ 300) (hc : 50 ≤ c ∧ c ≤ 300) :
    0 ≤ d * a / c ∧ d * a / c < a ∧ d * a / c ≤ 6 * d ∧ d * a / c * c / a ≤ d ∧ d - d * a / c * c / a < 8 := by
  have h1 : 0 ≤ d * a := Int.mul_nonneg hd (by omega)
  have h2 : d * a / c * c ≤ d * a := Int.ediv_mul_le _ (by omega)
  have h3 : d * a < (d * a / c + 1) * c := Int.lt_ediv_add_one_mul_self _ (by omega)
  have h4 : d * a < a * c := by
    rw [Int.mul_comm a c]
    exact Int.mul_lt_mul_of_pos_right hdc (by omega)
  have h5 : d * a ≤ 6 * d * c := by
    have e1 : d * a ≤ d * 300 := Int.mul_le_mul_of_nonneg_left ha.2 hd
    have e2 : d * 50 ≤ d * c := Int.mul_le_mul_of_nonneg_left hc.1 hd
    rw [Int.mul_assoc]
    omega
  refine ⟨Int.ediv_nonneg h1 (by omega), Int.ediv_lt_of_lt_mul (by omega) h4, Int.ediv_le_of_le_mul (by omega) h5, Int.ediv_le_of_le_mul (by omega) h2, ?_⟩
  have h6 : (d - 7) * a ≤ d * a / c * c := by
    rw [Int.add_mul] at h3
    rw [Int.sub_mul]
    omega
  have h7 := Int.le_ediv_of_mul_le (by omega : 0 < a) h6
  omega
theorem seg_fact : ∀ (r : List S87) (p : S87) (n : Int), Gaps p r → p.f2 ≤ n → ∃ v, seg n p r = .inl v ∧ p.f1 ≤ v ∧ v ≤ p.f1 + 6 * (n - p.f2) ∧ ∃ u, seg v (swp p) (r.map swp) = .inl u ∧ u ≤ n ∧ n - u < 8
  | [], p, n, _, hn => by
    refine ⟨p.f1 + n - p.f2, rfl, by omega, by omega, p.f2 + (p.f1 + n - p.f2) - p.f1, rfl, by omega, by omega⟩
  | q :: r, p, n, h, hn => by
    have hg := h.1
    obtain ⟨g1, g2, g3, g4⟩ := h.1
    by_cases hq : q.f2 ≤ n
    · obtain ⟨v, h1, h2, h3, u, h4, h5⟩ := seg_fact r q n h.2 hq
      refine ⟨v, by simp only [seg]; rw [if_pos hq]; exact h1, by omega, by omega, u, ?_, h5⟩
      simp only [seg, List.map_cons]
      rw [if_pos (by show q.f1 ≤ v; exact h2)]
      exact h4
    · have hs := step_facts (d := n - p.f2) (a := q.f1 - p.f1) (c := q.f2 - p.f2) (by omega) (by omega) ⟨g1, g2⟩ ⟨g3, g4⟩
      have e1 : ((n - p.f2) * (q.f1 - p.f1)).tdiv (q.f2 - p.f2) = (n - p.f2) * (q.f1 - p.f1) / (q.f2 - p.f2) := Int.tdiv_eq_ediv_of_nonneg (Int.mul_nonneg (by omega) (by omega))
      generalize hE : (n - p.f2) * (q.f1 - p.f1) / (q.f2 - p.f2) = E at hs e1
      obtain ⟨s1, s2, s3, s4, s5⟩ := hs
      have e2 : (E * (q.f2 - p.f2)).tdiv (q.f1 - p.f1) = E * (q.f2 - p.f2) / (q.f1 - p.f1) := Int.tdiv_eq_ediv_of_nonneg (Int.mul_nonneg s1 (by omega))
      refine ⟨p.f1 + E, ?_, by omega, by omega, p.f2 + E * (q.f2 - p.f2) / (q.f1 - p.f1), ?_, by omega, by omega⟩
      · simp only [seg]
        rw [if_neg hq, far_false hg, e1]
        rfl
      · simp only [seg, List.map_cons]
        rw [if_neg (by show ¬ q.f1 ≤ p.f1 + E; omega), far_false (gap_swp hg)]
        show Sum.inl (p.f2 + ((p.f1 + E - p.f1) * (q.f2 - p.f2)).tdiv (q.f1 - p.f1)) = _
        rw [show p.f1 + E - p.f1 = E by omega, e2]
theorem seg_mono : ∀ (r : List S87) (p : S87) (n m : Int), Gaps p r → p.f2 ≤ n → n ≤ m → ∃ v w, seg n p r = .inl v ∧ seg m p r = .inl w ∧ v ≤ w
  | [], p, n, m, _, hn, hm => ⟨_, _, rfl, rfl, by omega⟩
  | q :: r, p, n, m, h, hn, hm => by
    have hg := h.1
    obtain ⟨g1, g2, g3, g4⟩ := h.1
    by_cases hq : q.f2 ≤ n
    · obtain ⟨v, w, h1, h2, h3⟩ := seg_mono r q n m h.2 hq hm
      refine ⟨v, w, ?_, ?_, h3⟩
      · simp only [seg]; rw [if_pos hq]; exact h1
      · simp only [seg]; rw [if_pos (by omega)]; exact h2
    · have hs := step_facts (d := n - p.f2) (a := q.f1 - p.f1) (c := q.f2 - p.f2) (by omega) (by omega) ⟨g1, g2⟩ ⟨g3, g4⟩
      have e1 : ((n - p.f2) * (q.f1 - p.f1)).tdiv (q.f2 - p.f2) = (n - p.f2) * (q.f1 - p.f1) / (q.f2 - p.f2) := Int.tdiv_eq_ediv_of_nonneg (Int.mul_nonneg (by omega) (by omega))
      have hv : seg n p (q :: r) = .inl (p.f1 + (n - p.f2) * (q.f1 - p.f1) / (q.f2 - p.f2)) := by
        simp only [seg]
        rw [if_neg hq, far_false hg, e1]
        rfl
      by_cases hq2 : q.f2 ≤ m
      · obtain ⟨w, h1, h2, _⟩ := seg_fact r q m h.2 hq2
        exact ⟨_, w, hv, by simp only [seg]; rw [if_pos hq2]; exact h1, by omega⟩
      · have e2 : ((m - p.f2) * (q.f1 - p.f1)).tdiv (q.f2 - p.f2) = (m - p.f2) * (q.f1 - p.f1) / (q.f2 - p.f2) := Int.tdiv_eq_ediv_of_nonneg (Int.mul_nonneg (by omega) (by omega))
        have hm2 : (n - p.f2) * (q.f1 - p.f1) ≤ (m - p.f2) * (q.f1 - p.f1) := Int.mul_le_mul_of_nonneg_right (by omega) (by omega)
        have hm3 := Int.ediv_le_ediv (by omega : 0 < q.f2 - p.f2) hm2
        exact ⟨_, _, hv, by simp only [seg]; rw [if_neg hq2, far_false hg, e2]; rfl, by omega⟩
theorem seg_beat : ∀ (r : List S87) (p : S87), Gaps p r → ∀ x ∈ p :: r, seg x.f2 p r = .inl x.f1
  | [], p, _, x, hx => by
    rw [List.mem_singleton] at hx
    subst hx
    show Sum.inl (x.f1 + x.f2 - x.f2) = _
    congr 1
    omega
  | q :: r, p, h, x, hx => by
    have hg := h.1
    obtain ⟨g1, g2, g3, g4⟩ := h.1
    rcases List.mem_cons.1 hx with rfl | hx
    · simp only [seg]
      rw [if_neg (by omega), far_false hg, Int.sub_self, Int.zero_mul, Int.zero_tdiv, Int.add_zero]
      rfl
    · have := gaps_le r q h.2 x hx
      simp only [seg]
      rw [if_pos (by omega)]
      exact seg_beat r q h.2 x hx
theorem val_seg {p : S87} {r : List S87} {n : Int} (h : p.f2 ≤ n) : val n (p :: r) = seg n p r := by
  simp only [val]
  rw [if_neg (by omega)]
end Go.Abs.TKC.C

set_option linter.unusedVariables false
set_option linter.unusedSimpArgs false
set_option maxRecDepth 10000
namespace Go.Abs.TKC
open Go.RowKit Go.Proofs Go.Abs C
/-! Beats that are drawn: each a while behind the last. -/
abbrev PP : ByteArray := ByteArray.mk #[112]
theorem gaps_snoc : ∀ (r : List S87) (p x y : S87), Gaps p (r ++ [x]) → Gap x y → Gaps p (r ++ [x] ++ [y])
  | [], p, x, y, h, g => ⟨h.1, g, trivial⟩
  | q :: r, p, x, y, h, g => ⟨h.1, gaps_snoc r q x y h.2 g⟩
theorem gaps_init : ∀ (r : List S87) (p : S87) (s : List S87), Gaps p (r ++ s) → Gaps p r
  | [], _, _, _ => trivial
  | q :: r, p, s, h => ⟨h.1, gaps_init r q s h.2⟩
structure Start (p : S87) : Prop where
  a : 0 ≤ p.f1 ∧ p.f1 ≤ 100
  c : p.f2 = 1000
def GG : List S87 → Prop
  | [] => True
  | p :: r => Start p ∧ Gaps p r
theorem gg_snoc {l : List S87} {x y : S87} (h : GG (l ++ [x])) (g : Gap x y) : GG (l ++ [x] ++ [y]) := by
  match l, h with
  | [], h => exact ⟨h.1, g, trivial⟩
  | p :: r, h => exact ⟨h.1, gaps_snoc r p x y h.2 g⟩
theorem gg_init {l : List S87} {x : S87} (h : GG (l ++ [x])) : GG l := by
  match l, h with
  | [], h => trivial
  | p :: r, h => exact ⟨h.1, gaps_init r p _ h.2⟩
structure BInv (i : Nat) (at_ : Int) (b : List S87) (a c : Int) : Prop where
  st : 0 ≤ at_ ∧ at_ ≤ 10 + 2 * i
  len : b.length = i
  all : ∀ x ∈ b, x.f0 = PP
  bd : ∀ x ∈ b, 0 ≤ x.f1 ∧ x.f1 ≤ 100 + 300 * i ∧ 0 ≤ x.f2 ∧ x.f2 ≤ 1000 + 300 * i
  g : GG (b ++ [⟨PP, a, c⟩])
  ab : 0 ≤ a ∧ a ≤ 100 + 300 * i
  cb : 0 ≤ c ∧ c ≤ 1000 + 300 * i
theorem build_ok {L : List Int} (hL : L.length ≤ 1048576) {n at_ a : Int} (hn : 1 ≤ n ∧ n ≤ 4) (hat : 0 ≤ at_ ∧ at_ ≤ 10) (ha : 0 ≤ a ∧ a ≤ 100) (q : List Int × Int) :
    ∃ at' b a' c', iter (L10_5 (n, q)) (L, at_, [], a, 1000, 0) = some (a', c', n, false, L, at', b) ∧ BInv n.toNat at' b a' c' := by
  obtain ⟨m, rfl⟩ : ∃ m : Nat, n = m := ⟨n.toNat, by omega⟩
  let enc : Int × List S87 × Int × Int → Nat → List Int × Int × List S87 × Int × Int × Int := fun s i => (L, s.1, s.2.1, s.2.2.1, s.2.2.2, (i : Int))
  let Inv : Nat → Int × List S87 × Int × Int → Prop := fun i s => BInv i s.1 s.2.1 s.2.2.1 s.2.2.2
  have h0 : Inv 0 (at_, [], a, 1000) := ⟨by simp only; omega, rfl, fun x hx => (by cases hx), fun x hx => (by cases hx), ⟨⟨ha, rfl⟩, trivial⟩, by simp only; omega, by simp only; omega⟩
  have key : ∀ (i : Nat) s, i < m → Inv i s → ∃ s', L10_5 ((m : Int), q) (enc s i) = some (.inl (enc s' (i + 1))) ∧ Inv (i + 1) s' := by
    rintro i ⟨at0, b, a, c⟩ hi ⟨h1, h2, h3, h4, h5, h6, h7⟩
    simp only at h1 h2 h3 h4 h5 h6 h7
    have hlt : ltI (i : Int) (m : Int) = true := by unfold ltI; exact decide_eq_true (by omega)
    have ho : appO 32 b [(⟨PP, a, c⟩ : S87)] = some (b ++ [⟨PP, a, c⟩]) := appO_big (by decide) (by simp only [List.length_cons, List.length_nil]; omega)
    obtain ⟨u, e1, u1, u2⟩ := range_ok (L := L) (at_ := at0) (lo := 50) (hi := 300) hL (by omega) (by omega) (by decide) (by decide) (by decide)
    obtain ⟨v, e2, v1, v2⟩ := range_ok (L := L) (at_ := at0 + 1) (lo := 50) (hi := 300) hL (by omega) (by omega) (by decide) (by decide) (by decide)
    have e3 : addI .i64 a u = a + u := addI_eq (by omega) (by omega)
    have e4 : addI .i64 c v = c + v := addI_eq (by omega) (by omega)
    refine ⟨(at0 + 1 + 1, b ++ [⟨PP, a, c⟩], a + u, c + v), ?_, ?_⟩
    · unfold L10_5
      simp only [enc, hlt, cond_true, ho, Option.bind_some, e1, e2, e3, e4, nextI (i := i) (by omega)]
    · refine ⟨by simp only; omega, by simp only [List.length_append, List.length_cons, List.length_nil]; omega, fun x hx => ?_, fun x hx => ?_, gg_snoc h5 ⟨by simp only; omega, by simp only; omega, by simp only; omega, by simp only; omega⟩, by simp only; omega, by simp only; omega⟩
      · rcases List.mem_append.1 hx with hx | hx
        · exact h3 x hx
        · rw [List.mem_singleton] at hx; subst hx; rfl
      · rcases List.mem_append.1 hx with hx | hx
        · have := h4 x hx; omega
        · rw [List.mem_singleton] at hx; subst hx; simp only; omega
  have kend : ∀ s, Inv m s → ∃ r, L10_5 ((m : Int), q) (enc s m) = some (.inr r) ∧ ∃ at' b a' c', r = (a', c', (m : Int), false, L, at', b) ∧ BInv m at' b a' c' := by
    intro s hI
    have hlt : ltI (m : Int) (m : Int) = false := by unfold ltI; exact decide_eq_false (by omega)
    exact ⟨_, by unfold L10_5; simp only [enc]; rw [hlt]; rfl, _, _, _, _, rfl, hI⟩
  obtain ⟨r, h1, at', b, a', c', e, hI⟩ := iter_up enc m Inv _ key kend (at_, [], a, 1000) h0
  exact ⟨at', b, a', c', by rw [← e]; exact h1, hI⟩
/-- Such beats are right. -/
structure Bt (b : List S87) : Prop where
  g : GG b
  all : ∀ x ∈ b, x.f0 = PP
  len : b.length ≤ 4
  bd : ∀ x ∈ b, 0 ≤ x.f1 ∧ x.f1 ≤ 2000 ∧ 0 ≤ x.f2 ∧ x.f2 ≤ 3000
theorem mom_in {x : Int} (h0 : 0 ≤ x) (h1 : x ≤ 100000) : mom x = true := mom_iff.2 ⟨h0, by omega⟩
theorem key_PP : key PP = true := by decide +kernel
theorem wp_ok : ∀ (r : List S87) (p : S87) (i : Nat), Gaps p r → (∀ x ∈ p :: r, x.f0 = PP) → (∀ x ∈ p :: r, 0 ≤ x.f1 ∧ x.f1 ≤ 2000 ∧ 0 ≤ x.f2 ∧ x.f2 ≤ 3000) → ∃ s, wp bF i (some p) r = .inl s
  | [], p, i, _, _, _ => ⟨_, rfl⟩
  | q :: r, p, i, h, ha, hb => by
    have b1 := hb q (by simp)
    have hg := h.1
    obtain ⟨g1, g2, g3, g4⟩ := hg
    have hp := ha p (by simp)
    have hq := ha q (by simp)
    have hf : bF i (some p) q = .inl (some q) := by
      unfold bF
      rw [hq, key_PP, mom_in b1.1 (by omega), mom_in b1.2.2.1 (by omega)]
      have h1 : aft p q = true := by
        unfold aft
        rw [hp, hq, eqS_self, show ltI p.f1 q.f1 = true by unfold ltI; exact decide_eq_true (by omega)]
        simp
      have h2 : (eqS PP p.f0 && leI q.f2 p.f2) = false := by
        rw [show leI q.f2 p.f2 = false by unfold leI; exact decide_eq_false (by omega), Bool.and_false]
      simp only [h1, h2, Bool.not_true, Bool.and_true, cond_false]
    obtain ⟨s, hs⟩ := wp_ok r q (i + 1) h.2 (fun x hx => ha x (List.mem_cons_of_mem _ hx)) (fun x hx => hb x (List.mem_cons_of_mem _ hx))
    exact ⟨s, by simp only [wp, hf]; exact hs⟩
theorem beats_ok {b : List S87} (h : Bt b) : beatsF b = 0 := by
  have hl : ltI 500 (lenL b) = false := by have := h.len; unfold ltI; rw [lenL_eq]; exact decide_eq_false (by omega)
  unfold beatsF
  rw [hl]
  match b, h with
  | [], _ => rfl
  | p :: r, h =>
    have b1 := h.bd p (by simp)
    have hf : bF 0 none p = .inl (some p) := by
      unfold bF
      rw [h.all p (by simp), key_PP, mom_in b1.1 (by omega), mom_in b1.2.2.1 (by omega)]
      rfl
    obtain ⟨s, hs⟩ := wp_ok r p 1 h.g.2 h.all h.bd
    simp only [wp, hf, hs]
    rfl
theorem own_ok {b : List S87} (h : Bt b) : own b PP = b := by
  unfold own
  refine List.filter_eq_self.2 fun x hx => ?_
  unfold mine
  rw [h.all x hx, eqS_self]
theorem ok_b {b : List S87} (h : Bt b) : ∀ x ∈ b, ok87 1048576 x := fun x hx => by
  have := h.bd x hx
  refine ⟨by rw [h.all x hx]; decide, ⟨by omega, by omega⟩, ⟨by omega, by omega⟩⟩
theorem right_ok {p : S87} {r : List S87} (h : Bt (p :: r)) {n v : Int} (h0 : p.f2 ≤ n) (h1 : 0 ≤ n ∧ n ≤ 100000) (hv : seg n p r = .inl v) (hv0 : 0 ≤ v ∧ v ≤ 100000) : T42 (p :: r) PP n = some (v, 0) := by
  rw [T42_eq (p :: r) PP n (by have := h.len; omega) (ok_b h) (by decide)]
  unfold codeB
  rw [beats_ok h, key_PP, mom_in h1.1 h1.2]
  simp only [show neI 0 0 = false from rfl, Bool.not_true, cond_false]
  rw [own_ok h]
  show some (fin (val n (p :: r))) = _
  rw [val_seg h0, hv]
  unfold fin
  simp only [Sum.elim_inl]
  rw [mom_in hv0.1 hv0.2]
  rfl
theorem shown_ok {p : S87} {r : List S87} (h : Bt (p :: r)) {n v : Int} (h0 : p.f1 ≤ n) (h1 : 0 ≤ n ∧ n ≤ 100000) (hv : seg n (swp p) (r.map swp) = .inl v) (hv0 : 0 ≤ v ∧ v ≤ 100000) : T43 (p :: r) PP n = some (v, 0) := by
  rw [T43_eq (p :: r) PP n (by have := h.len; omega) (ok_b h) (by decide)]
  unfold codeB
  rw [beats_ok h, key_PP, mom_in h1.1 h1.2]
  simp only [show neI 0 0 = false from rfl, Bool.not_true, cond_false, cond_true]
  rw [own_ok h]
  show some (fin (val n (swp p :: r.map swp))) = _
  rw [val_seg (p := swp p) h0, hv]
  unfold fin
  simp only [Sum.elim_inl]
  rw [mom_in hv0.1 hv0.2]
  rfl
theorem beat_both {p : S87} {r : List S87} (h : Bt (p :: r)) {x : S87} (hx : x ∈ p :: r) : T42 (p :: r) PP x.f2 = some (x.f1, 0) ∧ T43 (p :: r) PP x.f1 = some (x.f2, 0) := by
  have hb := h.bd x hx
  have hl := gaps_le r p h.g.2 x hx
  refine ⟨right_ok h hl.2 ⟨by omega, by omega⟩ (seg_beat r p h.g.2 x hx) ⟨by omega, by omega⟩, shown_ok h hl.1 ⟨by omega, by omega⟩ ?_ ⟨by omega, by omega⟩⟩
  exact seg_beat (r.map swp) (swp p) (gaps_swp r p h.g.2) (swp x) (by
    rcases List.mem_cons.1 hx with rfl | hx
    · simp
    · exact List.mem_cons_of_mem _ (List.mem_map.2 ⟨x, hx, rfl⟩))
theorem check_ok {b : List S87} (h : Bt b) (hne : b ≠ []) (y : Int × Int × Int × Bool × List Int × Int × List S87) (hy : y.2.2.2.2.2.2 = b) : iter (L10_11 y) (b, 0) = some (.inl ((b.length : Int), false, b)) := by
  have key : ∀ (i : Nat) (s : Unit), i < b.length → True → ∃ s' : Unit, L10_11 y (b, (i : Int)) = some (.inl (b, ((i + 1 : Nat) : Int))) ∧ True := by
    intro i _ hi _
    have hx := List.getElem?_eq_getElem hi
    obtain ⟨e1, e2⟩ : T42 b PP (b[i]).f2 = some ((b[i]).f1, 0) ∧ T43 b PP (b[i]).f1 = some ((b[i]).f2, 0) := by
      have hm := List.getElem_mem hi
      generalize b[i] = x at hm ⊢
      match b, h, hm with
      | p :: r, h, hm => exact beat_both h hm
    refine ⟨(), ?_, trivial⟩
    unfold L10_11
    have hl := h.len
    simp only [hy, ltL_true hi, cond_true, idx_nat hi, Option.bind_some, getN_some hx, e1, e2, errs_ok [0, 0] (by decide) (by simp), show neI 0 0 = false from rfl, cond_false, neI_self, nextI (i := i) (by omega)]
  obtain ⟨r, h1, h2⟩ := iter_up (st := L10_11 y) (fun (_ : Unit) i => (b, (i : Int))) b.length (fun _ _ => True) (fun r => r = .inl ((b.length : Int), false, b)) key (fun _ _ => ⟨_, by unfold L10_11; rw [hy, ltL_false (Nat.le_refl _)]; rfl, rfl⟩) () trivial
  rw [← h2]
  exact h1
theorem plain (p0 : (List Int)) (h0 : (p0.length ≤ 1048576 ∧ ∀ x ∈ p0, okI x)) : T10 p0 = some true := by
  have hL := h0.1
  obtain ⟨a, e1, a1, a2⟩ := range_ok (L := p0) (at_ := 0) (lo := 0) (hi := 100) hL (by decide) (by decide) (by decide) (by decide) (by decide)
  obtain ⟨n, e2, n1, n2⟩ := range_ok (L := p0) (at_ := 0 + 1) (lo := 1) (hi := 4) hL (by decide) (by decide) (by decide) (by decide) (by decide)
  obtain ⟨at', b, a', c', e3, hI⟩ := build_ok (L := p0) hL (n := n) (at_ := 0 + 1 + 1) (a := a) ⟨n1, n2⟩ (by decide) ⟨a1, a2⟩ (p0, 0 + 1 + 1)
  obtain ⟨h1, h2, h3, h4, h5, h6, h7⟩ := hI
  have hb : Bt b := ⟨gg_init h5, h3, by omega, fun x hx => by have := h4 x hx; omega⟩
  have hne : b ≠ [] := fun e => by rw [e] at h2; simp at h2; omega
  have e4 := check_ok hb hne (a', c', n, false, p0, at', b) rfl
  obtain ⟨d, e5, d1, d2⟩ := range_ok (L := p0) (at_ := at') (lo := 0) (hi := 1200) hL (by omega) (by omega) (by decide) (by decide) (by decide)
  obtain ⟨k, e6, k1, k2⟩ := range_ok (L := p0) (at_ := at' + 1) (lo := 0) (hi := 300) hL (by omega) (by omega) (by decide) (by decide) (by decide)
  have s1 : addI .i64 1000 d = 1000 + d := addI_eq (by omega) (by omega)
  have s2 : addI .i64 (1000 + d) k = 1000 + d + k := addI_eq (by omega) (by omega)
  have hmain : ∃ v w u, T42 b PP (1000 + d) = some (v, 0) ∧ T42 b PP (1000 + d + k) = some (w, 0) ∧ T43 b PP v = some (u, 0) ∧ v ≤ w ∧ u ≤ 1000 + d ∧ 1000 + d - u < 8 ∧ 0 ≤ u := by
    match b, hb, hne with
    | p :: r, hb, _ =>
      have hs := hb.g.1
      have hc := hs.c
      have ha := hs.a
      obtain ⟨v, v1, v2, v3, u, u1, u2, u3⟩ := seg_fact r p (1000 + d) hb.g.2 (by omega)
      obtain ⟨v', w, w1, w2, w3⟩ := seg_mono r p (1000 + d) (1000 + d + k) hb.g.2 (by omega) (by omega)
      obtain rfl : v' = v := by rw [v1] at w1; exact (Sum.inl.inj w1).symm
      obtain ⟨w', x1, x2, x3, _⟩ := seg_fact r p (1000 + d + k) hb.g.2 (by omega)
      obtain rfl : w' = w := by rw [x1] at w2; exact Sum.inl.inj w2
      exact ⟨v', w', u, right_ok hb (by omega) ⟨by omega, by omega⟩ v1 ⟨by omega, by omega⟩, right_ok hb (by omega) ⟨by omega, by omega⟩ x1 ⟨by omega, by omega⟩, shown_ok hb v2 ⟨by omega, by omega⟩ u1 ⟨by omega, by omega⟩, w3, u2, u3, by omega⟩
  obtain ⟨v, w, u, q1, q2, q3, q4, q5, q6, q7⟩ := hmain
  have t1 : leI v w = true := by unfold leI; exact decide_eq_true q4
  have t2 : leI u (1000 + d) = true := by unfold leI; exact decide_eq_true q5
  have t3 : ltI (subI .i64 (1000 + d) u) 8 = true := by rw [subI_eq (by omega) (by omega)]; unfold ltI; exact decide_eq_true q6
  unfold T10
  simp only [e1, e2, Option.bind_some, e3, e4, Sum.elim_inl, e5, s1, q1, e6, s2, q2, q3, errs_ok [0, 0, 0] (by decide) (by simp), t1, t2, t3, ready_ok, show eqI 0 0 = true from rfl, cond_true]
end Go.Abs.TKC
