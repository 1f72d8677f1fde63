import Derived.Test.YtkipmdkhhpicbaaGreatDoorITTNR
import Derived.Test.YtkipmdkhhpicbaaGreatDoorIPlS
import Derived.Test.YtkipmdkhhpicbaaGreatDoorIPlU
import Derived.Test.YtkipmdkhhpicbaaGreatDoorIPlT
import Derived.Lib.RowBridge
set_option linter.unusedVariables false
set_option linter.unusedSimpArgs false
set_option maxRecDepth 10000
namespace Go.Abs.TTN
open Go.RowKit Go.Proofs Go.Abs
/-! The two rectangles of 'lit'. -/
theorem lit_sort1 (x : S248) : sortO (fun x y => T217 x y) [x] = some [x] := by
  obtain ⟨l', h1, h2, _⟩ := sortO_le (fun x y => T217 x y) (fun _ _ => True) (fun _ _ => .inl trivial) (fun _ _ _ _ _ => trivial) [x] (by simp) (by
    intro a ha b hb
    simp only [List.mem_singleton] at ha hb
    subst ha; subst hb
    refine ⟨_, rfl, ?_⟩
    have : subI .i64 b.f0 b.f0 = 0 := by unfold subI; rw [Int.sub_self]; rfl
    simp [this])
  rw [h1, List.perm_singleton.1 h2]
theorem lit_sort2 : sortO (fun x y => T217 x y) [⟨0, 2⟩, ⟨1, 3⟩] = some [⟨0, 2⟩, ⟨1, 3⟩] := by
  obtain ⟨l', h1, h2, h3⟩ := sortO_key (fun x y => T217 x y) (·.f0) [⟨0, 2⟩, ⟨1, 3⟩] (by simp) (by
    intro a ha b hb
    simp only [List.mem_cons, List.not_mem_nil, or_false] at ha hb
    rcases ha with rfl | rfl <;> rcases hb with rfl | rfl <;> exact ⟨_, rfl, by decide⟩)
  rw [h1]
  congr 1
  match l', h2.length_eq with
  | [a, b], _ =>
    have ha : a ∈ [(⟨0, 2⟩ : S248), ⟨1, 3⟩] := h2.mem_iff.1 (by simp)
    have hb : b ∈ [(⟨0, 2⟩ : S248), ⟨1, 3⟩] := h2.mem_iff.1 (by simp)
    have hp := h2.countP_eq (fun x : S248 => x.f0 == 0)
    simp only [List.mem_cons, List.not_mem_nil, or_false] at ha hb
    simp only [List.pairwise_cons, List.mem_singleton, forall_eq] at h3
    rcases ha with rfl | rfl <;> rcases hb with rfl | rfl
    · simp at hp
    · rfl
    · have := h3.1
      simp at this
    · simp at hp
abbrev r0 : S40 := S40.mk 0 0 2 2
abbrev r1 : S40 := S40.mk 1 1 2 2
theorem runs_nil (y : Int) : T155 [] y = some [] := by
  unfold T155
  rw [iter_run (r := (0, false, [])) 1 (by kernel_rfl)]
  simp only [Option.bind_some]
  rw [show sortO (fun x y => T217 x y) ([] : List S248) = some [] from by simp [sortO], Option.bind_some, iter_run (r := (0, false, [], [])) 1 (by kernel_rfl)]
  rfl
theorem runs0 : T155 [r0, r1] 0 = some [⟨0, 2⟩] := by
  unfold T155
  rw [iter_run (r := (2, false, [⟨0, 2⟩])) 3 (by kernel_rfl)]
  simp only [Option.bind_some]
  rw [lit_sort1, Option.bind_some, iter_run (r := (1, false, [⟨0, 2⟩], [⟨0, 2⟩])) 2 (by kernel_rfl)]
  rfl
theorem runs1 : T155 [r0, r1] 1 = some [⟨0, 3⟩] := by
  unfold T155
  rw [iter_run (r := (2, false, [⟨0, 2⟩, ⟨1, 3⟩])) 3 (by kernel_rfl)]
  simp only [Option.bind_some]
  rw [lit_sort2, Option.bind_some, iter_run (r := (2, false, [⟨0, 3⟩], [⟨0, 2⟩, ⟨1, 3⟩])) 3 (by kernel_rfl)]
  rfl
theorem runs2 : T155 [r0, r1] 2 = some [⟨1, 3⟩] := by
  unfold T155
  rw [iter_run (r := (2, false, [⟨1, 3⟩])) 3 (by kernel_rfl)]
  simp only [Option.bind_some]
  rw [lit_sort1, Option.bind_some, iter_run (r := (1, false, [⟨1, 3⟩], [⟨1, 3⟩])) 2 (by kernel_rfl)]
  rfl
theorem less_nil (x : S248) (hx : ltI x.f0 x.f1 = true) : T154 [x] [] = some [x] := by
  have h : L154_4 [x] [] ([], 0, 0) = some (.inl ([x], 0, 1)) := by
    unfold L154_4
    have e1 : ltI ((([], 0, 0) : List S248 × Int × Int).2.2) (lenL [x]) = true := rfl
    have e2 : listAt [x] ((([], 0, 0) : List S248 × Int × Int).2.2) = some x := rfl
    rw [e1, e2]
    simp only [cond_true, Option.bind_some]
    rw [iter_run (r := (0, false)) 1 (by kernel_rfl), Option.bind_some, iter_run (r := (0, false, [], x.f0)) 1 (by kernel_rfl)]
    simp only [Option.bind_some, hx, cond_true]
    rfl
  unfold T154
  rw [iter_inl h, iter_inr (r := (0, 1, false, [x])) (by kernel_rfl)]
  rfl
theorem same_no (a b : S248) (h : allB [eqI a.f0 b.f0, eqI a.f1 b.f1] = false) : T156 [a] [b] = some false := by
  unfold T156
  rw [iter_inr (r := .inr ()) (by
    unfold L156_4
    have e1 : ltI 0 (lenL [a]) = true := rfl
    have e2 : listAt [a] 0 = some a := rfl
    have e3 : listAt [b] 0 = some b := rfl
    rw [e1, e2, e3]
    simp only [cond_true, Option.bind_some, h, Bool.not_false])]
  rfl
theorem lit_region : T86 [r0, r1] [] = some [⟨0, 0, 2, 1⟩, ⟨0, 1, 3, 1⟩, ⟨1, 2, 2, 1⟩] := by
  unfold T86 T151
  rw [iter_run (r := (2, 2, false)) 3 (by kernel_rfl)]
  simp only [Option.bind_some]
  rw [show growO S40 32 2 = some [] by unfold growO; rw [if_pos (by decide)], Option.bind_some, iter_run (r := (2, false, [r0, r1])) 3 (by kernel_rfl)]
  simp only [Option.bind_some]
  rw [iter_run (r := (2, false, [0, 2, 1, 3], [r0, r1])) 3 (by kernel_rfl)]
  simp only [Option.bind_some]
  rw [show sortIO [0, 2, 1, 3] = some [0, 1, 2, 3] by
    unfold sortIO
    rw [if_pos (by simp), sortI_of (l' := [0, 1, 2, 3]) (by decide) (by decide)]]
  simp only [Option.bind_some]
  rw [show compIO [0, 1, 2, 3] = some [0, 1, 2, 3] by decide]
  simp only [Option.bind_some]
  have s0 : L86_13 [r0, r1] [] [0, 1, 2, 3] ([0, 1, 2, 3], [], [], 0, 0) = some (.inl ([0, 1, 2, 3], [], [⟨0, 2⟩], 0, 1)) := by
    unfold L86_13
    rw [show ltI ((([0, 1, 2, 3], [], [], 0, 0) : List Int × List S40 × List S248 × Int × Int).2.2.2.2) (lenL ([0, 1, 2, 3] : List Int)) = true by decide]
    simp only [cond_true]
    rw [show idxO (List.length ([0, 1, 2, 3] : List Int)) 0 = some 0 by decide]
    simp only [Option.bind_some]
    rw [show getN ([0, 1, 2, 3] : List Int) 0 = some 0 by decide]
    simp only [Option.bind_some]
    rw [show ltI (addI .i64 0 1) (lenL ([0, 1, 2, 3] : List Int)) = true by decide]
    simp only [cond_true]
    rw [runs0, runs_nil]
    simp only [Option.bind_some]
    rw [less_nil ⟨0, 2⟩ (by decide)]
    simp only [Option.bind_some]
    rw [show T156 [] [⟨0, 2⟩] = some false by unfold T156; rfl]
    simp only [Option.bind_some, cond_false]
    rw [iter_run (r := (0, false, [0, 1, 2, 3], [])) 1 (by kernel_rfl)]
    rfl
  have s1 : L86_13 [r0, r1] [] [0, 1, 2, 3] ([0, 1, 2, 3], [], [⟨0, 2⟩], 0, 1) = some (.inl ([0, 1, 2, 3], [⟨0, 0, 2, 1⟩], [⟨0, 3⟩], 1, 2)) := by
    unfold L86_13
    rw [show ltI ((([0, 1, 2, 3], [], [⟨0, 2⟩], 0, 1) : List Int × List S40 × List S248 × Int × Int).2.2.2.2) (lenL ([0, 1, 2, 3] : List Int)) = true by decide]
    simp only [cond_true]
    rw [show idxO (List.length ([0, 1, 2, 3] : List Int)) 1 = some 1 by decide]
    simp only [Option.bind_some]
    rw [show getN ([0, 1, 2, 3] : List Int) 1 = some 1 by decide]
    simp only [Option.bind_some]
    rw [show ltI (addI .i64 1 1) (lenL ([0, 1, 2, 3] : List Int)) = true by decide]
    simp only [cond_true]
    rw [runs1, runs_nil]
    simp only [Option.bind_some]
    rw [less_nil ⟨0, 3⟩ (by decide)]
    simp only [Option.bind_some]
    rw [same_no _ _ (by decide)]
    simp only [Option.bind_some, cond_false]
    rw [iter_run (r := (1, false, [0, 1, 2, 3], [⟨0, 0, 2, 1⟩])) 2 (by kernel_rfl)]
    rfl
  have s2 : L86_13 [r0, r1] [] [0, 1, 2, 3] ([0, 1, 2, 3], [⟨0, 0, 2, 1⟩], [⟨0, 3⟩], 1, 2) = some (.inl ([0, 1, 2, 3], [⟨0, 0, 2, 1⟩, ⟨0, 1, 3, 1⟩], [⟨1, 3⟩], 2, 3)) := by
    unfold L86_13
    rw [show ltI ((([0, 1, 2, 3], [⟨0, 0, 2, 1⟩], [⟨0, 3⟩], 1, 2) : List Int × List S40 × List S248 × Int × Int).2.2.2.2) (lenL ([0, 1, 2, 3] : List Int)) = true by decide]
    simp only [cond_true]
    rw [show idxO (List.length ([0, 1, 2, 3] : List Int)) 2 = some 2 by decide]
    simp only [Option.bind_some]
    rw [show getN ([0, 1, 2, 3] : List Int) 2 = some 2 by decide]
    simp only [Option.bind_some]
    rw [show ltI (addI .i64 2 1) (lenL ([0, 1, 2, 3] : List Int)) = true by decide]
    simp only [cond_true]
    rw [runs2, runs_nil]
    simp only [Option.bind_some]
    rw [less_nil ⟨1, 3⟩ (by decide)]
    simp only [Option.bind_some]
    rw [same_no _ _ (by decide)]
    simp only [Option.bind_some, cond_false]
    rw [iter_run (r := (1, false, [0, 1, 2, 3], [⟨0, 0, 2, 1⟩, ⟨0, 1, 3, 1⟩])) 2 (by kernel_rfl)]
    rfl
  have s3 : L86_13 [r0, r1] [] [0, 1, 2, 3] ([0, 1, 2, 3], [⟨0, 0, 2, 1⟩, ⟨0, 1, 3, 1⟩], [⟨1, 3⟩], 2, 3) = some (.inl ([0, 1, 2, 3], [⟨0, 0, 2, 1⟩, ⟨0, 1, 3, 1⟩, ⟨1, 2, 2, 1⟩], [], 3, 4)) := by
    unfold L86_13
    rw [show ltI ((([0, 1, 2, 3], [⟨0, 0, 2, 1⟩, ⟨0, 1, 3, 1⟩], [⟨1, 3⟩], 2, 3) : List Int × List S40 × List S248 × Int × Int).2.2.2.2) (lenL ([0, 1, 2, 3] : List Int)) = true by decide]
    simp only [cond_true]
    rw [show idxO (List.length ([0, 1, 2, 3] : List Int)) 3 = some 3 by decide]
    simp only [Option.bind_some]
    rw [show getN ([0, 1, 2, 3] : List Int) 3 = some 3 by decide]
    simp only [Option.bind_some]
    rw [show ltI (addI .i64 3 1) (lenL ([0, 1, 2, 3] : List Int)) = false by decide]
    simp only [cond_false]
    rw [show T156 [⟨1, 3⟩] [] = some false by unfold T156; rfl]
    simp only [Option.bind_some, cond_false]
    rw [iter_run (r := (1, false, [0, 1, 2, 3], [⟨0, 0, 2, 1⟩, ⟨0, 1, 3, 1⟩, ⟨1, 2, 2, 1⟩])) 2 (by kernel_rfl)]
    rfl
  rw [iter_inl s0, iter_inl s1, iter_inl s2, iter_inl s3, iter_inr (r := ([], 3, 4, false, [0, 1, 2, 3], [⟨0, 0, 2, 1⟩, ⟨0, 1, 3, 1⟩, ⟨1, 2, 2, 1⟩])) (by kernel_rfl)]
  rfl
theorem lit_area : T91 [r0, r1] = some (7, 0) := by
  unfold T91 T84 T160
  rw [iter_run (r := .inl (2, false)) 3 (by kernel_rfl)]
  rw [show (bif ltI 2000 (lenL ([r0, r1] : List S40)) then (some 2 : Option Int) else (some (Sum.inl (2, false) : (Int × Bool) ⊕ Int)).bind fun y3 => (Sum.elim (fun y3a => some 0) (fun y3b => some y3b) y3)) = some 0 by decide]
  simp only [Option.bind_some]
  rw [show neI 0 0 = false by decide]
  simp only [cond_false]
  rw [lit_region]
  simp only [Option.bind_some]
  rw [iter_run (r := (7, 3, false)) 4 (by kernel_rfl)]
  rfl
/-! All that is asked of the packages. -/
theorem ready_ok : T30 = some true := by
  unfold T30
  rw [lit_area]
  simp only [Option.bind_some]
  kernel_rfl
end Go.Abs.TTN

set_option linter.unusedVariables false
set_option linter.unusedSimpArgs false
set_option maxRecDepth 10000
namespace Go.Abs.TTN
open Go.RowKit Go.Proofs Go.Abs
/-! What a stream hands out. -/
theorem below_ok (x : Int) {n : Int} (hn : n ≤ 1000000000000000) : ∃ v, T123 x n = some v ∧ (1 ≤ n → 0 ≤ v ∧ v < n) ∧ (n < 1 → v = 0) := by
  unfold T123
  by_cases h : n < 1
  · rw [show ltI n 1 = true by unfold ltI; exact decide_eq_true h]
    exact ⟨0, rfl, fun h1 => by omega, fun _ => rfl⟩
  · rw [show ltI n 1 = false by unfold ltI; exact decide_eq_false h]
    have hr : remO .i64 x n = some (x.tmod n) := by unfold remO; rw [if_neg (by omega)]
    have h1 := Int.tmod_lt_of_pos x (by omega : 0 < n)
    have h2 := Int.lt_tmod_of_pos x (by omega : 0 < n)
    simp only [cond_false, hr, Option.bind_some]
    by_cases h0 : x.tmod n < 0
    · rw [show ltI (x.tmod n) 0 = true by unfold ltI; exact decide_eq_true h0]
      refine ⟨_, rfl, fun _ => ?_, fun h3 => by omega⟩
      rw [addI_eq (by omega) (by omega)]
      omega
    · rw [show ltI (x.tmod n) 0 = false by unfold ltI; exact decide_eq_false h0]
      exact ⟨_, rfl, fun _ => ⟨by omega, h1⟩, fun h3 => by omega⟩
theorem next_ok {L : List Int} {at_ n : Int} (hL : L.length ≤ 1048576) (h0 : 0 ≤ at_) (h1 : at_ ≤ 1000000000) (hn : n ≤ 1000000000000000) : ∃ v, T46 L at_ n = some (v, L, at_ + 1) ∧ (1 ≤ n → 0 ≤ v ∧ v < n) ∧ (n < 1 → v = 0) := by
  unfold T46
  have e1 : addI .i64 at_ 1 = at_ + 1 := addI_eq (by omega) (by omega)
  rw [e1]
  by_cases hl : L.length = 0
  · rw [show eqI (lenL L) 0 = true by rw [eqI_iff, lenL_eq, hl]; rfl]
    obtain ⟨v, h2, h3⟩ := below_ok (mulI .i64 (at_ + 1) 7919) hn
    simp only [cond_true, h2, Option.bind_some]
    exact ⟨v, rfl, h3⟩
  · rw [show eqI (lenL L) 0 = false by rw [eqI_iff, lenL_eq]; exact decide_eq_false (by omega)]
    have e2 : subI .i64 (at_ + 1) 1 = at_ := by rw [subI_eq (by omega) (by omega)]; omega
    have hr : remO .i64 at_ (lenL L) = some (at_.tmod L.length) := by unfold remO; rw [lenL_eq, if_neg (by omega)]
    have hq : ∃ q, quoO .i64 at_ (lenL L) = some q := by unfold quoO; rw [lenL_eq, if_neg (by omega)]; exact ⟨_, rfl⟩
    obtain ⟨q, hq⟩ := hq
    have h2 := Int.tmod_lt_of_pos at_ (by omega : (0 : Int) < L.length)
    have h3 := Int.tmod_nonneg (L.length : Int) h0
    generalize at_.tmod L.length = k at *
    obtain ⟨j, rfl⟩ : ∃ j : Nat, k = j := ⟨k.toNat, by omega⟩
    have hx := List.getElem?_eq_getElem (show j < L.length by omega)
    obtain ⟨v, h4, _⟩ := below_ok (L[j]'(by omega)) (n := 1073741824) (by omega)
    obtain ⟨u, h6, h7⟩ := below_ok (addI .i64 v (mulI .i64 q (addI .i64 7919 j))) hn
    simp only [cond_false, e2, hr, hq, Option.bind_some, listAt_some hx, h4, h6]
    exact ⟨u, rfl, h7⟩
theorem range_ok {L : List Int} {at_ lo hi : Int} (hL : L.length ≤ 1048576) (h0 : 0 ≤ at_) (h1 : at_ ≤ 1000000000) (hlo : -1000000000000 ≤ lo) (hle : lo ≤ hi) (hhi : hi ≤ 1000000000000) : ∃ v, T14 L at_ lo hi = some (v, L, at_ + 1) ∧ lo ≤ v ∧ v ≤ hi := by
  unfold T14
  rw [show ltI hi lo = false by unfold ltI; exact decide_eq_false (by omega)]
  have e1 : subI .i64 hi lo = hi - lo := subI_eq (by omega) (by omega)
  have e2 : addI .i64 (hi - lo) 1 = hi - lo + 1 := addI_eq (by omega) (by omega)
  obtain ⟨v, h2, h3, _⟩ := next_ok (n := hi - lo + 1) hL h0 h1 (by omega)
  have h4 := h3 (by omega)
  simp only [cond_false, e1, e2, h2, Option.bind_some]
  exact ⟨_, rfl, by rw [addI_eq (by omega) (by omega)]; omega, by rw [addI_eq (by omega) (by omega)]; omega⟩
/-! First errors. -/
end Go.Abs.TTN

set_option linter.unusedVariables false
set_option linter.unusedSimpArgs false
set_option maxRecDepth 10000
namespace Go.Abs.TTN
open Go.RowKit Go.Proofs Go.Abs
/-! What is drawn: entries, a player, a window. -/
theorem pick_ok {L : List Int} {at_ : Int} {xs : List Int} (hL : L.length ≤ 1048576) (h0 : 0 ≤ at_) (h1 : at_ ≤ 1000000000) (hx : 1 ≤ xs.length) (hm : xs.length ≤ 1000) : ∃ v, T37 L at_ xs = some (v, L, at_ + 1) ∧ v ∈ xs := by
  unfold T37
  obtain ⟨v, h2, h3, _⟩ := next_ok (n := lenL xs) hL h0 h1 (by rw [lenL_eq]; omega)
  have h4 := h3 (by rw [lenL_eq]; omega)
  rw [lenL_eq] at h4
  obtain ⟨j, rfl⟩ : ∃ j : Nat, v = j := ⟨v.toNat, by omega⟩
  have h5 := List.getElem?_eq_getElem (show j < xs.length by omega)
  exact ⟨xs[j]'(by omega), bs h2 (bs (listAt_some h5) rfl), List.getElem_mem _⟩
theorem some_ok {L : List Int} {at_ : Int} {xs : List ByteArray} (hL : L.length ≤ 1048576) (h0 : 0 ≤ at_) (h1 : at_ ≤ 1000000000) (hx : 1 ≤ xs.length) (hm : xs.length ≤ 1000) : ∃ v, T81 L at_ xs = some (v, L, at_ + 1) ∧ v ∈ xs := by
  unfold T81
  obtain ⟨v, h2, h3, _⟩ := next_ok (n := lenL xs) hL h0 h1 (by rw [lenL_eq]; omega)
  have h4 := h3 (by rw [lenL_eq]; omega)
  rw [lenL_eq] at h4
  obtain ⟨j, rfl⟩ : ∃ j : Nat, v = j := ⟨v.toNat, by omega⟩
  have h5 := List.getElem?_eq_getElem (show j < xs.length by omega)
  exact ⟨xs[j]'(by omega), bs h2 (bs (listAt_some h5) rfl), List.getElem_mem _⟩
theorem flip_ok {L : List Int} {at_ n : Int} (hL : L.length ≤ 1048576) (h0 : 0 ≤ at_) (h1 : at_ ≤ 1000000000) (hn : n ≤ 1000) : ∃ b, T24 L at_ n = some (b, L, at_ + 1) := by
  unfold T24
  obtain ⟨v, h2, _⟩ := next_ok (n := n) hL h0 h1 (by omega)
  exact ⟨_, bs h2 rfl⟩
def city : ByteArray := .mk #[99, 105, 116, 121]
def mall : ByteArray := .mk #[109, 97, 108, 108]
def tags2 : List ByteArray := [.mk #[99, 105, 116, 121], .mk #[109, 97, 108, 108]]
def keys4 : List ByteArray := [.mk #[101, 97], .mk #[101, 98], .mk #[101, 99], .mk #[101, 100]]
def items3 : List ByteArray := [.mk #[105, 97], .mk #[105, 98], .mk #[105, 99]]
structure OkE (e : S59) : Prop where
  key : e.f0 ∈ keys4
  item : e.f1 ∈ items3
  ver : 0 ≤ e.f2 ∧ e.f2 ≤ 2
  first : 0 ≤ e.f3 ∧ e.f3 ≤ 3
  last : e.f3 ≤ e.f4 ∧ e.f4 ≤ 33
  every : 1 ≤ e.f5 ∧ e.f5 ≤ 7
  days : 1 ≤ e.f6 ∧ e.f6 ≤ 127
  ex : e.f7.Sublist [1, 2, 8]
  from_ : 0 ≤ e.f8 ∧ e.f8 ≤ 1439
  to_ : 0 ≤ e.f9 ∧ e.f9 ≤ 1439
  prio : 0 ≤ e.f10 ∧ e.f10 ≤ 9
  tags : e.f11.Sublist tags2
theorem except_ok {L : List Int} {a : Int} (hL : L.length ≤ 1048576) (h0 : 0 ≤ a) (h1 : a ≤ 999999990) {z0 x2 x4 x5 x6 x7 x8 x9 x10 x11 x12 x13} {out : List S59} {ks : List ByteArray} :
    ∃ ex, iter (L20_9 z0 x2 x4 x5 x6 x7 x8 x9 x10 x11 x12 x13) (L, a, out, ([] : List Int), ([] : List ByteArray), ks, ([1, 2, 8] : List Int), 0) = some (3, false, L, a + 3, out, ks, [1, 2, 8], ex, []) ∧ ex.Sublist [1, 2, 8] := by
  obtain ⟨r, h2, ex, h3, h4⟩ := iter_up (st := L20_9 z0 x2 x4 x5 x6 x7 x8 x9 x10 x11 x12 x13) (fun (s : List Int) (i : Nat) => (L, a + (i : Int), out, s, ([] : List ByteArray), ks, ([1, 2, 8] : List Int), (i : Int))) 3
    (fun i s => s.Sublist (([1, 2, 8] : List Int).take i)) (fun r => ∃ ex, r = ((3 : Int), false, L, a + 3, out, ks, ([1, 2, 8] : List Int), ex, ([] : List ByteArray)) ∧ ex.Sublist [1, 2, 8])
    (fun i s hi hI => by
      obtain ⟨b, hb⟩ := flip_ok (n := 4) (at_ := a + (i : Int)) hL (by omega) (by omega) (by omega)
      have hx := List.getElem?_eq_getElem (show i < ([1, 2, 8] : List Int).length from hi)
      have e1 : a + (i : Int) + 1 = a + ((i + 1 : Nat) : Int) := by omega
      have hs : s.length ≤ 3 := by
        have := hI.length_le
        rw [List.length_take] at this
        simp at this
        omega
      cases b with
      | true =>
        refine ⟨s ++ [([1, 2, 8] : List Int)[i]], ?_, ?_⟩
        · unfold L20_9
          refine ct (ltL_true hi) ?_
          refine bs (idx_nat hi) (bs (getN_some hx) (bs hb ?_))
          refine ct rfl (bs (appO_big (by omega) (by simp; omega)) ?_)
          show some (Sum.inl (L, a + (i : Int) + 1, _, _, _, _, _, addI .i64 (i : Int) 1)) = _
          rw [e1, nextI (by omega)]
        · rw [take_next hx]
          exact hI.append (List.Sublist.refl _)
      | false =>
        refine ⟨s, ?_, ?_⟩
        · unfold L20_9
          refine ct (ltL_true hi) ?_
          refine bs (idx_nat hi) (bs (getN_some hx) (bs hb ?_))
          refine cf rfl ?_
          show some (Sum.inl (L, a + (i : Int) + 1, _, _, _, _, _, addI .i64 (i : Int) 1)) = _
          rw [e1, nextI (by omega)]
        · rw [take_next hx]
          exact hI.trans (List.sublist_append_left _ _))
    (fun s hI => ⟨_, rfl, s, rfl, hI⟩) [] (List.Sublist.refl _)
  exact ⟨ex, by rw [show ((L, a, out, ([] : List Int), ([] : List ByteArray), ks, ([1, 2, 8] : List Int), (0 : Int))) = (L, a + ((0 : Nat) : Int), out, [], [], ks, [1, 2, 8], ((0 : Nat) : Int)) by simp]; rw [h2, h3], h4⟩
theorem tags_ok {L : List Int} {a : Int} (hL : L.length ≤ 1048576) (h0 : 0 ≤ a) (h1 : a ≤ 999999990) {z0 x2 x4 x5 x6 x7 x8 x9 x10 x11 x12 x13} {out : List S59} {ks : List ByteArray} {ex : List Int} :
    ∃ tg, iter (L20_15 z0 x2 x4 x5 x6 x7 x8 x9 x10 x11 x12 x13) (L, a, out, ex, ([] : List ByteArray), ks, tags2, 0) = some (2, false, L, a + 2, out, ks, tags2, ex, tg) ∧ tg.Sublist tags2 := by
  obtain ⟨r, h2, tg, h3, h4⟩ := iter_up (st := L20_15 z0 x2 x4 x5 x6 x7 x8 x9 x10 x11 x12 x13) (fun (s : List ByteArray) (i : Nat) => (L, a + (i : Int), out, ex, s, ks, tags2, (i : Int))) 2
    (fun i s => s.Sublist (tags2.take i)) (fun r => ∃ tg, r = ((2 : Int), false, L, a + 2, out, ks, tags2, ex, tg) ∧ tg.Sublist tags2)
    (fun i s hi hI => by
      obtain ⟨b, hb⟩ := flip_ok (n := 4) (at_ := a + (i : Int)) hL (by omega) (by omega) (by omega)
      have hi' : i < tags2.length := hi
      have hx := List.getElem?_eq_getElem hi'
      have e1 : a + (i : Int) + 1 = a + ((i + 1 : Nat) : Int) := by omega
      have hs : s.length ≤ 3 := by
        have := hI.length_le
        rw [List.length_take] at this
        omega
      cases b with
      | true =>
        refine ⟨s ++ [tags2[i]], ?_, ?_⟩
        · unfold L20_15
          refine ct (ltL_true hi) ?_
          refine bs (idx_nat hi') (bs (getN_some hx) (bs hb ?_))
          refine ct rfl (bs (appO_big (by omega) (by simp; omega)) ?_)
          show some (Sum.inl (L, a + (i : Int) + 1, _, _, _, _, _, addI .i64 (i : Int) 1)) = _
          rw [e1, nextI (by omega)]
        · rw [take_next hx]
          exact hI.append (List.Sublist.refl _)
      | false =>
        refine ⟨s, ?_, ?_⟩
        · unfold L20_15
          refine ct (ltL_true hi) ?_
          refine bs (idx_nat hi') (bs (getN_some hx) (bs hb ?_))
          refine cf rfl ?_
          show some (Sum.inl (L, a + (i : Int) + 1, _, _, _, _, _, addI .i64 (i : Int) 1)) = _
          rw [e1, nextI (by omega)]
        · rw [take_next hx]
          exact hI.trans (List.sublist_append_left _ _))
    (fun s hI => ⟨_, rfl, s, rfl, hI⟩) [] (List.Sublist.refl _)
  exact ⟨tg, by rw [show ((L, a, out, ex, ([] : List ByteArray), ks, tags2, (0 : Int))) = (L, a + ((0 : Nat) : Int), out, ex, [], ks, tags2, ((0 : Nat) : Int)) by simp]; rw [h2, h3], h4⟩
end Go.Abs.TTN

set_option linter.unusedVariables false
set_option linter.unusedSimpArgs false
set_option maxRecDepth 10000
namespace Go.Abs.TTN
open Go.RowKit Go.Proofs Go.Abs
/-! The entries drawn. -/
def OkL (l : List S59) : Prop := (l.map (·.f0)).Sublist keys4 ∧ ∀ e ∈ l, OkE e
theorem entries_ok {L : List Int} (hL : L.length ≤ 1048576) : ∃ a at_, T20 L 0 = some (a, L, at_) ∧ OkL a ∧ 0 ≤ at_ ∧ at_ ≤ 1000 := by
  obtain ⟨r, h2, a, at_, h3, h4⟩ := iter_up (st := L20_3) (fun (s : Int × List S59) (i : Nat) => (L, s.1, s.2, keys4, (i : Int))) 4
    (fun i s => 0 ≤ s.1 ∧ s.1 ≤ 100 * i ∧ (s.2.map (·.f0)).Sublist (keys4.take i) ∧ ∀ e ∈ s.2, OkE e)
    (fun r => ∃ a at_, r = ((4 : Int), false, L, at_, a, keys4) ∧ OkL a ∧ 0 ≤ at_ ∧ at_ ≤ 1000)
    (fun i s hi hI => by
      obtain ⟨a0, out⟩ := s
      obtain ⟨i0, i1, i2, i3⟩ := hI
      simp only at i0 i1 i2 i3
      have hi' : i < keys4.length := hi
      have hx := List.getElem?_eq_getElem hi'
      have hlen : out.length ≤ 4 := by
        have := i2.length_le
        rw [List.length_take, List.length_map] at this
        omega
      obtain ⟨b, hb⟩ := flip_ok (n := 4) (at_ := a0) hL (by omega) (by omega) (by omega)
      cases b with
      | true =>
        refine ⟨(a0 + 1, out), ?_, by omega, by omega, ?_, i3⟩
        · unfold L20_3
          refine ct (ltL_true hi) (bs (idx_nat hi') (bs (getN_some hx) (bs hb (ct rfl ?_))))
          rw [nextI (by omega)]
        · rw [take_next hx]
          exact i2.trans (List.sublist_append_left _ _)
      | false =>
        obtain ⟨v4, g4, m4⟩ := some_ok (at_ := a0 + 1) (xs := items3) hL (by omega) (by omega) (by decide) (by decide)
        obtain ⟨v5, g5, l5, u5⟩ := range_ok (at_ := a0 + 1 + 1) (lo := 0) (hi := 2) hL (by omega) (by omega) (by omega) (by omega) (by omega)
        obtain ⟨v6, g6, m6⟩ := pick_ok (at_ := a0 + 1 + 1 + 1) (xs := [0, 0, 1, 3]) hL (by omega) (by omega) (by decide) (by decide)
        obtain ⟨v7, g7, m7⟩ := pick_ok (at_ := a0 + 1 + 1 + 1 + 1) (xs := [1, 1, 2, 3, 7]) hL (by omega) (by omega) (by decide) (by decide)
        obtain ⟨v8, g8, m8⟩ := pick_ok (at_ := a0 + 1 + 1 + 1 + 1 + 1) (xs := [127, 127, 31, 96, 1, 2]) hL (by omega) (by omega) (by decide) (by decide)
        obtain ⟨v9, g9, m9⟩ := pick_ok (at_ := a0 + 1 + 1 + 1 + 1 + 1 + 1) (xs := [0, 0, 60, 600, 1380]) hL (by omega) (by omega) (by decide) (by decide)
        obtain ⟨v10, g10, m10⟩ := pick_ok (at_ := a0 + 1 + 1 + 1 + 1 + 1 + 1 + 1) (xs := [0, 60, 120, 600, 720, 1439]) hL (by omega) (by omega) (by decide) (by decide)
        obtain ⟨v11, g11, m11⟩ := pick_ok (at_ := a0 + 1 + 1 + 1 + 1 + 1 + 1 + 1 + 1) (xs := [0, 0, 1, 5]) hL (by omega) (by omega) (by decide) (by decide)
        obtain ⟨b12, g12⟩ := flip_ok (n := 8) (at_ := a0 + 1 + 1 + 1 + 1 + 1 + 1 + 1 + 1 + 1) hL (by omega) (by omega) (by omega)
        obtain ⟨v13, g13, m13⟩ := pick_ok (at_ := a0 + 1 + 1 + 1 + 1 + 1 + 1 + 1 + 1 + 1 + 1) (xs := [0, 1, 5, 10, 30]) hL (by omega) (by omega) (by decide) (by decide)
        obtain ⟨ex, g14, m14⟩ := except_ok (L := L) (a := a0 + 1 + 1 + 1 + 1 + 1 + 1 + 1 + 1 + 1 + 1 + 1) hL (by omega) (by omega) (z0 := (L, a0, out, keys4, (i : Int))) (x2 := keys4[i]) (x4 := (v4, L, a0 + 1 + 1)) (x5 := (v5, L, a0 + 1 + 1 + 1)) (x6 := (v6, L, a0 + 1 + 1 + 1 + 1)) (x7 := (v7, L, a0 + 1 + 1 + 1 + 1 + 1)) (x8 := (v8, L, a0 + 1 + 1 + 1 + 1 + 1 + 1)) (x9 := (v9, L, a0 + 1 + 1 + 1 + 1 + 1 + 1 + 1)) (x10 := (v10, L, a0 + 1 + 1 + 1 + 1 + 1 + 1 + 1 + 1)) (x11 := (v11, L, a0 + 1 + 1 + 1 + 1 + 1 + 1 + 1 + 1 + 1)) (x12 := (b12, L, a0 + 1 + 1 + 1 + 1 + 1 + 1 + 1 + 1 + 1 + 1)) (x13 := (v13, L, a0 + 1 + 1 + 1 + 1 + 1 + 1 + 1 + 1 + 1 + 1 + 1)) (out := out) (ks := keys4)
        obtain ⟨tg, g15, m15⟩ := tags_ok (L := L) (a := a0 + 1 + 1 + 1 + 1 + 1 + 1 + 1 + 1 + 1 + 1 + 1 + 3) hL (by omega) (by omega) (z0 := (L, a0, out, keys4, (i : Int))) (x2 := keys4[i]) (x4 := (v4, L, a0 + 1 + 1)) (x5 := (v5, L, a0 + 1 + 1 + 1)) (x6 := (v6, L, a0 + 1 + 1 + 1 + 1)) (x7 := (v7, L, a0 + 1 + 1 + 1 + 1 + 1)) (x8 := (v8, L, a0 + 1 + 1 + 1 + 1 + 1 + 1)) (x9 := (v9, L, a0 + 1 + 1 + 1 + 1 + 1 + 1 + 1)) (x10 := (v10, L, a0 + 1 + 1 + 1 + 1 + 1 + 1 + 1 + 1)) (x11 := (v11, L, a0 + 1 + 1 + 1 + 1 + 1 + 1 + 1 + 1 + 1)) (x12 := (b12, L, a0 + 1 + 1 + 1 + 1 + 1 + 1 + 1 + 1 + 1 + 1)) (x13 := (v13, L, a0 + 1 + 1 + 1 + 1 + 1 + 1 + 1 + 1 + 1 + 1 + 1)) (out := out) (ks := keys4) (ex := ex)
        have b6 : 0 ≤ v6 ∧ v6 ≤ 3 := by simp at m6; omega
        have b7 : 1 ≤ v7 ∧ v7 ≤ 7 := by simp at m7; omega
        have b8 : 1 ≤ v8 ∧ v8 ≤ 127 := by simp at m8; omega
        have b9 : 0 ≤ v9 ∧ v9 ≤ 1439 := by simp at m9; omega
        have b10 : 0 ≤ v10 ∧ v10 ≤ 1439 := by simp at m10; omega
        have b11 : 0 ≤ v11 ∧ v11 ≤ 9 := by simp at m11; omega
        have b13 : 0 ≤ v13 ∧ v13 ≤ 30 := by simp at m13; omega
        refine ⟨(a0 + 1 + 1 + 1 + 1 + 1 + 1 + 1 + 1 + 1 + 1 + 1 + 3 + 2, out ++ [S59.mk keys4[i] v4 v5 v6 (v6 + v13) v7 v8 ex v9 v10 v11 tg b12]), ?_, by simp only; omega, by simp only; omega, ?_, ?_⟩
        · unfold L20_3
          refine ct (ltL_true hi) (bs (idx_nat hi') (bs (getN_some hx) (bs hb (cf rfl ?_))))
          refine bs g4 (bs g5 (bs g6 (bs g7 (bs g8 (bs g9 (bs g10 (bs g11 (bs g12 (bs g13 (bs g14 (bs g15 ?_)))))))))))
          refine bs (appO_eq (by simp; omega) (by simp; omega)) ?_
          simp only
          rw [nextI (by omega), addI_eq (by omega) (by omega)]
        · rw [take_next hx, List.map_append]
          exact i2.append (List.Sublist.refl _)
        · intro e he
          rcases List.mem_append.1 he with h | h
          · exact i3 e h
          · simp only [List.mem_singleton] at h
            subst h
            exact ⟨List.getElem_mem _, m4, ⟨l5, u5⟩, b6, ⟨by simp only; omega, by simp only; omega⟩, b7, b8, m14, b9, b10, b11, m15⟩)
    (fun s hI => by
      obtain ⟨i0, i1, i2, i3⟩ := hI
      exact ⟨_, rfl, s.2, s.1, rfl, ⟨i2, i3⟩, i0, by omega⟩) (0, []) ⟨by simp, by simp, List.nil_sublist _, fun e he => by cases he⟩
  refine ⟨a, at_, ?_, h4⟩
  unfold T20
  refine bs (a := ((4 : Int), false, L, at_, a, keys4)) ?_ rfl
  rw [← h3, ← h2]
  rfl
end Go.Abs.TTN

set_option linter.unusedVariables false
set_option linter.unusedSimpArgs false
set_option maxRecDepth 10000
namespace Go.Abs.TTN
open Go.RowKit Go.Proofs Go.Abs
/-! All that is drawn passes the checks. -/
theorem subs2 {α : Type} {a b : α} {s : List α} (h : s.Sublist [a, b]) : s = [] ∨ s = [a] ∨ s = [b] ∨ s = [a, b] := by
  simp only [List.sublist_cons_iff, List.sublist_nil] at h
  rcases h with (h | ⟨t, h, h'⟩) | ⟨t, h, h' | ⟨u, h', h''⟩⟩ <;> simp_all
theorem subs3 {α : Type} {a b c : α} {s : List α} (h : s.Sublist [a, b, c]) : s = [] ∨ s = [a] ∨ s = [b] ∨ s = [c] ∨ s = [a, b] ∨ s = [a, c] ∨ s = [b, c] ∨ s = [a, b, c] := by
  rw [List.sublist_cons_iff] at h
  rcases h with h | ⟨t, h, h'⟩
  · rcases subs2 h with h | h | h | h <;> simp [h]
  · rcases subs2 h' with h' | h' | h' | h' <;> simp [h, h']
theorem out_no {p lo hi : Int} (h : lo ≤ p ∧ p ≤ hi) : T95 p lo hi = some false := by
  unfold T95
  exact cf (ltI_f h.1) (by rw [ltI_f h.2])
theorem key_ok {k : ByteArray} (h : k ∈ keys4) : T195 k = some true := by
  simp only [keys4, List.mem_cons, List.not_mem_nil, or_false] at h
  rcases h with rfl | rfl | rfl | rfl <;> kernel_rfl
theorem item_ok {k : ByteArray} (h : k ∈ items3) : T195 k = some true := by
  simp only [items3, List.mem_cons, List.not_mem_nil, or_false] at h
  rcases h with rfl | rfl | rfl <;> kernel_rfl
theorem ex_ok {l : List Int} (h : l.Sublist [1, 2, 8]) : T230 l = some 0 := by
  rcases subs3 h with rfl | rfl | rfl | rfl | rfl | rfl | rfl | rfl <;> kernel_rfl
theorem tag_ok {l : List ByteArray} (h : l.Sublist tags2) : T226 l = some 0 := by
  rcases subs2 h with rfl | rfl | rfl | rfl <;> kernel_rfl
theorem entry_ok {e : S59} (h : OkE e) : T176 e = some 0 := by
  unfold T176
  refine bs (key_ok h.key) (cf rfl (bs (item_ok h.item) (cf rfl ?_)))
  refine bs (out_no ⟨h.ver.1, by have := h.ver.2; omega⟩) (cf rfl (bs (out_no ⟨h.first.1, h.last.1⟩) (cf rfl ?_)))
  refine cf (ltI_f (by have := h.last.2; omega)) (bs (out_no ⟨h.every.1, by have := h.every.2; omega⟩) (cf rfl (bs (out_no h.days) (cf rfl ?_))))
  refine bs (ex_ok h.ex) (cf (neI_no 0) (bs (out_no h.from_) (cf rfl (bs (out_no h.to_) (cf rfl (bs (out_no h.prio) (cf rfl ?_)))))))
  exact bs (tag_ok h.tags) rfl
theorem keys_lt : keys4.Pairwise fun a b => ltS a b = true := by
  have e : ∀ a b : ByteArray, ltS a b = Op.bytesLess (by_ a) (by_ b) := fun a b => ltS_eq a b
  simp only [keys4, List.pairwise_cons, List.mem_cons, List.not_mem_nil, or_false, forall_eq_or_imp, forall_eq, e]
  refine ⟨⟨?_, ?_, ?_⟩, ⟨?_, ?_⟩, ?_, fun _ h => h.elim, .nil⟩ <;> kernel_rfl
theorem list_ok {l : List S59} (h : OkL l) : T99 l = some 0 := by
  have hp : (l.map (·.f0)).Pairwise fun a b => ltS a b = true := keys_lt.sublist h.1
  have hl : l.length ≤ 4 := by
    have := h.1.length_le
    rw [List.length_map] at this
    exact this
  unfold T99
  refine cf (ltI_f (by rw [lenL_eq]; omega)) ?_
  obtain ⟨r, h2, h3⟩ := iter_up (st := L99_4 l) (fun (_ : Unit) (i : Nat) => (i : Int)) l.length (fun _ _ => True) (fun r => ∃ x, r = .inl x)
    (fun i s hi _ => by
      have hx := List.getElem?_eq_getElem hi
      refine ⟨(), ?_, trivial⟩
      unfold L99_4
      refine ct (ltL_true hi) (bs (listAt_some hx) (bs (entry_ok (h.2 _ (List.getElem_mem hi))) (cf (neI_no 0) ?_)))
      by_cases h0 : 0 < i
      · refine ct (ltI_t (by omega)) ?_
        have hy := List.getElem?_eq_getElem (show i - 1 < l.length by omega)
        rw [prevI h0 (by omega)]
        refine bs (listAt_some hy) (cf ?_ (by rw [nextI (by omega)]))
        have hlt : ltS (l[i - 1]'(by omega)).f0 l[i].f0 = true := by
          have := List.pairwise_iff_getElem.1 hp (i - 1) i (by simp; omega) (by simpa using hi) (by omega)
          simpa using this
        cases hc : ltS l[i].f0 (l[i - 1]'(by omega)).f0 with
        | true =>
          have := ltS_trans hlt hc
          rw [ltS_irrefl] at this
          cases this
        | false =>
          rw [Bool.false_or, eqS_iff]
          refine decide_eq_false fun hee => ?_
          rw [hee, ltS_irrefl] at hlt
          cases hlt
      · refine cf (ltI_f (by omega)) (by rw [nextI (by omega)]))
    (fun s _ => ⟨_, by unfold L99_4; exact cf (ltL_false (Nat.le_refl _)) rfl, _, rfl⟩) () trivial
  obtain ⟨x, rfl⟩ := h3
  have h2 : iter (L99_4 l) 0 = some (.inl x) := h2
  exact bs h2 rfl
structure OkP (p : S54) : Prop where
  key : p.f0 = .mk #[112]
  screen : p.f1 = .mk #[115, 97]
  zone : -1440 ≤ p.f2 ∧ p.f2 ≤ 1440
  tags : p.f3.Sublist tags2
theorem player_ok {p : S54} (h : OkP p) : T167 p = some 0 := by
  unfold T167
  refine bs (a := true) (by rw [h.key]; kernel_rfl) (cf rfl (bs (a := true) (by rw [h.screen]; kernel_rfl) (cf rfl ?_)))
  exact bs (out_no h.zone) (cf rfl (bs (tag_ok h.tags) rfl))
theorem player_drawn {L : List Int} {at_ : Int} (hL : L.length ≤ 1048576) (h0 : 0 ≤ at_) (h1 : at_ ≤ 999999990) : ∃ p, T23 L at_ = some (p, L, at_ + 2) ∧ OkP p := by
  unfold T23
  obtain ⟨z, h2, h3⟩ := pick_ok (at_ := at_) (xs := [0, 0, 60, (-90), 1440]) hL h0 (by omega) (by decide) (by decide)
  obtain ⟨v, h4, h5, _⟩ := next_ok (n := 3) (at_ := at_ + 1) hL (by omega) (by omega) (by omega)
  have h6 := h5 (by omega)
  have hz : -1440 ≤ z ∧ z ≤ 1440 := by simp at h3; omega
  obtain ⟨j, rfl⟩ : ∃ j : Nat, v = j := ⟨v.toNat, by omega⟩
  have hj : j = 0 ∨ j = 1 ∨ j = 2 := by omega
  have e2 : at_ + 1 + 1 = at_ + 2 := by omega
  rw [e2] at h4
  rcases hj with rfl | rfl | rfl
  · exact ⟨_, bs h2 (bs h4 (bs (idx_nat (by decide)) (bs rfl rfl))), ⟨rfl, rfl, hz, List.nil_sublist _⟩⟩
  · exact ⟨_, bs h2 (bs h4 (bs (idx_nat (by decide)) (bs rfl rfl))), ⟨rfl, rfl, hz, .cons_cons _ (List.nil_sublist _)⟩⟩
  · exact ⟨_, bs h2 (bs h4 (bs (idx_nat (by decide)) (bs rfl rfl))), ⟨rfl, rfl, hz, List.Sublist.refl _⟩⟩
theorem moment_ok {l : List S59} {p : S54} {t : Int} (hl : OkL l) (hp : OkP p) (h0 : 0 ≤ t) (h1 : t < 345686400000) : T115 l p t = some 0 := by
  unfold T115
  refine bs (list_ok hl) (cf (neI_no 0) (bs (player_ok hp) (cf (neI_no 0) (bs (a := true) ?_ rfl))))
  unfold T107
  exact ct (leI_t h0) (by rw [ltI_t h1])
end Go.Abs.TTN

set_option linter.unusedVariables false
set_option linter.unusedSimpArgs false
set_option maxRecDepth 10000
namespace Go.Abs.TTN
open Go.RowKit Go.Proofs Go.Abs
/-! Days, players, windows. -/
theorem half_eq {a b : Nat} (h : a + b ≤ 4611686018427387904) : cvI .i64 (shrI (cvI .u64 (addI .i64 (a : Int) (b : Int))) 1) = (((a + b) / 2 : Nat) : Int) := by
  have h1 : addI .i64 (a : Int) (b : Int) = ((a + b : Nat) : Int) := by rw [addI_eq (by omega) (by omega)]; omega
  have h2 : cvI .u64 ((a + b : Nat) : Int) = ((a + b : Nat) : Int) := by
    unfold cvI IntKind.wrap
    simp only [IntKind.bits, IntKind.signed, Bool.false_and, Bool.false_eq_true, if_false]
    omega
  have h3 : shrI ((a + b : Nat) : Int) 1 = (((a + b) / 2 : Nat) : Int) := by
    unfold shrI
    rw [Int.fdiv_eq_ediv_of_nonneg _ (by decide)]
    omega
  rw [h1, h2, h3, cvI_eq (by omega) (by omega)]
theorem T203_eq (x : Int) : T203 x = some false := by unfold T203; rw [neI_no]
theorem T318_eq (x : Int) : T318 x = some false := by unfold T318; rw [neI_no]
theorem T275_eq (x y : Int) : T275 x y = some (ltI x y) := by
  unfold T275
  exact bs (T203_eq x) (cf rfl rfl)
theorem search_ok (l : List Int) (t : Int) (h : l.length ≤ 1048576) : ∃ b, T281 l t = some b := by
  have hi : ∃ r, iter (L281_3 l t) (((0 : Nat) : Int), (l.length : Int)) = some r ∧ ∃ k : Nat, r.1 = (k : Int) ∧ k ≤ l.length := by
    refine iter_meas (fun z => ∃ a b : Nat, z = ((a : Int), (b : Int)) ∧ a ≤ b ∧ b ≤ l.length) (fun z => (z.2 - z.1).toNat) _ ?_ _ ⟨0, l.length, rfl, by omega, by omega⟩
    rintro _ ⟨a, b, rfl, hab, hb⟩
    by_cases hlt : a < b
    · left
      have hm : (a + b) / 2 < l.length := by omega
      have hx := List.getElem?_eq_getElem hm
      cases hc : ltI l[(a + b) / 2] t with
      | true =>
        refine ⟨((((a + b) / 2 + 1 : Nat) : Int), (b : Int)), ?_, ⟨_, b, rfl, by omega, hb⟩, by simp only; omega⟩
        have h4 : addI .i64 (((a + b) / 2 : Nat) : Int) 1 = (((a + b) / 2 + 1 : Nat) : Int) := nextI (by omega)
        simp only [L281_3, ltI_t (show (a : Int) < b by omega), cond_true, half_eq (a := a) (b := b) (by omega), listAt_some hx, Option.bind_some, T275_eq, hc, h4]
      | false =>
        refine ⟨((a : Int), (((a + b) / 2 : Nat) : Int)), ?_, ⟨a, _, rfl, by omega, by omega⟩, by simp only; omega⟩
        simp only [L281_3, ltI_t (show (a : Int) < b by omega), cond_true, half_eq (a := a) (b := b) (by omega), listAt_some hx, Option.bind_some, T275_eq, hc, cond_false]
    · right
      refine ⟨((a : Int), (b : Int), false), ?_, a, rfl, by omega⟩
      simp only [L281_3, ltI_f (show (b : Int) ≤ a by omega), cond_false]
  obtain ⟨r, h1, k, h2, h3⟩ := hi
  have h1 : iter (L281_3 l t) (0, lenL l) = some r := h1
  unfold T281
  rw [h1, Option.bind_some, h2]
  by_cases hk : k < l.length
  · have hx := List.getElem?_eq_getElem hk
    cases hc : eqI l[k] t with
    | true => exact ⟨_, ct (ltL_true hk) (bs (listAt_some hx) (ct hc rfl))⟩
    | false => exact ⟨_, ct (ltL_true hk) (bs (listAt_some hx) (cf hc (bs (listAt_some hx) (bs (T318_eq _) (cf rfl rfl)))))⟩
  · exact ⟨_, cf (ltL_false (by omega)) rfl⟩
/-- Whether an entry is shown on a day. -/
noncomputable def dayB (e : S59) (d : Int) : Bool := (T224 e d).getD false
theorem day_ok {e : S59} (h : OkE e) {d : Int} (h0 : e.f3 ≤ d) (h1 : d ≤ e.f4) : T224 e d = some (dayB e d) := by
  have : ∃ b, T224 e d = some b := by
    have hd : 0 ≤ d ∧ d ≤ 33 := ⟨by have := h.first.1; omega, by have := h.last.2; omega⟩
    have he := h.every
    unfold T224
    obtain ⟨b, hb⟩ := search_ok e.f7 d (by have := h.ex.length_le; simp at this; omega)
    have hr : ∃ r, remO .i64 (subI .i64 d e.f3) e.f5 = some r := by unfold remO; rw [if_neg (by omega)]; exact ⟨_, rfl⟩
    obtain ⟨r, hr⟩ := hr
    have hm : remI .i64 d 7 = d.tmod 7 := rfl
    have hs : ∃ s, shlO .i64 1 (remI .i64 d 7) = some s := by
      rw [hm]
      unfold shlO
      rw [if_neg (by have := Int.tmod_nonneg 7 hd.1; omega)]
      exact ⟨_, rfl⟩
    obtain ⟨s, hs⟩ := hs
    cases hn : neI r 0 with
    | true => exact ⟨_, bs (out_no ⟨h0, h1⟩) (cf rfl (bs hr (ct hn rfl)))⟩
    | false =>
      cases hb2 : eqI (bitI .and .i64 e.f6 s) 0 with
      | true => exact ⟨_, bs (out_no ⟨h0, h1⟩) (cf rfl (bs hr (cf hn (bs hs (ct hb2 rfl)))))⟩
      | false => exact ⟨_, bs (out_no ⟨h0, h1⟩) (cf rfl (bs hr (cf hn (bs hs (cf hb2 (bs hb rfl))))))⟩
  obtain ⟨b, hb⟩ := this
  unfold dayB
  rw [hb]
  rfl
/-- Whether an entry reaches a player. -/
noncomputable def fitB (e : S59) (p : S54) : Bool := (T227 e p).getD false
theorem fit_ok {e : S59} {p : S54} (he : OkE e) (hp : OkP p) : T227 e p = some (fitB e p) := by
  have : ∃ b, T227 e p = some b := by
    obtain ⟨f0, f1, f2, f3, f4, f5, f6, f7, f8, f9, f10, tg, f12⟩ := e
    obtain ⟨q0, q1, q2, pt⟩ := p
    have h1 : tg.Sublist tags2 := he.tags
    have h2 : pt.Sublist tags2 := hp.tags
    rcases subs2 h1 with rfl | rfl | rfl | rfl <;> rcases subs2 h2 with rfl | rfl | rfl | rfl
    all_goals exact Option.isSome_iff_exists.1 (by kernel_rfl)
  obtain ⟨b, hb⟩ := this
  unfold fitB
  rw [hb]
  rfl
/-- How many minutes an entry lasts. -/
def mins (e : S59) : Int := if e.f9 - e.f8 ≤ 0 then e.f9 - e.f8 + 1440 else e.f9 - e.f8
theorem mins_ok {e : S59} (h : OkE e) : 1 ≤ mins e ∧ mins e ≤ 1440 := by
  have h1 := h.from_
  have h2 := h.to_
  unfold mins
  split <;> omega
def win (e : S59) (z d : Int) : S48 := ⟨(d * 1440 + e.f8 - z) * 60000, (d * 1440 + e.f8 - z) * 60000 + mins e * 60000⟩
theorem win_ok {e : S59} (h : OkE e) {z d : Int} (hz : -1440 ≤ z ∧ z ≤ 1440) (hd : 0 ≤ d ∧ d ≤ 33) : T225 e z d = some (win e z d) := by
  have h1 := h.from_
  have h2 := h.to_
  unfold T225 win mins
  have e1 : subI .i64 e.f9 e.f8 = e.f9 - e.f8 := subI_eq (by omega) (by omega)
  have e2 : mulI .i64 d 1440 = d * 1440 := mulI_eq (by omega) (by omega)
  have e3 : addI .i64 (d * 1440) e.f8 = d * 1440 + e.f8 := addI_eq (by omega) (by omega)
  have e4 : subI .i64 (d * 1440 + e.f8) z = d * 1440 + e.f8 - z := subI_eq (by omega) (by omega)
  have e5 : mulI .i64 (d * 1440 + e.f8 - z) 60000 = (d * 1440 + e.f8 - z) * 60000 := mulI_eq (by omega) (by omega)
  have e6 : addI .i64 (e.f9 - e.f8) 1440 = e.f9 - e.f8 + 1440 := addI_eq (by omega) (by omega)
  rw [e1, e2, e3, e4, e5, e6]
  by_cases hc : e.f9 - e.f8 ≤ 0
  · refine ct (leI_t hc) ?_
    rw [if_pos hc, mulI_eq (by omega) (by omega), addI_eq (by omega) (by omega)]
  · refine cf (leI_f (by omega)) ?_
    rw [if_neg hc, mulI_eq (by omega) (by omega), addI_eq (by omega) (by omega)]
end Go.Abs.TTN

set_option linter.unusedVariables false
set_option linter.unusedSimpArgs false
set_option maxRecDepth 10000
namespace Go.Abs.TTN
open Go.RowKit Go.Proofs Go.Abs
/-! When an entry is shown. -/
theorem quo_day {a : Int} (h0 : -1000000000000 ≤ a) (h1 : a ≤ 2000000000000) : quoI .i64 a 86400000 = a.tdiv 86400000 ∧ -12000 ≤ a.tdiv 86400000 ∧ a.tdiv 86400000 ≤ 24000 ∧ a < (a.tdiv 86400000 + 1) * 86400000 ∧ (a.tdiv 86400000 - 1) * 86400000 < a := by
  have h2 := Int.mul_tdiv_add_tmod a 86400000
  have h3 := Int.tmod_lt_of_pos a (show (0 : Int) < 86400000 by decide)
  have h4 := Int.lt_tmod_of_pos a (show (0 : Int) < 86400000 by decide)
  refine ⟨?_, by omega, by omega, by omega, by omega⟩
  unfold quoI
  exact IntWalk.i64_in _ ⟨by omega, by omega⟩
/-- A window of an entry: one of its days, within w. -/
def Shown (e : S59) (z : Int) (w t : S48) : Prop := e.f12 = false ∧ ∃ d, e.f3 ≤ d ∧ d ≤ e.f4 ∧ dayB e d = true ∧ t = win e z d ∧ t.f0 < w.f1 ∧ w.f0 < t.f1
theorem times_ok {e : S59} {z : Int} {w : S48} (he : OkE e) (hz : -1440 ≤ z ∧ z ≤ 1440) (h0 : 0 ≤ w.f0) (h1 : w.f0 < w.f1) (h2 : w.f1 ≤ 1000000000000) :
    ∃ l, T165 e z w = some l ∧ l.length ≤ 40 ∧ ∀ t, t ∈ l ↔ Shown e z w t := by
  have hf := he.first
  have hl := he.last
  have h8 := he.from_
  have hm := mins_ok he
  unfold T165
  cases hg : e.f12 with
  | true => exact ⟨[], ct rfl rfl, by simp, fun t => by simp [Shown, hg]⟩
  | false =>
    have ez : mulI .i64 z 60000 = z * 60000 := mulI_eq (by omega) (by omega)
    have ea : ∀ x, 0 ≤ x → x ≤ 1000000000000 → addI .i64 x (z * 60000) = x + z * 60000 := fun x hx hx2 => addI_eq (by omega) (by omega)
    obtain ⟨q1, q2, q3, q4, q5⟩ := quo_day (a := w.f0 + z * 60000) (by omega) (by omega)
    obtain ⟨p1, p2, p3, p4, p5⟩ := quo_day (a := w.f1 + z * 60000) (by omega) (by omega)
    generalize hA : (w.f0 + z * 60000).tdiv 86400000 = A at *
    generalize hB : (w.f1 + z * 60000).tdiv 86400000 = B at *
    have eB : addI .i64 B 1 = B + 1 := addI_eq (by omega) (by omega)
    have eA : subI .i64 A 2 = A - 2 := subI_eq (by omega) (by omega)
    have elo : maxI (subI .i64 (quoI .i64 (addI .i64 w.f0 (mulI .i64 z 60000)) 86400000) 2) e.f3 = max (A - 2) e.f3 := by rw [ez, ea _ h0 (by omega), q1, eA, maxI_eq]
    have ehi : minI (addI .i64 (quoI .i64 (addI .i64 w.f1 (mulI .i64 z 60000)) 86400000) 1) e.f4 = min (B + 1) e.f4 := by rw [ez, ea _ (by omega) h2, p1, eB, minI_eq]
    have hloop : ∃ r, iter (L165_7 e z w) ([], max (A - 2) e.f3) = some r ∧ (r.2.2.length ≤ 40 ∧ ∀ t, t ∈ r.2.2 ↔ ∃ d, max (A - 2) e.f3 ≤ d ∧ d ≤ min (B + 1) e.f4 ∧ dayB e d = true ∧ t = win e z d ∧ t.f0 < w.f1 ∧ w.f0 < t.f1) := by
      refine iter_meas (fun s => max (A - 2) e.f3 ≤ s.2 ∧ (s.2 ≤ min (B + 1) e.f4 + 1 ∨ s.2 = max (A - 2) e.f3) ∧ (s.1.length : Int) ≤ s.2 - max (A - 2) e.f3 ∧ ∀ t, t ∈ s.1 ↔ ∃ d, max (A - 2) e.f3 ≤ d ∧ d < s.2 ∧ dayB e d = true ∧ t = win e z d ∧ t.f0 < w.f1 ∧ w.f0 < t.f1)
        (fun s => (min (B + 1) e.f4 + 1 - s.2).toNat) _ ?_ _ ⟨Int.le_refl _, .inr rfl, by simp, fun t => by simp; intro d hd; omega⟩
      rintro ⟨acc, d⟩ ⟨i1, i2, i3, i4⟩
      simp only at i1 i2 i3 i4
      by_cases hd : d ≤ min (B + 1) e.f4
      · left
        have hday : T224 e d = some (dayB e d) := day_ok he (by omega) (by omega)
        have en : addI .i64 d 1 = d + 1 := addI_eq (by omega) (by omega)
        have hw : T225 e z d = some (win e z d) := win_ok he hz ⟨by omega, by omega⟩
        have skip : ¬ (dayB e d = true ∧ (win e z d).f0 < w.f1 ∧ w.f0 < (win e z d).f1) → ∀ t, t ∈ acc ↔ ∃ d', max (A - 2) e.f3 ≤ d' ∧ d' < d + 1 ∧ dayB e d' = true ∧ t = win e z d' ∧ t.f0 < w.f1 ∧ w.f0 < t.f1 := by
          intro hn t
          rw [i4 t]
          constructor
          · rintro ⟨d', a1, a2, a3⟩
            exact ⟨d', a1, by omega, a3⟩
          · rintro ⟨d', a1, a2, a3, a4, a5, a6⟩
            by_cases hdd : d' = d
            · subst hdd
              subst a4
              exact absurd ⟨a3, a5, a6⟩ hn
            · exact ⟨d', a1, by omega, a3, a4, a5, a6⟩
        cases hb : dayB e d with
        | false =>
          refine ⟨(acc, d + 1), ?_, ⟨by simp only; omega, .inl (by simp only; omega), by simp only; omega, skip (by simp [hb])⟩, by simp only; omega⟩
          unfold L165_7
          simp only [ehi]
          refine ct (leI_t hd) (bs (hday.trans (congrArg some hb)) (ct rfl ?_))
          rw [en]
        | true =>
          by_cases c1 : (win e z d).f0 < w.f1
          · by_cases c2 : w.f0 < (win e z d).f1
            · refine ⟨(acc ++ [win e z d], d + 1), ?_, ⟨by simp only; omega, .inl (by simp only; omega), by simp only [List.length_append, List.length_singleton]; omega, ?_⟩, by simp only; omega⟩
              · unfold L165_7
                simp only [ehi]
                refine ct (leI_t hd) (bs (hday.trans (congrArg some hb)) (cf rfl (bs hw (ct (ltI_t c1) (ct (ltI_t c2) (bs (appO_big (by omega) (by simp; omega)) ?_))))))
                rw [en]
              · intro t
                simp only [List.mem_append, List.mem_singleton, i4 t]
                constructor
                · rintro (⟨d', a1, a2, a3⟩ | rfl)
                  · exact ⟨d', a1, by omega, a3⟩
                  · exact ⟨d, by omega, by omega, hb, rfl, c1, c2⟩
                · rintro ⟨d', a1, a2, a3, a4, a5, a6⟩
                  by_cases hdd : d' = d
                  · subst hdd
                    exact .inr a4
                  · exact .inl ⟨d', a1, by omega, a3, a4, a5, a6⟩
            · refine ⟨(acc, d + 1), ?_, ⟨by simp only; omega, .inl (by simp only; omega), by simp only; omega, skip (fun h => c2 h.2.2)⟩, by simp only; omega⟩
              unfold L165_7
              simp only [ehi]
              refine ct (leI_t hd) (bs (hday.trans (congrArg some hb)) (cf rfl (bs hw (ct (ltI_t c1) (cf (ltI_f (by omega)) ?_)))))
              rw [en]
          · refine ⟨(acc, d + 1), ?_, ⟨by simp only; omega, .inl (by simp only; omega), by simp only; omega, skip (fun h => c1 h.2.1)⟩, by simp only; omega⟩
            unfold L165_7
            simp only [ehi]
            refine ct (leI_t hd) (bs (hday.trans (congrArg some hb)) (cf rfl (bs hw (cf (ltI_f (by omega)) ?_))))
            rw [en]
      · right
        refine ⟨(d, false, acc), ?_, by simp only; omega, fun t => ?_⟩
        · unfold L165_7
          simp only [ehi]
          rw [leI_f (by omega)]
          rfl
        · simp only [i4 t]
          constructor
          · rintro ⟨d', a1, a2, a3⟩
            exact ⟨d', a1, by omega, a3⟩
          · rintro ⟨d', a1, a2, a3⟩
            exact ⟨d', a1, by omega, a3⟩
    obtain ⟨r, hr, hr2, hr3⟩ := hloop
    refine ⟨r.2.2, cf rfl (cf (leI_f h1) (bs (by rw [elo]; exact hr) rfl)), hr2, fun t => ?_⟩
    rw [hr3 t]
    unfold Shown
    constructor
    · rintro ⟨d, a1, a2, a3⟩
      exact ⟨hg, d, by omega, by omega, a3⟩
    · rintro ⟨_, d, a1, a2, a3, a4, a5, a6⟩
      refine ⟨d, ?_, ?_, a3, a4, a5, a6⟩
      · subst a4
        simp only [win] at a5 a6
        omega
      · subst a4
        simp only [win] at a5 a6
        omega
end Go.Abs.TTN

set_option linter.unusedVariables false
set_option linter.unusedSimpArgs false
set_option maxRecDepth 10000
namespace Go.Abs.TTN
open Go.RowKit Go.Proofs Go.Abs
/-! All that is shown within a window. -/
theorem inner_ok {a : List S59} {p : S54} {w : S48} {z0 : List S204 × Int} {e : S59} {x : List S48} (he : listAt a z0.2 = some e) (hx : x.length ≤ 40) (hz : z0.1.length ≤ 1000) :
    iter (L168_7 a p w z0 x) (z0.1, x, 0) = some ((x.length : Int), false, z0.1 ++ x.map (S204.mk (some e)), x) := by
  obtain ⟨r, h2, h3⟩ := iter_up (st := L168_7 a p w z0 x) (fun (s : List S204) (i : Nat) => (s, x, (i : Int))) x.length (fun i s => s = z0.1 ++ (x.take i).map (S204.mk (some e)))
    (fun r => r = ((x.length : Int), false, z0.1 ++ x.map (S204.mk (some e)), x))
    (fun i s hi hI => by
      have hy := List.getElem?_eq_getElem hi
      subst hI
      refine ⟨_, ?_, rfl⟩
      unfold L168_7
      refine ct (ltL_true hi) (bs (idx_nat hi) (bs (getN_some hy) (bs he (bs (appO_big (by omega) (by simp; omega)) ?_))))
      simp only
      rw [nextI (by omega), take_next hy, List.map_append, List.append_assoc]
      rfl)
    (fun s hI => by
      subst hI
      refine ⟨_, ?_, rfl⟩
      unfold L168_7
      rw [List.take_length]
      refine cf (ltL_false (Nat.le_refl _)) ?_
      rw [ltL_false (Nat.le_refl _)]) z0.1 (by simp)
  rw [← h3]
  exact h2
theorem spans_ok {a : List S59} {p : S54} {w : S48} (ha : OkL a) (hp : OkP p) (h0 : 0 ≤ w.f0) (h1 : w.f0 < w.f1) (h2 : w.f1 ≤ 1000000000000) :
    ∃ l, T168 a p w = some l ∧ l.length ≤ 160 ∧ ∀ s, s ∈ l ↔ ∃ e, e ∈ a ∧ fitB e p = true ∧ s.f0 = some e ∧ Shown e p.f2 w s.f1 := by
  have hlen : a.length ≤ 4 := by
    have := ha.1.length_le
    rw [List.length_map] at this
    exact this
  obtain ⟨r, h3, l, h4, h5, h6⟩ := iter_up (st := L168_3 a p w) (fun (s : List S204) (i : Nat) => (s, (i : Int))) a.length
    (fun i s => s.length ≤ 40 * i ∧ ∀ x, x ∈ s ↔ ∃ e, e ∈ a.take i ∧ fitB e p = true ∧ x.f0 = some e ∧ Shown e p.f2 w x.f1)
    (fun r => ∃ l, r = ((a.length : Int), false, l) ∧ l.length ≤ 160 ∧ ∀ x, x ∈ l ↔ ∃ e, e ∈ a ∧ fitB e p = true ∧ x.f0 = some e ∧ Shown e p.f2 w x.f1)
    (fun i s hi hI => by
      have hx := List.getElem?_eq_getElem hi
      have he := ha.2 _ (List.getElem_mem hi)
      have hf := fit_ok he hp
      cases hb : fitB a[i] p with
      | false =>
        refine ⟨s, ?_, by omega, fun x => ?_⟩
        · unfold L168_3
          refine ct (ltL_true hi) (bs (listAt_some hx) (bs (hf.trans (congrArg some hb)) (ct rfl ?_)))
          simp only
          rw [nextI (by omega)]
        · rw [hI.2 x, take_next hx]
          constructor
          · rintro ⟨e, h, h'⟩
            exact ⟨e, List.mem_append_left _ h, h'⟩
          · rintro ⟨e, h, h', h''⟩
            rcases List.mem_append.1 h with h | h
            · exact ⟨e, h, h', h''⟩
            · simp only [List.mem_singleton] at h
              subst h
              rw [hb] at h'
              cases h'
      | true =>
        obtain ⟨t, ht, ht2, ht3⟩ := times_ok he hp.zone h0 h1 h2
        refine ⟨s ++ t.map (S204.mk (some a[i])), ?_, by simp; omega, fun x => ?_⟩
        · unfold L168_3
          refine ct (ltL_true hi) (bs (listAt_some hx) (bs (hf.trans (congrArg some hb)) (cf rfl (bs (listAt_some hx) (bs ht (bs (inner_ok (z0 := (s, (i : Int))) (listAt_some hx) ht2 (by simp only; omega)) ?_))))))
          simp only
          rw [nextI (by omega)]
        · rw [List.mem_append, hI.2 x, take_next hx]
          constructor
          · rintro (⟨e, h, h'⟩ | h)
            · exact ⟨e, List.mem_append_left _ h, h'⟩
            · obtain ⟨u, hu, rfl⟩ := List.mem_map.1 h
              exact ⟨a[i], List.mem_append_right _ (List.mem_singleton.2 rfl), hb, rfl, (ht3 u).1 hu⟩
          · rintro ⟨e, h, h', h'', h3⟩
            rcases List.mem_append.1 h with h | h
            · exact .inl ⟨e, h, h', h'', h3⟩
            · simp only [List.mem_singleton] at h
              subst h
              refine .inr (List.mem_map.2 ⟨x.f1, (ht3 _).2 h3, ?_⟩)
              rw [← h''])
    (fun s hI => by
      refine ⟨((a.length : Int), false, s), ?_, s, rfl, by omega, fun x => ?_⟩
      · unfold L168_3
        refine cf (ltL_false (Nat.le_refl _)) ?_
        rw [ltL_false (Nat.le_refl _)]
      · rw [hI.2 x, List.take_length]) [] (by simp)
  refine ⟨l, ?_, h5, h6⟩
  unfold T168
  refine bs (a := ((a.length : Int), false, l)) ?_ rfl
  rw [← h4, ← h3]
  rfl
/-- Every span lasts. -/
theorem Shown.lasts {e : S59} {z : Int} {w t : S48} (he : OkE e) (h : Shown e z w t) : t.f0 < t.f1 := by
  obtain ⟨_, d, _, _, _, rfl, _⟩ := h
  have := mins_ok he
  simp only [win]
  omega
end Go.Abs.TTN

set_option linter.unusedVariables false
set_option linter.unusedSimpArgs false
set_option maxRecDepth 10000
namespace Go.Abs.TTN
open Go.RowKit Go.Proofs Go.Abs
/-! Edges; what is past is dropped. -/
theorem edges_ok {a : List S59} {p : S54} {w : S48} {l : List S204} (hl : T168 a p w = some l) (h : l.length ≤ 160) : ∃ es, T171 a p w = some es ∧ es.Pairwise (· < ·) ∧ es.length ≤ 400 ∧ ∀ x, x ∈ es ↔ x = w.f0 ∨ x = w.f1 ∨ ∃ s, s ∈ l ∧ (x = max s.f1.f0 w.f0 ∨ x = min s.f1.f1 w.f1) := by
  obtain ⟨r, h3, acc, h4, h5, h6⟩ := iter_up (st := L171_3 w l) (fun (s : List Int) (i : Nat) => (s, l, (i : Int))) l.length
    (fun i s => s.length = 2 + 2 * i ∧ ∀ x, x ∈ s ↔ x = w.f0 ∨ x = w.f1 ∨ ∃ y, y ∈ l.take i ∧ (x = max y.f1.f0 w.f0 ∨ x = min y.f1.f1 w.f1))
    (fun r => ∃ acc, r = ((l.length : Int), false, acc, l) ∧ acc.length = 2 + 2 * l.length ∧ ∀ x, x ∈ acc ↔ x = w.f0 ∨ x = w.f1 ∨ ∃ y, y ∈ l ∧ (x = max y.f1.f0 w.f0 ∨ x = min y.f1.f1 w.f1))
    (fun i s hi hI => by
      have hx := List.getElem?_eq_getElem hi
      have hc : T166 l[i].f1 w = some ⟨max l[i].f1.f0 w.f0, min l[i].f1.f1 w.f1⟩ := by unfold T166; rw [maxI_eq, minI_eq]
      refine ⟨s ++ [max l[i].f1.f0 w.f0, min l[i].f1.f1 w.f1], ?_, by simp; omega, fun x => ?_⟩
      · unfold L171_3
        refine ct (ltL_true hi) (bs (idx_nat hi) (bs (getN_some hx) (bs hc (bs (appO_big (by omega) (by simp; omega)) ?_))))
        simp only
        rw [nextI (by omega)]
      · rw [List.mem_append, hI.2 x, take_next hx]
        simp only [List.mem_cons, List.not_mem_nil, or_false, List.mem_append]
        constructor
        · rintro ((h | h | ⟨y, h, h'⟩) | h)
          · exact .inl h
          · exact .inr (.inl h)
          · exact .inr (.inr ⟨y, .inl h, h'⟩)
          · exact .inr (.inr ⟨_, .inr rfl, h⟩)
        · rintro (h | h | ⟨y, h | rfl, h'⟩)
          · exact .inl (.inl h)
          · exact .inl (.inr (.inl h))
          · exact .inl (.inr (.inr ⟨y, h, h'⟩))
          · exact .inr h')
    (fun s hI => by
      refine ⟨((l.length : Int), false, s, l), ?_, s, rfl, hI.1, fun x => ?_⟩
      · unfold L171_3
        refine cf (ltL_false (Nat.le_refl _)) ?_
        rw [ltL_false (Nat.le_refl _)]
      · rw [hI.2 x, List.take_length]) [w.f0, w.f1] (by simp)
  obtain ⟨c1, c2⟩ := compact_facts (sortI acc) (sortI_sorted acc)
  have hsl : (sortI acc).length = acc.length := (sortI_perm acc).length_eq
  refine ⟨Lib.compact (sortI acc), ?_, c1, ?_, fun x => ?_⟩
  · unfold T171
    refine bs hl (bs (a := ((l.length : Int), false, acc, l)) ?_ ?_)
    · rw [← h4, ← h3]
      rfl
    · unfold sortIO compIO
      simp only
      rw [if_pos (by omega)]
      rfl
  · have := Lib.compact_length_le (sortI acc)
    omega
  · rw [c2, (sortI_perm acc).mem_iff, h6 x]
def keep (t : Int) (s : S204) : Bool := ltI t s.f1.f1
theorem past_eq {es : List Int} {i : Int} {t : Int} (h : listAt es i = some t) (s : S204) : T173 s es i = some (!keep t s) := by
  unfold T173
  refine bs h ?_
  unfold keep ltI leI
  congr 1
  by_cases c : s.f1.f1 ≤ t
  · simp [c]
  · simp [c]; omega
theorem first_past {es : List Int} {n : Int} {t : Int} (he : listAt es n = some t) (l : List S204) (h : l.length ≤ 1048576) : (T229 l es n = some (-1) ∧ ∀ x ∈ l, keep t x = true) ∨ ∃ k, k < l.length ∧ T229 l es n = some (k : Int) ∧ (∀ x, l[k]? = some x → keep t x = false) ∧ ∀ j x, j < k → l[j]? = some x → keep t x = true := by
  have hi : ∃ r, iter (L229_2 l es n) ((0 : Nat) : Int) = some r ∧ ((∃ y, r = .inl y) ∧ (∀ x ∈ l, keep t x = true) ∨ ∃ k : Nat, r = .inr (k : Int) ∧ k < l.length ∧ (∀ x, l[k]? = some x → keep t x = false) ∧ ∀ j x, j < k → l[j]? = some x → keep t x = true) := by
    refine iter_meas (fun z => ∃ i : Nat, z = (i : Int) ∧ i ≤ l.length ∧ ∀ j x, j < i → l[j]? = some x → keep t x = true) (fun z => (l.length - z).toNat) _ ?_ _ ⟨0, rfl, Nat.zero_le _, fun j x hj => by omega⟩
    rintro _ ⟨i, rfl, hi, hall⟩
    by_cases hlt : i < l.length
    · have h1 := ltL_true hlt
      have h2 : addI .i64 (i : Int) 1 = ((i + 1 : Nat) : Int) := nextI (by omega)
      have hx := List.getElem?_eq_getElem hlt
      cases hm : keep t l[i] with
      | true =>
        left
        refine ⟨((i + 1 : Nat) : Int), ?_, ⟨i + 1, rfl, by omega, fun j x hj hjx => ?_⟩, by omega⟩
        · simp only [L229_2, h1, cond_true, listAt_some hx, Option.bind_some, past_eq he, hm, Bool.not_true, cond_false, h2]
        · rcases Nat.lt_or_ge j i with h3 | h3
          · exact hall j x h3 hjx
          · have : j = i := by omega
            subst this
            rw [hx] at hjx
            cases hjx
            exact hm
      | false =>
        right
        refine ⟨.inr (i : Int), ?_, .inr ⟨i, rfl, hlt, fun x hx2 => by rw [hx] at hx2; cases hx2; exact hm, hall⟩⟩
        simp only [L229_2, h1, cond_true, listAt_some hx, Option.bind_some, past_eq he, hm, Bool.not_false]
    · right
      have h1 : ltI (i : Int) (lenL l) = false := ltL_false (by omega)
      refine ⟨.inl _, by simp only [L229_2, h1, cond_false]; rfl, .inl ⟨⟨_, rfl⟩, fun x hx => ?_⟩⟩
      obtain ⟨j, hj⟩ := List.getElem?_of_mem hx
      exact hall j x (by have := (List.getElem?_eq_some_iff.1 hj).1; omega) hj
  obtain ⟨r, h1, h2⟩ := hi
  have h1 : iter (L229_2 l es n) 0 = some r := h1
  unfold T229
  rw [h1, Option.bind_some]
  rcases h2 with ⟨⟨y, rfl⟩, h3⟩ | ⟨k, rfl, h3, h4⟩
  · exact .inl ⟨rfl, h3⟩
  · exact .inr ⟨k, h3, rfl, h4⟩
theorem drop_past {es : List Int} {n : Int} {t : Int} (he : listAt es n = some t) (l : List S204) (h : l.length ≤ 1048576) : T172 l es n = some (l.filter (keep t)) := by
  unfold T172
  rcases first_past he l h with ⟨h1, h2⟩ | ⟨k, hk, h1, hdel, hkeep⟩
  · rw [h1, Option.bind_some, show eqI (-1) (-1) = true from rfl, cond_true, List.filter_eq_self.2 h2]
  · have hne : eqI (k : Int) (-1) = false := eqI_f (by omega)
    have hadd : addI .i64 (k : Int) 1 = ((k + 1 : Nat) : Int) := nextI (by omega)
    rw [h1, Option.bind_some, hne, cond_false, hadd]
    have hloop : ∃ r, iter (L172_5 es n) (l, (k : Int), ((k + 1 : Nat) : Int)) = some r ∧ ∃ i : Nat, r.1 = (i : Int) ∧ i ≤ l.length ∧ r.2.2.2.length = l.length ∧ r.2.2.2.take i = l.filter (keep t) := by
      refine iter_meas (fun z => ∃ (row : List S204) (i j : Nat), z = (row, (i : Int), (j : Int)) ∧ j ≤ l.length ∧ i < j ∧ row.length = l.length ∧ row.take i = (l.take j).filter (keep t) ∧ row.drop j = l.drop j) (fun z => (l.length - z.2.2).toNat) _ ?_ _ ⟨l, k, k + 1, rfl, by omega, by omega, rfl, ?_, rfl⟩
      · rintro _ ⟨row, i, j, rfl, hj, hij, hrl, htake, hdrop⟩
        by_cases hlt : j < l.length
        · left
          have hg1 : ltI (j : Int) (lenL row) = true := ltL_true (by omega)
          have hj1 : addI .i64 (j : Int) 1 = ((j + 1 : Nat) : Int) := nextI (by omega)
          have hi1 : addI .i64 (i : Int) 1 = ((i + 1 : Nat) : Int) := nextI (by omega)
          have hx : row[j]? = some l[j] := by
            have : (row.drop j)[0]? = (l.drop j)[0]? := by rw [hdrop]
            simpa [List.getElem?_eq_getElem hlt] using this
          have hil : i < row.length := by omega
          have hstep : (l.take (j + 1)).filter (keep t) = (l.take j).filter (keep t) ++ [l[j]].filter (keep t) := by
            rw [List.take_succ_eq_append_getElem hlt, List.filter_append]
          cases hm : keep t l[j] with
          | true =>
            refine ⟨(row.set i l[j], ((i + 1 : Nat) : Int), ((j + 1 : Nat) : Int)), ?_, ⟨row.set i l[j], i + 1, j + 1, rfl, by omega, by omega, by simpa using hrl, ?_, ?_⟩, by simp only; omega⟩
            · simp only [L172_5, hg1, cond_true, idx_nat (show j < row.length by omega), Option.bind_some, getN, hx, past_eq he, hm, Bool.not_true, Bool.not_false, idx_nat hil, List.getElem?_eq_getElem hil, hi1, hj1]
            · rw [hstep, ← htake, List.filter_cons_of_pos hm, List.filter_nil, List.take_succ_eq_append_getElem (by simpa using hil), List.take_set_of_le (Nat.le_refl i)]
              simp
            · rw [List.drop_set_of_lt (by omega)]
              have := congrArg (List.drop 1) hdrop
              simpa [List.drop_drop] using this
          | false =>
            refine ⟨(row, (i : Int), ((j + 1 : Nat) : Int)), ?_, ⟨row, i, j + 1, rfl, by omega, by omega, hrl, ?_, ?_⟩, by simp only; omega⟩
            · simp only [L172_5, hg1, cond_true, idx_nat (show j < row.length by omega), Option.bind_some, getN, hx, past_eq he, hm, Bool.not_true, Bool.not_false, cond_false, hj1]
            · rw [hstep, ← htake, List.filter_cons_of_neg (by rw [hm]; simp), List.filter_nil, List.append_nil]
            · have := congrArg (List.drop 1) hdrop
              simpa [List.drop_drop] using this
        · right
          have hjl : j = l.length := by omega
          subst hjl
          have hg1 : ltI (l.length : Int) (lenL row) = false := ltL_false (by omega)
          refine ⟨((i : Int), (l.length : Int), false, row), by simp only [L172_5, hg1, cond_false], i, rfl, by omega, hrl, ?_⟩
          rw [htake, List.take_length]
      · rw [List.take_succ_eq_append_getElem hk, List.filter_append, List.filter_cons_of_neg (by rw [hdel _ (List.getElem?_eq_getElem hk)]; simp), List.filter_nil, List.append_nil]
        refine (List.filter_eq_self.2 fun x hx => ?_).symm
        obtain ⟨j, hj⟩ := List.getElem?_of_mem hx
        rw [List.getElem?_take] at hj
        split at hj
        · rename_i hjk
          exact hkeep j x hjk hj
        · cases hj
    obtain ⟨r, h2, i, h3, h4, h5, h6⟩ := hloop
    rw [h2, Option.bind_some, h3]
    have hv : vwN (List.length r.2.2.2) (i : Int) = some i := by unfold vwN; rw [if_pos (by omega), if_pos (by rw [Int.toNat_natCast, h5]; exact h4), Int.toNat_natCast]
    have hc : clrN r.2.2.2 i (S204.mk (none : Option S59) (S48.mk 0 0)) = some (r.2.2.2.take i ++ List.replicate (r.2.2.2.length - i) (S204.mk (none : Option S59) (S48.mk 0 0))) := by unfold clrN; rw [if_pos (by rw [h5]; exact h4)]
    rw [hv, Option.bind_some, hc, Option.bind_some]
    have hcut : cutN (r.2.2.2.take i ++ List.replicate (r.2.2.2.length - i) (S204.mk (none : Option S59) (S48.mk 0 0))) (i : Int) = some (l.filter (keep t)) := by
      unfold cutN
      rw [if_pos (by omega), Int.toNat_natCast, if_pos (by rw [List.length_append, List.length_take, List.length_replicate]; omega), List.take_append_of_le_length (by rw [List.length_take]; omega), List.take_take, Nat.min_self, h6]
    rw [hcut]
    rfl
end Go.Abs.TTN

set_option linter.unusedVariables false
set_option linter.unusedSimpArgs false
set_option maxRecDepth 10000
namespace Go.Abs.TTN
open Go.RowKit Go.Proofs Go.Abs
/-! Which of two goes first. -/
theorem cmp_spec : ∀ x y : List UInt8, Lib.compareBytes x y = if Op.bytesLess x y = true then -1 else if Op.bytesLess y x = true then 1 else 0
  | [], [] => rfl
  | [], _ :: _ => rfl
  | _ :: _, [] => rfl
  | a :: x, b :: y => by
    have ih := cmp_spec x y
    simp only [Lib.compareBytes, Op.bytesLess]
    by_cases h1 : a < b
    · simp [h1]
    · by_cases h2 : b < a
      · have h3 : ¬ a = b := fun e => by subst e; exact h1 h2
        simp [h1, h2, h3]
      · have h3 : a = b := UInt8.toNat_inj.1 (by
          have h4 := UInt8.lt_iff_toNat_lt (a := a) (b := b)
          have h5 := UInt8.lt_iff_toNat_lt (a := b) (b := a)
          rw [h4] at h1
          rw [h5] at h2
          omega)
        subst h3
        simp [h1, ih]
theorem cmpS_eq (a b : ByteArray) : cmpS a b = if ltS a b = true then -1 else if ltS b a = true then 1 else 0 := by
  unfold cmpS
  rw [cmp_spec, ltS_eq, ltS_eq]
theorem t146 (x y : Int) : T146 x y = some (if x < y then -1 else if y < x then 1 else 0) := by
  unfold T146
  refine bs (T203_eq x) (bs (T203_eq y) (cf rfl (cf rfl ?_)))
  by_cases h : x < y
  · rw [ltI_t h, if_pos h]; rfl
  · rw [ltI_f (by omega), if_neg h]
    by_cases h2 : y < x
    · rw [ltI_t h2, if_pos h2]; rfl
    · rw [ltI_f (by omega), if_neg h2]; rfl
def first0 : List Int → Int
  | [] => 0
  | x :: l => if x ≠ 0 then x else first0 l
theorem or_ok (a b c : Int) : T113 [a, b, c] = some (if a ≠ 0 then a else if b ≠ 0 then b else c) := by
  unfold T113
  have st : ∀ (i : Nat) (x : Int), ([a, b, c] : List Int)[i]? = some x → L113_3 [a, b, c] (i : Int) = some (if x ≠ 0 then .inr (.inr x) else .inl ((i + 1 : Nat) : Int)) := by
    intro i x hx
    have hi : i < ([a, b, c] : List Int).length := (List.getElem?_eq_some_iff.1 hx).1
    unfold L113_3
    refine ct (ltL_true hi) (bs (listAt_some hx) ?_)
    by_cases h : x = 0
    · rw [neI_f h, if_neg (by simp [h]), nextI (by simp at hi; omega)]
      rfl
    · rw [neI_t h, if_pos h]
      rfl
  have en : L113_3 [a, b, c] ((3 : Nat) : Int) = some (.inr (.inl (3, false))) := rfl
  have s0 := st 0 a rfl
  have s1 := st 1 b rfl
  have s2 := st 2 c rfl
  by_cases ha : a ≠ 0
  · rw [if_pos ha] at s0 ⊢
    rw [show (0 : Int) = ((0 : Nat) : Int) from rfl, iter_inr s0]
    rfl
  · rw [if_neg ha] at s0 ⊢
    by_cases hb : b ≠ 0
    · rw [if_pos hb] at s1 ⊢
      rw [show (0 : Int) = ((0 : Nat) : Int) from rfl, iter_inl s0, iter_inr s1]
      rfl
    · rw [if_neg hb] at s1 ⊢
      by_cases hc : c ≠ 0
      · rw [if_pos hc] at s2
        rw [show (0 : Int) = ((0 : Nat) : Int) from rfl, iter_inl s0, iter_inl s1, iter_inr s2]
        rfl
      · rw [if_neg hc] at s2
        have hc : c = 0 := by omega
        rw [show (0 : Int) = ((0 : Nat) : Int) from rfl, iter_inl s0, iter_inl s1, iter_inl s2, iter_inr en, hc]
        rfl
def pr (s : S204) : Int := (s.f0.map (·.f10)).getD 0
def ke (s : S204) : ByteArray := (s.f0.map (·.f0)).getD (.mk #[])
/-- a goes ahead of b. -/
def ahead (a b : S204) : Prop := pr b < pr a ∨ (pr a = pr b ∧ (b.f1.f0 < a.f1.f0 ∨ (a.f1.f0 = b.f1.f0 ∧ ltS (ke b) (ke a) = true)))
theorem cmp_ok {a b : S204} {ea eb : S59} (ha : a.f0 = some ea) (hb : b.f0 = some eb) : ∃ n, T175 a b = some n ∧ (n < 0 ↔ ahead a b) := by
  unfold T175
  rw [ha, hb]
  refine ⟨_, bs rfl (bs rfl (bs (t146 _ _) (bs (t146 _ _) (bs rfl (bs rfl (bs (by unfold T114; rfl) (bs (or_ok _ _ _) rfl))))))), ?_⟩
  have pa : pr a = ea.f10 := by unfold pr; rw [ha]; rfl
  have pb : pr b = eb.f10 := by unfold pr; rw [hb]; rfl
  have ka : ke a = ea.f0 := by unfold ke; rw [ha]; rfl
  have kb : ke b = eb.f0 := by unfold ke; rw [hb]; rfl
  unfold ahead
  rw [pa, pb, ka, kb, cmpS_eq]
  by_cases h1 : eb.f10 < ea.f10
  · simp [h1]
  · by_cases h2 : ea.f10 < eb.f10
    · simp [h1, h2]; omega
    · have h3 : ea.f10 = eb.f10 := by omega
      simp only [h3, Int.lt_irrefl, if_false, ne_eq, not_true_eq_false, false_or, true_and]
      by_cases h4 : b.f1.f0 < a.f1.f0
      · simp [h4]
      · by_cases h5 : a.f1.f0 < b.f1.f0
        · simp [h4, h5]; omega
        · have h6 : a.f1.f0 = b.f1.f0 := by omega
          simp only [h6, Int.lt_irrefl, if_false, not_true_eq_false, false_or, true_and]
          by_cases h7 : ltS eb.f0 ea.f0 = true
          · simp [h7]
          · by_cases h8 : ltS ea.f0 eb.f0 = true
            · simp [h7, h8]
            · simp [h7, h8]
theorem ahead_asymm {a b : S204} (h1 : ahead a b) (h2 : ahead b a) : False := by
  rcases h1 with h1 | ⟨h1, h1' | ⟨h1', h1''⟩⟩ <;> rcases h2 with h2 | ⟨h2, h2' | ⟨h2', h2''⟩⟩
  all_goals first
    | omega
    | (have := ltS_trans h1'' h2''; rw [ltS_irrefl] at this; cases this)
theorem ahead_neg {a b c : S204} (h : ahead a c) : ahead a b ∨ ahead b c := by
  unfold ahead at *
  rcases h with h | ⟨h1, h | ⟨h2, h3⟩⟩
  · by_cases hc : pr b < pr a
    · exact .inl (.inl hc)
    · exact .inr (.inl (by omega))
  · by_cases hc : pr b < pr a
    · exact .inl (.inl hc)
    · by_cases hd : pr c < pr b
      · exact .inr (.inl hd)
      · by_cases he : b.f1.f0 < a.f1.f0
        · exact .inl (.inr ⟨by omega, .inl he⟩)
        · exact .inr (.inr ⟨by omega, .inl (by omega)⟩)
  · by_cases hc : pr b < pr a
    · exact .inl (.inl hc)
    · by_cases hd : pr c < pr b
      · exact .inr (.inl hd)
      · by_cases he : b.f1.f0 < a.f1.f0
        · exact .inl (.inr ⟨by omega, .inl he⟩)
        · by_cases hf : c.f1.f0 < b.f1.f0
          · exact .inr (.inr ⟨by omega, .inl hf⟩)
          · rcases ltS_total (ke b) (ke a) with h5 | h5 | h5
            · exact .inl (.inr ⟨by omega, .inr ⟨by omega, h5⟩⟩)
            · exact .inr (.inr ⟨by omega, .inr ⟨by omega, by rw [h5]; exact h3⟩⟩)
            · exact .inr (.inr ⟨by omega, .inr ⟨by omega, ltS_trans h3 h5⟩⟩)
/-- One that nothing goes ahead of. -/
def Best (l : List S204) (m : S204) : Prop := m ∈ l ∧ ∀ s ∈ l, ¬ ahead s m
theorem best_key {l l' : List S204} {m m' : S204} (hl : ∀ x, x ∈ l ↔ x ∈ l') (h : Best l m) (h' : Best l' m') : ke m = ke m' := by
  have h1 := h.2 m' ((hl m').2 h'.1)
  have h2 := h'.2 m ((hl m).1 h.1)
  unfold ahead at h1 h2
  rcases ltS_total (ke m) (ke m') with h5 | h5 | h5
  · exact absurd (.inr ⟨by omega, .inr ⟨by omega, h5⟩⟩) h1
  · exact h5
  · exact absurd (.inr ⟨by omega, .inr ⟨by omega, h5⟩⟩) h2
/-- Only spans of entries. -/
def Full (l : List S204) : Prop := ∀ s ∈ l, ∃ e, s.f0 = some e
theorem min_ok {l : List S204} (hf : Full l) (h0 : 0 < l.length) (h1 : l.length ≤ 100000) : ∃ m, T174 l = some (m, l) ∧ Best l m := by
  have hx := List.getElem?_eq_getElem h0
  obtain ⟨r, h3, m, h4, h5⟩ := iter_up (st := L174_5) (fun (s : S204) (i : Nat) => (l, s.f0, s.f1.f0, s.f1.f1, ((i + 1 : Nat) : Int))) (l.length - 1)
    (fun i s => s ∈ l ∧ ∀ x ∈ l.take (i + 1), ¬ ahead x s)
    (fun r => ∃ m, r = ((l.length : Int), false, l, m.f0, m.f1.f0, m.f1.f1) ∧ Best l m)
    (fun i s hi hI => by
      have hi' : i + 1 < l.length := by omega
      have hy := List.getElem?_eq_getElem hi'
      obtain ⟨ea, hea⟩ := hf _ (List.getElem_mem hi')
      obtain ⟨es, hes⟩ := hf s hI.1
      obtain ⟨n, hn, hn2⟩ := cmp_ok hea hes
      by_cases hc : ahead l[i + 1] s
      · refine ⟨l[i + 1], ?_, List.getElem_mem _, fun x hxm => ?_⟩
        · unfold L174_5
          refine ct (ltL_true hi') (bs (idx_nat hi') (bs (getN_some hy) (bs hn (ct (ltI_t (hn2.2 hc)) (bs (idx_nat hi') (bs (getN_some hy) ?_))))))
          simp only
          rw [nextI (by omega)]
        · rw [take_next hy] at hxm
          intro hax
          rcases List.mem_append.1 hxm with h | h
          · rcases ahead_neg (b := s) hax with h6 | h6
            · exact hI.2 x h h6
            · exact ahead_asymm hc h6
          · simp only [List.mem_singleton] at h
            subst h
            exact ahead_asymm hax hax
      · refine ⟨s, ?_, hI.1, fun x hxm => ?_⟩
        · unfold L174_5
          refine ct (ltL_true hi') (bs (idx_nat hi') (bs (getN_some hy) (bs hn (cf (ltI_f (by
            have := mt hn2.1 hc
            omega)) ?_))))
          simp only
          rw [nextI (by omega)]
        · rw [take_next hy] at hxm
          rcases List.mem_append.1 hxm with h | h
          · exact hI.2 x h
          · simp only [List.mem_singleton] at h
            subst h
            exact hc)
    (fun s hI => by
      have e : l.length - 1 + 1 = l.length := by omega
      rw [e] at hI ⊢
      rw [List.take_length] at hI
      refine ⟨_, ?_, s, rfl, hI⟩
      unfold L174_5
      refine cf (ltL_false (Nat.le_refl _)) ?_
      rw [ltL_false (Nat.le_refl _)]) l[0] ⟨List.getElem_mem _, fun x hxm => by
        rw [List.take_one] at hxm
        have : l.head? = some l[0] := by rw [List.head?_eq_getElem?, hx]
        rw [this] at hxm
        simp only [Option.toList_some, List.mem_singleton] at hxm
        subst hxm
        exact fun h => ahead_asymm h h⟩
  refine ⟨m, ?_, h5⟩
  unfold T174
  refine cf (ltI_f (by rw [lenL_eq]; omega)) (bs (idx_nat h0) (bs (getN_some hx) (bs (a := ((l.length : Int), false, l, m.f0, m.f1.f0, m.f1.f1)) ?_ rfl)))
  rw [← h4]
  exact h3
end Go.Abs.TTN

set_option linter.unusedVariables false
set_option linter.unusedSimpArgs false
set_option maxRecDepth 10000
namespace Go.Abs.TTN
open Go.RowKit Go.Proofs Go.Abs
/-! What On and Why tell. -/
/-- A span that is on at a moment. -/
def Act (a : List S59) (p : S54) (t : Int) (s : S204) : Prop := ∃ e, e ∈ a ∧ fitB e p = true ∧ s.f0 = some e ∧ Shown e p.f2 ⟨t, t + 1⟩ s.f1
theorem best_sort {l : List S204} (hf : Full l) (h1 : l.length ≤ 100000) : ∃ l', sortO (fun x y => T175 x y) l = some l' ∧ (∀ s, s ∈ l' ↔ s ∈ l) ∧ l'.length = l.length ∧ ∀ m, l'[0]? = some m → Best l' m := by
  obtain ⟨l', h2, h3, h4⟩ := sortO_le (fun x y => T175 x y) (fun x y => ¬ ahead y x) (fun x y => Classical.byContradiction fun h => ahead_asymm (Classical.not_not.1 fun h' => h (.inl h')) (Classical.not_not.1 fun h' => h (.inr h')))
    (fun x y z h1 h2 h => by
      rcases ahead_neg (b := y) h with h | h
      · exact h2 h
      · exact h1 h) l (by omega) (fun x hx y hy => by
      obtain ⟨ex, hex⟩ := hf x hx
      obtain ⟨ey, hey⟩ := hf y hy
      obtain ⟨n, hn, hn2⟩ := cmp_ok hex hey
      exact ⟨n, hn, hn2.trans Classical.not_not.symm⟩)
  refine ⟨l', h2, fun s => h3.mem_iff, h3.length_eq, fun m hm => ?_⟩
  cases l' with
  | nil => simp at hm
  | cons x rest =>
    simp only [List.getElem?_cons_zero, Option.some.injEq] at hm
    subst hm
    refine ⟨List.mem_cons_self, fun s hs => ?_⟩
    rcases List.mem_cons.1 hs with rfl | hs
    · exact fun h => ahead_asymm h h
    · exact (List.pairwise_cons.1 h4).1 s hs
theorem act_full {a : List S59} {p : S54} {l : List S204} {t : Int} (h : ∀ s, s ∈ l ↔ Act a p t s) : Full l := fun s hs => by
  obtain ⟨e, _, _, h2, _⟩ := (h s).1 hs
  exact ⟨e, h2⟩
theorem on_list {a : List S59} {p : S54} {t : Int} (ha : OkL a) (hp : OkP p) (h0 : 0 ≤ t) (h1 : t < 345686400000) : ∃ l, T116 a p t = some l ∧ (∀ s, s ∈ l ↔ Act a p t s) ∧ l.length ≤ 160 ∧ ∀ m, l[0]? = some m → Best l m := by
  have e1 : addI .i64 t 1 = t + 1 := addI_eq (by omega) (by omega)
  obtain ⟨l, h2, h3, h4⟩ := spans_ok (w := ⟨t, t + 1⟩) ha hp h0 (by simp only; omega) (by simp only; omega)
  obtain ⟨l', h5, h6, h7, h8⟩ := best_sort (l := l) (act_full (fun s => h4 s)) (by omega)
  refine ⟨l', ?_, fun s => (h6 s).trans (h4 s), by omega, h8⟩
  unfold T116
  rw [e1]
  exact bs h2 (bs h5 rfl)
theorem on_ok {a : List S59} {p : S54} {t : Int} (ha : OkL a) (hp : OkP p) (h0 : 0 ≤ t) (h1 : t < 345686400000) :
    ((∀ s, ¬ Act a p t s) ∧ T39 a p t = some (.mk #[], false, 0)) ∨
    ∃ l m, (∀ s, s ∈ l ↔ Act a p t s) ∧ Best l m ∧ T39 a p t = some (ke m, true, 0) ∧ ke m ∈ keys4 := by
  obtain ⟨l, h2, h3, h4, h5⟩ := on_list ha hp h0 h1
  have hm := moment_ok (l := a) (p := p) ha hp h0 h1
  cases l with
  | nil =>
    refine .inl ⟨fun s hs => ?_, ?_⟩
    · have := (h3 s).2 hs
      cases this
    · unfold T39
      exact bs hm (cf (neI_no 0) (bs h2 (ct rfl rfl)))
  | cons m rest =>
    have hb := h5 m rfl
    obtain ⟨e, he1, _, he, _⟩ := (h3 m).1 List.mem_cons_self
    have hk : ke m = e.f0 := by unfold ke; rw [he]; rfl
    refine .inr ⟨m :: rest, m, h3, hb, ?_, by rw [hk]; exact (ha.2 e he1).key⟩
    unfold T39
    refine bs hm (cf (neI_no 0) (bs h2 (cf (eqI_f (by rw [lenL_eq]; simp; omega)) (bs (idx_nat (by simp)) (bs (getN_some rfl) (bs he ?_))))))
    rw [hk]
end Go.Abs.TTN

set_option linter.unusedVariables false
set_option linter.unusedSimpArgs false
set_option maxRecDepth 10000
namespace Go.Abs.TTN
open Go.RowKit Go.Proofs Go.Abs
/-! The sweep. -/
/-- What is shown at a moment. -/
def KeyAt (a : List S59) (p : S54) (t : Int) (k : ByteArray) : Prop := ((∀ s, ¬ Act a p t s) ∧ k = .mk #[]) ∨ ∃ l m, (∀ s, s ∈ l ↔ Act a p t s) ∧ Best l m ∧ k = ke m
structure Cov (K : Int → ByteArray → Prop) (out : List S57) (lo hi : Int) : Prop where
  ne : out ≠ []
  pos : ∀ x ∈ out, x.f0.f0 < x.f0.f1 ∧ lo ≤ x.f0.f0 ∧ x.f0.f1 ≤ hi
  key : ∀ x ∈ out, ∀ t, x.f0.f0 ≤ t → t < x.f0.f1 → K t x.f1
  adj : ∀ j x y, out[j]? = some x → out[j + 1]? = some y → x.f0.f1 = y.f0.f0 ∧ x.f1 ≠ y.f1
  fst : ∀ x, out[0]? = some x → x.f0.f0 = lo
  lst : ∀ x, out[out.length - 1]? = some x → x.f0.f1 = hi
variable {K : Int → ByteArray → Prop}
theorem Cov.one {lo hi : Int} {k : ByteArray} (h : lo < hi) (hk : ∀ t, lo ≤ t → t < hi → K t k) : Cov K [⟨⟨lo, hi⟩, k⟩] lo hi where
  ne := by simp
  pos x hx := by simp only [List.mem_singleton] at hx; subst hx; exact ⟨h, Int.le_refl _, Int.le_refl _⟩
  key x hx := by simp only [List.mem_singleton] at hx; subst hx; exact hk
  adj j x y h1 h2 := by simp at h2
  fst x hx := by simp at hx; subst hx; rfl
  lst x hx := by simp at hx; subst hx; rfl
theorem Cov.add {pre : List S57} {x0 : S57} {lo hi hi' : Int} {k : ByteArray} (h : Cov K (pre ++ [x0]) lo hi) (hh : hi < hi') (hne : x0.f1 ≠ k) (hk : ∀ t, hi ≤ t → t < hi' → K t k) : Cov K (pre ++ [x0] ++ [⟨⟨hi, hi'⟩, k⟩]) lo hi' where
  ne := by simp
  pos x hx := by
    rcases List.mem_append.1 hx with hx | hx
    · have := h.pos x hx
      omega
    · simp only [List.mem_singleton] at hx
      subst hx
      have := h.pos x0 (by simp)
      simp only
      omega
  key x hx := by
    rcases List.mem_append.1 hx with hx | hx
    · exact h.key x hx
    · simp only [List.mem_singleton] at hx; subst hx; exact hk
  adj j x y h1 h2 := by
    have hx0 : x0.f0.f1 = hi := h.lst x0 (by simp)
    by_cases hj : j + 1 < (pre ++ [x0]).length
    · rw [List.getElem?_append_left (by omega)] at h1
      rw [List.getElem?_append_left hj] at h2
      exact h.adj j x y h1 h2
    · have hj2 : j + 1 < (pre ++ [x0] ++ [(⟨⟨hi, hi'⟩, k⟩ : S57)]).length := (List.getElem?_eq_some_iff.1 h2).1
      simp at hj hj2
      have : j = pre.length := by omega
      subst this
      simp at h1 h2
      subst h1
      subst h2
      exact ⟨hx0, hne⟩
  fst x hx := by
    rw [List.getElem?_append_left (by simp)] at hx
    exact h.fst x hx
  lst x hx := by simp at hx; subst hx; rfl
theorem Cov.more {pre : List S57} {x0 : S57} {lo hi hi' : Int} (h : Cov K (pre ++ [x0]) lo hi) (hh : hi < hi') (hk : ∀ t, hi ≤ t → t < hi' → K t x0.f1) : Cov K (pre ++ [⟨⟨x0.f0.f0, hi'⟩, x0.f1⟩]) lo hi' where
  ne := by simp
  pos x hx := by
    rcases List.mem_append.1 hx with hx | hx
    · have := h.pos x (by simp [hx])
      omega
    · simp only [List.mem_singleton] at hx
      subst hx
      have := h.pos x0 (by simp)
      simp only
      omega
  key x hx t h1 h2 := by
    rcases List.mem_append.1 hx with hx | hx
    · exact h.key x (by simp [hx]) t h1 h2
    · simp only [List.mem_singleton] at hx
      subst hx
      have hx0 : x0.f0.f1 = hi := h.lst x0 (by simp)
      by_cases c : t < hi
      · exact h.key x0 (by simp) t h1 (by omega)
      · exact hk t (by omega) h2
  adj j x y h1 h2 := by
    by_cases hj : j + 1 < pre.length
    · rw [List.getElem?_append_left (by omega)] at h1
      rw [List.getElem?_append_left hj] at h2
      exact h.adj j x y (by rw [List.getElem?_append_left (by omega)]; exact h1) (by rw [List.getElem?_append_left hj]; exact h2)
    · have hj2 : j + 1 < (pre ++ [(⟨⟨x0.f0.f0, hi'⟩, x0.f1⟩ : S57)]).length := (List.getElem?_eq_some_iff.1 h2).1
      simp at hj2
      have hj3 : j + 1 = pre.length := by omega
      rw [List.getElem?_append_left (by omega)] at h1
      rw [hj3] at h2
      simp at h2
      subst h2
      exact h.adj j x x0 (by rw [List.getElem?_append_left (by omega)]; exact h1) (by rw [hj3]; simp)
  fst x hx := by
    cases pre with
    | nil => simp at hx; subst hx; exact h.fst x0 (by simp)
    | cons c pre => exact h.fst x (by simpa using hx)
  lst x hx := by simp at hx; subst hx; rfl
/-- A new slot, or a longer one. -/
def put (out : List S57) (lo hi : Int) (k : ByteArray) : List S57 := match out.getLast? with
  | none => [⟨⟨lo, hi⟩, k⟩]
  | some x => if x.f1 = k then out.dropLast ++ [⟨⟨x.f0.f0, hi⟩, x.f1⟩] else out ++ [⟨⟨lo, hi⟩, k⟩]
theorem put_len (out : List S57) (lo hi : Int) (k : ByteArray) : (put out lo hi k).length ≤ out.length + 1 := by
  unfold put
  split
  · simp
  · split <;> simp
theorem put_cov {out : List S57} {lo mid hi : Int} {k : ByteArray} (h : (out = [] ∧ mid = lo) ∨ Cov K out lo mid) (hh : mid < hi) (hk : ∀ t, mid ≤ t → t < hi → K t k) : Cov K (put out mid hi k) lo hi := by
  rcases h with ⟨rfl, rfl⟩ | h
  · exact Cov.one hh hk
  · obtain ⟨pre, x, rfl⟩ : ∃ pre x, out = pre ++ [x] := by
      rcases List.eq_nil_or_concat out with e | ⟨pre, x, e⟩
      · exact absurd e h.ne
      · exact ⟨pre, x, by rw [e, List.concat_eq_append]⟩
    unfold put
    rw [List.getLast?_concat]
    simp only
    split
    · rename_i e
      subst e
      rw [List.dropLast_concat]
      exact h.more hh hk
    · rename_i e
      exact h.add hh e hk
/-- How a slot is put, in the text. -/
theorem put_text {α : Type} {x3 : List Int} {i : Int} {lo hi : Int} {out : List S57} {k : ByteArray} (hlo : listAt x3 i = some lo) (hhi : listAt x3 (addI .i64 i 1) = some hi) (hl : out.length ≤ 100000) (f : List S57 → α) :
    (bif (leI 0 (subI .i64 (lenL out) 1)) then ((idxO (List.length out) (subI .i64 (lenL out) 1)).bind fun x14 => ((getN out x14).bind fun x15 => (bif (eqS x15.f1 k) then ((listAt x3 (addI .i64 i 1)).bind fun x16 => ((idxO (List.length out) (subI .i64 (lenL out) 1)).bind fun x17 => ((getN out x17).bind fun x18 => (some (f (List.set out x17 (S57.mk (S48.mk x18.f0.f0 x16) x18.f1))))))) else ((listAt x3 i).bind fun x19 => ((listAt x3 (addI .i64 i 1)).bind fun x20 => ((appO 32 out ([(S57.mk (S48.mk x19 x20) k)] : List S57)).bind fun x21 => (some (f x21)))))))) else ((listAt x3 i).bind fun x22 => ((listAt x3 (addI .i64 i 1)).bind fun x23 => ((appO 32 out ([(S57.mk (S48.mk x22 x23) k)] : List S57)).bind fun x24 => (some (f x24)))))) = some (f (put out lo hi k)) := by
  rcases List.eq_nil_or_concat out with e | ⟨pre, x, e⟩
  · subst e
    exact cf rfl (bs hlo (bs hhi (bs (appO_big (by omega) (by simp)) rfl)))
  · rw [List.concat_eq_append] at e
    subst e
    have hl' : pre.length < 9223372036854775807 := by simp at hl; omega
    have e1 := last_len pre x hl'
    have hi2 : pre.length < (pre ++ [x]).length := by simp
    unfold put
    rw [List.getLast?_concat]
    simp only
    refine ct (leI_t (by rw [e1]; omega)) ?_
    rw [e1]
    refine bs (idx_nat hi2) (bs (last_at pre x) ?_)
    rw [eqS_iff]
    by_cases hc : x.f1 = k
    · rw [if_pos hc]
      refine ct (decide_eq_true hc) (bs hhi (bs (idx_nat hi2) (bs (last_at pre x) ?_)))
      rw [last_set, List.dropLast_concat]
    · rw [if_neg hc]
      exact cf (decide_eq_false hc) (bs hlo (bs hhi (bs (appO_big (by omega) (by simp at hl ⊢; omega)) rfl)))
end Go.Abs.TTN

set_option linter.unusedVariables false
set_option linter.unusedSimpArgs false
set_option maxRecDepth 10000
namespace Go.Abs.TTN
open Go.RowKit Go.Proofs Go.Abs
/-! Through. -/
theorem from_ok (x y : S204) : ∃ n, T170 x y = some n ∧ (n < 0 ↔ x.f1.f0 < y.f1.f0) := by
  unfold T170
  refine ⟨_, bs (t146 _ _) rfl, ?_⟩
  by_cases h : x.f1.f0 < y.f1.f0
  · simp [h]
  · by_cases h2 : y.f1.f0 < x.f1.f0
    · simp [h, h2]
    · simp [h, h2]
/-- What the sweep holds, ahead of an edge. -/
structure Sw (all : List S204) (t : Int) (op : List S204) (n : Nat) : Prop where
  nle : n ≤ all.length
  len : op.length ≤ n
  a : ∀ s ∈ op, s ∈ all ∧ s.f1.f0 ≤ t
  b : ∀ s ∈ all.take n, s ∈ op ∨ s.f1.f1 ≤ t
theorem push_ok {all : List S204} {es : List Int} {i : Int} {t : Int} {op : List S204} {n : Nat} {o : List S57} (hs : all.Pairwise fun x y => x.f1.f0 ≤ y.f1.f0) (hl : all.length ≤ 1000) (he : listAt es i = some t) (h : Sw all t op n) :
    ∃ r, iter (L98_10 es (all, o, op, (n : Int), i)) (op, (n : Int)) = some r ∧ ∃ n' : Nat, r.1 = (n' : Int) ∧ Sw all t r.2.2 n' ∧ ∀ s ∈ all.drop n', t < s.f1.f0 := by
  refine iter_meas (fun z => ∃ n : Nat, z.2 = (n : Int) ∧ Sw all t z.1 n) (fun z => ((all.length : Int) - z.2).toNat) _ ?_ _ ⟨n, rfl, h⟩
  rintro ⟨op, _⟩ ⟨n, rfl, h⟩
  simp only at h
  by_cases hn : n < all.length
  · have hx := List.getElem?_eq_getElem hn
    by_cases hc : all[n].f1.f0 ≤ t
    · left
      refine ⟨(op ++ [all[n]], ((n + 1 : Nat) : Int)), ?_, ⟨n + 1, rfl, ⟨by omega, by simp; exact h.len, ?_, ?_⟩⟩, by simp only; omega⟩
      · unfold L98_10
        refine ct (ltL_true hn) (bs (idx_nat hn) (bs (getN_some hx) (bs he (ct (leI_t hc) (bs (idx_nat hn) (bs (getN_some hx) (bs (appO_big (by omega) (by have := h.len; simp; omega)) ?_)))))))
        simp only
        rw [nextI (by omega)]
      · intro s hs'
        rcases List.mem_append.1 hs' with hs' | hs'
        · exact h.a s hs'
        · simp only [List.mem_singleton] at hs'
          subst hs'
          exact ⟨List.getElem_mem _, hc⟩
      · intro s hs'
        rw [take_next hx] at hs'
        rcases List.mem_append.1 hs' with hs' | hs'
        · rcases h.b s hs' with h1 | h1
          · exact .inl (List.mem_append_left _ h1)
          · exact .inr h1
        · exact .inl (List.mem_append_right _ hs')
    · right
      refine ⟨((n : Int), leI all[n].f1.f0 t, op), ?_, n, rfl, h, fun s hs' => ?_⟩
      · unfold L98_10
        exact ct (ltL_true hn) (bs (idx_nat hn) (bs (getN_some hx) (bs he (cf (leI_f (by omega)) rfl))))
      · obtain ⟨j, hj, rfl⟩ := List.getElem_of_mem hs'
        rw [List.getElem_drop]
        rw [List.length_drop] at hj
        by_cases hj0 : j = 0
        · subst hj0
          have : all[n + 0] = all[n] := rfl
          rw [this]
          omega
        · have := List.pairwise_iff_getElem.1 hs n (n + j) hn (by omega) (by omega)
          omega
  · right
    refine ⟨((n : Int), false, op), ?_, n, rfl, h, fun s hs' => ?_⟩
    · unfold L98_10
      exact cf (ltL_false (by simp only; omega)) rfl
    · rw [List.drop_eq_nil_of_le (by omega)] at hs'
      cases hs'
theorem through_ok {a : List S59} {p : S54} {w : S48} (ha : OkL a) (hp : OkP p) (h0 : 0 ≤ w.f0) (h1 : w.f0 < w.f1) (h2 : w.f1 ≤ 300000000000) : ∃ out, T98 a p w = some out ∧ Cov (KeyAt a p) out w.f0 w.f1 ∧ out.length ≤ 400 := by
  obtain ⟨l, hl, hl2, hl3⟩ := spans_ok ha hp h0 h1 (by omega)
  obtain ⟨all, s1, s2, s3⟩ := sortO_key (fun x y => T170 x y) (fun s => s.f1.f0) l (by omega) (fun x _ y _ => from_ok x y)
  obtain ⟨es, e1, e2, e3, e4⟩ := edges_ok hl hl2
  have hlen : all.length ≤ 160 := by rw [s2.length_eq]; exact hl2
  have hall : ∀ s, s ∈ all ↔ ∃ e, e ∈ a ∧ fitB e p = true ∧ s.f0 = some e ∧ Shown e p.f2 w s.f1 := fun s => s2.mem_iff.trans (hl3 s)
  have hwin : ∀ s ∈ all, s.f1.f0 < w.f1 ∧ w.f0 < s.f1.f1 := fun s hs => by
    obtain ⟨e, _, _, _, _, d, _, _, _, _, h5, h6⟩ := (hall s).1 hs
    exact ⟨h5, h6⟩
  have hmem : ∀ s ∈ all, max s.f1.f0 w.f0 ∈ es ∧ min s.f1.f1 w.f1 ∈ es := fun s hs => ⟨(e4 _).2 (.inr (.inr ⟨s, s2.mem_iff.1 hs, .inl rfl⟩)), (e4 _).2 (.inr (.inr ⟨s, s2.mem_iff.1 hs, .inr rfl⟩))⟩
  have w0 : w.f0 ∈ es := (e4 _).2 (.inl rfl)
  have w1 : w.f1 ∈ es := (e4 _).2 (.inr (.inl rfl))
  have hin : ∀ x ∈ es, w.f0 ≤ x ∧ x ≤ w.f1 := fun x hx => by
    rcases (e4 x).1 hx with rfl | rfl | ⟨s, hs, rfl | rfl⟩
    · omega
    · omega
    · have := hwin s (s2.mem_iff.2 hs)
      omega
    · have := hwin s (s2.mem_iff.2 hs)
      omega
  have mono : ∀ (i j : Nat) (hi : i < es.length) (hj : j < es.length), i < j → es[i] < es[j] := fun i j hi hj hij => List.pairwise_iff_getElem.1 e2 i j hi hj hij
  have hpos : 0 < es.length := List.length_pos_iff.2 (fun e => by rw [e] at w0; cases w0)
  have first : es[0] = w.f0 := by
    obtain ⟨j, hj, hj2⟩ := List.getElem_of_mem w0
    have := (hin _ (List.getElem_mem hpos)).1
    by_cases hj0 : j = 0
    · subst hj0; exact hj2
    · have := mono 0 j hpos hj (by omega)
      omega
  have last : es[es.length - 1]'(by omega) = w.f1 := by
    obtain ⟨j, hj, hj2⟩ := List.getElem_of_mem w1
    have := (hin _ (List.getElem_mem (show es.length - 1 < es.length by omega))).2
    by_cases hj0 : j = es.length - 1
    · subst hj0; exact hj2
    · have := mono j (es.length - 1) hj (by omega) (by omega)
      omega
  obtain ⟨r, r1, out, r2, r3, r4⟩ := iter_up (st := L98_8 es) (fun (s : List S57 × List S204 × Nat) (i : Nat) => (all, s.1, s.2.1, (s.2.2 : Int), (i : Int))) (es.length - 1)
    (fun i s => ∃ hi : i < es.length, ((s.1 = [] ∧ es[i] = w.f0) ∨ Cov (KeyAt a p) s.1 w.f0 es[i]) ∧ (i ≠ 0 → s.1 ≠ []) ∧ s.1.length ≤ i ∧ Sw all es[i] s.2.1 s.2.2)
    (fun r => ∃ out, r.2.2.2.1 = out ∧ (out ≠ [] → Cov (KeyAt a p) out w.f0 w.f1) ∧ out.length ≤ es.length - 1 ∧ (es.length ≠ 1 → out ≠ []))
    (fun i s hi hI => by
      obtain ⟨out, op, n⟩ := s
      obtain ⟨hi0, i1, i2, i3, i4⟩ := hI
      simp only at i1 i2 i3 i4
      have hi1 : i + 1 < es.length := by omega
      have g0 : listAt es (i : Int) = some es[i] := listAt_some (List.getElem?_eq_getElem hi0)
      have ea : addI .i64 (i : Int) 1 = ((i + 1 : Nat) : Int) := nextI (by omega)
      have g1 : listAt es (addI .i64 (i : Int) 1) = some es[i + 1] := by rw [ea]; exact listAt_some (List.getElem?_eq_getElem hi1)
      have hm := mono i (i + 1) hi0 hi1 (by omega)
      have gap : ∀ x ∈ es, x < es[i + 1] → x ≤ es[i] := fun x hx hlt => by
        obtain ⟨j, hj, rfl⟩ := List.getElem_of_mem hx
        by_cases hji : j ≤ i
        · by_cases hji2 : j = i
          · subst hji2; exact Int.le_refl _
          · exact Int.le_of_lt (mono j i hj hi0 (by omega))
        · by_cases hji2 : j = i + 1
          · subst hji2; omega
          · have := mono (i + 1) j hi1 hj (by omega)
            omega
      obtain ⟨q, q1, n', q2, q3, q4⟩ := push_ok (o := out) s3 (by omega) g0 i4
      have hdel := drop_past g0 q.2.2 (by have := q3.len; have := q3.nle; omega)
      let op2 := q.2.2.filter (keep es[i])
      have hop : ∀ s, s ∈ op2 ↔ s ∈ all ∧ s.f1.f0 ≤ es[i] ∧ es[i] < s.f1.f1 := fun s => by
        rw [List.mem_filter]
        unfold keep
        rw [ltI_iff, decide_eq_true_eq]
        constructor
        · rintro ⟨h3, h4⟩
          exact ⟨(q3.a s h3).1, (q3.a s h3).2, h4⟩
        · rintro ⟨h3, h4, h5⟩
          refine ⟨?_, h5⟩
          rw [← List.take_append_drop n' all] at h3
          rcases List.mem_append.1 h3 with h3 | h3
          · rcases q3.b s h3 with h6 | h6
            · exact h6
            · omega
          · have := q4 s h3
            omega
      have hact : ∀ t, es[i] ≤ t → t < es[i + 1] → ∀ s, s ∈ op2 ↔ Act a p t s := fun t ht1 ht2 s => by
        have hw0 := (hin _ (List.getElem_mem hi0)).1
        have hw1 := (hin _ (List.getElem_mem hi1)).2
        rw [hop s]
        constructor
        · rintro ⟨h3, h4, h5⟩
          have h6 := (hmem s h3).2
          have h7 : t < s.f1.f1 := by
            by_cases hc : min s.f1.f1 w.f1 < es[i + 1]
            · have := gap _ h6 hc
              omega
            · omega
          obtain ⟨e, ha1, ha2, ha3, hg, d, d1, d2, d3, d4, _⟩ := (hall s).1 h3
          exact ⟨e, ha1, ha2, ha3, hg, d, d1, d2, d3, d4, by simp only; omega, h7⟩
        · rintro ⟨e, ha1, ha2, ha3, hg, d, d1, d2, d3, d4, d5, d6⟩
          simp only at d5 d6
          have hs : s ∈ all := (hall s).2 ⟨e, ha1, ha2, ha3, hg, d, d1, d2, d3, d4, by omega, by omega⟩
          refine ⟨hs, ?_, by omega⟩
          have h6 := (hmem s hs).1
          have := gap _ h6 (by omega)
          omega
      have hsw : Sw all es[i + 1] op2 n' := ⟨q3.nle, Nat.le_trans (List.length_filter_le _ _) q3.len, fun s hs => ⟨((hop s).1 hs).1, by have := ((hop s).1 hs).2.1; omega⟩, fun s hs => by
        by_cases hc : s.f1.f1 ≤ es[i + 1]
        · exact .inr hc
        · rcases q3.b s hs with h3 | h3
          · exact .inl ((hop s).2 ⟨(q3.a s h3).1, (q3.a s h3).2, by omega⟩)
          · exact .inr (by omega)⟩
      have hop2 : op2.length ≤ 1000 := by have := hsw.len; have := hsw.nle; omega
      have hfull : Full op2 := act_full (hact es[i] (Int.le_refl _) hm)
      have post : ∀ k, (∀ t, es[i] ≤ t → t < es[i + 1] → KeyAt a p t k) → ∃ hi : i + 1 < es.length, ((put out es[i] es[i + 1] k = [] ∧ es[i + 1] = w.f0) ∨ Cov (KeyAt a p) (put out es[i] es[i + 1] k) w.f0 es[i + 1]) ∧ (i + 1 ≠ 0 → put out es[i] es[i + 1] k ≠ []) ∧ (put out es[i] es[i + 1] k).length ≤ i + 1 ∧ Sw all es[i + 1] op2 n' := fun k hk => by
        have hcov := put_cov (k := k) i1 hm hk
        exact ⟨hi1, .inr hcov, fun _ => hcov.ne, Nat.le_trans (put_len _ _ _ _) (by omega), hsw⟩
      by_cases hne : 0 < op2.length
      · obtain ⟨m, m1, m2⟩ := min_ok hfull hne (by omega)
        obtain ⟨e, he⟩ := hfull m m2.1
        have hk : ke m = e.f0 := by unfold ke; rw [he]; rfl
        have hlt : ltI 0 (lenL op2) = true := ltI_t (by rw [lenL_eq]; omega)
        refine ⟨(put out es[i] es[i + 1] e.f0, op2, n'), ?_, post e.f0 (fun t ht1 ht2 => .inr ⟨op2, m, hact t ht1 ht2, m2, hk.symm⟩)⟩
        unfold L98_8
        refine ct (by rw [ea]; exact ltL_true hi1) (bs q1 (bs hdel (ct hlt (bs m1 (bs he ?_)))))
        refine (put_text g0 g1 (by simp only; omega) (fun o => (Sum.inl (all, o, op2, q.1, addI .i64 (i : Int) 1) : _ ⊕ _))).trans ?_
        rw [q2, ea]
      · have hnil : op2 = [] := List.eq_nil_of_length_eq_zero (by omega)
        have hlt : ltI 0 (lenL op2) = false := ltI_f (by rw [lenL_eq]; omega)
        refine ⟨(put out es[i] es[i + 1] (.mk #[]), op2, n'), ?_, post _ (fun t ht1 ht2 => .inl ⟨fun s hs => ?_, rfl⟩)⟩
        · unfold L98_8
          refine ct (by rw [ea]; exact ltL_true hi1) (bs q1 (bs hdel (cf hlt ?_)))
          refine (put_text g0 g1 (by simp only; omega) (fun o => (Sum.inl (all, o, op2, q.1, addI .i64 (i : Int) 1) : _ ⊕ _))).trans ?_
          rw [q2, ea]
        · have := (hact t ht1 ht2 s).2 hs
          rw [hnil] at this
          cases this)
    (fun s hI => by
      obtain ⟨out, op, n⟩ := s
      obtain ⟨hi0, i1, i2, i3, i4⟩ := hI
      simp only at i1 i2 i3 i4
      have hf : ltI (addI .i64 ((es.length - 1 : Nat) : Int) 1) (lenL es) = false := by
        rw [nextI (by omega)]
        exact ltL_false (by omega)
      refine ⟨((n : Int), false, all, out, op, ((es.length - 1 : Nat) : Int)), ?_, out, rfl, fun hne => ?_, i3, fun hne => i2 (by omega)⟩
      · unfold L98_8
        refine cf hf ?_
        simp only
        rw [hf]
      · rcases i1 with ⟨i1, _⟩ | i1
        · exact absurd i1 hne
        · rw [last] at i1
          exact i1) ([], [], 0) ⟨hpos, .inl ⟨rfl, first⟩, fun h => absurd rfl h, Nat.le_refl _, ⟨Nat.zero_le _, Nat.le_refl _, fun s hs => (by cases hs), fun s hs => (by simp at hs)⟩⟩
  have hne : es.length ≠ 1 := fun h => by
    have : es[0] = w.f1 := by
      have e : es.length - 1 = 0 := by omega
      rw [← last]
      simp only [e]
    omega
  have r1 : iter (L98_8 es) (all, [], [], 0, 0) = some r := r1
  refine ⟨r.2.2.2.1, ?_, by rw [r2]; exact r3 (r4.2 hne), by rw [r2]; omega⟩
  unfold T98
  exact bs hl (bs s1 (bs e1 (bs r1 rfl)))
end Go.Abs.TTN

set_option linter.unusedVariables false
set_option linter.unusedSimpArgs false
set_option maxRecDepth 10000
namespace Go.Abs.TTN
open Go.RowKit Go.Proofs Go.Abs
/-! Up to the moment that Next tells nothing changes, and there something does. -/
theorem on_key {a : List S59} {p : S54} {t : Int} (ha : OkL a) (hp : OkP p) (h0 : 0 ≤ t) (h1 : t < 345686400000) : ∃ k b, T39 a p t = some (k, b, 0) ∧ KeyAt a p t k := by
  rcases on_ok ha hp h0 h1 with ⟨hn, h3⟩ | ⟨l, m, hl, hb, h3, _⟩
  · exact ⟨_, _, h3, .inl ⟨hn, rfl⟩⟩
  · exact ⟨_, _, h3, .inr ⟨l, m, hl, hb, rfl⟩⟩
theorem key_same {a : List S59} {p : S54} {t : Int} {k k' : ByteArray} (h : KeyAt a p t k) (h' : KeyAt a p t k') : k = k' := by
  rcases h with ⟨hn, rfl⟩ | ⟨l, m, hl, hb, rfl⟩
  · rcases h' with ⟨_, rfl⟩ | ⟨l', m', hl', hb', rfl⟩
    · rfl
    · exact absurd ((hl' m').1 hb'.1) (hn m')
  · rcases h' with ⟨hn, rfl⟩ | ⟨l', m', hl', hb', rfl⟩
    · exact absurd ((hl m).1 hb.1) (hn m)
    · exact best_key (fun y => (hl y).trans (hl' y).symm) hb hb'
theorem next_is {a : List S59} {p : S54} {t : Int} (ha : OkL a) (hp : OkP p) (h0 : 0 ≤ t) (h1 : t ≤ 900000000) :
    ∃ n k, T38 a p t = some (n, 0) ∧ ((n = -1 ∧ ∀ x, t ≤ x → x ≤ t + 34560000000 → KeyAt a p x k) ∨ (t < n ∧ n ≤ t + 34560000001 ∧ (∀ x, t ≤ x → x < n → KeyAt a p x k) ∧ ∃ k', KeyAt a p n k' ∧ k ≠ k')) := by
  have e1 : addI .i64 t 34560000000 = t + 34560000000 := addI_eq (by omega) (by omega)
  have e2 : addI .i64 (t + 34560000000) 1 = t + 34560000001 := by rw [addI_eq (by omega) (by omega)]; omega
  have e3 : minI (t + 34560000001) 345686400000 = t + 34560000001 := by rw [minI_eq]; omega
  have hm := moment_ok (l := a) (p := p) (t := t) ha hp h0 (by omega)
  obtain ⟨out, o1, oc, ol⟩ := through_ok (w := ⟨t, t + 34560000001⟩) ha hp h0 (by simp only; omega) (by simp only; omega)
  simp only at oc
  have hpos : 0 < out.length := List.length_pos_iff.2 oc.ne
  have hx0 := List.getElem?_eq_getElem hpos
  have f0 := oc.fst _ hx0
  have k0 := oc.key _ (List.getElem_mem hpos)
  by_cases hc : out.length < 2
  · refine ⟨-1, out[0].f1, ?_, .inl ⟨rfl, fun x h2 h3 => k0 x (by omega) ?_⟩⟩
    · unfold T38
      rw [e1, e2, e3]
      exact bs hm (cf (neI_no 0) (bs o1 (ct (ltI_t (by rw [lenL_eq]; omega)) rfl)))
    · have hl : out[out.length - 1]? = some out[0] := by
        have : out.length - 1 = 0 := by omega
        rw [this]; exact hx0
      have := oc.lst _ hl
      omega
  · have h1' : 1 < out.length := by omega
    have hx1 := List.getElem?_eq_getElem h1'
    obtain ⟨c1, c2⟩ := oc.adj 0 _ _ hx0 hx1
    have p0 := oc.pos _ (List.getElem_mem hpos)
    have p1 := oc.pos _ (List.getElem_mem h1')
    refine ⟨out[1].f0.f0, out[0].f1, ?_, .inr ⟨by omega, by omega, fun x h2 h3 => k0 x (by omega) (by omega), out[1].f1, oc.key _ (List.getElem_mem h1') _ (Int.le_refl _) p1.1, c2⟩⟩
    unfold T38
    rw [e1, e2, e3]
    exact bs hm (cf (neI_no 0) (bs o1 (cf (ltI_f (by rw [lenL_eq]; omega)) (bs (idx_nat (i := 1) h1') (bs (getN_some hx1) rfl)))))
theorem loop_ok {L : List Int} {s : Int} {a : List S59} {p : S54} {t e t' e' : Int} {k : ByteArray} {st : List Int × Int × Int → Option ((List Int × Int × Int) ⊕ ((Int × Bool × List Int × Int) ⊕ Unit))} (hL : L.length ≤ 1048576) (s0 : 0 ≤ s) (s1 : s ≤ 1000000) (ha : OkL a) (hp : OkP p) (h0 : 0 ≤ t) (h1 : t < e) (h2 : e ≤ 300000000000)
    (hk : ∀ x, t ≤ x → x < e → KeyAt a p x k) (ht : t' = t) (he : e' = e)
    (hst : ∀ z, st z = (bif (ltI z.2.2 4) then ((T14 z.1 z.2.1 0 1000).bind fun x8 => ((T39 a p (addI .i64 t' (mulI .i64 (quoI .i64 (subI .i64 (subI .i64 e' 1) t') 1000) x8.1))).bind fun x9 => (bif (neI x9.2.2 0) then (some (.inr (.inr ()))) else (bif (!eqS x9.1 k) then (some (.inr (.inr ()))) else (some (.inl (x8.2.1, x8.2.2, (addI .i64 z.2.2 1)))))))) else (some (.inr (.inl (z.2.2, (ltI z.2.2 4), z.1, z.2.1)))))) :
    ∃ y, iter st (L, s, 0) = some (.inl y) := by
  subst ht
  subst he
  have e1 : subI .i64 e' 1 = e' - 1 := subI_eq (by omega) (by omega)
  have e2 : subI .i64 (e' - 1) t' = e' - 1 - t' := subI_eq (by omega) (by omega)
  have m1 := Int.mul_tdiv_add_tmod (e' - 1 - t') 1000
  have m2 := Int.tmod_lt_of_pos (e' - 1 - t') (show (0 : Int) < 1000 by decide)
  have m3 := Int.tmod_nonneg 1000 (show 0 ≤ e' - 1 - t' by omega)
  have e3 : quoI .i64 (e' - 1 - t') 1000 = (e' - 1 - t').tdiv 1000 := by
    unfold quoI
    exact IntWalk.i64_in _ ⟨by omega, by omega⟩
  have hq : 0 ≤ (e' - 1 - t').tdiv 1000 := by omega
  have hq2 : (e' - 1 - t').tdiv 1000 * 1000 ≤ e' - 1 - t' := by omega
  obtain ⟨r, r1, y, rfl⟩ := iter_up (st := st) (fun (s : Int) (i : Nat) => (L, s, (i : Int))) 4 (fun i x => 0 ≤ x ∧ x ≤ s + i) (fun r => ∃ y, r = .inl y)
    (fun i x hi hI => by
      obtain ⟨v, v1, v2, v3⟩ := range_ok (at_ := x) (lo := 0) (hi := 1000) hL hI.1 (by omega) (by omega) (by omega) (by omega)
      have n1 : 0 ≤ (e' - 1 - t').tdiv 1000 * v := Int.mul_nonneg hq (by omega)
      have n2 : (e' - 1 - t').tdiv 1000 * v ≤ (e' - 1 - t').tdiv 1000 * 1000 := Int.mul_le_mul_of_nonneg_left (by omega) hq
      have e4 : mulI .i64 ((e' - 1 - t').tdiv 1000) v = (e' - 1 - t').tdiv 1000 * v := mulI_eq (by omega) (by omega)
      have e5 : addI .i64 t' ((e' - 1 - t').tdiv 1000 * v) = t' + (e' - 1 - t').tdiv 1000 * v := addI_eq (by omega) (by omega)
      obtain ⟨k', b, o1, o2⟩ := on_key (t := t' + (e' - 1 - t').tdiv 1000 * v) ha hp (by omega) (by omega)
      have hkk := key_same o2 (hk (t' + (e' - 1 - t').tdiv 1000 * v) (by omega) (by omega))
      subst hkk
      refine ⟨x + 1, ?_, by omega, by omega⟩
      rw [hst]
      refine ct (ltI_t (by simp only; omega)) (bs v1 ?_)
      simp only
      rw [e1, e2, e3, e4, e5]
      refine bs o1 (cf (neI_no 0) (cf ?_ ?_))
      · simp only
        rw [eqS_self]
        rfl
      · rw [nextI (by omega)])
    (fun x hI => by
      refine ⟨.inl ((4 : Int), false, L, x), ?_, _, rfl⟩
      rw [hst]
      exact cf rfl rfl) s ⟨by omega, by omega⟩
  exact ⟨y, r1⟩
theorem plain (p0 : (List Int)) (h0 : (p0.length ≤ 1048576 ∧ ∀ x ∈ p0, okI x)) : T7 p0 = some true := by
  have hL := h0.1
  obtain ⟨a, at0, a1, ha, a2, a3⟩ := entries_ok (L := p0) hL
  obtain ⟨p, p1, hp⟩ := player_drawn (L := p0) (at_ := at0) hL a2 (by omega)
  obtain ⟨d, l1, l2, l3⟩ := range_ok (at_ := at0 + 2) (lo := 0) (hi := 9) hL (by omega) (by omega) (by omega) (by omega) (by omega)
  obtain ⟨m, g1, g2⟩ := pick_ok (L := p0) (at_ := at0 + 2 + 1) (xs := [0, 1, 36000000]) hL (by omega) (by omega) (by decide) (by decide)
  have hm : 0 ≤ m ∧ m ≤ 36000000 := by simp at g2; omega
  have e1 : mulI .i64 d 86400000 = d * 86400000 := mulI_eq (by omega) (by omega)
  have e2 : addI .i64 (d * 86400000) m = d * 86400000 + m := addI_eq (by omega) (by omega)
  have et : addI .i64 (mulI .i64 d 86400000) m = d * 86400000 + m := by rw [e1, e2]
  have t0 : 0 ≤ d * 86400000 + m := by omega
  have t1 : d * 86400000 + m ≤ 900000000 := by omega
  obtain ⟨n, k, n1, n2⟩ := next_is (t := d * 86400000 + m) ha hp t0 t1
  obtain ⟨k0, b, o1, o2⟩ := on_key (t := d * 86400000 + m) ha hp t0 (by omega)
  have kk : KeyAt a p (d * 86400000 + m) k := by
    rcases n2 with ⟨_, h⟩ | ⟨h1, _, h, _⟩
    · exact h _ (by omega) (by omega)
    · exact h _ (by omega) h1
  have := key_same o2 kk
  subst this
  unfold T7
  refine bs a1 (bs p1 (bs l1 (bs g1 ?_)))
  simp only
  rw [et]
  refine bs n1 (bs o1 (cf (neI_no 0) (cf (neI_no 0) ?_)))
  rcases n2 with ⟨rfl, h⟩ | ⟨h1, h2, h, k', hk', hne⟩
  · refine cf rfl (cf rfl ?_)
    have ee : addI .i64 (d * 86400000 + m) 34560000000 = d * 86400000 + m + 34560000000 := addI_eq (by omega) (by omega)
    obtain ⟨y, r1⟩ := loop_ok (s := at0 + 2 + 1 + 1) (e := d * 86400000 + m + 34560000000) (k := k0) hL (by omega) (by omega) ha hp t0 (by omega) (by omega) (fun x hx1 hx2 => h x hx1 (by omega)) et ((congrArg (fun t => addI .i64 t 34560000000) et).trans ee) (st := L7_14_v3 (a, p0, at0) (p, p0, at0 + 2) (d, p0, at0 + 2 + 1) (m, p0, at0 + 2 + 1 + 1) (k0, b, 0)) (fun z => rfl)
    exact bs r1 (si (bs ready_ok rfl))
  · obtain ⟨k2, b2, q1, q2⟩ := on_key (t := n) ha hp (by omega) (by omega)
    have hq := key_same q2 hk'
    subst hq
    refine ct (neI_t (by omega)) (cf (leI_f h1) (ct (leI_t (by omega)) (bs q1 (cf (neI_no 0) (cf ?_ ?_)))))
    · simp only
      rw [eqS_iff]
      exact decide_eq_false fun e => hne e.symm
    · obtain ⟨y, r1⟩ := loop_ok (s := at0 + 2 + 1 + 1) (e := n) (k := k0) hL (by omega) (by omega) ha hp t0 h1 (by omega) h et rfl (st := L7_14 (a, p0, at0) (p, p0, at0 + 2) (d, p0, at0 + 2 + 1) (m, p0, at0 + 2 + 1 + 1) (n, 0) (k0, b, 0)) (fun z => rfl)
      exact bs r1 (si (bs ready_ok rfl))
end Go.Abs.TTN
