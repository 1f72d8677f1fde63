import Derived.Test.YtehmcdmjhdlcgaaGreatDoorATKFR
import Derived.Test.YtehmcdmjhdlcgaaGreatDoorAPlS
import Derived.Test.YtehmcdmjhdlcgaaGreatDoorAPl
set_option linter.unusedVariables false
set_option linter.unusedSimpArgs false
set_option maxRecDepth 10000
namespace Go.Abs.TKF
open Go.RowKit Go.Proofs Go.Abs
/-! The two rectangles of 'lit'. -/
theorem lit_sort1 (x : S182) : sortO (fun x y => T129 x y) [x] = some [x] := by
  obtain ⟨l', h1, h2, _⟩ := sortO_le (fun x y => T129 x y) (fun _ _ => True) (fun _ _ => .inl trivial) (fun _ _ _ _ _ => trivial) [x] (by simp) (by
    intro a ha b hb
    simp only [List.mem_singleton] at ha hb
    subst ha; subst hb
    refine ⟨_, rfl, ?_⟩
    have : subI .i64 b.f0 b.f0 = 0 := by unfold subI; rw [Int.sub_self]; rfl
    simp [this])
  rw [h1, List.perm_singleton.1 h2]
theorem lit_sort2 : sortO (fun x y => T129 x y) [⟨0, 2⟩, ⟨1, 3⟩] = some [⟨0, 2⟩, ⟨1, 3⟩] := by
  obtain ⟨l', h1, h2, h3⟩ := sortO_key (fun x y => T129 x y) (·.f0) [⟨0, 2⟩, ⟨1, 3⟩] (by simp) (by
    intro a ha b hb
    simp only [List.mem_cons, List.not_mem_nil, or_false] at ha hb
    rcases ha with rfl | rfl <;> rcases hb with rfl | rfl <;> exact ⟨_, rfl, by decide⟩)
  rw [h1]
  congr 1
  match l', h2.length_eq with
  | [a, b], _ =>
    have ha : a ∈ [(⟨0, 2⟩ : S182), ⟨1, 3⟩] := h2.mem_iff.1 (by simp)
    have hb : b ∈ [(⟨0, 2⟩ : S182), ⟨1, 3⟩] := h2.mem_iff.1 (by simp)
    have hp := h2.countP_eq (fun x : S182 => x.f0 == 0)
    simp only [List.mem_cons, List.not_mem_nil, or_false] at ha hb
    simp only [List.pairwise_cons, List.mem_singleton, forall_eq] at h3
    rcases ha with rfl | rfl <;> rcases hb with rfl | rfl
    · simp at hp
    · rfl
    · have := h3.1
      simp at this
    · simp at hp
abbrev r0 : S28 := S28.mk 0 0 2 2
abbrev r1 : S28 := S28.mk 1 1 2 2
theorem runs_nil (y : Int) : T106 [] y = some [] := by
  unfold T106
  rw [iter_run (r := (0, false, [])) 1 (by kernel_rfl)]
  simp only [Option.bind_some]
  rw [show sortO (fun x y => T129 x y) ([] : List S182) = some [] from by simp [sortO], Option.bind_some, iter_run (r := (0, false, [], [])) 1 (by kernel_rfl)]
  rfl
theorem runs0 : T106 [r0, r1] 0 = some [⟨0, 2⟩] := by
  unfold T106
  rw [iter_run (r := (2, false, [⟨0, 2⟩])) 3 (by kernel_rfl)]
  simp only [Option.bind_some]
  rw [lit_sort1, Option.bind_some, iter_run (r := (1, false, [⟨0, 2⟩], [⟨0, 2⟩])) 2 (by kernel_rfl)]
  rfl
theorem runs1 : T106 [r0, r1] 1 = some [⟨0, 3⟩] := by
  unfold T106
  rw [iter_run (r := (2, false, [⟨0, 2⟩, ⟨1, 3⟩])) 3 (by kernel_rfl)]
  simp only [Option.bind_some]
  rw [lit_sort2, Option.bind_some, iter_run (r := (2, false, [⟨0, 3⟩], [⟨0, 2⟩, ⟨1, 3⟩])) 3 (by kernel_rfl)]
  rfl
theorem runs2 : T106 [r0, r1] 2 = some [⟨1, 3⟩] := by
  unfold T106
  rw [iter_run (r := (2, false, [⟨1, 3⟩])) 3 (by kernel_rfl)]
  simp only [Option.bind_some]
  rw [lit_sort1, Option.bind_some, iter_run (r := (1, false, [⟨1, 3⟩], [⟨1, 3⟩])) 2 (by kernel_rfl)]
  rfl
theorem less_nil (x : S182) (hx : ltI x.f0 x.f1 = true) : T105 [x] [] = some [x] := by
  have h : L105_4 [x] [] ([], 0, 0) = some (.inl ([x], 0, 1)) := by
    unfold L105_4
    have e1 : ltI ((([], 0, 0) : List S182 × Int × Int).2.2) (lenL [x]) = true := rfl
    have e2 : listAt [x] ((([], 0, 0) : List S182 × Int × Int).2.2) = some x := rfl
    rw [e1, e2]
    simp only [cond_true, Option.bind_some]
    rw [iter_run (r := (0, false)) 1 (by kernel_rfl), Option.bind_some, iter_run (r := (0, false, [], x.f0)) 1 (by kernel_rfl)]
    simp only [Option.bind_some, hx, cond_true]
    rfl
  unfold T105
  rw [iter_inl h, iter_inr (r := (0, 1, false, [x])) (by kernel_rfl)]
  rfl
theorem same_no (a b : S182) (h : allB [eqI a.f0 b.f0, eqI a.f1 b.f1] = false) : T107 [a] [b] = some false := by
  unfold T107
  rw [iter_inr (r := .inr ()) (by
    unfold L107_4
    have e1 : ltI 0 (lenL [a]) = true := rfl
    have e2 : listAt [a] 0 = some a := rfl
    have e3 : listAt [b] 0 = some b := rfl
    rw [e1, e2, e3]
    simp only [cond_true, Option.bind_some, h, Bool.not_false])]
  rfl
theorem lit_region : T60 [r0, r1] [] = some [⟨0, 0, 2, 1⟩, ⟨0, 1, 3, 1⟩, ⟨1, 2, 2, 1⟩] := by
  unfold T60 T21
  rw [iter_run (r := (2, 2, false)) 3 (by kernel_rfl)]
  simp only [Option.bind_some]
  rw [show growO S28 32 2 = some [] by unfold growO; rw [if_pos (by decide)], Option.bind_some, iter_run (r := (2, false, [r0, r1])) 3 (by kernel_rfl)]
  simp only [Option.bind_some]
  rw [iter_run (r := (2, false, [0, 2, 1, 3], [r0, r1])) 3 (by kernel_rfl)]
  simp only [Option.bind_some]
  rw [show sortIO [0, 2, 1, 3] = some [0, 1, 2, 3] by
    unfold sortIO
    rw [if_pos (by simp), sortI_of (l' := [0, 1, 2, 3]) (by decide) (by decide)]]
  simp only [Option.bind_some]
  rw [show compIO [0, 1, 2, 3] = some [0, 1, 2, 3] by decide]
  simp only [Option.bind_some]
  have s0 : L60_13 [r0, r1] [] [0, 1, 2, 3] ([0, 1, 2, 3], [], [], 0, 0) = some (.inl ([0, 1, 2, 3], [], [⟨0, 2⟩], 0, 1)) := by
    unfold L60_13
    rw [show ltI ((([0, 1, 2, 3], [], [], 0, 0) : List Int × List S28 × List S182 × Int × Int).2.2.2.2) (lenL ([0, 1, 2, 3] : List Int)) = true by decide]
    simp only [cond_true]
    rw [show idxO (List.length ([0, 1, 2, 3] : List Int)) 0 = some 0 by decide]
    simp only [Option.bind_some]
    rw [show getN ([0, 1, 2, 3] : List Int) 0 = some 0 by decide]
    simp only [Option.bind_some]
    rw [show ltI (addI .i64 0 1) (lenL ([0, 1, 2, 3] : List Int)) = true by decide]
    simp only [cond_true]
    rw [runs0, runs_nil]
    simp only [Option.bind_some]
    rw [less_nil ⟨0, 2⟩ (by decide)]
    simp only [Option.bind_some]
    rw [show T107 [] [⟨0, 2⟩] = some false by unfold T107; rfl]
    simp only [Option.bind_some, cond_false]
    rw [iter_run (r := (0, false, [0, 1, 2, 3], [])) 1 (by kernel_rfl)]
    rfl
  have s1 : L60_13 [r0, r1] [] [0, 1, 2, 3] ([0, 1, 2, 3], [], [⟨0, 2⟩], 0, 1) = some (.inl ([0, 1, 2, 3], [⟨0, 0, 2, 1⟩], [⟨0, 3⟩], 1, 2)) := by
    unfold L60_13
    rw [show ltI ((([0, 1, 2, 3], [], [⟨0, 2⟩], 0, 1) : List Int × List S28 × List S182 × Int × Int).2.2.2.2) (lenL ([0, 1, 2, 3] : List Int)) = true by decide]
    simp only [cond_true]
    rw [show idxO (List.length ([0, 1, 2, 3] : List Int)) 1 = some 1 by decide]
    simp only [Option.bind_some]
    rw [show getN ([0, 1, 2, 3] : List Int) 1 = some 1 by decide]
    simp only [Option.bind_some]
    rw [show ltI (addI .i64 1 1) (lenL ([0, 1, 2, 3] : List Int)) = true by decide]
    simp only [cond_true]
    rw [runs1, runs_nil]
    simp only [Option.bind_some]
    rw [less_nil ⟨0, 3⟩ (by decide)]
    simp only [Option.bind_some]
    rw [same_no _ _ (by decide)]
    simp only [Option.bind_some, cond_false]
    rw [iter_run (r := (1, false, [0, 1, 2, 3], [⟨0, 0, 2, 1⟩])) 2 (by kernel_rfl)]
    rfl
  have s2 : L60_13 [r0, r1] [] [0, 1, 2, 3] ([0, 1, 2, 3], [⟨0, 0, 2, 1⟩], [⟨0, 3⟩], 1, 2) = some (.inl ([0, 1, 2, 3], [⟨0, 0, 2, 1⟩, ⟨0, 1, 3, 1⟩], [⟨1, 3⟩], 2, 3)) := by
    unfold L60_13
    rw [show ltI ((([0, 1, 2, 3], [⟨0, 0, 2, 1⟩], [⟨0, 3⟩], 1, 2) : List Int × List S28 × List S182 × Int × Int).2.2.2.2) (lenL ([0, 1, 2, 3] : List Int)) = true by decide]
    simp only [cond_true]
    rw [show idxO (List.length ([0, 1, 2, 3] : List Int)) 2 = some 2 by decide]
    simp only [Option.bind_some]
    rw [show getN ([0, 1, 2, 3] : List Int) 2 = some 2 by decide]
    simp only [Option.bind_some]
    rw [show ltI (addI .i64 2 1) (lenL ([0, 1, 2, 3] : List Int)) = true by decide]
    simp only [cond_true]
    rw [runs2, runs_nil]
    simp only [Option.bind_some]
    rw [less_nil ⟨1, 3⟩ (by decide)]
    simp only [Option.bind_some]
    rw [same_no _ _ (by decide)]
    simp only [Option.bind_some, cond_false]
    rw [iter_run (r := (1, false, [0, 1, 2, 3], [⟨0, 0, 2, 1⟩, ⟨0, 1, 3, 1⟩])) 2 (by kernel_rfl)]
    rfl
  have s3 : L60_13 [r0, r1] [] [0, 1, 2, 3] ([0, 1, 2, 3], [⟨0, 0, 2, 1⟩, ⟨0, 1, 3, 1⟩], [⟨1, 3⟩], 2, 3) = some (.inl ([0, 1, 2, 3], [⟨0, 0, 2, 1⟩, ⟨0, 1, 3, 1⟩, ⟨1, 2, 2, 1⟩], [], 3, 4)) := by
    unfold L60_13
    rw [show ltI ((([0, 1, 2, 3], [⟨0, 0, 2, 1⟩, ⟨0, 1, 3, 1⟩], [⟨1, 3⟩], 2, 3) : List Int × List S28 × List S182 × Int × Int).2.2.2.2) (lenL ([0, 1, 2, 3] : List Int)) = true by decide]
    simp only [cond_true]
    rw [show idxO (List.length ([0, 1, 2, 3] : List Int)) 3 = some 3 by decide]
    simp only [Option.bind_some]
    rw [show getN ([0, 1, 2, 3] : List Int) 3 = some 3 by decide]
    simp only [Option.bind_some]
    rw [show ltI (addI .i64 3 1) (lenL ([0, 1, 2, 3] : List Int)) = false by decide]
    simp only [cond_false]
    rw [show T107 [⟨1, 3⟩] [] = some false by unfold T107; rfl]
    simp only [Option.bind_some, cond_false]
    rw [iter_run (r := (1, false, [0, 1, 2, 3], [⟨0, 0, 2, 1⟩, ⟨0, 1, 3, 1⟩, ⟨1, 2, 2, 1⟩])) 2 (by kernel_rfl)]
    rfl
  rw [iter_inl s0, iter_inl s1, iter_inl s2, iter_inl s3, iter_inr (r := ([], 3, 4, false, [0, 1, 2, 3], [⟨0, 0, 2, 1⟩, ⟨0, 1, 3, 1⟩, ⟨1, 2, 2, 1⟩])) (by kernel_rfl)]
  rfl
theorem lit_area : T20 [r0, r1] = some (7, 0) := by
  unfold T20 T58 T61
  rw [iter_run (r := .inl (2, false)) 3 (by kernel_rfl)]
  rw [show (bif ltI 2000 (lenL ([r0, r1] : List S28)) then (some 2 : Option Int) else (some (Sum.inl (2, false) : (Int × Bool) ⊕ Int)).bind fun y3 => (Sum.elim (fun y3a => some 0) (fun y3b => some y3b) y3)) = some 0 by decide]
  simp only [Option.bind_some]
  rw [show neI 0 0 = false by decide]
  simp only [cond_false]
  rw [lit_region]
  simp only [Option.bind_some]
  rw [iter_run (r := (7, 3, false)) 4 (by kernel_rfl)]
  rfl
/-! All that 'ready' asks. -/
theorem r45 : T45 (S94.mk (ByteArray.mk #[97]) (ByteArray.mk #[]) (S92.mk 0 100) [] 10 0 0) 50 = some (5, 0) := by kernel_rfl
theorem r42 : T42 ([(S87.mk (ByteArray.mk #[112]) 0 100), (S87.mk (ByteArray.mk #[112]) 1000 1300)] : List S87) (ByteArray.mk #[112]) 700 = some (500, 0) := by kernel_rfl
theorem r67 : T67 (S136.mk (ByteArray.mk #[97]) (ByteArray.mk #[98]) 0 0 0 1 127 [] 1 2 0 [] false) 0 (S92.mk 0 86400000) = some ([S92.mk 60000 120000], 0) := by kernel_rfl
theorem r68 : T68 (S138.mk (ByteArray.mk #[97]) (ByteArray.mk #[115]) 1 [] 0 5 1 ([(S28.mk 0 0 2 2)] : List S28) (ByteArray.mk #[120])) (S142.mk (ByteArray.mk #[112]) 1 1) = some (true, 0) := by kernel_rfl
theorem ready_ok : T26 = some true := by
  unfold T26
  rw [lit_area, r45, r42, r67, r68]
  simp only [Option.bind_some]
  kernel_rfl
end Go.Abs.TKF

set_option linter.unusedVariables false
set_option linter.unusedSimpArgs false
set_option maxRecDepth 10000
namespace Go.Abs.TKF
open Go.RowKit Go.Proofs Go.Abs
/-! Sides. -/
structure Sd (a : Int) : Prop where
  lo : 1 ≤ a
  hi : a ≤ 20000
theorem sd_mul {a b : Int} (ha : Sd a) (hb : Sd b) : mulI .i64 a b = a * b ∧ 1 ≤ a * b ∧ a * b ≤ 400000000 := by
  have h1 : 1 ≤ a * b := by
    have := Int.mul_le_mul ha.lo hb.lo (by decide) (by have := ha.lo; omega)
    omega
  have h2 : a * b ≤ 20000 * 20000 := Int.mul_le_mul ha.hi hb.hi (by have := hb.lo; omega) (by decide)
  exact ⟨mulI_eq (by omega) (by omega), h1, by omega⟩
theorem t70_in {a b c : Int} (h1 : b ≤ a) (h2 : a ≤ c) : T70 a b c = some false := by
  unfold T70 ltI
  rw [decide_eq_false (by omega), decide_eq_false (by omega)]
  rfl
theorem t69_in {a : Int} (h : Sd a) : T69 a = some true := by
  unfold T69
  rw [t70_in h.lo h.hi]
  rfl
theorem t72_in {a b c d : Int} (ha : Sd a) (hb : Sd b) (hc : Sd c) (hd : Sd d) : T72 [a, b, c, d] = some 0 := by
  unfold T72
  have h0 : L72_2 [a, b, c, d] 0 = some (.inl 1) := by
    unfold L72_2
    rw [show ltI 0 (lenL [a, b, c, d]) = true by rfl, show listAt [a, b, c, d] 0 = some a by rfl]
    simp only [cond_true, Option.bind_some, t69_in ha]
    rfl
  have h1 : L72_2 [a, b, c, d] 1 = some (.inl 2) := by
    unfold L72_2
    rw [show ltI 1 (lenL [a, b, c, d]) = true by rfl, show listAt [a, b, c, d] 1 = some b by rfl]
    simp only [cond_true, Option.bind_some, t69_in hb]
    rfl
  have h2 : L72_2 [a, b, c, d] 2 = some (.inl 3) := by
    unfold L72_2
    rw [show ltI 2 (lenL [a, b, c, d]) = true by rfl, show listAt [a, b, c, d] 2 = some c by rfl]
    simp only [cond_true, Option.bind_some, t69_in hc]
    rfl
  have h3 : L72_2 [a, b, c, d] 3 = some (.inl 4) := by
    unfold L72_2
    rw [show ltI 3 (lenL [a, b, c, d]) = true by rfl, show listAt [a, b, c, d] 3 = some d by rfl]
    simp only [cond_true, Option.bind_some, t69_in hd]
    rfl
  rw [iter_inl h0, iter_inl h1, iter_inl h2, iter_inl h3, iter_inr (r := .inl (4, false)) rfl]
  rfl
theorem mid_ok {a t : Int} (h1 : 1 ≤ a) (h2 : a ≤ t) (h3 : t ≤ 20000) : 0 ≤ quoI .i64 (subI .i64 t a) 2 ∧ quoI .i64 (subI .i64 t a) 2 + a ≤ t ∧ (a = t → quoI .i64 (subI .i64 t a) 2 = 0) := by
  have e : quoI .i64 (subI .i64 t a) 2 = (t - a) / 2 := by
    rw [subI_eq (by omega) (by omega)]
    unfold quoI
    rw [Int.tdiv_eq_ediv_of_nonneg (by omega)]
    exact IntWalk.i64_in _ ⟨by omega, by omega⟩
  rw [e]
  omega
/-- One side that is fitted. -/
theorem fit_one {m n w t : Int} (hm : Sd m) (hn : Sd n) (hw : Sd w) (ht : Sd t) (hle : m * n ≤ w * t) : ∃ q, quoO .i64 (mulI .i64 m n) w = some q ∧ 1 ≤ max 1 q ∧ max 1 q ≤ t ∧ m * n - max 1 q * w < w ∧ max 1 q * w - m * n < w := by
  obtain ⟨e1, e2, e3⟩ := sd_mul hm hn
  have hw1 := hw.lo
  have hw2 := hw.hi
  have ht1 := ht.lo
  rw [e1]
  generalize m * n = A at *
  have hq : quoO .i64 A w = some (A / w) := by
    have h0 : 0 ≤ A / w := Int.ediv_nonneg (by omega) (by omega)
    have h1 : A / w ≤ A := Int.ediv_le_self _ (by omega)
    unfold quoO
    rw [if_neg (by omega), Int.tdiv_eq_ediv_of_nonneg (by omega)]
    congr 1
    exact IntWalk.i64_in _ ⟨by omega, by omega⟩
  have h2 : A / w * w ≤ A := Int.ediv_mul_le _ (by omega)
  have h3 : A < (A / w + 1) * w := Int.lt_ediv_add_one_mul_self _ (by omega)
  have h4 : A / w ≤ t := Int.ediv_le_of_le_mul (by omega) (by rw [Int.mul_comm]; exact hle)
  have h5 : 0 ≤ A / w := Int.ediv_nonneg (by omega) (by omega)
  refine ⟨A / w, hq, by omega, by omega, ?_⟩
  generalize A / w = q at *
  rw [Int.add_mul] at h3
  by_cases h : 1 ≤ q
  · rw [show max 1 q = q by omega]
    omega
  · rw [show max 1 q = 1 by omega]
    have : q = 0 := by omega
    subst this
    omega
/-- What is fitted: within, and of a form that is near. -/
structure Ft (w h tw th : Int) (of on : S28) : Prop where
  a : 0 ≤ of.f0 ∧ 0 ≤ of.f1 ∧ 1 ≤ of.f2 ∧ 1 ≤ of.f3 ∧ of.f0 + of.f2 ≤ w ∧ of.f1 + of.f3 ≤ h
  b : 0 ≤ on.f0 ∧ 0 ≤ on.f1 ∧ 1 ≤ on.f2 ∧ 1 ≤ on.f3 ∧ on.f0 + on.f2 ≤ tw ∧ on.f1 + on.f3 ≤ th
def Near (a b w h : Int) (p q : Prop) : Prop := (p ∧ a * h - b * w < w ∧ b * w - a * h < w) ∨ (q ∧ a * h - b * w < h ∧ b * w - a * h < h)
theorem fit1 {w h tw th : Int} (hw : Sd w) (hh : Sd h) (htw : Sd tw) (hth : Sd th) : T29 w h tw th 1 = some (⟨0, 0, w, h⟩, ⟨0, 0, tw, th⟩, 0) := by
  unfold T29
  rw [t72_in hw hh htw hth]
  rfl
theorem fit2 {w h tw th : Int} (hw : Sd w) (hh : Sd h) (htw : Sd tw) (hth : Sd th) : ∃ on, T29 w h tw th 2 = some (⟨0, 0, w, h⟩, on, 0) ∧ Ft w h tw th ⟨0, 0, w, h⟩ on ∧ Near on.f2 on.f3 w h (on.f2 = tw) (on.f3 = th) := by
  have w1 := hw.lo; have h1 := hh.lo; have tw1 := htw.lo; have th1 := hth.lo
  have tw2 := htw.hi; have th2 := hth.hi
  unfold T29
  rw [t72_in hw hh htw hth]
  simp only [Option.bind_some, show neI 0 0 = false from rfl, show eqI 2 1 = false from rfl, show eqI 2 2 = true from rfl, cond_false, cond_true]
  cases hc : leI (mulI .i64 h tw) (mulI .i64 w th) with
  | true =>
    have hc' : h * tw ≤ w * th := by
      unfold leI at hc
      have := of_decide_eq_true hc
      rw [(sd_mul hh htw).1, (sd_mul hw hth).1] at this
      exact this
    obtain ⟨q, hq, q1, q2, q3, q4⟩ := fit_one hh htw hw hth hc'
    simp only [cond_true, hq, Option.bind_some, T74, maxI_eq, Sum.elim_inl]
    have m1 := mid_ok (a := tw) (t := tw) (by omega) (by omega) tw2
    have m2 := mid_ok q1 q2 th2
    refine ⟨_, rfl, ⟨⟨by simp, by simp, by simp; omega, by simp; omega, by simp, by simp⟩, ⟨m1.1, m2.1, tw1, q1, m1.2.1, m2.2.1⟩⟩, .inl ⟨rfl, ?_, ?_⟩⟩
    · show tw * h - max 1 q * w < w
      rw [Int.mul_comm tw h]; exact q3
    · show max 1 q * w - tw * h < w
      rw [Int.mul_comm tw h]; exact q4
  | false =>
    have hc' : w * th ≤ h * tw := by
      unfold leI at hc
      have := of_decide_eq_false hc
      rw [(sd_mul hh htw).1, (sd_mul hw hth).1] at this
      omega
    obtain ⟨q, hq, q1, q2, q3, q4⟩ := fit_one hw hth hh htw hc'
    simp only [cond_false, hq, Option.bind_some, T74, maxI_eq, Sum.elim_inl]
    have m1 := mid_ok (a := th) (t := th) (by omega) (by omega) th2
    have m2 := mid_ok q1 q2 tw2
    refine ⟨_, rfl, ⟨⟨by simp, by simp, by simp; omega, by simp; omega, by simp, by simp⟩, ⟨m2.1, m1.1, q1, th1, m2.2.1, m1.2.1⟩⟩, .inr ⟨rfl, ?_, ?_⟩⟩
    · show max 1 q * h - th * w < h
      rw [Int.mul_comm th w]; omega
    · show th * w - max 1 q * h < h
      rw [Int.mul_comm th w]; omega
theorem fit3 {w h tw th : Int} (hw : Sd w) (hh : Sd h) (htw : Sd tw) (hth : Sd th) : ∃ of, T29 w h tw th 3 = some (of, ⟨0, 0, tw, th⟩, 0) ∧ Ft w h tw th of ⟨0, 0, tw, th⟩ ∧ Near of.f2 of.f3 tw th (of.f2 = w) (of.f3 = h) := by
  have w1 := hw.lo; have h1 := hh.lo; have tw1 := htw.lo; have th1 := hth.lo
  have w2 := hw.hi; have h2 := hh.hi
  unfold T29
  rw [t72_in hw hh htw hth]
  simp only [Option.bind_some, show neI 0 0 = false from rfl, show eqI 3 1 = false from rfl, show eqI 3 2 = false from rfl, show eqI 3 3 = true from rfl, cond_false, cond_true]
  cases hc : leI (mulI .i64 h tw) (mulI .i64 w th) with
  | true =>
    have hc' : h * tw ≤ th * w := by
      unfold leI at hc
      have := of_decide_eq_true hc
      rw [(sd_mul hh htw).1, (sd_mul hw hth).1] at this
      rw [Int.mul_comm th w]
      exact this
    obtain ⟨q, hq, q1, q2, q3, q4⟩ := fit_one hh htw hth hw hc'
    simp only [cond_true, hq, Option.bind_some, T74, maxI_eq, Sum.elim_inl]
    have m1 := mid_ok (a := h) (t := h) (by omega) (by omega) h2
    have m2 := mid_ok q1 q2 w2
    refine ⟨_, rfl, ⟨⟨m2.1, m1.1, q1, h1, m2.2.1, m1.2.1⟩, ⟨by simp, by simp, by simp; omega, by simp; omega, by simp, by simp⟩⟩, .inr ⟨rfl, ?_, ?_⟩⟩
    · show max 1 q * th - h * tw < th
      omega
    · show h * tw - max 1 q * th < th
      omega
  | false =>
    have hc' : w * th ≤ tw * h := by
      unfold leI at hc
      have := of_decide_eq_false hc
      rw [(sd_mul hh htw).1, (sd_mul hw hth).1] at this
      rw [Int.mul_comm tw h]
      omega
    obtain ⟨q, hq, q1, q2, q3, q4⟩ := fit_one hw hth htw hh hc'
    simp only [cond_false, hq, Option.bind_some, T74, maxI_eq, Sum.elim_inl]
    have m1 := mid_ok (a := w) (t := w) (by omega) (by omega) w2
    have m2 := mid_ok q1 q2 h2
    refine ⟨_, rfl, ⟨⟨m1.1, m2.1, w1, q1, m1.2.1, m2.2.1⟩, ⟨by simp, by simp, by simp; omega, by simp; omega, by simp, by simp⟩⟩, .inl ⟨rfl, ?_, ?_⟩⟩
    · show w * th - max 1 q * tw < tw
      omega
    · show max 1 q * tw - w * th < tw
      omega
theorem near_ok {a b w h : Int} {p q : Bool} (ha : Sd a) (hb : Sd b) (hw : Sd w) (hh : Sd h) (hn : Near a b w h (p = true) (q = true)) : T30 a b w h p q = some true := by
  unfold T30
  obtain ⟨e1, e2, e3⟩ := sd_mul ha hh
  obtain ⟨f1, f2, f3⟩ := sd_mul hb hw
  rw [e1, f1, subI_eq (by omega) (by omega), subI_eq (by omega) (by omega), maxI_eq]
  rcases hn with ⟨rfl, n1, n2⟩ | ⟨rfl, n1, n2⟩
  · have : ltI (max (a * h - b * w) (b * w - a * h)) w = true := by
      unfold ltI; exact decide_eq_true (by omega)
    rw [this]
    rfl
  · have : ltI (max (a * h - b * w) (b * w - a * h)) h = true := by
      unfold ltI; exact decide_eq_true (by omega)
    rw [this]
    cases p <;> simp
theorem lt_no {a b : Int} (h : b ≤ a) : ltI a b = false := by unfold ltI; exact decide_eq_false (by omega)
theorem eq_yes {a b : Int} (h : a = b) : eqI a b = true := by rw [eqI_iff]; simpa using h
theorem add_ok {a b c : Int} (h0 : 0 ≤ a) (h1 : 1 ≤ b) (h : a + b ≤ c) (hc : c ≤ 20000) : ltI c (addI .i64 a b) = false := by
  rw [addI_eq (by omega) (by omega)]
  exact lt_no h
theorem near_b {a b w h c d : Int} (hn : Near a b w h (a = c) (b = d)) : Near a b w h (eqI a c = true) (eqI b d = true) := by
  rcases hn with ⟨h1, h2⟩ | ⟨h1, h2⟩
  · exact .inl ⟨eq_yes h1, h2⟩
  · exact .inr ⟨eq_yes h1, h2⟩
theorem round {w h tw th z : Int} {of on : S28} (hw : Sd w) (hh : Sd h) (htw : Sd tw) (hth : Sd th) (hz : z = 1 ∨ z = 2 ∨ z = 3) (hT : T29 w h tw th z = some (of, on, 0)) (F : Ft w h tw th of on)
    (h1 : z ≠ 3 → of = ⟨0, 0, w, h⟩) (h2 : z ≠ 2 → on = ⟨0, 0, tw, th⟩) (h3 : z = 2 → Near on.f2 on.f3 w h (on.f2 = tw) (on.f3 = th)) (h4 : z = 3 → Near of.f2 of.f3 tw th (of.f2 = w) (of.f3 = h)) : L6_8 w h tw th z = some (.inl (z + 1)) := by
  obtain ⟨a1, a2, a3, a4, a5, a6⟩ := F.a
  obtain ⟨b1, b2, b3, b4, b5, b6⟩ := F.b
  have w2 := hw.hi; have hh2 := hh.hi; have tw2 := htw.hi; have th2 := hth.hi
  have o2 : Sd of.f2 := ⟨a3, by omega⟩
  have o3 : Sd of.f3 := ⟨a4, by omega⟩
  have n2 : Sd on.f2 := ⟨b3, by omega⟩
  have n3 : Sd on.f3 := ⟨b4, by omega⟩
  have hz3 : leI z 3 = true := by unfold leI; exact decide_eq_true (by omega)
  unfold L6_8
  simp only [hz3, cond_true, hT, Option.bind_some, show neI 0 0 = false from rfl, lt_no a1, lt_no a2, lt_no a3, lt_no a4, lt_no b1, lt_no b2, lt_no b3, lt_no b4, add_ok a1 a3 a5 w2, add_ok a2 a4 a6 hh2, add_ok b1 b3 b5 tw2, add_ok b2 b4 b6 th2, cond_false]
  rcases hz with rfl | rfl | rfl
  · have e1 := h1 (by decide)
    have e2 := h2 (by decide)
    subst e1; subst e2
    simp only [eqI_self, allB, Bool.and_true, Bool.not_true, cond_false, cond_true, show eqI 1 2 = false from rfl, show eqI 1 3 = false from rfl, Option.bind_some, Sum.elim_inl]
    rfl
  · have e1 := h1 (by decide)
    have n := near_ok n2 n3 hw hh (near_b (h3 rfl))
    subst e1
    simp only [eqI_self, allB, Bool.and_true, Bool.not_true, cond_false, cond_true, show eqI 2 1 = false from rfl, show eqI 2 3 = false from rfl, n, Option.bind_some, Sum.elim_inl]
    rfl
  · have e2 := h2 (by decide)
    have n := near_ok o2 o3 htw hth (near_b (h4 rfl))
    subst e2
    simp only [eqI_self, allB, Bool.and_true, Bool.not_true, cond_false, cond_true, show eqI 3 1 = false from rfl, show eqI 3 2 = false from rfl, n, Option.bind_some, Sum.elim_inl]
    rfl
theorem all_ok {w h tw th : Int} (hw : Sd w) (hh : Sd h) (htw : Sd tw) (hth : Sd th) : iter (L6_8 w h tw th) 1 = some (.inl (4, false)) := by
  have r1 := round (z := 1) hw hh htw hth (.inl rfl) (fit1 hw hh htw hth) ⟨⟨by simp, by simp, hw.lo, hh.lo, by simp, by simp⟩, ⟨by simp, by simp, htw.lo, hth.lo, by simp, by simp⟩⟩ (fun _ => rfl) (fun _ => rfl) (fun h => absurd h (by decide)) (fun h => absurd h (by decide))
  obtain ⟨on, e2, f2, g2⟩ := fit2 hw hh htw hth
  have r2 := round (z := 2) hw hh htw hth (.inr (.inl rfl)) e2 f2 (fun _ => rfl) (fun h => absurd rfl h) (fun _ => g2) (fun h => absurd h (by decide))
  obtain ⟨of, e3, f3, g3⟩ := fit3 hw hh htw hth
  have r3 := round (z := 3) hw hh htw hth (.inr (.inr rfl)) e3 f3 (fun h => absurd rfl h) (fun _ => rfl) (fun h => absurd h (by decide)) (fun _ => g3)
  rw [show (1 : Int) + 1 = 2 by decide] at r1
  rw [show (2 : Int) + 1 = 3 by decide] at r2
  rw [show (3 : Int) + 1 = 4 by decide] at r3
  rw [iter_inl r1, iter_inl r2, iter_inl r3]
  exact iter_inr rfl
def sdB (a : Int) : Bool := !ltI a 1 && !ltI 20000 a
theorem sd_of {a : Int} (h : sdB a = true) : Sd a := by
  unfold sdB ltI at h
  simp only [Bool.and_eq_true, Bool.not_eq_true', decide_eq_false_iff_not] at h
  exact ⟨by omega, by omega⟩
theorem step_in {w h tw th : Int} {i : Int} {x : Int} (h1 : ltI i (lenL [w, h, tw, th]) = true) (hx : listAt [w, h, tw, th] i = some x) : L6_2 w h tw th i = bif sdB x then some (.inl (addI .i64 i 1)) else some (.inr (.inr true)) := by
  unfold L6_2 sdB
  rw [h1, hx, ready_ok]
  simp only [cond_true, Option.bind_some]
  cases ltI x 1 <;> cases ltI 20000 x <;> rfl
theorem plain (p0 : Int) (p1 : Int) (p2 : Int) (p3 : Int) (h0 : okI p0) (h1 : okI p1) (h2 : okI p2) (h3 : okI p3) : T6 p0 p1 p2 p3 = some true := by
  unfold T6
  have s0 := step_in (w := p0) (h := p1) (tw := p2) (th := p3) (i := 0) (x := p0) rfl rfl
  have s1 := step_in (w := p0) (h := p1) (tw := p2) (th := p3) (i := 1) (x := p1) rfl rfl
  have s2 := step_in (w := p0) (h := p1) (tw := p2) (th := p3) (i := 2) (x := p2) rfl rfl
  have s3 := step_in (w := p0) (h := p1) (tw := p2) (th := p3) (i := 3) (x := p3) rfl rfl
  rw [show addI .i64 0 1 = 1 by decide] at s0
  rw [show addI .i64 1 1 = 2 by decide] at s1
  rw [show addI .i64 2 1 = 3 by decide] at s2
  rw [show addI .i64 3 1 = 4 by decide] at s3
  cases c0 : sdB p0 with
  | false => rw [c0] at s0; rw [iter_inr s0]; rfl
  | true =>
  rw [c0] at s0; rw [iter_inl s0]
  cases c1 : sdB p1 with
  | false => rw [c1] at s1; rw [iter_inr s1]; rfl
  | true =>
  rw [c1] at s1; rw [iter_inl s1]
  cases c2 : sdB p2 with
  | false => rw [c2] at s2; rw [iter_inr s2]; rfl
  | true =>
  rw [c2] at s2; rw [iter_inl s2]
  cases c3 : sdB p3 with
  | false => rw [c3] at s3; rw [iter_inr s3]; rfl
  | true =>
  rw [c3] at s3; rw [iter_inl s3, iter_inr (r := .inl (4, false)) rfl]
  simp only [Option.bind_some, Sum.elim_inl]
  rw [all_ok (sd_of c0) (sd_of c1) (sd_of c2) (sd_of c3), ready_ok]
  rfl
end Go.Abs.TKF
