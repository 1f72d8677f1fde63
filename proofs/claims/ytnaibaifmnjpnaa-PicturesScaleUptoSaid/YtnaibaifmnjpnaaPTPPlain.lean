import Derived.Test.YtnaibaifmnjpnaaPTPLit
set_option linter.unusedVariables false
set_option linter.unusedSimpArgs false
set_option maxRecDepth 10000
namespace Go.Abs.TP
open Go.RowKit Go.Proofs Go.Abs
/-! Sides, rectangles. -/
def inB (a b c : Int) : Bool := leI b a && leI a c
theorem t132 (a b c : Int) : T132 a b c = some (inB a b c) := by
  unfold T132 inB
  cases leI b a <;> cases leI a c <;> rfl
theorem t126 (a b c : Int) : T126 a b c = some (!inB a b c) := by
  unfold T126 inB ltI leI
  by_cases h1 : a < b
  · have : ¬ b ≤ a := by omega
    simp [h1, this]
  · have : b ≤ a := by omega
    by_cases h2 : c < a
    · have h3 : ¬ a ≤ c := by omega
      simp [h1, h2, this, h3]
    · have h3 : a ≤ c := by omega
      simp [h1, h2, this, h3]
def side (a : Int) : Bool := inB a 1 20000
theorem t125 (a : Int) : T125 a = some (side a) := by
  unfold T125
  rw [t126, Option.bind_some, Bool.not_not]
  rfl
theorem t131 (a : Int) : T131 a = some (side a) := by
  unfold T131
  rw [t132, Option.bind_some]
  rfl
theorem side_pos {a : Int} (h : side a = true) : 1 ≤ a ∧ a ≤ 20000 := by
  unfold side inB leI at h
  simp only [Bool.and_eq_true, decide_eq_true_eq] at h
  exact h
/-- Whether a rectangle is one. -/
def good (r : S63) : Bool := inB r.f0 (-100000) 100000 && inB r.f1 (-100000) 100000 && inB r.f2 1 (subI .i64 100000 r.f0) && inB r.f3 1 (subI .i64 100000 r.f1)
theorem t117 (r : S63) : T117 r = some (bif good r then 0 else 1) := by
  unfold T117 good
  simp only [t126, Option.bind_some]
  cases inB r.f0 (-100000) 100000 <;> cases inB r.f1 (-100000) 100000 <;> cases inB r.f2 1 (subI .i64 100000 r.f0) <;> cases inB r.f3 1 (subI .i64 100000 r.f1) <;> rfl
theorem t118 (r : S63) : T118 r = some (bif good r then 0 else 1) := by
  unfold T118 good
  simp only [t132, Option.bind_some]
  cases inB r.f0 (-100000) 100000 <;> cases inB r.f1 (-100000) 100000 <;> cases inB r.f2 1 (subI .i64 100000 r.f0) <;> cases inB r.f3 1 (subI .i64 100000 r.f1) <;> rfl
theorem t133 : T133 = T127 := rfl
theorem t134 : T134 = T129 := rfl
theorem t135 : T135 = T130 := rfl
theorem neI_code (b : Bool) : neI (bif b then (0 : Int) else 1) 0 = !b := by cases b <;> rfl
/-! Turned -/
theorem wrap_sub (h y H : Int) : subI .i64 (subI .i64 h 1) (subI .i64 (addI .i64 y H) 1) = subI .i64 (subI .i64 h y) H := by
  simp only [subI, addI, IntKind.wrap_i64]
  omega
theorem l40 : L40_6 = L37_9 := by
  funext p z
  unfold L40_6 L37_9
  rw [wrap_sub]
theorem turn_end (p : Int) (hp : inB p 0 3 = true) : ∀ z : Int × Int × Int × Int × Int × Int, ∃ r, iter (L37_9 p) (z.1, z.2.1, z.2.2.1, z.2.2.2.1, z.2.2.2.2.1, z.2.2.2.2.2, 0) = some r := by
  intro z
  have hp2 : p ≤ 3 := by
    unfold inB leI at hp
    simp only [Bool.and_eq_true, decide_eq_true_eq] at hp
    exact hp.2
  obtain ⟨r, h, _⟩ := iter_meas (st := L37_9 p) (fun z => 0 ≤ z.2.2.2.2.2.2 ∧ z.2.2.2.2.2.2 ≤ 4) (fun z => (4 - z.2.2.2.2.2.2).toNat) (fun _ => True) (fun z hz => by
    by_cases hlt : ltI z.2.2.2.2.2.2 p = true
    · refine .inl ⟨_, by unfold L37_9; rw [hlt]; rfl, ?_, ?_⟩
      · unfold ltI at hlt
        have hlt := of_decide_eq_true hlt
        show 0 ≤ addI .i64 z.2.2.2.2.2.2 1 ∧ addI .i64 z.2.2.2.2.2.2 1 ≤ 4
        rw [addI_eq (by omega) (by omega)]
        omega
      · unfold ltI at hlt
        have hlt := of_decide_eq_true hlt
        show (4 - addI .i64 z.2.2.2.2.2.2 1).toNat < (4 - z.2.2.2.2.2.2).toNat
        rw [addI_eq (by omega) (by omega)]
        omega
    · have hf : ltI z.2.2.2.2.2.2 p = false := by simpa using hlt
      exact .inr ⟨_, by unfold L37_9; rw [hf]; rfl, trivial⟩) (z.1, z.2.1, z.2.2.1, z.2.2.2.1, z.2.2.2.2.1, z.2.2.2.2.2, 0) ⟨by simp, by simp⟩
  exact ⟨r, h⟩
theorem turned_same (r : S63) (w h q : Int) : ∃ v, T37 r w h q = some v ∧ T40 r w h q = some v := by
  unfold T37 T40
  simp only [t117, t118, t125, t131, t126, t132, t133, l40, Option.bind_some, neI_code, Bool.not_not]
  cases hg : good r
  · exact ⟨_, rfl, rfl⟩
  cases hw : side w
  · exact ⟨_, rfl, rfl⟩
  cases hh : side h
  · exact ⟨_, rfl, rfl⟩
  cases hq : inB q 0 3
  · exact ⟨_, rfl, rfl⟩
  simp only [Bool.not_true, cond_false, Bool.not_false, cond_true]
  obtain ⟨b, hb⟩ : ∃ b, T127 r w h = some b := by
    unfold T127
    cases leI 0 r.f0 <;> cases leI 0 r.f1 <;> cases leI (addI .i64 r.f0 r.f2) w <;> exact ⟨_, rfl⟩
  rw [hb]
  simp only [Option.bind_some]
  cases b
  · exact ⟨_, rfl, rfl⟩
  obtain ⟨v, hv⟩ := turn_end q hq (w, h, r.f0, r.f1, r.f2, r.f3)
  simp only at hv
  rw [hv]
  exact ⟨_, rfl, rfl⟩
/-! Scale -/
theorem l128 (l : List Int) (z x : Int) (hlt : ltI z (lenL l) = true) (hx : listAt l z = some x) : L128_2 l z = some (bif side x then .inl (addI .i64 z 1) else .inr (.inr ())) := by
  unfold L128_2
  rw [hlt, hx]
  simp only [cond_true, Option.bind_some, t125]
  cases side x <;> rfl
theorem t128 (a b c d : Int) : T128 [a, b, c, d] = some (bif side a && side b && side c && side d then 0 else 1) := by
  unfold T128
  have h0 := l128 [a, b, c, d] 0 a rfl rfl
  have h1 := l128 [a, b, c, d] 1 b rfl rfl
  have h2 := l128 [a, b, c, d] 2 c rfl rfl
  have h3 := l128 [a, b, c, d] 3 d rfl rfl
  have h4 : L128_2 [a, b, c, d] 4 = some (.inr (.inl (4, false))) := rfl
  have e0 : addI .i64 0 1 = 1 := by decide
  have e1 : addI .i64 1 1 = 2 := by decide
  have e2 : addI .i64 2 1 = 3 := by decide
  have e3 : addI .i64 3 1 = 4 := by decide
  rw [e0] at h0; rw [e1] at h1; rw [e2] at h2; rw [e3] at h3
  cases ha : side a
  · rw [ha] at h0
    rw [iter_inr h0]; rfl
  rw [ha] at h0
  rw [iter_inl h0]
  cases hb : side b
  · rw [hb] at h1
    rw [iter_inr h1]; rfl
  rw [hb] at h1
  rw [iter_inl h1]
  cases hc : side c
  · rw [hc] at h2
    rw [iter_inr h2]; rfl
  rw [hc] at h2
  rw [iter_inl h2]
  cases hd : side d
  · rw [hd] at h3
    rw [iter_inr h3]; rfl
  rw [hd] at h3
  rw [iter_inl h3, iter_inr h4]
  rfl
theorem quo_some (a : Int) {b : Int} (hb : 1 ≤ b) : quoO .i64 a b = some (IntKind.i64.wrap (a.tdiv b)) := by
  unfold quoO
  rw [if_neg (by omega)]
theorem t129_some (r : S63) (w h x y : Int) (hw : side w = true) (hh : side h = true) : ∃ v, T129 r w h x y = some v := by
  unfold T129
  simp only [quo_some _ (side_pos hw).1, quo_some _ (side_pos hh).1, Option.bind_some]
  generalize eqI _ 0 = b1
  generalize eqI _ 0 = b2
  cases b1 <;> cases b2 <;> exact ⟨_, rfl⟩
theorem scale_same (r : S63) (w h x y : Int) : ∃ v, T38 r w h x y = some v ∧ T41 r w h x y = some v := by
  unfold T38 T41
  simp only [t117, t118, t128, t131, t133, t134, Option.bind_some, neI_code]
  cases hg : good r
  · exact ⟨_, rfl, rfl⟩
  cases hw : side w
  · exact ⟨_, rfl, rfl⟩
  cases hh : side h
  · exact ⟨_, rfl, rfl⟩
  cases hx : side x
  · exact ⟨_, rfl, rfl⟩
  cases hy : side y
  · exact ⟨_, rfl, rfl⟩
  simp only [Bool.not_true, cond_false, Bool.not_false, cond_true, Bool.and_true]
  obtain ⟨b, hb⟩ : ∃ b, T127 r w h = some b := by
    unfold T127
    cases leI 0 r.f0 <;> cases leI 0 r.f1 <;> cases leI (addI .i64 r.f0 r.f2) w <;> exact ⟨_, rfl⟩
  rw [hb]
  simp only [Option.bind_some]
  cases b
  · exact ⟨_, rfl, rfl⟩
  obtain ⟨v, hv⟩ := t129_some r w h x y hw hh
  rw [hv]
  exact ⟨_, rfl, rfl⟩
/-! Fit -/
theorem t130_whole (w h : Int) : T130 w h w h = some (S63.mk 0 0 w h) := by
  unfold T130
  have : ∀ a, quoI .i64 (subI .i64 a a) 2 = 0 := fun a => by unfold subI; rw [Int.sub_self]; rfl
  rw [this, this]
theorem fit_same (w h x y how : Int) : ∃ v, T39 w h x y how = some v ∧ T42 w h x y how = some v := by
  unfold T39 T42
  simp only [t128, t131, t135, Option.bind_some, neI_code, t130_whole]
  cases hw : side w
  · exact ⟨_, rfl, rfl⟩
  cases hh : side h
  · exact ⟨_, rfl, rfl⟩
  cases hx : side x
  · exact ⟨_, rfl, rfl⟩
  cases hy : side y
  · exact ⟨_, rfl, rfl⟩
  simp only [Bool.not_true, cond_false, Bool.and_true, quo_some _ (side_pos hw).1, quo_some _ (side_pos hh).1, quo_some _ (side_pos hx).1, quo_some _ (side_pos hy).1, Option.bind_some]
  have mid : ∀ a b c d, T130 a b c d = some (S63.mk (quoI .i64 (subI .i64 c a) 2) (quoI .i64 (subI .i64 d b) 2) a b) := fun _ _ _ _ => rfl
  simp only [mid, Option.bind_some]
  by_cases h1 : how = 1
  · subst h1
    exact ⟨_, rfl, rfl⟩
  by_cases h2 : how = 2
  · subst h2
    cases leI (mulI .i64 h x) (mulI .i64 w y) <;> exact ⟨_, rfl, rfl⟩
  by_cases h3 : how = 3
  · subst h3
    cases leI (mulI .i64 h x) (mulI .i64 w y) <;> exact ⟨_, rfl, rfl⟩
  have e1 : eqI how 1 = false := by rw [eqI_iff]; simpa using h1
  have e2 : eqI how 2 = false := by rw [eqI_iff]; simpa using h2
  have e3 : eqI how 3 = false := by rw [eqI_iff]; simpa using h3
  have e4 : neI how 1 = true := by rw [neI_iff]; simpa using h1
  rw [e1, e2, e3, e4]
  cases leI (mulI .i64 h x) (mulI .i64 w y) <;> exact ⟨_, rfl, rfl⟩
theorem eqI_self (a : Int) : eqI a a = true := by rw [eqI_iff]; simp
theorem plain (p0 : Int) (p1 : Int) (p2 : Int) (p3 : Int) (p4 : Int) (p5 : Int) (p6 : S63) (h0 : okI p0) (h1 : okI p1) (h2 : okI p2) (h3 : okI p3) (h4 : okI p4) (h5 : okI p5) (h6 : ok63 1048576 p6) : T11 p0 p1 p2 p3 p4 p5 p6 = some true := by
  unfold T11
  obtain ⟨v1, a1, b1⟩ := turned_same p6 p0 p1 p4
  obtain ⟨v2, a2, b2⟩ := scale_same p6 p0 p1 p2 p3
  obtain ⟨v3, a3, b3⟩ := fit_same p0 p1 p2 p3 p5
  rw [a1, b1, a2, b2, a3, b3, lit_ok]
  simp only [Option.bind_some, eqI_self, allB, Bool.and_true, cond_true]
end Go.Abs.TP
