import Derived.Test.YtkipmdkhhpicbaaGreatDoorATTAR
import Derived.Test.YtkipmdkhhpicbaaGreatDoorAPlL
import Derived.Test.YtkipmdkhhpicbaaGreatDoorAPlS
import Derived.Test.YtkipmdkhhpicbaaGreatDoorAPlU
import Derived.Test.YtkipmdkhhpicbaaGreatDoorAPlT
set_option linter.unusedVariables false
set_option linter.unusedSimpArgs false
set_option maxRecDepth 10000
namespace Go.Abs.TTA.R
open Go.RowKit Go.Proofs Go.Abs
/-! Stretches of a line: sorted, apart from one another. -/
def B (a : S248) : Prop := -100000 ≤ a.f0 ∧ a.f0 < a.f1 ∧ a.f1 ≤ 100000
def Can (l : List S248) : Prop := (∀ a ∈ l, B a) ∧ l.Pairwise fun a b => a.f1 < b.f0
def inn (l : List S248) (x : Int) : Prop := ∃ a, a ∈ l ∧ a.f0 ≤ x ∧ x < a.f1
theorem inn_nil (x : Int) : ¬ inn [] x := fun ⟨_, h, _⟩ => by simp at h
theorem inn_cons (a : S248) (l : List S248) (x : Int) : inn (a :: l) x ↔ (a.f0 ≤ x ∧ x < a.f1) ∨ inn l x := by
  unfold inn
  constructor
  · rintro ⟨b, h, h2⟩
    rcases List.mem_cons.1 h with e | e
    · subst e; exact .inl h2
    · exact .inr ⟨b, e, h2⟩
  · rintro (h | ⟨b, e, h2⟩)
    · exact ⟨a, by simp, h⟩
    · exact ⟨b, by simp [e], h2⟩
theorem inn_app (l : List S248) (a : S248) (x : Int) : inn (l ++ [a]) x ↔ inn l x ∨ (a.f0 ≤ x ∧ x < a.f1) := by
  unfold inn
  constructor
  · rintro ⟨b, h, h2⟩
    rcases List.mem_append.1 h with e | e
    · exact .inl ⟨b, e, h2⟩
    · rw [List.mem_singleton] at e
      subst e; exact .inr h2
  · rintro (⟨b, e, h2⟩ | h)
    · exact ⟨b, by simp [e], h2⟩
    · exact ⟨a, by simp, h⟩
theorem can_nil : Can [] := ⟨by simp, .nil⟩
theorem can_cons {a : S248} {l : List S248} : Can (a :: l) ↔ B a ∧ Can l ∧ ∀ b ∈ l, a.f1 < b.f0 := by
  unfold Can
  rw [List.pairwise_cons, List.forall_mem_cons]
  constructor
  · rintro ⟨⟨h1, h2⟩, h3, h4⟩
    exact ⟨h1, ⟨h2, h4⟩, h3⟩
  · rintro ⟨h1, ⟨h2, h4⟩, h3⟩
    exact ⟨⟨h1, h2⟩, h3, h4⟩
theorem can_app {a : S248} {l : List S248} : Can (l ++ [a]) ↔ B a ∧ Can l ∧ ∀ b ∈ l, b.f1 < a.f0 := by
  unfold Can
  rw [List.pairwise_append]
  constructor
  · rintro ⟨h1, h2, h3, h4⟩
    exact ⟨h1 a (by simp), ⟨fun b hb => h1 b (by simp [hb]), h2⟩, fun b hb => h4 b hb a (by simp)⟩
  · rintro ⟨h1, ⟨h2, h4⟩, h3⟩
    refine ⟨fun b hb => ?_, h4, by simp, fun b hb c hc => ?_⟩
    · rcases List.mem_append.1 hb with e | e
      · exact h2 b e
      · rw [List.mem_singleton] at e
        subst e; exact h1
    · rw [List.mem_singleton] at hc
      subst hc; exact h3 b hb
theorem can_lo {a : S248} {l : List S248} (h : Can (a :: l)) {x : Int} (hx : inn (a :: l) x) : a.f0 ≤ x := by
  obtain ⟨h1, h2, h3⟩ := can_cons.1 h
  rcases (inn_cons a l x).1 hx with h | ⟨b, hb, h⟩
  · exact h.1
  · have := h3 b hb
    unfold B at h1
    omega
theorem can_gap {a : S248} {l : List S248} (h : Can (a :: l)) {x : Int} (hx : inn l x) : a.f1 < x := by
  obtain ⟨h1, h2, h3⟩ := can_cons.1 h
  obtain ⟨b, hb, h⟩ := hx
  have := h3 b hb
  omega
theorem can_end {a b : S248} {l m : List S248} (hl : Can (a :: l)) (hm : Can (b :: m)) (h : ∀ x, inn (a :: l) x → inn (b :: m) x) (e : a.f0 = b.f0) : ¬ b.f1 < a.f1 := by
  intro hlt
  have hb := (can_cons.1 hm).1
  unfold B at hb
  have h1 : inn (b :: m) b.f1 := h _ ((inn_cons _ _ _).2 (.inl ⟨by omega, hlt⟩))
  rcases (inn_cons _ _ _).1 h1 with h2 | h2
  · omega
  · have := can_gap hm h2
    omega
/-- The points tell the stretches. -/
theorem can_unique : ∀ (l m : List S248), Can l → Can m → (∀ x, inn l x ↔ inn m x) → l = m := by
  intro l
  induction l with
  | nil =>
    intro m _ hm h
    cases m with
    | nil => rfl
    | cons b m =>
      have hb := (can_cons.1 hm).1
      unfold B at hb
      exact absurd ((h b.f0).2 ((inn_cons _ _ _).2 (.inl ⟨Int.le_refl _, hb.2.1⟩))) (inn_nil _)
  | cons a l ih =>
    intro m hl hm h
    have ha := (can_cons.1 hl).1
    unfold B at ha
    cases m with
    | nil => exact absurd ((h a.f0).1 ((inn_cons _ _ _).2 (.inl ⟨Int.le_refl _, ha.2.1⟩))) (inn_nil _)
    | cons b m =>
      have hb := (can_cons.1 hm).1
      unfold B at hb
      have e0 : a.f0 = b.f0 := by
        have h1 := can_lo hm ((h a.f0).1 ((inn_cons _ _ _).2 (.inl ⟨Int.le_refl _, ha.2.1⟩)))
        have h2 := can_lo hl ((h b.f0).2 ((inn_cons _ _ _).2 (.inl ⟨Int.le_refl _, hb.2.1⟩)))
        omega
      have e1 : a.f1 = b.f1 := by
        have h1 := can_end hl hm (fun x => (h x).1) e0
        have h2 := can_end hm hl (fun x => (h x).2) e0.symm
        omega
      have e : a = b := by cases a; cases b; simp_all
      subst e
      rw [ih m (can_cons.1 hl).2.1 (can_cons.1 hm).2.1 fun x => ⟨fun hx => ?_, fun hx => ?_⟩]
      · have hg := can_gap hl hx
        rcases (inn_cons _ _ _).1 ((h x).1 ((inn_cons _ _ _).2 (.inr hx))) with h1 | h1
        · omega
        · exact h1
      · have hg := can_gap hm hx
        rcases (inn_cons _ _ _).1 ((h x).2 ((inn_cons _ _ _).2 (.inr hx))) with h1 | h1
        · omega
        · exact h1
theorem can_len_lo (l : List S248) (lo : Int) (h : Can l) (hlo : ∀ a ∈ l, lo ≤ a.f0) (hb : lo ≤ 100000) : (l.length : Int) ≤ 100000 - lo := by
  induction l generalizing lo with
  | nil => simp; omega
  | cons a l ih =>
    obtain ⟨h1, h2, h3⟩ := can_cons.1 h
    unfold B at h1
    have := ih a.f1 h2 (fun b hb => by have := h3 b hb; omega) (by omega)
    have h4 := hlo a (by simp)
    rw [List.length_cons]
    omega
theorem can_len {l : List S248} (h : Can l) : l.length ≤ 200000 := by
  have := can_len_lo l (-100000) h (fun a ha => (h.1 a ha).1) (by omega)
  omega
/-! A rectangle's stretch at a height. -/
def W (r : S40) : Prop := -100000 ≤ r.f0 ∧ -100000 ≤ r.f1 ∧ 1 ≤ r.f2 ∧ r.f0 + r.f2 ≤ 100000 ∧ 1 ≤ r.f3 ∧ r.f1 + r.f3 ≤ 100000
def has (r : S40) (x y : Int) : Prop := r.f0 ≤ x ∧ x < r.f0 + r.f2 ∧ r.f1 ≤ y ∧ y < r.f1 + r.f3
def hasL (p : List S40) (x y : Int) : Prop := ∃ r, r ∈ p ∧ has r x y
theorem w_edge {r : S40} (h : W r) : addI .i64 r.f0 r.f2 = r.f0 + r.f2 ∧ addI .i64 r.f1 r.f3 = r.f1 + r.f3 := by
  unfold W at h
  exact ⟨addI_eq (by omega) (by omega), addI_eq (by omega) (by omega)⟩
theorem raw_ok (p : List S40) (y : Int) (hW : ∀ r ∈ p, W r) (hl : p.length ≤ 1000000) : ∃ r, iter (L155_3 p y) ([], 0) = some r ∧ r.2.2.length ≤ p.length ∧ (∀ a ∈ r.2.2, B a) ∧ ∀ x, inn r.2.2 x ↔ hasL p x y := by
  refine iter_up (st := L155_3 p y) (fun (s : List S248) i => (s, (i : Int))) p.length (fun i s => s.length ≤ i ∧ (∀ a ∈ s, B a) ∧ ∀ x, inn s x ↔ upto p i fun r => has r x y) (fun r => r.2.2.length ≤ p.length ∧ (∀ a ∈ r.2.2, B a) ∧ ∀ x, inn r.2.2 x ↔ hasL p x y) ?_ ?_ [] ⟨Nat.le_refl _, by simp, fun x => ⟨fun h => absurd h (inn_nil x), fun h => absurd h (upto_zero _ _)⟩⟩
  · intro i s hi ⟨h1, h2, h3⟩
    obtain ⟨r, hr⟩ : ∃ r, p[i]? = some r := ⟨_, List.getElem?_eq_getElem hi⟩
    have hw := hW r (List.mem_of_getElem? hr)
    have he := w_edge hw
    unfold W at hw
    have hno : ∀ s', s' = s → (∀ x, ¬ has r x y) → s'.length ≤ i + 1 ∧ (∀ a ∈ s', B a) ∧ ∀ x, inn s' x ↔ upto p (i + 1) fun r => has r x y := by
      intro s' e hx
      subst e
      refine ⟨by omega, h2, fun x => ?_⟩
      rw [upto_succ _ hr, h3]
      exact ⟨.inl, fun h => h.resolve_right (hx x)⟩
    simp only [L155_3, ltL_true hi, listAt_some hr, cond_true, Option.bind_some, he.1, he.2, nextI (show i < 9223372036854775807 by omega)]
    by_cases c1 : r.f1 ≤ y
    · rw [show leI r.f1 y = true from decide_eq_true c1]
      by_cases c2 : y < r.f1 + r.f3
      · rw [show ltI y (r.f1 + r.f3) = true from decide_eq_true c2, appO_big (by omega) (by simp only [List.length_cons, List.length_nil]; omega)]
        refine ⟨_, rfl, ?_, ?_, fun x => ?_⟩
        · simp only [List.length_append, List.length_cons, List.length_nil]; omega
        · intro a ha
          rcases List.mem_append.1 ha with e | e
          · exact h2 a e
          · rw [List.mem_singleton] at e
            subst e
            unfold B
            simp only
            omega
        · rw [inn_app, h3, upto_succ _ hr]
          simp only [has]
          constructor
          · rintro (h | h)
            · exact .inl h
            · exact .inr ⟨h.1, h.2, c1, c2⟩
          · rintro (h | h)
            · exact .inl h
            · exact .inr ⟨h.1, h.2.1⟩
      · rw [show ltI y (r.f1 + r.f3) = false from decide_eq_false c2]
        exact ⟨s, rfl, hno s rfl fun x h => by unfold has at h; omega⟩
    · rw [show leI r.f1 y = false from decide_eq_false c1]
      exact ⟨s, rfl, hno s rfl fun x h => by unfold has at h; omega⟩
  · intro s ⟨h1, h2, h3⟩
    simp only [L155_3, ltL_false (Nat.le_refl _), cond_false]
    exact ⟨_, rfl, h1, h2, fun x => (h3 x).trans (upto_len _)⟩
theorem sorted_ok (l : List S248) (hB : ∀ a ∈ l, B a) (hl : l.length ≤ 1000000) : ∃ l', sortO (fun x y => T217 x y) l = some l' ∧ l'.Perm l ∧ l'.Pairwise fun a b => a.f0 ≤ b.f0 :=
  sortO_key _ (fun a => a.f0) l (by omega) fun x hx y hy => by
    have h1 := hB x hx
    have h2 := hB y hy
    unfold B at h1 h2
    refine ⟨x.f0 - y.f0, ?_, by omega⟩
    unfold T217
    rw [subI_eq (by omega) (by omega)]
theorem merge_ok (l : List S248) (hB : ∀ a ∈ l, B a) (hs : l.Pairwise fun a b => a.f0 ≤ b.f0) (hl : l.length ≤ 1000000) : ∃ r, iter (L155_11 l) ([], l, 0) = some r ∧ Can r.2.2.1 ∧ ∀ x, inn r.2.2.1 x ↔ inn l x := by
  refine iter_up (st := L155_11 l) (fun (s : List S248) i => (s, l, (i : Int))) l.length (fun i s => Can s ∧ (∀ a ∈ s, ∃ j b, j < i ∧ l[j]? = some b ∧ a.f0 = b.f0) ∧ ∀ x, inn s x ↔ upto l i fun r => r.f0 ≤ x ∧ x < r.f1) (fun r => Can r.2.2.1 ∧ ∀ x, inn r.2.2.1 x ↔ inn l x) ?_ ?_ [] ⟨can_nil, by simp, fun x => ⟨fun h => absurd h (inn_nil x), fun h => absurd h (upto_zero _ _)⟩⟩
  · intro i s hi ⟨h1, h2, h3⟩
    obtain ⟨r, hr⟩ : ∃ r, l[i]? = some r := ⟨_, List.getElem?_eq_getElem hi⟩
    have hb := hB r (List.mem_of_getElem? hr)
    have hle : ∀ a ∈ s, a.f0 ≤ r.f0 := by
      intro a ha
      obtain ⟨j, b, hj, hjb, e⟩ := h2 a ha
      have := List.pairwise_iff_getElem.1 hs j i (by omega) hi hj
      rw [(List.getElem?_eq_some_iff.1 hjb).2, (List.getElem?_eq_some_iff.1 hr).2] at this
      omega
    have hlen := can_len h1
    simp only [L155_11, ltL_true hi, idx_nat hi, getN_some hr, cond_true, Option.bind_some, nextI (show i < 9223372036854775807 by omega)]
    rcases List.eq_nil_or_concat s with e | ⟨q, b, e⟩
    · subst e
      rw [show leI 0 (subI .i64 (lenL ([] : List S248)) 1) = false from rfl]
      simp only [cond_false]
      rw [appO_big (by omega) (by simp)]
      refine ⟨_, rfl, can_app.2 ⟨hb, h1, by simp⟩, ?_, fun x => ?_⟩
      · intro a ha
        rw [List.nil_append, List.mem_singleton] at ha
        subst ha
        exact ⟨i, a, by omega, hr, rfl⟩
      · rw [inn_app, h3, upto_succ _ hr]
    · subst e
      simp only [List.concat_eq_append] at *
      have hql : q.length < 200000 := by simp only [List.length_append, List.length_cons, List.length_nil] at hlen; omega
      have hlast := last_len q b (by omega)
      obtain ⟨hb1, hq, hqb⟩ := can_app.1 h1
      have hbr := hle b (by simp)
      simp only [hlast, idx_nat (show q.length < (q ++ [b]).length by simp), last_at, Option.bind_some, last_set]
      rw [show leI 0 (q.length : Int) = true from decide_eq_true (by omega)]
      simp only [cond_true]
      by_cases c : r.f0 ≤ b.f1
      · rw [show leI r.f0 b.f1 = true from decide_eq_true c]
        simp only [cond_true, maxI_eq]
        refine ⟨_, rfl, can_app.2 ⟨?_, hq, hqb⟩, ?_, fun x => ?_⟩
        · unfold B at *
          simp only
          omega
        · intro a ha
          rcases List.mem_append.1 ha with e | e
          · obtain ⟨j, b, hj, hjb, e⟩ := h2 a (by simp [e])
            exact ⟨j, b, by omega, hjb, e⟩
          · rw [List.mem_singleton] at e
            subst e
            obtain ⟨j, b', hj, hjb, e⟩ := h2 b (by simp)
            exact ⟨j, b', by omega, hjb, e⟩
        · have h4 := h3 x
          rw [inn_app] at h4
          rw [inn_app, upto_succ _ hr, ← h4]
          unfold B at *
          simp only
          generalize inn q x = A
          constructor
          · rintro (h | h)
            · exact .inl (.inl h)
            · by_cases hxb : x < b.f1
              · exact .inl (.inr ⟨h.1, hxb⟩)
              · exact .inr (by omega)
          · rintro ((h | h) | h)
            · exact .inl h
            · exact .inr (by omega)
            · exact .inr (by omega)
      · rw [show leI r.f0 b.f1 = false from decide_eq_false c]
        simp only [cond_false]
        rw [appO_big (by omega) (by simp only [List.length_append, List.length_cons, List.length_nil]; omega)]
        refine ⟨_, rfl, can_app.2 ⟨hb, h1, ?_⟩, ?_, fun x => ?_⟩
        · intro a ha
          rcases List.mem_append.1 ha with e | e
          · have := hqb a e
            unfold B at *
            omega
          · rw [List.mem_singleton] at e
            subst e
            omega
        · intro a ha
          rcases List.mem_append.1 ha with e | e
          · obtain ⟨j, b, hj, hjb, e⟩ := h2 a e
            exact ⟨j, b, by omega, hjb, e⟩
          · rw [List.mem_singleton] at e
            subst e
            exact ⟨i, a, by omega, hr, rfl⟩
        · rw [inn_app, h3, upto_succ _ hr]
  · intro s ⟨h1, h2, h3⟩
    simp only [L155_11, ltL_false (Nat.le_refl _), cond_false]
    exact ⟨_, rfl, h1, fun x => (h3 x).trans (upto_len _)⟩
theorem runs_ok (p : List S40) (y : Int) (hW : ∀ r ∈ p, W r) (hl : p.length ≤ 1000000) : ∃ l, T155 p y = some l ∧ Can l ∧ ∀ x, inn l x ↔ hasL p x y := by
  obtain ⟨r, h1, h2, h3, h4⟩ := raw_ok p y hW hl
  obtain ⟨l, h5, h6, h7⟩ := sorted_ok r.2.2 h3 (by omega)
  have hB : ∀ a ∈ l, B a := fun a ha => h3 a (h6.mem_iff.1 ha)
  obtain ⟨q, h8, h9, h10⟩ := merge_ok l hB h7 (by rw [h6.length_eq]; omega)
  refine ⟨q.2.2.1, ?_, h9, fun x => ?_⟩
  · unfold T155
    rw [h1, Option.bind_some, h5, Option.bind_some, h8, Option.bind_some]
  · rw [h10, ← h4]
    unfold inn
    exact ⟨fun ⟨a, h, e⟩ => ⟨a, h6.mem_iff.1 h, e⟩, fun ⟨a, h, e⟩ => ⟨a, h6.mem_iff.2 h, e⟩⟩
/-! One line's stretches without another's. -/
theorem skip_ok (l m : List S248) (z0 : List S248 × Int × Int) (x1 : S248) (hm : m.length ≤ 1000000) (j : Nat) (hj : j ≤ m.length) (hk : ∀ k b, k < j → m[k]? = some b → b.f1 ≤ x1.f0) :
    ∃ r, iter (L154_6 l m z0 x1) (j : Int) = some r ∧ ∃ j' : Nat, r.1 = (j' : Int) ∧ j' ≤ m.length ∧ ∀ k b, k < j' → m[k]? = some b → b.f1 ≤ x1.f0 := by
  refine iter_upx (st := L154_6 l m z0 x1) (fun (_ : Unit) i => (i : Int)) m.length (fun i _ => ∀ k b, k < i → m[k]? = some b → b.f1 ≤ x1.f0) (fun r => ∃ j' : Nat, r.1 = (j' : Int) ∧ j' ≤ m.length ∧ ∀ k b, k < j' → m[k]? = some b → b.f1 ≤ x1.f0) ?_ ?_ j () hj hk
  · intro i _ hi h
    obtain ⟨r, hr⟩ : ∃ r, m[i]? = some r := ⟨_, List.getElem?_eq_getElem hi⟩
    simp only [L154_6, ltL_true hi, listAt_some hr, cond_true, Option.bind_some, nextI (show i < 9223372036854775807 by omega)]
    by_cases c : r.f1 ≤ x1.f0
    · rw [show leI r.f1 x1.f0 = true from decide_eq_true c]
      refine .inl ⟨(), rfl, fun k b hk hb => ?_⟩
      by_cases e : k = i
      · subst e
        rw [hr] at hb
        cases hb
        exact c
      · exact h k b (by omega) hb
    · rw [show leI r.f1 x1.f0 = false from decide_eq_false c]
      exact .inr ⟨_, rfl, i, rfl, by omega, h⟩
  · intro _ h
    simp only [L154_6, ltL_false (Nat.le_refl _), cond_false]
    exact ⟨_, rfl, m.length, rfl, Nat.le_refl _, h⟩
theorem can_lt {m : List S248} (hm : Can m) {i j : Nat} {a b : S248} (ha : m[i]? = some a) (hb : m[j]? = some b) (h : i < j) : a.f1 < b.f0 := by
  have h1 := (List.getElem?_eq_some_iff.1 ha)
  have h2 := (List.getElem?_eq_some_iff.1 hb)
  obtain ⟨h1, e1⟩ := h1
  obtain ⟨h2, e2⟩ := h2
  have := List.pairwise_iff_getElem.1 hm.2 i j h1 h2 h
  rw [e1, e2] at this
  exact this
/-- What stands while one stretch x1 is cut. -/
structure Cut (m : List S248) (x1 : S248) (P : Int → Prop) (i : Nat) (s : List S248) (fr : Int) : Prop where
  can : Can s
  lt : ∀ a ∈ s, a.f1 < fr
  hi : ∀ a ∈ s, a.f1 ≤ x1.f1
  lo : x1.f0 ≤ fr
  past : ∀ k b, k < i → m[k]? = some b → b.f1 ≤ fr
  pts : ∀ x, inn s x ↔ P x ∨ (x1.f0 ≤ x ∧ x < fr ∧ x < x1.f1 ∧ ¬ inn m x)
theorem cut_ok (l m : List S248) (z0 : List S248 × Int × Int) (x1 : S248) (y3 : Int × Bool) (hm : Can m) (hx1 : B x1) (P : Int → Prop) (j : Nat) (hj : j ≤ m.length) (s : List S248) (fr : Int) (hs : Cut m x1 P j s fr) :
    ∃ r, iter (L154_9 l m z0 x1 y3) (s, fr, (j : Int)) = some r ∧ ∃ i, Cut m x1 P i r.2.2.1 r.2.2.2 ∧ ∀ x, r.2.2.2 ≤ x → x < x1.f1 → ¬ inn m x := by
  have hlm := can_len hm
  refine iter_upx (st := L154_9 l m z0 x1 y3) (fun (s : List S248 × Int) i => (s.1, s.2, (i : Int))) m.length (fun i s => Cut m x1 P i s.1 s.2) (fun r => ∃ i, Cut m x1 P i r.2.2.1 r.2.2.2 ∧ ∀ x, r.2.2.2 ≤ x → x < x1.f1 → ¬ inn m x) ?_ ?_ j (s, fr) hj hs
  · rintro i ⟨s, fr⟩ hi h
    obtain ⟨r, hr⟩ : ∃ r, m[i]? = some r := ⟨_, List.getElem?_eq_getElem hi⟩
    have hb := hm.1 r (List.mem_of_getElem? hr)
    unfold B at hb hx1
    have hslen : s.length ≤ 200000 := can_len h.can
    simp only [L154_9, ltL_true hi, listAt_some hr, cond_true, Option.bind_some, nextI (show i < 9223372036854775807 by omega), maxI_eq]
    have hG : ∀ x, r.f0 ≤ x → x < r.f1 → inn m x := fun x h1 h2 => ⟨r, List.mem_of_getElem? hr, h1, h2⟩
    have hpast : ∀ k b, k < i + 1 → m[k]? = some b → b.f1 ≤ max fr r.f1 := by
      intro k b hk hkb
      by_cases e : k = i
      · subst e
        rw [hr] at hkb
        cases hkb
        omega
      · have := h.past k b (by omega) hkb
        omega
    by_cases c : r.f0 < x1.f1
    · rw [show ltI r.f0 x1.f1 = true from decide_eq_true c]
      simp only [cond_true]
      left
      by_cases c2 : fr < r.f0
      · rw [show ltI fr r.f0 = true from decide_eq_true c2, appO_big (by omega) (by simp only [List.length_cons, List.length_nil]; omega)]
        have hF : ∀ x, fr ≤ x → x < r.f0 → ¬ inn m x := by
          rintro x h1 h2 ⟨b, hbm, h3, h4⟩
          obtain ⟨k, hk⟩ := List.getElem?_of_mem hbm
          rcases Nat.lt_trichotomy k i with e | e | e
          · have := h.past k b e hk
            omega
          · subst e
            rw [hr] at hk
            cases hk
            omega
          · have := can_lt hm hr hk e
            omega
        have hlo := h.lo
        refine ⟨(_, _), rfl, ⟨can_app.2 ⟨?_, h.can, h.lt⟩, ?_, ?_, ?_, hpast, fun x => ?_⟩⟩
        · unfold B; simp only; omega
        · intro a ha
          simp only at ha ⊢
          rcases List.mem_append.1 ha with e | e
          · have := h.lt a e
            simp only at this
            omega
          · rw [List.mem_singleton] at e
            subst e
            simp only
            omega
        · intro a ha
          rcases List.mem_append.1 ha with e | e
          · exact h.hi a e
          · rw [List.mem_singleton] at e
            subst e
            simp only
            omega
        · simp only; simp only at hlo; omega
        · simp only
          rw [inn_app, h.pts x]
          simp only
          simp only at hlo
          constructor
          · rintro ((hh | hh) | hh)
            · exact .inl hh
            · exact .inr ⟨hh.1, by omega, hh.2.2.1, hh.2.2.2⟩
            · exact .inr ⟨by omega, by omega, by omega, hF x hh.1 hh.2⟩
          · rintro (hh | ⟨h1, h2, h3, h4⟩)
            · exact .inl (.inl hh)
            · by_cases hx : x < fr
              · exact .inl (.inr ⟨h1, hx, h3, h4⟩)
              · have : ¬ r.f0 ≤ x := fun h5 => h4 (hG x h5 (by omega))
                exact .inr ⟨by omega, by omega⟩
      · rw [show ltI fr r.f0 = false from decide_eq_false c2]
        have hlo := h.lo
        refine ⟨(_, _), rfl, ⟨h.can, ?_, h.hi, ?_, hpast, fun x => ?_⟩⟩
        · intro a ha
          have := h.lt a ha
          simp only at this ⊢
          omega
        · simp only; simp only at hlo; omega
        · simp only
          have := h.pts x
          simp only at this
          rw [this]
          constructor
          · rintro (hh | hh)
            · exact .inl hh
            · exact .inr ⟨hh.1, by omega, hh.2.2.1, hh.2.2.2⟩
          · rintro (hh | ⟨h1, h2, h3, h4⟩)
            · exact .inl hh
            · by_cases hx : x < fr
              · exact .inr ⟨h1, hx, h3, h4⟩
              · exact absurd (hG x (by omega) (by omega)) h4
    · rw [show ltI r.f0 x1.f1 = false from decide_eq_false c]
      right
      refine ⟨_, rfl, i, h, ?_⟩
      simp only
      rintro x h1 h2 ⟨b, hbm, h3, h4⟩
      obtain ⟨k, hk⟩ := List.getElem?_of_mem hbm
      rcases Nat.lt_trichotomy k i with e | e | e
      · have := h.past k b e hk
        simp only at this
        omega
      · subst e
        rw [hr] at hk
        cases hk
        omega
      · have := can_lt hm hr hk e
        omega
  · rintro ⟨s, fr⟩ h
    simp only [L154_9, ltL_false (Nat.le_refl _), cond_false]
    refine ⟨_, rfl, m.length, h, ?_⟩
    simp only
    rintro x h1 h2 ⟨b, hbm, h3, h4⟩
    obtain ⟨k, hk⟩ := List.getElem?_of_mem hbm
    have := h.past k b (List.getElem?_eq_some_iff.1 hk).1 hk
    simp only at this
    omega
theorem less_ok (l m : List S248) (hl : Can l) (hm : Can m) : ∃ o, T154 l m = some o ∧ Can o ∧ ∀ x, inn o x ↔ inn l x ∧ ¬ inn m x := by
  have hll := can_len hl
  have hlm := can_len hm
  suffices H : ∃ r, iter (L154_4 l m) ([], 0, 0) = some r ∧ Can r.2.2.2 ∧ ∀ x, inn r.2.2.2 x ↔ inn l x ∧ ¬ inn m x by
    obtain ⟨r, h1, h2, h3⟩ := H
    refine ⟨r.2.2.2, ?_, h2, h3⟩
    unfold T154
    rw [h1, Option.bind_some]
  refine iter_up (st := L154_4 l m) (fun (s : List S248 × Nat) i => (s.1, (s.2 : Int), (i : Int))) l.length
    (fun i s => Can s.1 ∧ s.2 ≤ m.length ∧ (∀ k b i' x, k < s.2 → m[k]? = some b → i ≤ i' → l[i']? = some x → b.f1 ≤ x.f0) ∧ (∀ a i' x, a ∈ s.1 → i ≤ i' → l[i']? = some x → a.f1 < x.f0) ∧ ∀ x, inn s.1 x ↔ (upto l i fun r => r.f0 ≤ x ∧ x < r.f1) ∧ ¬ inn m x)
    (fun r => Can r.2.2.2 ∧ ∀ x, inn r.2.2.2 x ↔ inn l x ∧ ¬ inn m x) ?_ ?_ ([], 0) ⟨can_nil, Nat.zero_le _, ?_, ?_, fun x => ⟨fun h => absurd h (inn_nil x), fun h => absurd h.1 (upto_zero _ _)⟩⟩
  · rintro i ⟨s, j⟩ hi ⟨h1, h2, h3, h4, h5⟩
    simp only at h1 h2 h3 h4 h5
    obtain ⟨r, hr⟩ : ∃ r, l[i]? = some r := ⟨_, List.getElem?_eq_getElem hi⟩
    have hb := hl.1 r (List.mem_of_getElem? hr)
    obtain ⟨q, q1, j', q2, q3, q4⟩ := skip_ok l m (s, (j : Int), (i : Int)) r (by omega) j h2 fun k b hk hkb => h3 k b i r hk hkb (Nat.le_refl _) hr
    have hcut : Cut m r (fun x => (upto l i fun r => r.f0 ≤ x ∧ x < r.f1) ∧ ¬ inn m x) j' s r.f0 := by
      refine ⟨h1, fun a ha => h4 a i r ha (Nat.le_refl _) hr, fun a ha => ?_, Int.le_refl _, q4, fun x => ?_⟩
      · have := h4 a i r ha (Nat.le_refl _) hr
        unfold B at hb
        omega
      · rw [h5]
        exact ⟨.inl, fun h => h.resolve_right fun h => by omega⟩
    obtain ⟨u, u1, i', u2, u3⟩ := cut_ok l m (s, (j : Int), (i : Int)) r q hm hb _ j' q3 s r.f0 hcut
    have hulen := can_len u2.can
    simp only [L154_4, ltL_true hi, listAt_some hr, cond_true, Option.bind_some, nextI (show i < 9223372036854775807 by omega)]
    rw [q1, Option.bind_some, q2, u1, Option.bind_some]
    have hnext : ∀ k b i' x, k < j' → m[k]? = some b → i + 1 ≤ i' → l[i']? = some x → b.f1 ≤ x.f0 := by
      intro k b i' x hk hkb hi' hx
      have h6 := q4 k b hk hkb
      have h7 := can_lt hl hr hx (by omega)
      unfold B at hb
      omega
    by_cases c : u.2.2.2 < r.f1
    · rw [show ltI u.2.2.2 r.f1 = true from decide_eq_true c, appO_big (by omega) (by simp only [List.length_cons, List.length_nil]; omega)]
      have hlo := u2.lo
      refine ⟨(_, j'), rfl, can_app.2 ⟨?_, u2.can, u2.lt⟩, q3, hnext, ?_, fun x => ?_⟩
      · unfold B at hb ⊢
        simp only
        omega
      · intro a i' x ha hi' hx
        have h7 := can_lt hl hr hx (by omega)
        simp only at ha
        rcases List.mem_append.1 ha with e | e
        · have := u2.hi a e
          omega
        · rw [List.mem_singleton] at e
          subst e
          exact h7
      · simp only
        rw [inn_app, u2.pts x, upto_succ _ hr]
        simp only
        constructor
        · rintro ((hh | hh) | hh)
          · exact ⟨.inl hh.1, hh.2⟩
          · exact ⟨.inr ⟨hh.1, hh.2.2.1⟩, hh.2.2.2⟩
          · exact ⟨.inr ⟨by omega, hh.2⟩, u3 x hh.1 hh.2⟩
        · rintro ⟨hh | hh, hn⟩
          · exact .inl (.inl ⟨hh, hn⟩)
          · by_cases hx : x < u.2.2.2
            · exact .inl (.inr ⟨hh.1, hx, hh.2, hn⟩)
            · exact .inr ⟨by omega, hh.2⟩
    · rw [show ltI u.2.2.2 r.f1 = false from decide_eq_false c]
      refine ⟨(_, j'), rfl, u2.can, q3, hnext, ?_, fun x => ?_⟩
      · intro a i' x ha hi' hx
        have h7 := can_lt hl hr hx (by omega)
        have := u2.hi a ha
        omega
      · simp only
        rw [u2.pts x, upto_succ _ hr]
        constructor
        · rintro (hh | hh)
          · exact ⟨.inl hh.1, hh.2⟩
          · exact ⟨.inr ⟨hh.1, hh.2.2.1⟩, hh.2.2.2⟩
        · rintro ⟨hh | hh, hn⟩
          · exact .inl ⟨hh, hn⟩
          · exact .inr ⟨hh.1, by omega, hh.2, hn⟩
  · rintro ⟨s, j⟩ ⟨h1, h2, h3, h4, h5⟩
    simp only [L154_4, ltL_false (Nat.le_refl _), cond_false]
    refine ⟨_, rfl, h1, fun x => ?_⟩
    simp only
    simp only at h5
    rw [h5, upto_len]
    rfl
  · intro k b i' x hk; exact absurd hk (Nat.not_lt_zero k)
  · intro a i' x ha; simp at ha
theorem same_ok (a b : List S248) (hl : a.length ≤ 1000000) : ∃ c, T156 a b = some c ∧ (c = true ↔ a = b) := by
  unfold T156
  by_cases hlen : a.length = b.length
  · have e : neI (lenL a) (lenL b) = false := by rw [neI_iff, lenL_eq, lenL_eq, hlen]; simp
    rw [e]
    simp only [cond_false]
    obtain ⟨r, h1, h2⟩ : ∃ r, iter (L156_4 a b) 0 = some r ∧ (r.isLeft = true ↔ a = b) := by
      refine iter_upx (st := L156_4 a b) (fun (_ : Unit) i => (i : Int)) a.length (fun i _ => ∀ j, j < i → a[j]? = b[j]?) (fun r => r.isLeft = true ↔ a = b) ?_ ?_ 0 () (Nat.zero_le _) (fun j h => absurd h (Nat.not_lt_zero j))
      · intro i _ hi h
        obtain ⟨r, hr⟩ : ∃ r, a[i]? = some r := ⟨_, List.getElem?_eq_getElem hi⟩
        obtain ⟨q, hq⟩ : ∃ r, b[i]? = some r := ⟨_, List.getElem?_eq_getElem (by omega)⟩
        simp only [L156_4, ltL_true hi, listAt_some hr, listAt_some hq, cond_true, Option.bind_some, nextI (show i < 9223372036854775807 by omega), allB, Bool.and_true]
        by_cases c : r.f0 = q.f0 ∧ r.f1 = q.f1
        · left
          rw [eqI_iff, eqI_iff, decide_eq_true c.1, decide_eq_true c.2]
          refine ⟨(), rfl, fun j hj => ?_⟩
          by_cases e : j = i
          · subst e
            rw [hr, hq]
            cases r; cases q
            simp_all
          · exact h j (by omega)
        · right
          have : (eqI r.f0 q.f0 && eqI r.f1 q.f1) = false := by
            rw [eqI_iff, eqI_iff, Bool.and_eq_false_iff]
            by_cases c1 : r.f0 = q.f0
            · exact .inr (decide_eq_false fun c2 => c ⟨c1, c2⟩)
            · exact .inl (decide_eq_false c1)
          rw [this]
          refine ⟨_, rfl, ?_⟩
          simp only [Sum.isLeft_inr, Bool.false_eq_true, false_iff]
          intro e
          subst e
          rw [hr] at hq
          cases hq
          exact c ⟨rfl, rfl⟩
      · intro _ h
        simp only [L156_4, ltL_false (Nat.le_refl _), cond_false]
        refine ⟨_, rfl, ?_⟩
        simp only [Sum.isLeft_inl, true_iff]
        refine List.ext_getElem? fun j => ?_
        by_cases hj : j < a.length
        · exact h j hj
        · rw [List.getElem?_eq_none (by omega), List.getElem?_eq_none (by omega)]
    rw [h1, Option.bind_some]
    cases r with
    | inl y => exact ⟨true, rfl, by simpa using h2⟩
    | inr y => exact ⟨false, rfl, by simpa using h2⟩
  · have e : neI (lenL a) (lenL b) = true := by
      rw [neI_iff, lenL_eq, lenL_eq]
      have : ¬ (a.length : Int) = b.length := by omega
      simp [this]
    rw [e]
    exact ⟨false, rfl, by simp only [Bool.false_eq_true, false_iff]; intro h; exact hlen (by rw [h])⟩
end Go.Abs.TTA.R

set_option linter.unusedVariables false
set_option linter.unusedSimpArgs false
set_option maxRecDepth 10000
namespace Go.Abs.TTA.R
open Go.RowKit Go.Proofs Go.Abs
/-! The walk over cells, by whatever tells a cell. -/
noncomputable def G9 (h : Int → Int → Option Bool) (z0 : ((List Int) × (List Int) × (List S40) × (List S40) × Int)) (z1 : ((List Int) × (List Int) × (List S40) × (List S40) × (List S40) × Int)) : Option (((List Int) × (List Int) × (List S40) × (List S40) × (List S40) × Int) ⊕ (Int × Bool × (List Int) × (List Int) × (List S40) × (List S40) × (List S40))) := (bif (ltI (addI .i64 z1.2.2.2.2.2 1) (lenL z1.1)) then ((idxO (List.length z1.1) z1.2.2.2.2.2).bind fun x3 => ((getN z1.1 x3).bind fun x4 => ((idxO (List.length z1.2.1) z0.2.2.2.2).bind fun x5 => ((getN z1.2.1 x5).bind fun x6 => ((h x4 x6).bind fun x7 => (bif (!x7) then (some (.inl (z1.1, z1.2.1, z1.2.2.1, z1.2.2.2.1, z1.2.2.2.2.1, (addI .i64 z1.2.2.2.2.2 1)))) else (bif (leI 0 (subI .i64 (lenL z1.2.2.2.2.1) 1)) then ((idxO (List.length z1.2.2.2.2.1) (subI .i64 (lenL z1.2.2.2.2.1) 1)).bind fun x8 => ((getN z1.2.2.2.2.1 x8).bind fun x9 => ((idxO (List.length z1.2.2.2.2.1) (subI .i64 (lenL z1.2.2.2.2.1) 1)).bind fun x10 => ((getN z1.2.2.2.2.1 x10).bind fun x11 => ((idxO (List.length z1.1) z1.2.2.2.2.2).bind fun x12 => ((getN z1.1 x12).bind fun x13 => (bif (eqI (addI .i64 x9.f0 x11.f2) x13) then ((idxO (List.length z1.1) (addI .i64 z1.2.2.2.2.2 1)).bind fun x14 => ((getN z1.1 x14).bind fun x15 => ((idxO (List.length z1.2.2.2.2.1) (subI .i64 (lenL z1.2.2.2.2.1) 1)).bind fun x16 => ((getN z1.2.2.2.2.1 x16).bind fun x17 => ((idxO (List.length z1.2.2.2.2.1) (subI .i64 (lenL z1.2.2.2.2.1) 1)).bind fun x18 => ((getN z1.2.2.2.2.1 x18).bind fun x19 => (some (.inl (z1.1, z1.2.1, z1.2.2.1, z1.2.2.2.1, (List.set z1.2.2.2.2.1 x18 (S40.mk x19.f0 x19.f1 (subI .i64 x15 x17.f0) x19.f3)), (addI .i64 z1.2.2.2.2.2 1)))))))))) else ((idxO (List.length z1.1) z1.2.2.2.2.2).bind fun x20 => ((getN z1.1 x20).bind fun x21 => ((idxO (List.length z1.2.1) z0.2.2.2.2).bind fun x22 => ((getN z1.2.1 x22).bind fun x23 => ((idxO (List.length z1.1) (addI .i64 z1.2.2.2.2.2 1)).bind fun x24 => ((getN z1.1 x24).bind fun x25 => ((idxO (List.length z1.1) z1.2.2.2.2.2).bind fun x26 => ((getN z1.1 x26).bind fun x27 => ((idxO (List.length z1.2.1) (addI .i64 z0.2.2.2.2 1)).bind fun x28 => ((getN z1.2.1 x28).bind fun x29 => ((idxO (List.length z1.2.1) z0.2.2.2.2).bind fun x30 => ((getN z1.2.1 x30).bind fun x31 => ((appO 32 z1.2.2.2.2.1 ([(S40.mk x21 x23 (subI .i64 x25 x27) (subI .i64 x29 x31))] : List S40)).bind fun x32 => (some (.inl (z1.1, z1.2.1, z1.2.2.1, z1.2.2.2.1, x32, (addI .i64 z1.2.2.2.2.2 1)))))))))))))))))))))))) else ((idxO (List.length z1.1) z1.2.2.2.2.2).bind fun x33 => ((getN z1.1 x33).bind fun x34 => ((idxO (List.length z1.2.1) z0.2.2.2.2).bind fun x35 => ((getN z1.2.1 x35).bind fun x36 => ((idxO (List.length z1.1) (addI .i64 z1.2.2.2.2.2 1)).bind fun x37 => ((getN z1.1 x37).bind fun x38 => ((idxO (List.length z1.1) z1.2.2.2.2.2).bind fun x39 => ((getN z1.1 x39).bind fun x40 => ((idxO (List.length z1.2.1) (addI .i64 z0.2.2.2.2 1)).bind fun x41 => ((getN z1.2.1 x41).bind fun x42 => ((idxO (List.length z1.2.1) z0.2.2.2.2).bind fun x43 => ((getN z1.2.1 x43).bind fun x44 => ((appO 32 z1.2.2.2.2.1 ([(S40.mk x34 x36 (subI .i64 x38 x40) (subI .i64 x42 x44))] : List S40)).bind fun x45 => (some (.inl (z1.1, z1.2.1, z1.2.2.1, z1.2.2.2.1, x45, (addI .i64 z1.2.2.2.2.2 1)))))))))))))))))))))))) else (some (.inr (z1.2.2.2.2.2, (ltI (addI .i64 z1.2.2.2.2.2 1) (lenL z1.1)), z1.1, z1.2.1, z1.2.2.1, z1.2.2.2.1, z1.2.2.2.2.1))))
noncomputable def G19 (h : Int → Int → Option Bool) (z0 : ((List Int) × (List Int) × (List S40) × (List S40) × Int)) (y46 : (Int × Bool × (List Int) × (List Int) × (List S40) × (List S40) × (List S40))) (z2 : ((List Int) × (List Int) × (List S40) × (List S40) × (List S40) × Int)) : Option (((List Int) × (List Int) × (List S40) × (List S40) × (List S40) × Int) ⊕ (Int × Bool × (List Int) × (List Int) × (List S40) × (List S40) × (List S40))) := (bif (ltI z2.2.2.2.2.2 (lenL y46.2.2.2.2.2.1)) then ((idxO (List.length z2.2.2.2.1) z2.2.2.2.2.2).bind fun x48 => ((getN z2.2.2.2.1 x48).bind fun x49 => ((idxO (List.length z2.2.2.2.2.1) z2.2.2.2.2.2).bind fun x50 => ((getN z2.2.2.2.2.1 x50).bind fun x51 => ((idxO (List.length z2.2.2.2.1) z2.2.2.2.2.2).bind fun x52 => ((getN z2.2.2.2.1 x52).bind fun x53 => (some (.inl (z2.1, z2.2.1, z2.2.2.1, (List.set z2.2.2.2.1 x52 (S40.mk x53.f0 x53.f1 x53.f2 (addI .i64 x49.f3 x51.f3))), z2.2.2.2.2.1, (addI .i64 z2.2.2.2.2.2 1)))))))))) else (some (.inr (z2.2.2.2.2.2, (ltI z2.2.2.2.2.2 (lenL y46.2.2.2.2.2.1)), z2.1, z2.2.1, z2.2.2.1, z2.2.2.2.1, z2.2.2.2.2.1))))
/-! Edges. -/
def eX (p : List S40) : List Int := p.flatMap fun r => [r.f0, addI .i64 r.f0 r.f2]
def eY (p : List S40) : List Int := p.flatMap fun r => [r.f1, addI .i64 r.f1 r.f3]
theorem eY_len (p : List S40) : (eY p).length = 2 * p.length := by
  unfold eY
  induction p with
  | nil => rfl
  | cons a p ih => rw [List.flatMap_cons, List.length_append, ih, List.length_cons]; simp; omega
theorem take_next {α : Type} {l : List α} {i : Nat} {x : α} (h : l[i]? = some x) : l.take (i + 1) = l.take i ++ [x] := by
  rw [List.take_add_one, h]; rfl
theorem fm_next {α : Type} (f : α → List Int) {l : List α} {i : Nat} {x : α} (h : l[i]? = some x) : (l.take (i + 1)).flatMap f = (l.take i).flatMap f ++ f x := by
  rw [take_next h, List.flatMap_append]; simp
theorem edges_loop (p q x1 : List S40) (hl : x1.length ≤ 1000000) : ∃ r, iter (L86_3 p q x1) ([], x1, 0) = some r ∧ r.2.2 = (eY x1, x1) := by
  refine iter_up (st := L86_3 p q x1) (fun (s : List Int) i => (s, x1, (i : Int))) x1.length (fun i s => s = eY (x1.take i)) (fun r => r.2.2 = (eY x1, x1)) ?_ ?_ [] rfl
  · intro i s hi h
    obtain ⟨r, hr⟩ : ∃ r, x1[i]? = some r := ⟨_, List.getElem?_eq_getElem hi⟩
    have hs : s.length ≤ 2000000 := by rw [h, eY_len, List.length_take]; omega
    simp only [L86_3, ltL_true hi, idx_nat hi, getN_some hr, cond_true, Option.bind_some, nextI (show i < 9223372036854775807 by omega)]
    rw [appO_big (by omega) (by simp only [List.length_cons, List.length_nil]; omega)]
    refine ⟨_, rfl, ?_⟩
    rw [h]
    exact (fm_next _ hr).symm
  · intro s h
    simp only [L86_3, ltL_false (Nat.le_refl _), cond_false]
    refine ⟨_, rfl, ?_⟩
    rw [h, List.take_length]
theorem both_ok (p q : List S40) (hp : p.length ≤ 1000000) (hq : q.length ≤ 1000000) : T151 [p, q] = some (p ++ q) := by
  unfold T151
  have e1 : lenL p = (p.length : Int) := rfl
  have e2 : lenL q = (q.length : Int) := rfl
  have hlt0 : ltI 0 (lenL [p, q]) = true := rfl
  have hlt1 : ltI 1 (lenL [p, q]) = true := rfl
  have hlt2 : ltI 2 (lenL [p, q]) = false := rfl
  have n0 : addI .i64 0 1 = 1 := by decide
  have n1 : addI .i64 1 1 = 2 := by decide
  have a0 : listAt [p, q] 0 = some p := rfl
  have a1 : listAt [p, q] 1 = some q := rfl
  have s0 : addI .i64 0 (p.length : Int) = (p.length : Int) := by rw [addI_eq (by omega) (by omega)]; omega
  have s1 : addI .i64 (p.length : Int) (q.length : Int) = ((p.length + q.length : Nat) : Int) := by rw [addI_eq (by omega) (by omega)]; omega
  have l0 : ltI (p.length : Int) 0 = false := decide_eq_false (by omega)
  have l1 : ltI ((p.length + q.length : Nat) : Int) 0 = false := decide_eq_false (by omega)
  have h0 : L151_3 [p, q] (0, 0) = some (.inl ((p.length : Int), 1)) := by
    simp only [L151_3, hlt0, cond_true, a0, Option.bind_some, e1, s0, l0, cond_false, n0]
  have h1 : L151_3 [p, q] ((p.length : Int), 1) = some (.inl (((p.length + q.length : Nat) : Int), 2)) := by
    simp only [L151_3, hlt1, cond_true, a1, Option.bind_some, e2, s1, l1, cond_false, n1]
  have h2 : L151_3 [p, q] (((p.length + q.length : Nat) : Int), 2) = some (.inr (((p.length + q.length : Nat) : Int), 2, false)) := by
    simp only [L151_3, hlt2, cond_false]
  rw [iter_inl h0, iter_inl h1, iter_inr h2, Option.bind_some]
  have hg : growO S40 32 ((p.length + q.length : Nat) : Int) = some [] := by
    unfold growO
    rw [if_pos ⟨by omega, by omega, by omega⟩]
  simp only [hg, Option.bind_some]
  have k0 : L151_11 [p, q] ([], 0) = some (.inl (p, 1)) := by
    simp only [L151_11, hlt0, cond_true, a0, Option.bind_some, n0]
    rw [appO_big (by omega) (by simp only [List.length_nil]; omega)]
    rfl
  have k1 : L151_11 [p, q] (p, 1) = some (.inl (p ++ q, 2)) := by
    simp only [L151_11, hlt1, cond_true, a1, Option.bind_some, n1]
    rw [appO_big (by omega) (by omega)]
    rfl
  have k2 : L151_11 [p, q] (p ++ q, 2) = some (.inr (2, false, p ++ q)) := by
    simp only [L151_11, hlt2, cond_false]
  rw [iter_inl k0, iter_inl k1, iter_inr k2, Option.bind_some]
/-! Numbers in order. -/
theorem next_to {xs : List Int} (hs : xs.Pairwise (· < ·)) {j : Nat} {a b v : Int} (ha : xs[j]? = some a) (hb : xs[j + 1]? = some b) (hv : v ∈ xs) : v ≤ a ∨ b ≤ v := by
  obtain ⟨k, hk, rfl⟩ := List.getElem_of_mem hv
  obtain ⟨h1, rfl⟩ := List.getElem?_eq_some_iff.1 ha
  obtain ⟨h2, rfl⟩ := List.getElem?_eq_some_iff.1 hb
  have hp := List.pairwise_iff_getElem.1 hs
  rcases Nat.lt_trichotomy k j with h | h | h
  · have := hp k j hk h1 h
    omega
  · subst h; exact .inl (Int.le_refl _)
  · by_cases e : k = j + 1
    · subst e; exact .inr (Int.le_refl _)
    · have := hp (j + 1) k h2 hk (by omega)
      omega
theorem between : ∀ (xs : List Int), xs.Pairwise (· < ·) → ∀ x u v : Int, u ∈ xs → u ≤ x → v ∈ xs → x < v → ∃ j a b, xs[j]? = some a ∧ xs[j + 1]? = some b ∧ a ≤ x ∧ x < b := by
  intro xs
  induction xs with
  | nil => intro _ x u v hu; simp at hu
  | cons c t ih =>
    intro hs x u v hu hux hv hxv
    obtain ⟨hc, ht⟩ := List.pairwise_cons.1 hs
    cases t with
    | nil => simp at hu hv; omega
    | cons d t =>
      by_cases hx : x < d
      · refine ⟨0, c, d, rfl, rfl, ?_, hx⟩
        rcases List.mem_cons.1 hu with e | e
        · omega
        · have := hc u e; omega
      · have hcd := hc d (by simp)
        have hv' : v ∈ d :: t := by
          rcases List.mem_cons.1 hv with e | e
          · omega
          · exact e
        obtain ⟨j, a, b, h1, h2, h3⟩ := ih ht x d v (by simp) (by omega) hv' hxv
        exact ⟨j + 1, a, b, h1, h2, h3⟩
/-! A row of cells. -/
def cell (y h : Int) (a : S248) : S40 := ⟨a.f0, y, a.f1 - a.f0, h⟩
def pts (xs : List Int) (H : Int → Prop) (i : Nat) (x : Int) : Prop := ∃ j a b, j < i ∧ xs[j]? = some a ∧ xs[j + 1]? = some b ∧ a ≤ x ∧ x < b ∧ H a
/-! Rows alike; rows grown. -/
theorem emit_ok {st : ((List Int) × (List S40) × Int) → Option (((List Int) × (List S40) × Int) ⊕ (Int × Bool × (List Int) × (List S40)))} (ys : List Int) (cur : List S248) (f h : Int) (out : List S40) (hout : out.length ≤ 1900000000000) (hcur : cur.length ≤ 1000000)
    (h1 : ∀ (s : List S40) (i : Nat) a, i < cur.length → cur[i]? = some a → st (ys, s, (i : Int)) = (appO 32 s [cell f h a]).bind fun x => some (.inl (ys, x, ((i + 1 : Nat) : Int)))) (h2 : ∀ s, st (ys, s, (cur.length : Int)) = some (.inr ((cur.length : Int), false, ys, s))) :
    ∃ r, iter st (ys, out, 0) = some r ∧ r.2.2 = (ys, out ++ cur.map (cell f h)) := by
  refine iter_up (st := st) (fun (s : List S40) i => (ys, s, (i : Int))) cur.length (fun i s => s = out ++ (cur.take i).map (cell f h)) (fun r => r.2.2 = (ys, out ++ cur.map (cell f h))) ?_ ?_ out (by simp)
  · intro i s hi hs
    obtain ⟨a, ha⟩ : ∃ r, cur[i]? = some r := ⟨_, List.getElem?_eq_getElem hi⟩
    have hlen : s.length ≤ 1900001000000 := by rw [hs, List.length_append, List.length_map, List.length_take]; omega
    refine ⟨s ++ [cell f h a], ?_, ?_⟩
    · rw [h1 s i a hi ha, appO_big (by omega) (by simp only [List.length_cons, List.length_nil]; omega)]
      rfl
    · rw [hs, take_next ha, List.map_append, List.append_assoc]
      rfl
  · intro s hs
    refine ⟨_, h2 s, ?_⟩
    rw [hs, List.take_length]
end Go.Abs.TTA.R

set_option linter.unusedVariables false
set_option linter.unusedSimpArgs false
set_option maxRecDepth 10000
namespace Go.Abs.TTA.R
open Go.RowKit Go.Proofs Go.Abs
/-! The bands, one after another. -/
noncomputable def rowAt (p q : List S40) (y : Int) : List S248 := ((T155 p y).bind fun a => (T155 q y).bind fun b => T154 a b).getD []
theorem rowAt_ok (p q : List S40) (y : Int) (hp : ∀ r ∈ p, W r) (hq : ∀ r ∈ q, W r) (lp : p.length ≤ 1000000) (lq : q.length ≤ 1000000) :
    ∃ a b, T155 p y = some a ∧ T155 q y = some b ∧ T154 a b = some (rowAt p q y) ∧ Can (rowAt p q y) ∧ ∀ x, inn (rowAt p q y) x ↔ hasL p x y ∧ ¬ hasL q x y := by
  obtain ⟨a, a1, a2, a3⟩ := runs_ok p y hp lp
  obtain ⟨b, b1, b2, b3⟩ := runs_ok q y hq lq
  obtain ⟨o, o1, o2, o3⟩ := less_ok a b a2 b2
  have e : rowAt p q y = o := by
    unfold rowAt
    rw [a1, Option.bind_some, b1, Option.bind_some, o1, Option.getD_some]
  rw [e]
  exact ⟨a, b, a1, b1, o1, o2, fun x => by rw [o3, a3, b3]⟩
attribute [local irreducible] rowAt
open Classical in
noncomputable def St (R : Int → List S248) (ys : List Int) : Nat → List S40 × List S248 × Int
  | 0 => ([], [], 0)
  | k + 1 => if (St R ys k).2.1 = R (ys.getD k 0) then St R ys k else ((St R ys k).1 ++ (St R ys k).2.1.map (cell (St R ys k).2.2 (ys.getD k 0 - (St R ys k).2.2)), R (ys.getD k 0), ys.getD k 0)
noncomputable def Fin (R : Int → List S248) (ys : List Int) : List S40 :=
  (St R ys (ys.length - 1)).1 ++ (St R ys (ys.length - 1)).2.1.map (cell (St R ys (ys.length - 1)).2.2 (ys.getD (ys.length - 1) 0 - (St R ys (ys.length - 1)).2.2))
theorem St_same {R : Int → List S248} {ys : List Int} {k : Nat} {y : Int} (hy : ys[k]? = some y) (h : (St R ys k).2.1 = R y) : St R ys (k + 1) = St R ys k := by
  rw [St]
  rw [List.getD_eq_getElem?_getD, hy, Option.getD_some, if_pos h]
theorem St_new {R : Int → List S248} {ys : List Int} {k : Nat} {y : Int} (hy : ys[k]? = some y) (h : ¬ (St R ys k).2.1 = R y) : St R ys (k + 1) = ((St R ys k).1 ++ (St R ys k).2.1.map (cell (St R ys k).2.2 (y - (St R ys k).2.2)), R y, y) := by
  rw [St]
  rw [List.getD_eq_getElem?_getD, hy, Option.getD_some, if_neg h]
theorem St_ok (R : Int → List S248) (ys : List Int) (hR : ∀ y, Can (R y)) (hys : ∀ y ∈ ys, -100000 ≤ y ∧ y ≤ 100000) : ∀ k, k ≤ ys.length → (St R ys k).1.length ≤ k * 200000 ∧ Can (St R ys k).2.1 ∧ -100000 ≤ (St R ys k).2.2 ∧ (St R ys k).2.2 ≤ 100000 := by
  intro k
  induction k with
  | zero => intro _; exact ⟨by simp [St], can_nil, by simp [St], by simp [St]⟩
  | succ k ih =>
    intro hk
    obtain ⟨h1, h2, h3, h4⟩ := ih (by omega)
    obtain ⟨y, hy⟩ : ∃ r, ys[k]? = some r := ⟨_, List.getElem?_eq_getElem (by omega)⟩
    have hb := hys y (List.mem_of_getElem? hy)
    by_cases c : (St R ys k).2.1 = R y
    · rw [St_same hy c]
      exact ⟨Nat.le_trans h1 (Nat.mul_le_mul_right _ (Nat.le_succ k)), h2, h3, h4⟩
    · rw [St_new hy c]
      have hl := can_len h2
      refine ⟨?_, hR y, hb.1, hb.2⟩
      simp only [List.length_append, List.length_map]
      rw [Nat.succ_mul]
      omega
theorem prog_ok (p q : List S40) (ys : List Int) (hp : ∀ r ∈ p, W r) (hq : ∀ r ∈ q, W r) (lp : p.length ≤ 1000000) (lq : q.length ≤ 1000000) (hys : ∀ y ∈ ys, -100000 ≤ y ∧ y ≤ 100000) (hl : ys.length ≤ 1000000) :
    ∃ r, iter (L86_13 p q ys) (ys, [], [], 0, 0) = some r ∧ r.2.2.2.2.2 = Fin (rowAt p q) ys := by
  have hR : ∀ y, Can (rowAt p q y) := fun y => by obtain ⟨_, _, _, _, _, h, _⟩ := rowAt_ok p q y hp hq lp lq; exact h
  refine iter_up (st := L86_13 p q ys) (fun (s : List S40 × List S248 × Int) i => (ys, s.1, s.2.1, s.2.2, (i : Int))) ys.length (fun i s => (i < ys.length → s = St (rowAt p q) ys i) ∧ (i = ys.length → s.1 = Fin (rowAt p q) ys))
    (fun r => r.2.2.2.2.2 = Fin (rowAt p q) ys) ?_ ?_ ([], [], 0) ⟨fun _ => rfl, fun h => ?_⟩
  · intro i s hi ⟨hs, _⟩
    have hs := hs hi
    obtain ⟨o1, o2, o3, o4⟩ := St_ok (rowAt p q) ys hR hys i (by omega)
    obtain ⟨y, hy⟩ : ∃ r, ys[i]? = some r := ⟨_, List.getElem?_eq_getElem hi⟩
    have hb := hys y (List.mem_of_getElem? hy)
    obtain ⟨a, b, r1, r2, r3, r4, r5⟩ := rowAt_ok p q y hp hq lp lq
    rw [← hs] at o1 o2 o3 o4
    have hlen := can_len o2
    obtain ⟨out, cur, fr⟩ := s
    simp only at o1 o2 o3 o4 hlen hs
    have ho : out.length ≤ 1900000000000 := by
      have : i * 200000 ≤ 1000000 * 200000 := Nat.mul_le_mul (by omega) (Nat.le_refl _)
      omega
    have hsub : subI .i64 y fr = y - fr := subI_eq (by omega) (by omega)
    simp only [L86_13, ltL_true hi, idx_nat hi, getN_some hy, cond_true, Option.bind_some, nextI (show i < 9223372036854775807 by omega)]
    have hcell : ∀ a ∈ cur, subI .i64 a.f1 a.f0 = a.f1 - a.f0 := by
      intro a ha
      have := o2.1 a ha
      unfold B at this
      exact subI_eq (by omega) (by omega)
    by_cases hi1 : i + 1 < ys.length
    · simp only [ltL_true hi1, cond_true, r1, r2, r3, Option.bind_some]
      obtain ⟨c, c1, c2⟩ := same_ok cur (rowAt p q y) (by omega)
      rw [c1, Option.bind_some]
      cases c with
      | true =>
        have e := c2.1 rfl
        refine ⟨(out, cur, fr), rfl, fun _ => ?_, fun h => by omega⟩
        rw [St_same hy (by rw [← hs]; exact e)]
        exact hs
      | false =>
        have e : ¬ cur = rowAt p q y := fun e => by simpa using c2.2 e
        obtain ⟨v, v1, v2⟩ := emit_ok (st := L86_20 p q ys (ys, out, cur, fr, (i : Int)) y (rowAt p q y)) ys cur fr (y - fr) out ho (by omega) (fun s j a hj ha => by
          simp only [L86_20, ltL_true hj, listAt_some ha, cond_true, Option.bind_some, nextI (show j < 9223372036854775807 by omega), hsub, hcell a (List.mem_of_getElem? ha)]
          rfl) (fun s => by simp only [L86_20, ltL_false (Nat.le_refl _), cond_false])
        simp only [cond_false]
        rw [v1, Option.bind_some, v2]
        refine ⟨(_, _, _), rfl, fun _ => ?_, fun h => by omega⟩
        rw [St_new hy (by rw [← hs]; exact e), ← hs]
    · have hlt : ltI ((i + 1 : Nat) : Int) (lenL ys) = false := ltL_false (by omega)
      simp only [hlt, cond_false]
      obtain ⟨c, c1, c2⟩ := same_ok cur [] (by omega)
      rw [c1, Option.bind_some]
      have hii : i = ys.length - 1 := by omega
      have hgd : ys.getD (ys.length - 1) 0 = y := by rw [← hii, List.getD_eq_getElem?_getD, hy, Option.getD_some]
      cases c with
      | true =>
        have e := c2.1 rfl
        refine ⟨(out, cur, fr), rfl, fun h => by omega, fun _ => ?_⟩
        unfold Fin
        rw [← hii, ← hs]
        simp only [e, List.map_nil, List.append_nil]
      | false =>
        obtain ⟨v, v1, v2⟩ := emit_ok (st := L86_20_v1 p q ys (ys, out, cur, fr, (i : Int)) y) ys cur fr (y - fr) out ho (by omega) (fun s j a hj ha => by
          simp only [L86_20_v1, ltL_true hj, listAt_some ha, cond_true, Option.bind_some, nextI (show j < 9223372036854775807 by omega), hsub, hcell a (List.mem_of_getElem? ha)]
          rfl) (fun s => by simp only [L86_20_v1, ltL_false (Nat.le_refl _), cond_false])
        simp only [cond_false]
        rw [v1, Option.bind_some, v2]
        refine ⟨(_, _, _), rfl, fun h => by omega, fun _ => ?_⟩
        unfold Fin
        rw [hgd, ← hii, ← hs]
  · intro s ⟨_, h⟩
    simp only [L86_13, ltL_false (Nat.le_refl _), cond_false]
    exact ⟨_, rfl, h rfl⟩
  · simp only
    unfold Fin
    rw [← h]
    simp [St]
theorem mem_eY {p : List S40} {x : Int} : x ∈ eY p ↔ ∃ r ∈ p, x = r.f1 ∨ x = addI .i64 r.f1 r.f3 := by
  unfold eY
  rw [List.mem_flatMap]
  simp only [List.mem_cons, List.not_mem_nil, or_false]
end Go.Abs.TTA.R

set_option linter.unusedVariables false
set_option linter.unusedSimpArgs false
set_option maxRecDepth 10000
namespace Go.Abs.TTA.R
open Go.RowKit Go.Proofs Go.Abs
/-! More edges than a region has change nothing. -/
open Classical in
noncomputable def stp (R : Int → List S248) (s : List S40 × List S248 × Int) (y : Int) : List S40 × List S248 × Int :=
  if s.2.1 = R y then s else (s.1 ++ s.2.1.map (cell s.2.2 (y - s.2.2)), R y, y)
theorem row_same (p q : List S40) (a b : Int) (hp : ∀ r ∈ p, W r) (hq : ∀ r ∈ q, W r) (lp : p.length ≤ 1000000) (lq : q.length ≤ 1000000) (h : ∀ r, r ∈ p ∨ r ∈ q → ∀ x, has r x a ↔ has r x b) : rowAt p q a = rowAt p q b := by
  obtain ⟨_, _, _, _, _, c1, d1⟩ := rowAt_ok p q a hp hq lp lq
  obtain ⟨_, _, _, _, _, c2, d2⟩ := rowAt_ok p q b hp hq lp lq
  have key : ∀ (l : List S40), (∀ r ∈ l, r ∈ p ∨ r ∈ q) → ∀ x, hasL l x a ↔ hasL l x b := fun l hl x => ⟨fun ⟨r, hr, h1⟩ => ⟨r, hr, (h r (hl r hr) x).1 h1⟩, fun ⟨r, hr, h1⟩ => ⟨r, hr, (h r (hl r hr) x).2 h1⟩⟩
  refine can_unique _ _ c1 c2 fun x => ?_
  rw [d1, d2, key p (fun r => .inl) x, key q (fun r => .inr) x]
theorem row_none (p q : List S40) (y : Int) (hp : ∀ r ∈ p, W r) (hq : ∀ r ∈ q, W r) (lp : p.length ≤ 1000000) (lq : q.length ≤ 1000000) (h : ∀ r ∈ p, ∀ x, ¬ has r x y) : rowAt p q y = [] := by
  obtain ⟨_, _, _, _, _, c1, d1⟩ := rowAt_ok p q y hp hq lp lq
  refine can_unique _ _ c1 can_nil fun x => ?_
  rw [d1]
  constructor
  · rintro ⟨⟨r, hr, h1⟩, _⟩
    exact absurd h1 (h r hr x)
  · intro h1; exact absurd h1 (inn_nil x)
def edgesY (p : List S40) : List Int := Lib.compact (sortI (eY p))
def edgesX (p : List S40) : List Int := Lib.compact (sortI (eX p))
theorem edgesY_ok (p : List S40) (hp : ∀ r ∈ p, W r) : (edgesY p).Pairwise (· < ·) ∧ (∀ y, y ∈ edgesY p ↔ ∃ r ∈ p, y = r.f1 ∨ y = r.f1 + r.f3) ∧ (∀ y ∈ edgesY p, -100000 ≤ y ∧ y ≤ 100000) ∧ (edgesY p).length ≤ 2 * p.length := by
  have fy := compact_facts (sortI (eY p)) (sortI_sorted _)
  have my : ∀ y, y ∈ edgesY p ↔ ∃ r ∈ p, y = r.f1 ∨ y = r.f1 + r.f3 := fun y => by
    unfold edgesY
    rw [fy.2, (sortI_perm _).mem_iff, mem_eY]
    exact ⟨fun ⟨r, hr, h⟩ => ⟨r, hr, by rw [(w_edge (hp r hr)).2] at h; exact h⟩, fun ⟨r, hr, h⟩ => ⟨r, hr, by rw [(w_edge (hp r hr)).2]; exact h⟩⟩
  refine ⟨fy.1, my, fun y hy => ?_, ?_⟩
  · obtain ⟨r, hr, e⟩ := (my y).1 hy
    have hw := hp r hr
    unfold W at hw
    rcases e with e | e <;> omega
  · have h1 := compact_le (sortI (eY p))
    have h2 := (sortI_perm (eY p)).length_eq
    rw [eY_len] at h2
    unfold edgesY
    omega
end Go.Abs.TTA.R

set_option linter.unusedVariables false
set_option linter.unusedSimpArgs false
set_option maxRecDepth 10000
namespace Go.Abs.TTA.R
open Go.RowKit Go.Proofs Go.Abs
/-! Pixels are counted. -/
theorem countP_or {α : Type} (p q : α → Bool) : ∀ (l : List α), (∀ x ∈ l, ¬ (p x = true ∧ q x = true)) → l.countP (fun x => p x || q x) = l.countP p + l.countP q
  | [], _ => rfl
  | a :: l, h => by
    have ih := countP_or p q l fun x hx => h x (by simp [hx])
    have ha := h a (by simp)
    rw [List.countP_cons, List.countP_cons, List.countP_cons, ih]
    cases hp : p a <;> cases hq : q a <;> simp_all <;> omega
theorem count_upto (u v : Nat) : ∀ n, (List.range n).countP (fun i => decide (u ≤ i ∧ i < v)) = min v n - min u n
  | 0 => by simp
  | n + 1 => by
    rw [List.range_succ, List.countP_append, count_upto u v n, List.countP_singleton]
    by_cases h : u ≤ n ∧ n < v
    · rw [decide_eq_true h]
      simp only [if_true]
      omega
    · rw [decide_eq_false h]
      simp only [Bool.false_eq_true, if_false]
      omega
open Classical in
noncomputable def cnt1 (P : Int → Prop) : Nat := (List.range 200001).countP fun i : Nat => decide (P ((i : Int) - 100000))
noncomputable def cnt (P : Int → Int → Prop) : Nat := ((List.range 200001).map fun j : Nat => cnt1 fun x => P x ((j : Int) - 100000)).sum
theorem cnt_ext {P Q : Int → Int → Prop} (h : ∀ x y, P x y ↔ Q x y) : cnt P = cnt Q := by
  have : P = Q := funext fun x => funext fun y => propext (h x y)
  rw [this]
theorem cnt1_or {P Q : Int → Prop} (h : ∀ x, ¬ (P x ∧ Q x)) : cnt1 (fun x => P x ∨ Q x) = cnt1 P + cnt1 Q := by
  unfold cnt1
  rw [← countP_or _ _ _ fun i _ => by simpa using h _]
  congr 1
  funext i
  rw [Bool.eq_iff_iff]
  simp
theorem sum_add {α : Type} (f g : α → Nat) : ∀ l : List α, (l.map fun x => f x + g x).sum = (l.map f).sum + (l.map g).sum
  | [] => rfl
  | a :: l => by simp only [List.map_cons, List.sum_cons, sum_add f g l]; omega
theorem cnt_or {P Q : Int → Int → Prop} (h : ∀ x y, ¬ (P x y ∧ Q x y)) : cnt (fun x y => P x y ∨ Q x y) = cnt P + cnt Q := by
  unfold cnt
  generalize List.range 200001 = L
  rw [← sum_add]
  have e : ∀ j : Nat, cnt1 (fun x => P x ((j : Int) - 100000) ∨ Q x ((j : Int) - 100000)) = cnt1 (fun x => P x ((j : Int) - 100000)) + cnt1 (fun x => Q x ((j : Int) - 100000)) := fun j => cnt1_or fun x => h x _
  simp only [e]
theorem cnt1_none {P : Int → Prop} (h : ∀ x, ¬ P x) : cnt1 P = 0 := by
  unfold cnt1
  rw [List.countP_eq_zero]
  intro i _
  simp [h]
theorem sum_const {α : Type} (f : α → Nat) (p : α → Bool) (c : Nat) : ∀ l : List α, (∀ x ∈ l, f x = if p x = true then c else 0) → (l.map f).sum = c * l.countP p
  | [], _ => by simp
  | a :: l, h => by
    rw [List.map_cons, List.sum_cons, sum_const f p c l fun x hx => h x (by simp [hx]), h a (by simp), List.countP_cons]
    cases p a <;> simp [Nat.mul_add] <;> omega
theorem cnt_none : cnt (fun _ _ => False) = 0 := by
  unfold cnt
  rw [sum_const _ (fun _ => false) 0 _ fun x _ => by simp [cnt1_none]]
  simp
open Classical in
theorem cnt_has {r : S40} (h : W r) : (cnt (has r) : Int) = r.f2 * r.f3 := by
  unfold W at h
  have hx : ∀ y, (r.f1 ≤ y ∧ y < r.f1 + r.f3) → cnt1 (fun x => has r x y) = r.f2.toNat := by
    intro y hy
    unfold cnt1
    rw [List.countP_congr (q := fun i : Nat => decide ((r.f0 + 100000).toNat ≤ i ∧ i < (r.f0 + r.f2 + 100000).toNat)) fun i _ => by
      constructor
      · intro h0
        have h1 := of_decide_eq_true h0
        refine decide_eq_true ?_
        unfold has at h1
        omega
      · intro h0
        have h1 := of_decide_eq_true h0
        refine decide_eq_true ?_
        unfold has
        omega, count_upto]
    omega
  have hx0 : ∀ y, ¬ (r.f1 ≤ y ∧ y < r.f1 + r.f3) → cnt1 (fun x => has r x y) = 0 := fun y hy => cnt1_none fun x hh => by unfold has at hh; omega
  unfold cnt
  rw [sum_const _ (fun j : Nat => decide ((r.f1 + 100000).toNat ≤ j ∧ j < (r.f1 + r.f3 + 100000).toNat)) r.f2.toNat _ fun j _ => by
    by_cases hj : r.f1 ≤ (j : Int) - 100000 ∧ (j : Int) - 100000 < r.f1 + r.f3
    · rw [hx _ hj, decide_eq_true (show (r.f1 + 100000).toNat ≤ j ∧ j < (r.f1 + r.f3 + 100000).toNat by omega)]
      rfl
    · rw [hx0 _ hj, decide_eq_false (show ¬ ((r.f1 + 100000).toNat ≤ j ∧ j < (r.f1 + r.f3 + 100000).toNat) by omega)]
      rfl, count_upto]
  have e : min (r.f1 + r.f3 + 100000).toNat 200001 - min (r.f1 + 100000).toNat 200001 = r.f3.toNat := by omega
  rw [e, Int.natCast_mul]
  congr 1 <;> omega
def disj (r s : S40) : Prop := ∀ x y, ¬ (has r x y ∧ has s x y)
def areaL (l : List S40) : Int := (l.map fun r => r.f2 * r.f3).sum
theorem hasL_cons (r : S40) (l : List S40) (x y : Int) : hasL (r :: l) x y ↔ has r x y ∨ hasL l x y := by
  unfold hasL
  constructor
  · rintro ⟨s, hs, h⟩
    rcases List.mem_cons.1 hs with e | e
    · subst e; exact .inl h
    · exact .inr ⟨s, e, h⟩
  · rintro (h | ⟨s, hs, h⟩)
    · exact ⟨r, by simp, h⟩
    · exact ⟨s, by simp [hs], h⟩
theorem hasL_app (l m : List S40) (x y : Int) : hasL (l ++ m) x y ↔ hasL l x y ∨ hasL m x y := by
  unfold hasL
  constructor
  · rintro ⟨s, hs, h⟩
    rcases List.mem_append.1 hs with e | e
    · exact .inl ⟨s, e, h⟩
    · exact .inr ⟨s, e, h⟩
  · rintro (⟨s, hs, h⟩ | ⟨s, hs, h⟩)
    · exact ⟨s, by simp [hs], h⟩
    · exact ⟨s, by simp [hs], h⟩
theorem cnt_list : ∀ (l : List S40), (∀ r ∈ l, W r) → l.Pairwise disj → (cnt (hasL l) : Int) = areaL l
  | [], _, _ => by
    have : cnt (hasL []) = 0 := by
      rw [← cnt_none]
      exact cnt_ext fun x y => ⟨fun ⟨r, hr, _⟩ => by simp at hr, False.elim⟩
    rw [this]
    rfl
  | r :: l, hW, hd => by
    obtain ⟨h1, h2⟩ := List.pairwise_cons.1 hd
    have ih := cnt_list l (fun s hs => hW s (by simp [hs])) h2
    have e : cnt (hasL (r :: l)) = cnt (has r) + cnt (hasL l) := by
      rw [← cnt_or (P := has r) (Q := hasL l) fun x y ⟨a, s, hs, b⟩ => h1 s hs x y ⟨a, b⟩]
      exact cnt_ext fun x y => hasL_cons r l x y
    rw [e, Int.natCast_add, ih, cnt_has (hW r (by simp))]
    simp [areaL]
/-! The pixels of what is found. -/
theorem hasL_cells (c : List S248) (f h x v : Int) : hasL (c.map (cell f h)) x v ↔ inn c x ∧ f ≤ v ∧ v < f + h := by
  unfold hasL inn
  constructor
  · rintro ⟨r, hr, h1⟩
    obtain ⟨a, ha, rfl⟩ := List.mem_map.1 hr
    unfold has cell at h1
    simp only at h1
    exact ⟨⟨a, ha, by omega⟩, by omega⟩
  · rintro ⟨⟨a, ha, h1⟩, h2⟩
    refine ⟨cell f h a, List.mem_map.2 ⟨a, ha, rfl⟩, ?_⟩
    unfold has cell
    simp only
    omega
theorem cells_disj {c : List S248} (hc : Can c) (f h : Int) : (c.map (cell f h)).Pairwise disj := by
  rw [List.pairwise_map]
  refine hc.2.imp fun {a b} hab => ?_
  rintro x y ⟨h1, h2⟩
  unfold has cell at h1 h2
  simp only at h1 h2
  omega
/-- What stands when k edges have been passed. -/
structure Passed (R : Int → List S248) (ys : List Int) (k : Nat) (y : Int) (S : List S40 × List S248 × Int) : Prop where
  from_lt : (S.2.1 = [] ∧ S.1 = []) ∨ (-100000 ≤ S.2.2 ∧ S.2.2 < y)
  ends : ∀ r ∈ S.1, r.f1 + r.f3 ≤ S.2.2
  wf : ∀ r ∈ S.1, W r
  apart : S.1.Pairwise disj
  pix : ∀ x v, v < y → (hasL (S.1 ++ S.2.1.map (cell S.2.2 (y - S.2.2))) x v ↔ inn (R v) x)
theorem passed_all {R : Int → List S248} {ys : List Int} {k : Nat} {y : Int} {S : List S40 × List S248 × Int} (h : Passed R ys k y S) (hc : Can S.2.1) (hy : y ≤ 100000) :
    (∀ r ∈ S.1 ++ S.2.1.map (cell S.2.2 (y - S.2.2)), W r ∧ r.f1 + r.f3 ≤ y) ∧ (S.1 ++ S.2.1.map (cell S.2.2 (y - S.2.2))).Pairwise disj := by
  have hcell : ∀ a ∈ S.2.1, W (cell S.2.2 (y - S.2.2) a) ∧ (cell S.2.2 (y - S.2.2) a).f1 + (cell S.2.2 (y - S.2.2) a).f3 ≤ y := by
    intro a ha
    have hB := hc.1 a ha
    unfold B at hB
    rcases h.from_lt with ⟨h1, _⟩ | h1
    · rw [h1] at ha; simp at ha
    · unfold W cell
      simp only
      omega
  constructor
  · intro r hr
    rcases List.mem_append.1 hr with e | e
    · refine ⟨h.wf r e, ?_⟩
      have h1 := h.ends r e
      rcases h.from_lt with ⟨_, h2⟩ | h2
      · rw [h2] at e; simp at e
      · omega
    · obtain ⟨a, ha, rfl⟩ := List.mem_map.1 e
      exact hcell a ha
  · refine List.pairwise_append.2 ⟨h.apart, cells_disj hc _ _, fun r hr s hs => ?_⟩
    obtain ⟨a, ha, rfl⟩ := List.mem_map.1 hs
    have h1 := h.ends r hr
    rintro x v ⟨h2, h3⟩
    simp only [has, cell] at h2 h3
    omega
theorem passed (R : Int → List S248) (ys : List Int) (hR : ∀ y, Can (R y)) (hord : ys.Pairwise (· < ·)) (hys : ∀ y ∈ ys, -100000 ≤ y ∧ y ≤ 100000) (hK : ∀ a b, a ≤ b → (∀ e ∈ ys, ¬ (a < e ∧ e ≤ b)) → R a = R b) (hlo : ∀ y, (∀ e ∈ ys, y < e) → R y = []) :
    ∀ k y, ys[k]? = some y → Passed R ys k y (St R ys k) := by
  intro k
  induction k with
  | zero =>
    intro y hy
    refine ⟨.inl ⟨rfl, rfl⟩, by simp [St], by simp [St], by simp [St], fun x v hv => ?_⟩
    have : R v = [] := hlo v fun e he => by
      obtain ⟨j, hj⟩ := List.getElem?_of_mem he
      by_cases e0 : j = 0
      · subst e0; rw [hy] at hj; cases hj; exact hv
      · have := List.pairwise_iff_getElem.1 hord 0 j (List.getElem?_eq_some_iff.1 hy).1 (List.getElem?_eq_some_iff.1 hj).1 (by omega)
        rw [(List.getElem?_eq_some_iff.1 hy).2, (List.getElem?_eq_some_iff.1 hj).2] at this
        omega
    rw [this]
    simp only [St, List.map_nil, List.append_nil]
    exact ⟨fun ⟨r, hr, _⟩ => by simp at hr, fun h => absurd h (inn_nil x)⟩
  | succ k ih =>
    intro y' hy'
    have hlt := (List.getElem?_eq_some_iff.1 hy').1
    obtain ⟨y, hy⟩ : ∃ r, ys[k]? = some r := ⟨_, List.getElem?_eq_getElem (by omega)⟩
    have P := ih y hy
    have hyy : y < y' := by
      have := List.pairwise_iff_getElem.1 hord k (k + 1) (by omega) hlt (by omega)
      rw [(List.getElem?_eq_some_iff.1 hy).2, (List.getElem?_eq_some_iff.1 hy').2] at this
      exact this
    have hb := hys y (List.mem_of_getElem? hy)
    obtain ⟨_, hcan, _⟩ := St_ok R ys hR hys k (by omega)
    obtain ⟨A1, A2⟩ := passed_all P hcan hb.2
    have hconst : ∀ v, y ≤ v → v < y' → R y = R v := fun v h1 h2 => hK y v h1 fun e he hh => by
      rcases next_to hord hy hy' he with h | h <;> omega
    have hnone : ∀ x v, y ≤ v → ¬ hasL ((St R ys k).1 ++ (St R ys k).2.1.map (cell (St R ys k).2.2 (y - (St R ys k).2.2))) x v := by
      rintro x v hv ⟨r, hr, hh⟩
      have := (A1 r hr).2
      unfold has at hh
      omega
    by_cases c : (St R ys k).2.1 = R y
    · rw [St_same hy c]
      refine ⟨?_, P.ends, P.wf, P.apart, fun x v hv => ?_⟩
      · rcases P.from_lt with h | h
        · exact .inl h
        · exact .inr (by omega)
      · rw [hasL_app, hasL_cells]
        have h0 := P.pix x v
        rw [hasL_app, hasL_cells] at h0
        have hends : ∀ v, (St R ys k).2.2 ≤ v → ¬ hasL (St R ys k).1 x v := by
          rintro v hv ⟨r, hr, hh⟩
          have := P.ends r hr
          unfold has at hh
          omega
        by_cases hvy : v < y
        · rw [← h0 hvy]
          constructor
          · rintro (h | h)
            · exact .inl h
            · exact .inr ⟨h.1, h.2.1, by omega⟩
          · rintro (h | h)
            · exact .inl h
            · exact .inr ⟨h.1, h.2.1, by omega⟩
        · rw [← hconst v (by omega) hv, ← c]
          rcases P.from_lt with ⟨g1, g2⟩ | g
          · rw [g1, g2]
            exact ⟨fun h => h.elim (fun ⟨r, hr, _⟩ => by simp at hr) fun h => h.1, fun h => absurd h (inn_nil x)⟩
          · constructor
            · rintro (h | h)
              · exact absurd h (hends v (by omega))
              · exact h.1
            · intro h
              exact .inr ⟨h, by omega, by omega⟩
    · rw [St_new hy c]
      refine ⟨.inr ⟨hb.1, hyy⟩, fun r hr => (A1 r hr).2, fun r hr => (A1 r hr).1, A2, fun x v hv => ?_⟩
      simp only
      rw [hasL_app, hasL_cells]
      by_cases hvy : v < y
      · rw [P.pix x v hvy]
        exact ⟨fun h => h.elim id fun h => by omega, .inl⟩
      · rw [← hconst v (by omega) hv]
        constructor
        · rintro (h | h)
          · exact absurd h (hnone x v (by omega))
          · exact h.1
        · intro h
          exact .inr ⟨h, by omega, by omega⟩
/-- The rectangles that are found: each right, none with a pixel of another one, and together just the pixels of p that q has not. -/
theorem fin_pix (p q : List S40) (hp : ∀ r ∈ p, W r) (hq : ∀ r ∈ q, W r) (lp : p.length ≤ 1000000) (lq : q.length ≤ 1000000) :
    (∀ r ∈ Fin (rowAt p q) (edgesY (p ++ q)), W r) ∧ (Fin (rowAt p q) (edgesY (p ++ q))).Pairwise disj ∧ ∀ x y, hasL (Fin (rowAt p q) (edgesY (p ++ q))) x y ↔ hasL p x y ∧ ¬ hasL q x y := by
  have hall : ∀ r ∈ p ++ q, W r := fun r hr => by
    rcases List.mem_append.1 hr with e | e
    · exact hp r e
    · exact hq r e
  obtain ⟨y1, y2, y3, y4⟩ := edgesY_ok (p ++ q) hall
  have hR : ∀ y, Can (rowAt p q y) := fun y => by obtain ⟨_, _, _, _, _, h, _⟩ := rowAt_ok p q y hp hq lp lq; exact h
  have hRx : ∀ y x, inn (rowAt p q y) x ↔ hasL p x y ∧ ¬ hasL q x y := fun y => by obtain ⟨_, _, _, _, _, _, h⟩ := rowAt_ok p q y hp hq lp lq; exact h
  have mem : ∀ r, r ∈ p ∨ r ∈ q → r.f1 ∈ edgesY (p ++ q) ∧ r.f1 + r.f3 ∈ edgesY (p ++ q) := fun r hr => ⟨(y2 _).2 ⟨r, List.mem_append.2 hr, .inl rfl⟩, (y2 _).2 ⟨r, List.mem_append.2 hr, .inr rfl⟩⟩
  have hK : ∀ a b, a ≤ b → (∀ e ∈ edgesY (p ++ q), ¬ (a < e ∧ e ≤ b)) → rowAt p q a = rowAt p q b := fun a b hab hE => by
    refine row_same p q a b hp hq lp lq fun r hr x => ?_
    have h1 := hE _ (mem r hr).1
    have h2 := hE _ (mem r hr).2
    unfold has
    omega
  have hlo : ∀ y, (∀ e ∈ edgesY (p ++ q), y < e) → rowAt p q y = [] := fun y hE => by
    refine row_none p q y hp hq lp lq fun r hr x hx => ?_
    have h1 := hE _ (mem r (.inl hr)).1
    unfold has at hx
    omega
  have hP := passed (rowAt p q) (edgesY (p ++ q)) hR y1 y3 hK hlo
  have hSt := St_ok (rowAt p q) (edgesY (p ++ q)) hR y3
  generalize hys : edgesY (p ++ q) = ys at *
  cases hn : ys.length with
  | zero =>
    have h0 : ys = [] := List.eq_nil_of_length_eq_zero hn
    subst h0
    have hnone : ∀ r, ¬ (r ∈ p ∨ r ∈ q) := fun r hr => by have := (mem r hr).1; simp at this
    refine ⟨by simp [Fin, St], by simp [Fin, St], fun x y => ?_⟩
    constructor
    · rintro ⟨r, hr, _⟩
      simp [Fin, St] at hr
    · rintro ⟨⟨r, hr, _⟩, _⟩
      exact absurd (.inl hr) (hnone r)
  | succ n =>
    obtain ⟨y, hy⟩ : ∃ r, ys[n]? = some r := ⟨_, List.getElem?_eq_getElem (by omega)⟩
    have P := hP n y hy
    have hb := y3 y (List.mem_of_getElem? hy)
    obtain ⟨_, hcan, _⟩ := hSt n (by omega)
    obtain ⟨A1, A2⟩ := passed_all P hcan hb.2
    have e : Fin (rowAt p q) ys = (St (rowAt p q) ys n).1 ++ (St (rowAt p q) ys n).2.1.map (cell (St (rowAt p q) ys n).2.2 (y - (St (rowAt p q) ys n).2.2)) := by
      unfold Fin
      rw [hn, Nat.add_sub_cancel, List.getD_eq_getElem?_getD, hy, Option.getD_some]
    rw [e]
    refine ⟨fun r hr => (A1 r hr).1, A2, fun x v => ?_⟩
    by_cases hv : v < y
    · rw [P.pix x v hv, hRx]
    · constructor
      · rintro ⟨r, hr, hh⟩
        have := (A1 r hr).2
        unfold has at hh
        omega
      · rintro ⟨⟨r, hr, hh⟩, _⟩
        have hmem := (mem r (.inl hr)).2
        obtain ⟨j, hj⟩ := List.getElem?_of_mem hmem
        have hjl := (List.getElem?_eq_some_iff.1 hj).1
        have hle : r.f1 + r.f3 ≤ y := by
          by_cases e0 : j = n
          · subst e0; rw [hy] at hj; cases hj; exact Int.le_refl _
          · have := List.pairwise_iff_getElem.1 y1 j n hjl (by omega) (by omega)
            rw [(List.getElem?_eq_some_iff.1 hj).2, (List.getElem?_eq_some_iff.1 hy).2] at this
            omega
        unfold has at hh
        omega
end Go.Abs.TTA.R

set_option linter.unusedVariables false
set_option linter.unusedSimpArgs false
set_option maxRecDepth 10000
namespace Go.Abs.TTA.R
open Go.RowKit Go.Proofs Go.Abs
/-! Faults. -/
def inB (a b c : Int) : Bool := leI b a && leI a c
theorem t126 (a b c : Int) : T95 a b c = some (!inB a b c) := by
  unfold T95 inB ltI leI
  by_cases h1 : a < b
  · have : ¬ b ≤ a := by omega
    simp [h1, this]
  · have : b ≤ a := by omega
    by_cases h2 : c < a
    · have h3 : ¬ a ≤ c := by omega
      simp [h1, h2, this, h3]
    · have h3 : a ≤ c := by omega
      simp [h1, h2, this, h3]
def good (r : S40) : Bool := inB r.f0 (-100000) 100000 && inB r.f1 (-100000) 100000 && inB r.f2 1 (subI .i64 100000 r.f0) && inB r.f3 1 (subI .i64 100000 r.f1)
theorem t117 (r : S40) : T89 r = some (bif good r then 0 else 1) := by
  unfold T89 good
  simp only [t126, Option.bind_some]
  cases inB r.f0 (-100000) 100000 <;> cases inB r.f1 (-100000) 100000 <;> cases inB r.f2 1 (subI .i64 100000 r.f0) <;> cases inB r.f3 1 (subI .i64 100000 r.f1) <;> rfl
theorem neI_code (b : Bool) : neI (bif b then (0 : Int) else 1) 0 = !b := by cases b <;> rfl
def code (p : List S40) : Int := if 2000 < p.length then 2 else if p.all good = true then 0 else 1
theorem t211 (p : List S40) (hl : p.length ≤ 1048576) : T84 p = some (code p) := by
  unfold T84 code
  by_cases h : 2000 < p.length
  · rw [if_pos h, show ltI 2000 (lenL p) = true from decide_eq_true (by rw [lenL_eq]; omega)]
    rfl
  · rw [if_neg h, show ltI 2000 (lenL p) = false from decide_eq_false (by rw [lenL_eq]; omega)]
    simp only [cond_false]
    obtain ⟨r, h1, h2⟩ : ∃ r, iter (L84_4 p) 0 = some r ∧ ((r.isLeft = true ∧ p.all good = true) ∨ (r = .inr 1 ∧ ¬ p.all good = true)) := by
      refine iter_upx (st := L84_4 p) (fun (_ : Unit) i => (i : Int)) p.length (fun i _ => ∀ j x, j < i → p[j]? = some x → good x = true) (fun r => (r.isLeft = true ∧ p.all good = true) ∨ (r = .inr 1 ∧ ¬ p.all good = true)) ?_ ?_ 0 () (Nat.zero_le _) (fun j _ h => absurd h (Nat.not_lt_zero j))
      · intro i _ hi hinv
        obtain ⟨r, hr⟩ : ∃ r, p[i]? = some r := ⟨_, List.getElem?_eq_getElem hi⟩
        simp only [L84_4, ltL_true hi, listAt_some hr, cond_true, Option.bind_some, nextI (show i < 9223372036854775807 by omega), t117, neI_code]
        cases hg : good r with
        | true =>
          refine .inl ⟨(), rfl, fun j x hj hx => ?_⟩
          by_cases e : j = i
          · subst e
            rw [hr] at hx
            cases hx
            exact hg
          · exact hinv j x (by omega) hx
        | false =>
          refine .inr ⟨_, rfl, .inr ⟨rfl, fun h => ?_⟩⟩
          have := List.all_eq_true.1 h r (List.mem_of_getElem? hr)
          rw [hg] at this
          cases this
      · intro _ hinv
        simp only [L84_4, ltL_false (Nat.le_refl _), cond_false]
        refine ⟨_, rfl, .inl ⟨rfl, List.all_eq_true.2 fun x hx => ?_⟩⟩
        obtain ⟨j, hj⟩ := List.getElem?_of_mem hx
        exact hinv j x (List.getElem?_eq_some_iff.1 hj).1 hj
    rw [h1, Option.bind_some]
    rcases h2 with ⟨h2, h3⟩ | ⟨h2, h3⟩
    · rw [if_pos h3]
      cases r with
      | inl y => rfl
      | inr y => cases h2
    · rw [if_neg h3, h2]
      rfl
/-! Which rectangle holds a place. -/
/-! Sums; lists beside themselves. -/
end Go.Abs.TTA.R

set_option linter.unusedVariables false
set_option linter.unusedSimpArgs false
set_option maxRecDepth 10000
namespace Go.Abs.TTA.R
open Go.RowKit Go.Proofs Go.Abs
/-! The region of rectangles. -/
theorem reg_ok (p q : List S40) (hp : ∀ r ∈ p, W r) (hq : ∀ r ∈ q, W r) (lp : p.length ≤ 2000) (lq : q.length ≤ 2000) : T86 p q = some (Fin (rowAt p q) (edgesY (p ++ q))) := by
  have hall : ∀ r ∈ p ++ q, W r := fun r hr => by
    rcases List.mem_append.1 hr with e | e
    · exact hp r e
    · exact hq r e
  have hl4 : (p ++ q).length ≤ 4000 := by rw [List.length_append]; omega
  have hl : (p ++ q).length ≤ 1000000 := by omega
  obtain ⟨y1, y2, y3, y4⟩ := edgesY_ok (p ++ q) hall
  obtain ⟨e, e1, e2⟩ := edges_loop p q (p ++ q) hl
  obtain ⟨u, u1, u2⟩ := prog_ok p q (edgesY (p ++ q)) hp hq (by omega) (by omega) y3 (by omega)
  unfold T86
  rw [both_ok p q (by omega) (by omega), Option.bind_some, e1, Option.bind_some, e2]
  unfold sortIO compIO
  rw [if_pos (by rw [eY_len]; omega), Option.bind_some, Option.bind_some]
  unfold edgesY at u1 u2
  rw [u1, Option.bind_some, u2]
  rfl
theorem nil_W : ∀ r ∈ ([] : List S40), W r := fun r hr => by cases hr
theorem nil_has (x y : Int) : ¬ hasL [] x y := fun ⟨_, h, _⟩ => by cases h
theorem hasL_one (r : S40) (x y : Int) : hasL [r] x y ↔ has r x y := ⟨fun ⟨s, hs, h⟩ => by rw [List.mem_singleton] at hs; subst hs; exact h, fun h => ⟨r, List.mem_singleton.2 rfl, h⟩⟩
theorem good_of {r : S40} (h : W r) : good r = true := by
  unfold W at h
  unfold good inB leI
  rw [subI_eq (by omega) (by omega), subI_eq (by omega) (by omega)]
  simp only [Bool.and_eq_true, decide_eq_true_eq]
  omega
theorem fault_ok {p : List S40} (hp : ∀ r ∈ p, W r) (lp : p.length ≤ 2000) : T84 p = some 0 := by
  rw [t211 p (by omega)]
  unfold code
  rw [if_neg (by omega), if_pos (List.all_eq_true.2 fun r hr => good_of (hp r hr))]
theorem rect_ok {r : S40} (h : W r) : T89 r = some 0 := by
  rw [t117, good_of h]
  rfl
/-- 'Region'. -/
theorem region_is {p : List S40} (hp : ∀ r ∈ p, W r) (lp : p.length ≤ 2000) (hl : (Fin (rowAt p []) (edgesY p)).length ≤ 2000) : T16 p = some (Fin (rowAt p []) (edgesY p), 0) := by
  unfold T16
  rw [fault_ok hp lp, Option.bind_some, reg_ok p [] hp nil_W lp (by decide), List.append_nil]
  simp only [show neI 0 0 = false from rfl, cond_false, Option.bind_some]
  unfold T85
  rw [show ltI 2000 (lenL (Fin (rowAt p []) (edgesY p))) = false by rw [lenL_eq]; exact decide_eq_false (by omega)]
  rfl
end Go.Abs.TTA.R

set_option linter.unusedVariables false
set_option linter.unusedSimpArgs false
set_option maxRecDepth 10000
namespace Go.Abs.TTA
open Go.RowKit Go.Proofs Go.Abs
/-! The two rectangles of 'lit'. -/
theorem lit_sort1 (x : S248) : sortO (fun x y => T217 x y) [x] = some [x] := by
  obtain ⟨l', h1, h2, _⟩ := sortO_le (fun x y => T217 x y) (fun _ _ => True) (fun _ _ => .inl trivial) (fun _ _ _ _ _ => trivial) [x] (by simp) (by
    intro a ha b hb
    simp only [List.mem_singleton] at ha hb
    subst ha; subst hb
    refine ⟨_, rfl, ?_⟩
    have : subI .i64 b.f0 b.f0 = 0 := by unfold subI; rw [Int.sub_self]; rfl
    simp [this])
  rw [h1, List.perm_singleton.1 h2]
theorem lit_sort2 : sortO (fun x y => T217 x y) [⟨0, 2⟩, ⟨1, 3⟩] = some [⟨0, 2⟩, ⟨1, 3⟩] := by
  obtain ⟨l', h1, h2, h3⟩ := sortO_key (fun x y => T217 x y) (·.f0) [⟨0, 2⟩, ⟨1, 3⟩] (by simp) (by
    intro a ha b hb
    simp only [List.mem_cons, List.not_mem_nil, or_false] at ha hb
    rcases ha with rfl | rfl <;> rcases hb with rfl | rfl <;> exact ⟨_, rfl, by decide⟩)
  rw [h1]
  congr 1
  match l', h2.length_eq with
  | [a, b], _ =>
    have ha : a ∈ [(⟨0, 2⟩ : S248), ⟨1, 3⟩] := h2.mem_iff.1 (by simp)
    have hb : b ∈ [(⟨0, 2⟩ : S248), ⟨1, 3⟩] := h2.mem_iff.1 (by simp)
    have hp := h2.countP_eq (fun x : S248 => x.f0 == 0)
    simp only [List.mem_cons, List.not_mem_nil, or_false] at ha hb
    simp only [List.pairwise_cons, List.mem_singleton, forall_eq] at h3
    rcases ha with rfl | rfl <;> rcases hb with rfl | rfl
    · simp at hp
    · rfl
    · have := h3.1
      simp at this
    · simp at hp
abbrev r0 : S40 := S40.mk 0 0 2 2
abbrev r1 : S40 := S40.mk 1 1 2 2
theorem runs_nil (y : Int) : T155 [] y = some [] := by
  unfold T155
  rw [iter_run (r := (0, false, [])) 1 (by kernel_rfl)]
  simp only [Option.bind_some]
  rw [show sortO (fun x y => T217 x y) ([] : List S248) = some [] from by simp [sortO], Option.bind_some, iter_run (r := (0, false, [], [])) 1 (by kernel_rfl)]
  rfl
theorem runs0 : T155 [r0, r1] 0 = some [⟨0, 2⟩] := by
  unfold T155
  rw [iter_run (r := (2, false, [⟨0, 2⟩])) 3 (by kernel_rfl)]
  simp only [Option.bind_some]
  rw [lit_sort1, Option.bind_some, iter_run (r := (1, false, [⟨0, 2⟩], [⟨0, 2⟩])) 2 (by kernel_rfl)]
  rfl
theorem runs1 : T155 [r0, r1] 1 = some [⟨0, 3⟩] := by
  unfold T155
  rw [iter_run (r := (2, false, [⟨0, 2⟩, ⟨1, 3⟩])) 3 (by kernel_rfl)]
  simp only [Option.bind_some]
  rw [lit_sort2, Option.bind_some, iter_run (r := (2, false, [⟨0, 3⟩], [⟨0, 2⟩, ⟨1, 3⟩])) 3 (by kernel_rfl)]
  rfl
theorem runs2 : T155 [r0, r1] 2 = some [⟨1, 3⟩] := by
  unfold T155
  rw [iter_run (r := (2, false, [⟨1, 3⟩])) 3 (by kernel_rfl)]
  simp only [Option.bind_some]
  rw [lit_sort1, Option.bind_some, iter_run (r := (1, false, [⟨1, 3⟩], [⟨1, 3⟩])) 2 (by kernel_rfl)]
  rfl
theorem less_nil (x : S248) (hx : ltI x.f0 x.f1 = true) : T154 [x] [] = some [x] := by
  have h : L154_4 [x] [] ([], 0, 0) = some (.inl ([x], 0, 1)) := by
    unfold L154_4
    have e1 : ltI ((([], 0, 0) : List S248 × Int × Int).2.2) (lenL [x]) = true := rfl
    have e2 : listAt [x] ((([], 0, 0) : List S248 × Int × Int).2.2) = some x := rfl
    rw [e1, e2]
    simp only [cond_true, Option.bind_some]
    rw [iter_run (r := (0, false)) 1 (by kernel_rfl), Option.bind_some, iter_run (r := (0, false, [], x.f0)) 1 (by kernel_rfl)]
    simp only [Option.bind_some, hx, cond_true]
    rfl
  unfold T154
  rw [iter_inl h, iter_inr (r := (0, 1, false, [x])) (by kernel_rfl)]
  rfl
theorem same_no (a b : S248) (h : allB [eqI a.f0 b.f0, eqI a.f1 b.f1] = false) : T156 [a] [b] = some false := by
  unfold T156
  rw [iter_inr (r := .inr ()) (by
    unfold L156_4
    have e1 : ltI 0 (lenL [a]) = true := rfl
    have e2 : listAt [a] 0 = some a := rfl
    have e3 : listAt [b] 0 = some b := rfl
    rw [e1, e2, e3]
    simp only [cond_true, Option.bind_some, h, Bool.not_false])]
  rfl
theorem lit_region : T86 [r0, r1] [] = some [⟨0, 0, 2, 1⟩, ⟨0, 1, 3, 1⟩, ⟨1, 2, 2, 1⟩] := by
  unfold T86 T151
  rw [iter_run (r := (2, 2, false)) 3 (by kernel_rfl)]
  simp only [Option.bind_some]
  rw [show growO S40 32 2 = some [] by unfold growO; rw [if_pos (by decide)], Option.bind_some, iter_run (r := (2, false, [r0, r1])) 3 (by kernel_rfl)]
  simp only [Option.bind_some]
  rw [iter_run (r := (2, false, [0, 2, 1, 3], [r0, r1])) 3 (by kernel_rfl)]
  simp only [Option.bind_some]
  rw [show sortIO [0, 2, 1, 3] = some [0, 1, 2, 3] by
    unfold sortIO
    rw [if_pos (by simp), sortI_of (l' := [0, 1, 2, 3]) (by decide) (by decide)]]
  simp only [Option.bind_some]
  rw [show compIO [0, 1, 2, 3] = some [0, 1, 2, 3] by decide]
  simp only [Option.bind_some]
  have s0 : L86_13 [r0, r1] [] [0, 1, 2, 3] ([0, 1, 2, 3], [], [], 0, 0) = some (.inl ([0, 1, 2, 3], [], [⟨0, 2⟩], 0, 1)) := by
    unfold L86_13
    rw [show ltI ((([0, 1, 2, 3], [], [], 0, 0) : List Int × List S40 × List S248 × Int × Int).2.2.2.2) (lenL ([0, 1, 2, 3] : List Int)) = true by decide]
    simp only [cond_true]
    rw [show idxO (List.length ([0, 1, 2, 3] : List Int)) 0 = some 0 by decide]
    simp only [Option.bind_some]
    rw [show getN ([0, 1, 2, 3] : List Int) 0 = some 0 by decide]
    simp only [Option.bind_some]
    rw [show ltI (addI .i64 0 1) (lenL ([0, 1, 2, 3] : List Int)) = true by decide]
    simp only [cond_true]
    rw [runs0, runs_nil]
    simp only [Option.bind_some]
    rw [less_nil ⟨0, 2⟩ (by decide)]
    simp only [Option.bind_some]
    rw [show T156 [] [⟨0, 2⟩] = some false by unfold T156; rfl]
    simp only [Option.bind_some, cond_false]
    rw [iter_run (r := (0, false, [0, 1, 2, 3], [])) 1 (by kernel_rfl)]
    rfl
  have s1 : L86_13 [r0, r1] [] [0, 1, 2, 3] ([0, 1, 2, 3], [], [⟨0, 2⟩], 0, 1) = some (.inl ([0, 1, 2, 3], [⟨0, 0, 2, 1⟩], [⟨0, 3⟩], 1, 2)) := by
    unfold L86_13
    rw [show ltI ((([0, 1, 2, 3], [], [⟨0, 2⟩], 0, 1) : List Int × List S40 × List S248 × Int × Int).2.2.2.2) (lenL ([0, 1, 2, 3] : List Int)) = true by decide]
    simp only [cond_true]
    rw [show idxO (List.length ([0, 1, 2, 3] : List Int)) 1 = some 1 by decide]
    simp only [Option.bind_some]
    rw [show getN ([0, 1, 2, 3] : List Int) 1 = some 1 by decide]
    simp only [Option.bind_some]
    rw [show ltI (addI .i64 1 1) (lenL ([0, 1, 2, 3] : List Int)) = true by decide]
    simp only [cond_true]
    rw [runs1, runs_nil]
    simp only [Option.bind_some]
    rw [less_nil ⟨0, 3⟩ (by decide)]
    simp only [Option.bind_some]
    rw [same_no _ _ (by decide)]
    simp only [Option.bind_some, cond_false]
    rw [iter_run (r := (1, false, [0, 1, 2, 3], [⟨0, 0, 2, 1⟩])) 2 (by kernel_rfl)]
    rfl
  have s2 : L86_13 [r0, r1] [] [0, 1, 2, 3] ([0, 1, 2, 3], [⟨0, 0, 2, 1⟩], [⟨0, 3⟩], 1, 2) = some (.inl ([0, 1, 2, 3], [⟨0, 0, 2, 1⟩, ⟨0, 1, 3, 1⟩], [⟨1, 3⟩], 2, 3)) := by
    unfold L86_13
    rw [show ltI ((([0, 1, 2, 3], [⟨0, 0, 2, 1⟩], [⟨0, 3⟩], 1, 2) : List Int × List S40 × List S248 × Int × Int).2.2.2.2) (lenL ([0, 1, 2, 3] : List Int)) = true by decide]
    simp only [cond_true]
    rw [show idxO (List.length ([0, 1, 2, 3] : List Int)) 2 = some 2 by decide]
    simp only [Option.bind_some]
    rw [show getN ([0, 1, 2, 3] : List Int) 2 = some 2 by decide]
    simp only [Option.bind_some]
    rw [show ltI (addI .i64 2 1) (lenL ([0, 1, 2, 3] : List Int)) = true by decide]
    simp only [cond_true]
    rw [runs2, runs_nil]
    simp only [Option.bind_some]
    rw [less_nil ⟨1, 3⟩ (by decide)]
    simp only [Option.bind_some]
    rw [same_no _ _ (by decide)]
    simp only [Option.bind_some, cond_false]
    rw [iter_run (r := (1, false, [0, 1, 2, 3], [⟨0, 0, 2, 1⟩, ⟨0, 1, 3, 1⟩])) 2 (by kernel_rfl)]
    rfl
  have s3 : L86_13 [r0, r1] [] [0, 1, 2, 3] ([0, 1, 2, 3], [⟨0, 0, 2, 1⟩, ⟨0, 1, 3, 1⟩], [⟨1, 3⟩], 2, 3) = some (.inl ([0, 1, 2, 3], [⟨0, 0, 2, 1⟩, ⟨0, 1, 3, 1⟩, ⟨1, 2, 2, 1⟩], [], 3, 4)) := by
    unfold L86_13
    rw [show ltI ((([0, 1, 2, 3], [⟨0, 0, 2, 1⟩, ⟨0, 1, 3, 1⟩], [⟨1, 3⟩], 2, 3) : List Int × List S40 × List S248 × Int × Int).2.2.2.2) (lenL ([0, 1, 2, 3] : List Int)) = true by decide]
    simp only [cond_true]
    rw [show idxO (List.length ([0, 1, 2, 3] : List Int)) 3 = some 3 by decide]
    simp only [Option.bind_some]
    rw [show getN ([0, 1, 2, 3] : List Int) 3 = some 3 by decide]
    simp only [Option.bind_some]
    rw [show ltI (addI .i64 3 1) (lenL ([0, 1, 2, 3] : List Int)) = false by decide]
    simp only [cond_false]
    rw [show T156 [⟨1, 3⟩] [] = some false by unfold T156; rfl]
    simp only [Option.bind_some, cond_false]
    rw [iter_run (r := (1, false, [0, 1, 2, 3], [⟨0, 0, 2, 1⟩, ⟨0, 1, 3, 1⟩, ⟨1, 2, 2, 1⟩])) 2 (by kernel_rfl)]
    rfl
  rw [iter_inl s0, iter_inl s1, iter_inl s2, iter_inl s3, iter_inr (r := ([], 3, 4, false, [0, 1, 2, 3], [⟨0, 0, 2, 1⟩, ⟨0, 1, 3, 1⟩, ⟨1, 2, 2, 1⟩])) (by kernel_rfl)]
  rfl
theorem lit_area : T91 [r0, r1] = some (7, 0) := by
  unfold T91 T84 T160
  rw [iter_run (r := .inl (2, false)) 3 (by kernel_rfl)]
  rw [show (bif ltI 2000 (lenL ([r0, r1] : List S40)) then (some 2 : Option Int) else (some (Sum.inl (2, false) : (Int × Bool) ⊕ Int)).bind fun y3 => (Sum.elim (fun y3a => some 0) (fun y3b => some y3b) y3)) = some 0 by decide]
  simp only [Option.bind_some]
  rw [show neI 0 0 = false by decide]
  simp only [cond_false]
  rw [lit_region]
  simp only [Option.bind_some]
  rw [iter_run (r := (7, 3, false)) 4 (by kernel_rfl)]
  rfl
/-! All that is asked of the packages. -/
theorem ready_ok : T19 = some true := by
  unfold T19
  rw [lit_area]
  simp only [Option.bind_some]
  kernel_rfl
end Go.Abs.TTA

set_option linter.unusedVariables false
set_option linter.unusedSimpArgs false
set_option maxRecDepth 10000
namespace Go.Abs.TTA
open Go.RowKit Go.Proofs Go.Abs
/-! What a stream hands out. -/
theorem below_ok (x : Int) {n : Int} (hn : n ≤ 1000000000000000) : ∃ v, T123 x n = some v ∧ (1 ≤ n → 0 ≤ v ∧ v < n) ∧ (n < 1 → v = 0) := by
  unfold T123
  by_cases h : n < 1
  · rw [show ltI n 1 = true by unfold ltI; exact decide_eq_true h]
    exact ⟨0, rfl, fun h1 => by omega, fun _ => rfl⟩
  · rw [show ltI n 1 = false by unfold ltI; exact decide_eq_false h]
    have hr : remO .i64 x n = some (x.tmod n) := by unfold remO; rw [if_neg (by omega)]
    have h1 := Int.tmod_lt_of_pos x (by omega : 0 < n)
    have h2 := Int.lt_tmod_of_pos x (by omega : 0 < n)
    simp only [cond_false, hr, Option.bind_some]
    by_cases h0 : x.tmod n < 0
    · rw [show ltI (x.tmod n) 0 = true by unfold ltI; exact decide_eq_true h0]
      refine ⟨_, rfl, fun _ => ?_, fun h3 => by omega⟩
      rw [addI_eq (by omega) (by omega)]
      omega
    · rw [show ltI (x.tmod n) 0 = false by unfold ltI; exact decide_eq_false h0]
      exact ⟨_, rfl, fun _ => ⟨by omega, h1⟩, fun h3 => by omega⟩
theorem next_ok {L : List Int} {at_ n : Int} (hL : L.length ≤ 1048576) (h0 : 0 ≤ at_) (h1 : at_ ≤ 1000000000) (hn : n ≤ 1000000000000000) : ∃ v, T46 L at_ n = some (v, L, at_ + 1) ∧ (1 ≤ n → 0 ≤ v ∧ v < n) ∧ (n < 1 → v = 0) := by
  unfold T46
  have e1 : addI .i64 at_ 1 = at_ + 1 := addI_eq (by omega) (by omega)
  rw [e1]
  by_cases hl : L.length = 0
  · rw [show eqI (lenL L) 0 = true by rw [eqI_iff, lenL_eq, hl]; rfl]
    obtain ⟨v, h2, h3⟩ := below_ok (mulI .i64 (at_ + 1) 7919) hn
    simp only [cond_true, h2, Option.bind_some]
    exact ⟨v, rfl, h3⟩
  · rw [show eqI (lenL L) 0 = false by rw [eqI_iff, lenL_eq]; exact decide_eq_false (by omega)]
    have e2 : subI .i64 (at_ + 1) 1 = at_ := by rw [subI_eq (by omega) (by omega)]; omega
    have hr : remO .i64 at_ (lenL L) = some (at_.tmod L.length) := by unfold remO; rw [lenL_eq, if_neg (by omega)]
    have hq : ∃ q, quoO .i64 at_ (lenL L) = some q := by unfold quoO; rw [lenL_eq, if_neg (by omega)]; exact ⟨_, rfl⟩
    obtain ⟨q, hq⟩ := hq
    have h2 := Int.tmod_lt_of_pos at_ (by omega : (0 : Int) < L.length)
    have h3 := Int.tmod_nonneg (L.length : Int) h0
    generalize at_.tmod L.length = k at *
    obtain ⟨j, rfl⟩ : ∃ j : Nat, k = j := ⟨k.toNat, by omega⟩
    have hx := List.getElem?_eq_getElem (show j < L.length by omega)
    obtain ⟨v, h4, _⟩ := below_ok (L[j]'(by omega)) (n := 1073741824) (by omega)
    obtain ⟨u, h6, h7⟩ := below_ok (addI .i64 v (mulI .i64 q (addI .i64 7919 j))) hn
    simp only [cond_false, e2, hr, hq, Option.bind_some, listAt_some hx, h4, h6]
    exact ⟨u, rfl, h7⟩
theorem range_ok {L : List Int} {at_ lo hi : Int} (hL : L.length ≤ 1048576) (h0 : 0 ≤ at_) (h1 : at_ ≤ 1000000000) (hlo : -1000000000000 ≤ lo) (hle : lo ≤ hi) (hhi : hi ≤ 1000000000000) : ∃ v, T14 L at_ lo hi = some (v, L, at_ + 1) ∧ lo ≤ v ∧ v ≤ hi := by
  unfold T14
  rw [show ltI hi lo = false by unfold ltI; exact decide_eq_false (by omega)]
  have e1 : subI .i64 hi lo = hi - lo := subI_eq (by omega) (by omega)
  have e2 : addI .i64 (hi - lo) 1 = hi - lo + 1 := addI_eq (by omega) (by omega)
  obtain ⟨v, h2, h3, _⟩ := next_ok (n := hi - lo + 1) hL h0 h1 (by omega)
  have h4 := h3 (by omega)
  simp only [cond_false, e1, e2, h2, Option.bind_some]
  exact ⟨_, rfl, by rw [addI_eq (by omega) (by omega)]; omega, by rw [addI_eq (by omega) (by omega)]; omega⟩
/-! First errors. -/
end Go.Abs.TTA

set_option linter.unusedVariables false
set_option linter.unusedSimpArgs false
set_option maxRecDepth 10000
namespace Go.Abs.TTA
open Go.RowKit Go.Proofs Go.Abs R
/-! Rectangles of a small place. -/
def Sm (r : S40) : Prop := -2 ≤ r.f0 ∧ -2 ≤ r.f1 ∧ 1 ≤ r.f2 ∧ 1 ≤ r.f3 ∧ r.f0 + r.f2 ≤ 13 ∧ r.f1 + r.f3 ≤ 13
theorem sm_W {r : S40} (h : Sm r) : W r := by unfold Sm at h; unfold W; omega
def big : S40 := ⟨-2, -2, 15, 15⟩
theorem sm_big {r : S40} (h : Sm r) {x y : Int} (hh : has r x y) : has big x y := by unfold Sm at h; unfold has at hh; unfold has big; simp only; omega
theorem rect_drawn {L : List Int} {at_ : Int} (hL : L.length ≤ 1048576) (h0 : 0 ≤ at_) (h1 : at_ ≤ 1000000) : ∃ r, T55 L at_ = some (r, L, at_ + 1 + 1 + 1 + 1) ∧ Sm r := by
  obtain ⟨x, e1, x1, x2⟩ := range_ok (L := L) (at_ := at_) (lo := -2) (hi := 8) hL h0 (by omega) (by decide) (by decide) (by decide)
  obtain ⟨y, e2, y1, y2⟩ := range_ok (L := L) (at_ := at_ + 1) (lo := -2) (hi := 8) hL (by omega) (by omega) (by decide) (by decide) (by decide)
  obtain ⟨w, e3, w1, w2⟩ := range_ok (L := L) (at_ := at_ + 1 + 1) (lo := 1) (hi := 5) hL (by omega) (by omega) (by decide) (by decide) (by decide)
  obtain ⟨h, e4, h1, h2⟩ := range_ok (L := L) (at_ := at_ + 1 + 1 + 1) (lo := 1) (hi := 5) hL (by omega) (by omega) (by decide) (by decide) (by decide)
  refine ⟨⟨x, y, w, h⟩, ?_, ?_⟩
  · unfold T55
    simp only [e1, e2, e3, e4, Option.bind_some]
  · unfold Sm; simp only; omega
structure Drw (l : List S40) (i : Nat) (at0 at_ : Int) : Prop where
  a : ∀ r ∈ l, Sm r
  n : l.length = i
  s : 0 ≤ at_ ∧ at_ ≤ at0 + 4 * i
/-! Areas. -/
theorem cnt_le {P Q : Int → Int → Prop} (h : ∀ x y, P x y → Q x y) : cnt P ≤ cnt Q := by
  have : cnt Q = cnt P + cnt (fun x y => Q x y ∧ ¬ P x y) := by
    rw [← cnt_or (P := P) (Q := fun x y => Q x y ∧ ¬ P x y) fun x y ⟨a, b⟩ => b.2 a]
    refine cnt_ext fun x y => ?_
    constructor
    · intro hq
      by_cases hp : P x y
      · exact .inl hp
      · exact .inr ⟨hq, hp⟩
    · rintro (hp | hp)
      · exact h x y hp
      · exact hp.1
  omega
theorem area_len : ∀ (l : List S40), (∀ r ∈ l, W r) → (l.length : Int) ≤ areaL l ∧ ∀ r ∈ l, 1 ≤ r.f2 * r.f3 ∧ r.f2 * r.f3 ≤ areaL l
  | [], _ => ⟨by simp [areaL], fun r hr => by cases hr⟩
  | a :: l, h => by
    obtain ⟨h1, h2⟩ := area_len l fun r hr => h r (List.mem_cons_of_mem _ hr)
    have hw := h a (by simp)
    unfold W at hw
    have h3 : 1 ≤ a.f2 * a.f3 := by
      have := Int.mul_le_mul (show (1 : Int) ≤ a.f2 by omega) (show (1 : Int) ≤ a.f3 by omega) (by decide) (by omega)
      omega
    have e : areaL (a :: l) = a.f2 * a.f3 + areaL l := by simp [areaL]
    have h0 : 0 ≤ areaL l := by omega
    refine ⟨by rw [e, List.length_cons]; omega, fun r hr => ?_⟩
    rcases List.mem_cons.1 hr with rfl | hr
    · omega
    · have := h2 r hr; omega
/-- Rectangles that are apart, within the small place. -/
structure Ap (l : List S40) : Prop where
  w : ∀ r ∈ l, W r
  d : l.Pairwise disj
  b : ∀ x y, hasL l x y → has big x y
theorem ap_area {l : List S40} (h : Ap l) : (cnt (hasL l) : Int) = areaL l ∧ areaL l ≤ 225 ∧ 0 ≤ areaL l ∧ l.length ≤ 225 := by
  have h1 := cnt_list l h.w h.d
  have h2 := cnt_le h.b
  have h3 : (cnt (has big) : Int) = 15 * 15 := cnt_has (r := big) (by unfold W big; simp only; omega)
  have h4 := (area_len l h.w).1
  refine ⟨h1, by omega, by omega, by omega⟩
/-- Regions of what lies within the small place. -/
noncomputable def Reg (p q : List S40) : List S40 := Fin (R.rowAt p q) (edgesY (p ++ q))
theorem reg_ap {p q : List S40} (hp : ∀ r ∈ p, W r) (hb : ∀ x y, hasL p x y → has big x y) (hq : ∀ r ∈ q, W r) (lp : p.length ≤ 2000) (lq : q.length ≤ 2000) : Ap (Reg p q) ∧ ∀ x y, hasL (Reg p q) x y ↔ hasL p x y ∧ ¬ hasL q x y := by
  obtain ⟨h1, h2, h3⟩ := fin_pix p q hp hq (by omega) (by omega)
  exact ⟨⟨h1, h2, fun x y h => hb x y ((h3 x y).1 h).1⟩, h3⟩
theorem reg_nil (p : List S40) : Reg p [] = Fin (R.rowAt p []) (edgesY p) := by unfold Reg; rw [List.append_nil]
theorem region_ok {p : List S40} (hp : ∀ r ∈ p, W r) (hb : ∀ x y, hasL p x y → has big x y) (lp : p.length ≤ 2000) : T16 p = some (Reg p [], 0) := by
  have h := reg_ap hp hb nil_W lp (by decide)
  have hl := (ap_area h.1).2.2.2
  rw [reg_nil] at hl ⊢
  exact region_is hp lp (by omega)
/-! Which has a pixel. -/
def hasB (x y : Int) (r : S40) : Bool := leI r.f0 x && ltI x (addI .i64 r.f0 r.f2) && (leI r.f1 y && ltI y (addI .i64 r.f1 r.f3))
theorem any_has {l : List S40} (hW : ∀ r ∈ l, W r) (x y : Int) : (l.any (hasB x y) = true) ↔ hasL l x y := by
  rw [List.any_eq_true]
  unfold hasL
  refine exists_congr fun r => and_congr_right fun hr => ?_
  have hw := w_edge (hW r hr)
  unfold hasB has
  rw [hw.1, hw.2]
  unfold leI ltI
  simp only [Bool.and_eq_true, decide_eq_true_eq, and_assoc]
end Go.Abs.TTA

set_option linter.unusedVariables false
set_option linter.unusedSimpArgs false
set_option maxRecDepth 10000
namespace Go.Abs.TTA.R
open Go.RowKit Go.Proofs Go.Abs
theorem meet_ok (p q : S40) (hp : W p) (hq : W q) : ∃ v, T90 p q = some v ∧ (v.2 = true → W v.1 ∧ ∀ x y, has v.1 x y ↔ has p x y ∧ has q x y) ∧ (v.2 = false → disj p q) := by
  have e1 := w_edge hp
  have e2 := w_edge hq
  unfold W at hp hq
  unfold T90
  rw [e1.1, e1.2, e2.1, e2.2, minI_eq, minI_eq, maxI_eq, maxI_eq, subI_eq (by omega) (by omega), subI_eq (by omega) (by omega)]
  by_cases c1 : min (p.f0 + p.f2) (q.f0 + q.f2) - max p.f0 q.f0 ≤ 0
  · rw [show leI (min (p.f0 + p.f2) (q.f0 + q.f2) - max p.f0 q.f0) 0 = true from decide_eq_true c1]
    refine ⟨_, rfl, fun h => (by cases h), fun _ x y h => ?_⟩
    unfold has at h
    omega
  · rw [show leI (min (p.f0 + p.f2) (q.f0 + q.f2) - max p.f0 q.f0) 0 = false from decide_eq_false c1]
    by_cases c2 : min (p.f1 + p.f3) (q.f1 + q.f3) - max p.f1 q.f1 ≤ 0
    · rw [show leI (min (p.f1 + p.f3) (q.f1 + q.f3) - max p.f1 q.f1) 0 = true from decide_eq_true c2]
      refine ⟨_, rfl, fun h => (by cases h), fun _ x y h => ?_⟩
      unfold has at h
      omega
    · rw [show leI (min (p.f1 + p.f3) (q.f1 + q.f3) - max p.f1 q.f1) 0 = false from decide_eq_false c2]
      refine ⟨_, rfl, fun _ => ⟨?_, fun x y => ?_⟩, fun h => (by cases h)⟩
      · unfold W
        simp only
        omega
      · unfold has
        simp only
        omega
noncomputable def mt (a b : S40) : S40 × Bool := (T90 a b).getD (⟨0, 0, 0, 0⟩, false)
theorem mt_ok {p q : S40} (hp : W p) (hq : W q) : T90 p q = some (mt p q) ∧ ((mt p q).2 = true → W (mt p q).1 ∧ ∀ x y, has (mt p q).1 x y ↔ has p x y ∧ has q x y) ∧ ((mt p q).2 = false → disj p q) := by
  obtain ⟨v, h1, h2⟩ := meet_ok p q hp hq
  have e : mt p q = v := by unfold mt; rw [h1]; rfl
  rw [e]
  exact ⟨h1, h2⟩
end Go.Abs.TTA.R

set_option linter.unusedVariables false
set_option linter.unusedSimpArgs false
set_option maxRecDepth 10000
namespace Go.Abs.TTA
open Go.RowKit Go.Proofs Go.Abs R
/-! Alerts that are drawn. -/
theorem pick_ok {L : List Int} {at_ : Int} {l : List Int} (hL : L.length ≤ 1048576) (h0 : 0 ≤ at_) (h1 : at_ ≤ 1000000000) (hl : 1 ≤ l.length) (hl2 : l.length ≤ 1000) : ∃ v, T37 L at_ l = some (v, L, at_ + 1) ∧ v ∈ l := by
  obtain ⟨k, e, h2, _⟩ := next_ok (n := lenL l) hL h0 h1 (by rw [lenL_eq]; omega)
  rw [lenL_eq] at h2
  have h2 := h2 (by omega)
  obtain ⟨j, rfl⟩ : ∃ j : Nat, k = j := ⟨k.toNat, by omega⟩
  have hj : j < l.length := by omega
  refine ⟨l[j], ?_, List.getElem_mem hj⟩
  unfold T37
  simp only [e, Option.bind_some, listAt_some (List.getElem?_eq_getElem hj)]
theorem some_ok {L : List Int} {at_ : Int} {l : List ByteArray} (hL : L.length ≤ 1048576) (h0 : 0 ≤ at_) (h1 : at_ ≤ 1000000000) (hl : 1 ≤ l.length) (hl2 : l.length ≤ 1000) : ∃ v, T81 L at_ l = some (v, L, at_ + 1) ∧ v ∈ l := by
  obtain ⟨k, e, h2, _⟩ := next_ok (n := lenL l) hL h0 h1 (by rw [lenL_eq]; omega)
  rw [lenL_eq] at h2
  have h2 := h2 (by omega)
  obtain ⟨j, rfl⟩ : ∃ j : Nat, k = j := ⟨k.toNat, by omega⟩
  have hj : j < l.length := by omega
  refine ⟨l[j], ?_, List.getElem_mem hj⟩
  unfold T81
  simp only [e, Option.bind_some, listAt_some (List.getElem?_eq_getElem hj)]
theorem flip_ok {L : List Int} {at_ n : Int} (hL : L.length ≤ 1048576) (h0 : 0 ≤ at_) (h1 : at_ ≤ 1000000000) (hn : n ≤ 1000000000000000) : ∃ b, T24 L at_ n = some (b, L, at_ + 1) := by
  obtain ⟨k, e, _⟩ := next_ok (n := n) hL h0 h1 hn
  refine ⟨eqI k 0, ?_⟩
  unfold T24
  rw [e]
  rfl
abbrev gN : ByteArray := ByteArray.mk #[]
abbrev gA : ByteArray := ByteArray.mk #[97, 97]
abbrev gB : ByteArray := ByteArray.mk #[97, 98]
abbrev gC : ByteArray := ByteArray.mk #[97, 99]
abbrev gD : ByteArray := ByteArray.mk #[97, 100]
abbrev gE : ByteArray := ByteArray.mk #[97, 101]
abbrev gF : ByteArray := ByteArray.mk #[97, 102]
abbrev gZ : ByteArray := ByteArray.mk #[122, 122]
abbrev gY : ByteArray := ByteArray.mk #[122, 121]
abbrev gW : ByteArray := ByteArray.mk #[119, 120]
abbrev gR : ByteArray := ByteArray.mk #[102, 105, 114, 101]
abbrev tF : ByteArray := ByteArray.mk #[102, 108, 111, 111, 100]
abbrev tM : ByteArray := ByteArray.mk #[102, 105, 114, 101, 32, 105, 110, 32, 116, 104, 101, 32, 109, 97, 108, 108]
abbrev tO : ByteArray := ByteArray.mk #[111, 118, 101, 114]
abbrev I6 : List ByteArray := [gA, gB, gC, gD, gE, gF]
abbrev R5 : List ByteArray := [gA, gB, gC, gD, gZ]
abbrev AllK : List ByteArray := [gA, gB, gC, gD, gE, gF, gZ, gY, gW, gR]
theorem k_key {s : ByteArray} (h : s ∈ AllK) : T195 s = some true := by
  simp only [List.mem_cons, List.not_mem_nil, or_false] at h
  rcases h with rfl | rfl | rfl | rfl | rfl | rfl | rfl | rfl | rfl | rfl <;> kernel_rfl
theorem i6_all {s : ByteArray} (h : s ∈ I6) : s ∈ AllK := by
  simp only [List.mem_cons, List.not_mem_nil, or_false] at h ⊢
  rcases h with h | h | h | h | h | h <;> simp [h]
theorem r5_all {s : ByteArray} (h : s ∈ R5) : s ∈ AllK := by
  simp only [List.mem_cons, List.not_mem_nil, or_false] at h ⊢
  rcases h with h | h | h | h | h <;> simp [h]
theorem o01 : ltS gA gB = true := by kernel_rfl
theorem o02 : ltS gA gC = true := by kernel_rfl
theorem o03 : ltS gA gD = true := by kernel_rfl
theorem o04 : ltS gA gZ = true := by kernel_rfl
theorem o12 : ltS gB gC = true := by kernel_rfl
theorem o13 : ltS gB gD = true := by kernel_rfl
theorem o14 : ltS gB gZ = true := by kernel_rfl
theorem o23 : ltS gC gD = true := by kernel_rfl
theorem o24 : ltS gC gZ = true := by kernel_rfl
theorem o34 : ltS gD gZ = true := by kernel_rfl
theorem R5_ord : ∀ (i j : Nat) (a b : ByteArray), i < j → R5[i]? = some a → R5[j]? = some b → ltS a b = true := by
  intro i j a b hij ha hb
  have hj : j < 5 := (List.getElem?_eq_some_iff.1 hb).1
  have : (i = 0 ∧ j = 1) ∨ (i = 0 ∧ j = 2) ∨ (i = 0 ∧ j = 3) ∨ (i = 0 ∧ j = 4) ∨ (i = 1 ∧ j = 2) ∨ (i = 1 ∧ j = 3) ∨ (i = 1 ∧ j = 4) ∨ (i = 2 ∧ j = 3) ∨ (i = 2 ∧ j = 4) ∨ (i = 3 ∧ j = 4) := by omega
  rcases this with ⟨rfl, rfl⟩ | ⟨rfl, rfl⟩ | ⟨rfl, rfl⟩ | ⟨rfl, rfl⟩ | ⟨rfl, rfl⟩ | ⟨rfl, rfl⟩ | ⟨rfl, rfl⟩ | ⟨rfl, rfl⟩ | ⟨rfl, rfl⟩ | ⟨rfl, rfl⟩ <;> cases ha <;> cases hb
  · exact o01
  · exact o02
  · exact o03
  · exact o04
  · exact o12
  · exact o13
  · exact o14
  · exact o23
  · exact o24
  · exact o34
structure Refs (id : ByteArray) (l : List ByteArray) : Prop where
  all : ∀ r ∈ l, r ∈ AllK ∧ r ≠ id
  ord : l.Pairwise fun a b => ltS a b = true
  few : l.length ≤ 5
structure RA (a : S33) : Prop where
  id : a.f0 ∈ I6
  sender : a.f1 ∈ AllK
  kind : 1 ≤ a.f2 ∧ a.f2 ≤ 3
  refs : Refs a.f0 a.f3
  new : a.f2 = 1 ↔ a.f3 = []
  at_ : 0 ≤ a.f4 ∧ a.f4 ≤ 30
  til : a.f4 + 1 ≤ a.f5 ∧ a.f5 ≤ a.f4 + 50
  weight : 1 ≤ a.f6 ∧ a.f6 ≤ 9
  areas : (∀ r ∈ a.f7, Sm r) ∧ a.f7.length ≤ 2
  cancel : a.f2 = 3 ↔ a.f7 = []
  text : (a.f2 = 3 ∧ a.f8 ∈ [gN, tO]) ∨ (a.f2 ≠ 3 ∧ a.f8 ∈ [tF, tM])
/-- What it refers to. -/
theorem refs_drawn {L : List Int} (hL : L.length ≤ 1048576) (x2 : List ByteArray) (z0 : List Int × Int × List S33 × List ByteArray × Int) (id : ByteArray) (x5 : ByteArray × List Int × Int) (x6 x7 x8 : Int × List Int × Int) (x9 : ByteArray × List Int × Int) (x10 : Int × List Int × Int) {at_ : Int} (h0 : 0 ≤ at_ ∧ at_ ≤ 100000) (out : List S33) (ks : List ByteArray) :
    ∃ a' refs, iter (L15_9 x2 z0 id x5 x6 x7 x8 x9 x10) (L, at_, out, [], [], ks, R5, 0) = some (5, false, L, a', out, ks, R5, refs, []) ∧ Refs id refs ∧ at_ ≤ a' ∧ a' ≤ at_ + 5 := by
  let enc : Int × List ByteArray → Nat → List Int × Int × List S33 × List ByteArray × List S40 × List ByteArray × List ByteArray × Int := fun s i => (L, s.1, out, s.2, [], ks, R5, (i : Int))
  let Inv : Nat → Int × List ByteArray → Prop := fun i s => (at_ ≤ s.1 ∧ s.1 ≤ at_ + i) ∧ (∀ r ∈ s.2, r ≠ id ∧ ∃ j, j < i ∧ R5[j]? = some r) ∧ (s.2.Pairwise fun a b => ltS a b = true) ∧ s.2.length ≤ i
  have key : ∀ (i : Nat) s, i < 5 → Inv i s → ∃ s', L15_9 x2 z0 id x5 x6 x7 x8 x9 x10 (enc s i) = some (.inl (enc s' (i + 1))) ∧ Inv (i + 1) s' := by
    rintro i ⟨a, l⟩ hi ⟨h1, h2, h3, h4⟩
    simp only at h1 h2 h3 h4
    obtain ⟨k, hk⟩ : ∃ k, R5[i]? = some k := ⟨_, List.getElem?_eq_getElem (show i < R5.length from hi)⟩
    have c1 : ltI (i : Int) (lenL R5) = true := ltL_true (show i < R5.length from hi)
    have e := nextI (i := i) (by omega)
    have more : ∀ r ∈ l, r ≠ id ∧ ∃ j, j < i + 1 ∧ R5[j]? = some r := fun r hr => by
      obtain ⟨g1, j, g2, g3⟩ := h2 r hr
      exact ⟨g1, j, by omega, g3⟩
    cases hb : eqS k id with
    | true =>
      refine ⟨(a, l), ?_, by simp only; omega, more, h3, by simp only; omega⟩
      unfold L15_9
      refine ct c1 (bs (idx_nat (show i < R5.length from hi)) (bs (getN_some hk) (cf (by rw [hb]; rfl) ?_)))
      simp only [enc, e]
    | false =>
      obtain ⟨b, e0⟩ := flip_ok (L := L) (at_ := a) (n := 3) hL (by omega) (by omega) (by decide)
      cases b with
      | false =>
        refine ⟨(a + 1, l), ?_, by simp only; omega, more, h3, by simp only; omega⟩
        unfold L15_9
        refine ct c1 (bs (idx_nat (show i < R5.length from hi)) (bs (getN_some hk) (ct (by rw [hb]; rfl) (bs e0 (cf rfl ?_)))))
        simp only [enc, e]
      | true =>
        refine ⟨(a + 1, l ++ [k]), ?_, by simp only; omega, fun r hr => ?_, ?_, ?_⟩
        · unfold L15_9
          refine ct c1 (bs (idx_nat (show i < R5.length from hi)) (bs (getN_some hk) (ct (by rw [hb]; rfl) (bs e0 (ct rfl (bs (appO_eq (l1 := l) (l2 := [k]) ?_ ?_) ?_))))))
          · simp only [List.length_cons, List.length_nil]; omega
          · simp only [List.length_cons, List.length_nil]; omega
          · simp only [enc, e]
        · rcases List.mem_append.1 hr with hr | hr
          · exact more r hr
          · rw [List.mem_singleton] at hr
            subst hr
            refine ⟨fun e => ?_, i, by omega, hk⟩
            rw [e, eqS_self] at hb
            cases hb
        · refine List.pairwise_append.2 ⟨h3, by simp, fun x hx y hy => ?_⟩
          rw [List.mem_singleton] at hy
          subst hy
          obtain ⟨_, j, h6, h7⟩ := h2 x hx
          exact R5_ord j i _ _ h6 h7 hk
        · simp only [List.length_append, List.length_cons, List.length_nil]; omega
  have kend : ∀ s, Inv 5 s → ∃ r, L15_9 x2 z0 id x5 x6 x7 x8 x9 x10 (enc s 5) = some (.inr r) ∧ ∃ a' refs, r = (5, false, L, a', out, ks, R5, refs, []) ∧ Refs id refs ∧ at_ ≤ a' ∧ a' ≤ at_ + 5 := by
    rintro ⟨a, l⟩ ⟨h1, h2, h3, h4⟩
    refine ⟨_, rfl, a, l, rfl, ⟨fun r hr => ?_, h3, h4⟩, ?_⟩
    · obtain ⟨g1, j, _, g3⟩ := h2 r hr
      exact ⟨r5_all (List.mem_of_getElem? g3), g1⟩
    · simp only at h1
      omega
  obtain ⟨r, h1, a', refs, rfl, h2⟩ := iter_up enc 5 Inv _ key kend (at_, []) ⟨by simp only; omega, fun c hc => (by cases hc), .nil, Nat.le_refl _⟩
  exact ⟨a', refs, h1, h2⟩
/-- Where it is to be seen. -/
theorem areas_drawn {L : List Int} (hL : L.length ≤ 1048576) (x2 : List ByteArray) (z0 : List Int × Int × List S33 × List ByteArray × Int) (id : ByteArray) (x5 : ByteArray × List Int × Int) (x6 x7 x8 : Int × List Int × Int) (x9 : ByteArray × List Int × Int) (x10 : Int × List Int × Int) {n : Int} (q : List Int × Int) (hn : 1 ≤ n ∧ n ≤ 2) {at_ : Int} (h0 : 0 ≤ at_ ∧ at_ ≤ 100000) (out : List S33) (refs ks : List ByteArray) :
    ∃ a' areas, iter (L15_19 x2 z0 id x5 x6 x7 x8 x9 x10 (n, q)) (L, at_, out, refs, [], ks, 0) = some (n, false, L, a', out, ks, refs, areas) ∧ (∀ r ∈ areas, Sm r) ∧ (areas.length : Int) = n ∧ at_ ≤ a' ∧ a' ≤ at_ + 8 := by
  obtain ⟨m, rfl⟩ : ∃ m : Nat, n = m := ⟨n.toNat, by omega⟩
  let enc : Int × List S40 → Nat → List Int × Int × List S33 × List ByteArray × List S40 × List ByteArray × Int := fun s i => (L, s.1, out, refs, s.2, ks, (i : Int))
  let Inv : Nat → Int × List S40 → Prop := fun i s => (at_ ≤ s.1 ∧ s.1 ≤ at_ + 4 * i) ∧ (∀ r ∈ s.2, Sm r) ∧ s.2.length = i
  have key : ∀ (i : Nat) s, i < m → Inv i s → ∃ s', L15_19 x2 z0 id x5 x6 x7 x8 x9 x10 ((m : Int), q) (enc s i) = some (.inl (enc s' (i + 1))) ∧ Inv (i + 1) s' := by
    rintro i ⟨a, l⟩ hi ⟨h1, h2, h3⟩
    simp only at h1 h2 h3
    obtain ⟨r, e1, hr⟩ := rect_drawn (L := L) (at_ := a) hL (by omega) (by omega)
    refine ⟨(a + 1 + 1 + 1 + 1, l ++ [r]), ?_, by simp only; omega, fun x hx => ?_, by simp only [List.length_append, List.length_cons, List.length_nil]; omega⟩
    · unfold L15_19
      refine ct (ltI_t (by simp only [enc]; omega)) (bs e1 (bs (appO_eq (l1 := l) (l2 := [r]) ?_ ?_) ?_))
      · simp only [List.length_cons, List.length_nil]; omega
      · simp only [List.length_cons, List.length_nil]; omega
      · simp only [enc, nextI (i := i) (by omega)]
    · rcases List.mem_append.1 hx with hx | hx
      · exact h2 x hx
      · rw [List.mem_singleton] at hx
        subst hx
        exact hr
  have kend : ∀ s, Inv m s → ∃ r, L15_19 x2 z0 id x5 x6 x7 x8 x9 x10 ((m : Int), q) (enc s m) = some (.inr r) ∧ ∃ a' areas, r = ((m : Int), false, L, a', out, ks, refs, areas) ∧ (∀ r ∈ areas, Sm r) ∧ (areas.length : Int) = m ∧ at_ ≤ a' ∧ a' ≤ at_ + 8 := by
    rintro ⟨a, l⟩ ⟨h1, h2, h3⟩
    simp only at h1 h2 h3
    refine ⟨_, by unfold L15_19; exact cf (ltI_f (Int.le_refl _)) rfl, a, l, ?_, h2, by omega, by omega, by omega⟩
    show ((m : Int), ltI (m : Int) (m : Int), L, a, out, ks, refs, l) = _
    rw [ltI_f (Int.le_refl _)]
  obtain ⟨r, h1, a', areas, rfl, h2⟩ := iter_up enc m Inv _ key kend (at_, []) ⟨by simp only; omega, fun c hc => (by cases hc), rfl⟩
  exact ⟨a', areas, h1, h2⟩
end Go.Abs.TTA

set_option linter.unusedVariables false
set_option linter.unusedSimpArgs false
set_option maxRecDepth 10000
namespace Go.Abs.TTA
open Go.RowKit Go.Proofs Go.Abs R
theorem ra_mk {k v5 text : ByteArray} {v6 v7 v8 v10 : Int} {refs : List ByteArray} {areas : List S40} (hk : k ∈ I6) (h5 : v5 ∈ AllK) (h6 : 1 ≤ v6 ∧ v6 ≤ 3) (hr : Refs k refs) (hn : v6 = 1 ↔ refs = []) (h7 : 0 ≤ v7 ∧ v7 ≤ 6) (h10 : 1 ≤ v10 ∧ v10 ≤ 50) (h8 : 1 ≤ v8 ∧ v8 ≤ 9)
    (ha : (∀ r ∈ areas, Sm r) ∧ areas.length ≤ 2) (hc : v6 = 3 ↔ areas = []) (ht : (v6 = 3 ∧ text ∈ [gN, tO]) ∨ (v6 ≠ 3 ∧ text ∈ [tF, tM])) :
    RA ⟨k, v5, v6, refs, mulI .i64 v7 5, addI .i64 (mulI .i64 v7 5) v10, v8, areas, text⟩ := by
  have s7 : mulI .i64 v7 5 = v7 * 5 := mulI_eq (by omega) (by omega)
  have s10 : addI .i64 (mulI .i64 v7 5) v10 = v7 * 5 + v10 := by rw [s7]; exact addI_eq (by omega) (by omega)
  exact ⟨hk, h5, h6, hr, hn, by simp only [s7]; omega, by simp only; rw [s10, s7]; omega, h8, ha, hc, ht⟩
theorem one_ref {k : ByteArray} (hk : k ∈ I6) : Refs k [gY] := by
  refine ⟨fun r hr => ?_, by simp, by simp⟩
  rw [List.mem_singleton] at hr
  subst hr
  refine ⟨by simp, fun e => ?_⟩
  simp only [List.mem_cons, List.not_mem_nil, or_false] at hk
  rcases hk with h | h | h | h | h | h <;> rw [h] at e <;> exact absurd e (by decide)
theorem no_ref (k : ByteArray) : Refs k [] := ⟨fun r hr => (by cases hr), .nil, by simp⟩
theorem len_ne {α : Type} {l : List α} {n : Int} (h : (l.length : Int) = n) (hn : 1 ≤ n) : l ≠ [] := by
  intro e
  rw [e] at h
  simp only [List.length_nil] at h
  omega
theorem alert_drawn {L : List Int} (hL : L.length ≤ 1048576) (K : List ByteArray) (hK : ∀ k ∈ K, k ∈ I6) {i : Nat} (hi : i < K.length) (hKl : K.length ≤ 6) {at_ : Int} (h0 : 0 ≤ at_ ∧ at_ ≤ 10000) (out : List S33) (hout : out.length ≤ 10) :
    ∃ a' a, L15_3 K (L, at_, out, K, (i : Int)) = some (.inl (L, a', out ++ [a], K, ((i + 1 : Nat) : Int))) ∧ RA a ∧ a.f0 = K[i] ∧ at_ ≤ a' ∧ a' ≤ at_ + 30 := by
  have hk := List.getElem?_eq_getElem hi
  have hk6 := hK _ (List.getElem_mem hi)
  generalize K[i] = k at *
  have e := nextI (i := i) (by omega)
  obtain ⟨v5, e5, m5⟩ := some_ok (L := L) (at_ := at_) (l := [gW, gW, gR]) hL (by omega) (by omega) (by decide) (by decide)
  obtain ⟨v6, e6, m6⟩ := pick_ok (L := L) (at_ := at_ + 1) (l := [1, 1, 2, 2, 3]) hL (by omega) (by omega) (by decide) (by decide)
  obtain ⟨v7, e7, p7, q7⟩ := range_ok (L := L) (at_ := at_ + 1 + 1) (lo := 0) (hi := 6) hL (by omega) (by omega) (by decide) (by decide) (by decide)
  obtain ⟨v8, e8, m8⟩ := pick_ok (L := L) (at_ := at_ + 1 + 1 + 1) (l := [1, 5, 5, 9]) hL (by omega) (by omega) (by decide) (by decide)
  obtain ⟨v9, e9, m9⟩ := some_ok (L := L) (at_ := at_ + 1 + 1 + 1 + 1) (l := [tF, tM]) hL (by omega) (by omega) (by decide) (by decide)
  obtain ⟨v10, e10, m10⟩ := pick_ok (L := L) (at_ := at_ + 1 + 1 + 1 + 1 + 1) (l := [1, 10, 20, 50]) hL (by omega) (by omega) (by decide) (by decide)
  simp only [List.mem_cons, List.not_mem_nil, or_false] at m6 m8 m10
  have h5 : v5 ∈ AllK := by
    simp only [List.mem_cons, List.not_mem_nil, or_false] at m5 ⊢
    rcases m5 with h | h | h <;> simp [h]
  have h6 : 1 ≤ v6 ∧ v6 ≤ 3 := by omega
  have h8 : 1 ≤ v8 ∧ v8 ≤ 9 := by omega
  have h10 : 1 ≤ v10 ∧ v10 ≤ 50 := by omega
  clear m6 m8 m10 m5
  have ap : ∀ a : S33, appO 128 out [a] = some (out ++ [a]) := fun a => appO_eq (by simp only [List.length_cons, List.length_nil]; omega) (by simp only [List.length_cons, List.length_nil]; omega)
  suffices H : ∃ a' a, ((bif (neI v6 1) then ((iter (L15_9 K (L, at_, out, K, (i : Int)) k (v5, L, at_ + 1) (v6, L, at_ + 1 + 1) (v7, L, at_ + 1 + 1 + 1) (v8, L, at_ + 1 + 1 + 1 + 1) (v9, L, at_ + 1 + 1 + 1 + 1 + 1) (v10, L, at_ + 1 + 1 + 1 + 1 + 1 + 1)) (L, at_ + 1 + 1 + 1 + 1 + 1 + 1, out, ([] : List ByteArray), ([] : List S40), K, R5, 0)).bind fun y15 => (bif (eqI (lenL y15.2.2.2.2.2.2.2.1) 0) then (bif (eqI v6 3) then ((T81 y15.2.2.1 y15.2.2.2.1 ([gN, tO] : List ByteArray)).bind fun x16 => ((appO 128 y15.2.2.2.2.1 ([(S33.mk k v5 v6 ([gY] : List ByteArray) (mulI .i64 v7 5) (addI .i64 (mulI .i64 v7 5) v10) v8 y15.2.2.2.2.2.2.2.2 x16.1)] : List S33)).bind fun x17 => (some (x16.2.1, x16.2.2, x17, y15.2.2.2.2.2.1)))) else ((T14 y15.2.2.1 y15.2.2.2.1 1 2).bind fun x18 => ((iter (L15_19 K (L, at_, out, K, (i : Int)) k (v5, L, at_ + 1) (v6, L, at_ + 1 + 1) (v7, L, at_ + 1 + 1 + 1) (v8, L, at_ + 1 + 1 + 1 + 1) (v9, L, at_ + 1 + 1 + 1 + 1 + 1) (v10, L, at_ + 1 + 1 + 1 + 1 + 1 + 1) x18) (x18.2.1, x18.2.2, y15.2.2.2.2.1, ([gY] : List ByteArray), y15.2.2.2.2.2.2.2.2, y15.2.2.2.2.2.1, 0)).bind fun y21 => ((appO 128 y21.2.2.2.2.1 ([(S33.mk k v5 v6 y21.2.2.2.2.2.2.1 (mulI .i64 v7 5) (addI .i64 (mulI .i64 v7 5) v10) v8 y21.2.2.2.2.2.2.2 v9)] : List S33)).bind fun x22 => (some (y21.2.2.1, y21.2.2.2.1, x22, y21.2.2.2.2.2.1)))))) else (bif (eqI v6 3) then ((T81 y15.2.2.1 y15.2.2.2.1 ([gN, tO] : List ByteArray)).bind fun x23 => ((appO 128 y15.2.2.2.2.1 ([(S33.mk k v5 v6 y15.2.2.2.2.2.2.2.1 (mulI .i64 v7 5) (addI .i64 (mulI .i64 v7 5) v10) v8 y15.2.2.2.2.2.2.2.2 x23.1)] : List S33)).bind fun x24 => (some (x23.2.1, x23.2.2, x24, y15.2.2.2.2.2.1)))) else ((T14 y15.2.2.1 y15.2.2.2.1 1 2).bind fun x25 => ((iter (L15_19 K (L, at_, out, K, (i : Int)) k (v5, L, at_ + 1) (v6, L, at_ + 1 + 1) (v7, L, at_ + 1 + 1 + 1) (v8, L, at_ + 1 + 1 + 1 + 1) (v9, L, at_ + 1 + 1 + 1 + 1 + 1) (v10, L, at_ + 1 + 1 + 1 + 1 + 1 + 1) x25) (x25.2.1, x25.2.2, y15.2.2.2.2.1, y15.2.2.2.2.2.2.2.1, y15.2.2.2.2.2.2.2.2, y15.2.2.2.2.2.1, 0)).bind fun y28 => ((appO 128 y28.2.2.2.2.1 ([(S33.mk k v5 v6 y28.2.2.2.2.2.2.1 (mulI .i64 v7 5) (addI .i64 (mulI .i64 v7 5) v10) v8 y28.2.2.2.2.2.2.2 v9)] : List S33)).bind fun x29 => (some (y28.2.2.1, y28.2.2.2.1, x29, y28.2.2.2.2.2.1)))))))) else (bif (eqI v6 3) then ((T81 L (at_ + 1 + 1 + 1 + 1 + 1 + 1) ([gN, tO] : List ByteArray)).bind fun x30 => ((appO 128 out ([(S33.mk k v5 v6 [] (mulI .i64 v7 5) (addI .i64 (mulI .i64 v7 5) v10) v8 [] x30.1)] : List S33)).bind fun x31 => (some (x30.2.1, x30.2.2, x31, K)))) else ((T14 L (at_ + 1 + 1 + 1 + 1 + 1 + 1) 1 2).bind fun x32 => ((iter (L15_19 K (L, at_, out, K, (i : Int)) k (v5, L, at_ + 1) (v6, L, at_ + 1 + 1) (v7, L, at_ + 1 + 1 + 1) (v8, L, at_ + 1 + 1 + 1 + 1) (v9, L, at_ + 1 + 1 + 1 + 1 + 1) (v10, L, at_ + 1 + 1 + 1 + 1 + 1 + 1) x32) (x32.2.1, x32.2.2, out, ([] : List ByteArray), ([] : List S40), K, 0)).bind fun y35 => ((appO 128 y35.2.2.2.2.1 ([(S33.mk k v5 v6 y35.2.2.2.2.2.2.1 (mulI .i64 v7 5) (addI .i64 (mulI .i64 v7 5) v10) v8 y35.2.2.2.2.2.2.2 v9)] : List S33)).bind fun x36 => (some (y35.2.2.1, y35.2.2.2.1, x36, y35.2.2.2.2.2.1))))))) : Option ((List Int) × Int × (List S33) × (List ByteArray))) = some (L, a', out ++ [a], K) ∧ RA a ∧ a.f0 = k ∧ at_ ≤ a' ∧ a' ≤ at_ + 30 by
    obtain ⟨a', a, H1, H2⟩ := H
    refine ⟨a', a, ?_, H2⟩
    unfold L15_3
    refine ct (ltL_true hi) (bs (bs (idx_nat hi) (bs (getN_some hk) (bs e5 (bs e6 (bs e7 (bs e8 (bs e9 (bs e10 H1)))))))) ?_)
    simp only [e]
  by_cases c1 : v6 = 1
  · have c3 : v6 ≠ 3 := by omega
    obtain ⟨n, f1, n1, n2⟩ := range_ok (L := L) (at_ := at_ + 1 + 1 + 1 + 1 + 1 + 1) (lo := 1) (hi := 2) hL (by omega) (by omega) (by decide) (by decide) (by decide)
    obtain ⟨a', areas, f2, g1, g2, g3, g4⟩ := areas_drawn hL K (L, at_, out, K, (i : Int)) k (v5, L, at_ + 1) (v6, L, at_ + 1 + 1) (v7, L, at_ + 1 + 1 + 1) (v8, L, at_ + 1 + 1 + 1 + 1) (v9, L, at_ + 1 + 1 + 1 + 1 + 1) (v10, L, at_ + 1 + 1 + 1 + 1 + 1 + 1) (n := n) (L, at_ + 1 + 1 + 1 + 1 + 1 + 1 + 1) ⟨n1, n2⟩ (at_ := at_ + 1 + 1 + 1 + 1 + 1 + 1 + 1) (by omega) out [] K
    refine ⟨a', _, cf (neI_f c1) (cf (eqI_f c3) (bs f1 (bs f2 (bs (ap _) rfl)))), ra_mk hk6 h5 h6 (no_ref k) ⟨fun _ => rfl, fun _ => c1⟩ ⟨p7, q7⟩ h10 h8 ⟨g1, show areas.length ≤ 2 by omega⟩ ⟨fun h => absurd h c3, fun h => absurd h (len_ne g2 n1)⟩ (.inr ⟨c3, m9⟩), rfl, by omega, by omega⟩
  · obtain ⟨a1, refs, f0, r1, r2, r3⟩ := refs_drawn hL K (L, at_, out, K, (i : Int)) k (v5, L, at_ + 1) (v6, L, at_ + 1 + 1) (v7, L, at_ + 1 + 1 + 1) (v8, L, at_ + 1 + 1 + 1 + 1) (v9, L, at_ + 1 + 1 + 1 + 1 + 1) (v10, L, at_ + 1 + 1 + 1 + 1 + 1 + 1) (at_ := at_ + 1 + 1 + 1 + 1 + 1 + 1) (by omega) out K
    by_cases cz : refs = []
    · have cz' : eqI (lenL refs) 0 = true := by rw [cz]; rfl
      by_cases c3 : v6 = 3
      · obtain ⟨t, f1, mt_⟩ := some_ok (L := L) (at_ := a1) (l := [gN, tO]) hL (by omega) (by omega) (by decide) (by decide)
        refine ⟨a1 + 1, _, ct (neI_t c1) (bs f0 (ct cz' (ct (eqI_t c3) (bs f1 (bs (ap _) rfl))))), ra_mk hk6 h5 h6 (one_ref hk6) ⟨fun h => absurd h c1, fun h => (by cases h)⟩ ⟨p7, q7⟩ h10 h8 ⟨fun r hr => (by cases hr), by simp⟩ ⟨fun _ => rfl, fun _ => c3⟩ (.inl ⟨c3, mt_⟩), rfl, by omega, by omega⟩
      · obtain ⟨n, f1, n1, n2⟩ := range_ok (L := L) (at_ := a1) (lo := 1) (hi := 2) hL (by omega) (by omega) (by decide) (by decide) (by decide)
        obtain ⟨a', areas, f2, g1, g2, g3, g4⟩ := areas_drawn hL K (L, at_, out, K, (i : Int)) k (v5, L, at_ + 1) (v6, L, at_ + 1 + 1) (v7, L, at_ + 1 + 1 + 1) (v8, L, at_ + 1 + 1 + 1 + 1) (v9, L, at_ + 1 + 1 + 1 + 1 + 1) (v10, L, at_ + 1 + 1 + 1 + 1 + 1 + 1) (n := n) (L, a1 + 1) ⟨n1, n2⟩ (at_ := a1 + 1) (by omega) out [gY] K
        refine ⟨a', _, ct (neI_t c1) (bs f0 (ct cz' (cf (eqI_f c3) (bs f1 (bs f2 (bs (ap _) rfl)))))), ra_mk hk6 h5 h6 (one_ref hk6) ⟨fun h => absurd h c1, fun h => (by cases h)⟩ ⟨p7, q7⟩ h10 h8 ⟨g1, show areas.length ≤ 2 by omega⟩ ⟨fun h => absurd h c3, fun h => absurd h (len_ne g2 n1)⟩ (.inr ⟨c3, m9⟩), rfl, by omega, by omega⟩
    · have cz' : eqI (lenL refs) 0 = false := by
        rw [lenL_eq]
        refine eqI_f fun h => cz ?_
        exact List.length_eq_zero_iff.1 (by omega)
      by_cases c3 : v6 = 3
      · obtain ⟨t, f1, mt_⟩ := some_ok (L := L) (at_ := a1) (l := [gN, tO]) hL (by omega) (by omega) (by decide) (by decide)
        refine ⟨a1 + 1, _, ct (neI_t c1) (bs f0 (cf cz' (ct (eqI_t c3) (bs f1 (bs (ap _) rfl))))), ra_mk hk6 h5 h6 r1 ⟨fun h => absurd h c1, fun h => absurd h cz⟩ ⟨p7, q7⟩ h10 h8 ⟨fun r hr => (by cases hr), by simp⟩ ⟨fun _ => rfl, fun _ => c3⟩ (.inl ⟨c3, mt_⟩), rfl, by omega, by omega⟩
      · obtain ⟨n, f1, n1, n2⟩ := range_ok (L := L) (at_ := a1) (lo := 1) (hi := 2) hL (by omega) (by omega) (by decide) (by decide) (by decide)
        obtain ⟨a', areas, f2, g1, g2, g3, g4⟩ := areas_drawn hL K (L, at_, out, K, (i : Int)) k (v5, L, at_ + 1) (v6, L, at_ + 1 + 1) (v7, L, at_ + 1 + 1 + 1) (v8, L, at_ + 1 + 1 + 1 + 1) (v9, L, at_ + 1 + 1 + 1 + 1 + 1) (v10, L, at_ + 1 + 1 + 1 + 1 + 1 + 1) (n := n) (L, a1 + 1) ⟨n1, n2⟩ (at_ := a1 + 1) (by omega) out refs K
        refine ⟨a', _, ct (neI_t c1) (bs f0 (cf cz' (cf (eqI_f c3) (bs f1 (bs f2 (bs (ap _) rfl)))))), ra_mk hk6 h5 h6 r1 ⟨fun h => absurd h c1, fun h => absurd h cz⟩ ⟨p7, q7⟩ h10 h8 ⟨g1, show areas.length ≤ 2 by omega⟩ ⟨fun h => absurd h c3, fun h => absurd h (len_ne g2 n1)⟩ (.inr ⟨c3, m9⟩), rfl, by omega, by omega⟩
end Go.Abs.TTA

set_option linter.unusedVariables false
set_option linter.unusedSimpArgs false
set_option maxRecDepth 10000
namespace Go.Abs.TTA
open Go.RowKit Go.Proofs Go.Abs R
/-! The order of alerts. -/
theorem leS_iff (a b : ByteArray) : leS a b = true ↔ ltS b a = false := by
  cases h : ltS b a with
  | true => rw [leS_false.2 h]; simp
  | false =>
    cases h2 : leS a b with
    | true => simp
    | false => rw [leS_false.1 h2] at h; cases h
theorem leS_tot (a b : ByteArray) : leS a b = true ∨ leS b a = true := by
  rw [leS_iff, leS_iff]
  rcases ltS_total a b with h | h | h
  · refine .inl ?_
    cases h2 : ltS b a with
    | false => rfl
    | true => have := ltS_trans h h2; rw [ltS_irrefl] at this; cases this
  · rw [h]; exact .inl (ltS_irrefl _)
  · refine .inr ?_
    cases h2 : ltS a b with
    | false => rfl
    | true => have := ltS_trans h h2; rw [ltS_irrefl] at this; cases this
theorem leS_tr {a b c : ByteArray} (h1 : leS a b = true) (h2 : leS b c = true) : leS a c = true := by
  rw [leS_iff] at *
  cases h : ltS c a with
  | false => rfl
  | true =>
    rcases ltS_total b a with g | g | g
    · rw [g] at h1; cases h1
    · rw [g, h] at h2; cases h2
    · have := ltS_trans h g
      rw [this] at h2; cases h2
def AB (a b : S33) : Prop := a.f4 < b.f4 ∨ (a.f4 = b.f4 ∧ leS a.f0 b.f0 = true)
theorem ab_tot (a b : S33) : AB a b ∨ AB b a := by
  unfold AB
  have := leS_tot a.f0 b.f0
  rcases Int.lt_trichotomy a.f4 b.f4 with h | h | h
  · exact .inl (.inl h)
  · rcases this with g | g
    · exact .inl (.inr ⟨h, g⟩)
    · exact .inr (.inr ⟨h.symm, g⟩)
  · exact .inr (.inl h)
theorem ab_tr (a b c : S33) (h1 : AB a b) (h2 : AB b c) : AB a c := by
  unfold AB at *
  rcases h1 with h1 | ⟨h1, g1⟩
  · rcases h2 with h2 | ⟨h2, g2⟩
    · exact .inl (by omega)
    · exact .inl (by omega)
  · rcases h2 with h2 | ⟨h2, g2⟩
    · exact .inl (by omega)
    · exact .inr ⟨by omega, leS_tr g1 g2⟩
theorem order_ok {x y : S33} (hx : RA x) (hy : RA y) : ∃ n, T83 x y = some n ∧ (n < 0 ↔ ¬ AB y x) := by
  have h1 := hx.at_
  have h2 := hy.at_
  unfold T83 AB
  by_cases h : x.f4 = y.f4
  · cases h3 : ltS x.f0 y.f0 with
    | true =>
      refine ⟨-1, cf (neI_f h) rfl, ⟨fun _ hc => ?_, fun _ => by omega⟩⟩
      rcases hc with hc | ⟨_, hc⟩
      · omega
      · rw [leS_iff, h3] at hc; cases hc
    | false =>
      refine ⟨1, cf (neI_f h) rfl, ⟨fun hc => by omega, fun hc => ?_⟩⟩
      exact absurd (.inr ⟨h.symm, (leS_iff _ _).2 h3⟩) hc
  · refine ⟨x.f4 - y.f4, ct (neI_t h) (by rw [subI_eq (by omega) (by omega)]), ⟨fun hc hd => ?_, fun hc => ?_⟩⟩
    · rcases hd with hd | ⟨hd, _⟩
      · omega
      · omega
    · have : ¬ y.f4 < x.f4 := fun g => hc (.inl g)
      omega
/-- Alerts, right and in order. -/
structure Als (l : List S33) : Prop where
  all : ∀ a ∈ l, RA a
  ord : l.Pairwise AB
  ids : (l.map (·.f0)).Nodup
theorem alerts_drawn {L : List Int} (hL : L.length ≤ 1048576) {at_ most : Int} (h0 : 0 ≤ at_ ∧ at_ ≤ 1000) (hm : 0 ≤ most ∧ most ≤ 6) : ∃ l a', T15 L at_ most = some (l, L, a') ∧ Als l ∧ (l.length : Int) ≤ most ∧ at_ ≤ a' ∧ a' ≤ at_ + 200 := by
  obtain ⟨n, e1, n1, n2⟩ := range_ok (L := L) (at_ := at_) (lo := 0) (hi := most) hL (by omega) (by omega) (by omega) (by omega) (by omega)
  obtain ⟨m, rfl⟩ : ∃ m : Nat, n = m := ⟨n.toNat, by omega⟩
  have e2 : cutN I6 (m : Int) = some (I6.take m) := by
    unfold cutN
    rw [if_pos (by omega), Int.toNat_natCast, if_pos (show m ≤ I6.length by simp only [List.length_cons, List.length_nil]; omega)]
  have hKl : (I6.take m).length = m := by rw [List.length_take]; simp only [List.length_cons, List.length_nil]; omega
  have hK : ∀ k ∈ I6.take m, k ∈ I6 := fun k hk => List.mem_of_mem_take hk
  have hnd : (I6.take m).Nodup := List.Nodup.sublist (List.take_sublist _ _) (by decide)
  generalize I6.take m = K at *
  let enc : Int × List S33 → Nat → List Int × Int × List S33 × List ByteArray × Int := fun s i => (L, s.1, s.2, K, (i : Int))
  let Inv : Nat → Int × List S33 → Prop := fun i s => (at_ + 1 ≤ s.1 ∧ s.1 ≤ at_ + 1 + 30 * i) ∧ (∀ a ∈ s.2, RA a) ∧ s.2.map (·.f0) = K.take i
  have key : ∀ (i : Nat) s, i < m → Inv i s → ∃ s', L15_3 K (enc s i) = some (.inl (enc s' (i + 1))) ∧ Inv (i + 1) s' := by
    rintro i ⟨a, out⟩ hi ⟨h1, h2, h3⟩
    simp only at h1 h2 h3
    have hlen : out.length ≤ 10 := by
      have := congrArg List.length h3
      rw [List.length_map, List.length_take] at this
      omega
    obtain ⟨a', x, g1, g2, g3, g4, g5⟩ := alert_drawn hL K hK (i := i) (by omega) (by omega) (at_ := a) (by omega) out hlen
    refine ⟨(a', out ++ [x]), g1, by simp only; omega, fun y hy => ?_, ?_⟩
    · rcases List.mem_append.1 hy with hy | hy
      · exact h2 y hy
      · rw [List.mem_singleton] at hy
        subst hy
        exact g2
    · rw [List.map_append, h3, take_next (List.getElem?_eq_getElem (show i < K.length by omega))]
      simp only [List.map_cons, List.map_nil, g3]
  have kend : ∀ s, Inv m s → ∃ r, L15_3 K (enc s m) = some (.inr r) ∧ ∃ a out, r = ((m : Int), false, L, a, out, K) ∧ (∀ x ∈ out, RA x) ∧ out.map (·.f0) = K ∧ at_ ≤ a ∧ a ≤ at_ + 200 := by
    rintro ⟨a, out⟩ ⟨h1, h2, h3⟩
    simp only at h1 h2 h3
    have hlt : ltI (m : Int) (lenL K) = false := ltL_false (by omega)
    refine ⟨_, by unfold L15_3; exact cf hlt rfl, a, out, ?_, h2, by rw [h3, ← hKl, List.take_length], by omega, by omega⟩
    show ((m : Int), ltI (m : Int) (lenL K), L, a, out, K) = _
    rw [hlt]
  obtain ⟨r, h1, a, out, rfl, k1, k2, k3⟩ := iter_up enc m Inv _ key kend (at_ + 1, []) ⟨by simp only; omega, fun c hc => (by cases hc), by simp⟩
  have h1 : iter (L15_3 K) (L, at_ + 1, [], K, 0) = some ((m : Int), false, L, a, out, K) := h1
  have hol : out.length = m := by
    have := congrArg List.length k2
    rw [List.length_map] at this
    omega
  obtain ⟨l, s1, s2, s3⟩ := sortO_le (fun x y => T83 x y) AB ab_tot ab_tr out (by omega) (fun x hx y hy => order_ok (k1 x hx) (k1 y hy))
  refine ⟨l, a, ?_, ⟨fun x hx => k1 x (s2.mem_iff.1 hx), s3, ?_⟩, by rw [s2.length_eq, hol]; exact n2, k3⟩
  · unfold T15
    exact bs e1 (bs e2 (bs h1 (bs s1 rfl)))
  · rw [(s2.map (·.f0)).nodup_iff, k2]
    exact hnd
/-! Such alerts are right. -/
theorem t95_in {a b c : Int} (h1 : b ≤ a) (h2 : a ≤ c) : T95 a b c = some false := by
  unfold T95
  rw [ltI_f h1, ltI_f h2]
  rfl
theorem t107_in {a : Int} (h1 : 0 ≤ a) (h2 : a < 345686400000) : T107 a = some true := by
  unfold T107
  rw [leI_t h1, ltI_t h2]
  rfl
theorem refs_ok {a : S33} (h : RA a) : T241 a = some 0 := by
  have hf := h.refs.few
  obtain ⟨r, h1, y, rfl⟩ := iter_up (st := L241_4 a) (fun (_ : Unit) i => (i : Int)) a.f3.length (fun _ _ => True) (fun r => ∃ y, r = .inl y)
    (fun i _ hi _ => by
      have hx := List.getElem?_eq_getElem hi
      obtain ⟨m1, m2⟩ := h.refs.all _ (List.getElem_mem hi)
      have e := nextI (i := i) (by omega)
      have hne : eqS a.f3[i] a.f0 = false := by rw [eqS_iff]; exact decide_eq_false m2
      refine ⟨(), ?_, trivial⟩
      unfold L241_4
      refine ct (ltL_true hi) (bs (listAt_some hx) (bs (k_key m1) (cf rfl ?_)))
      rcases Nat.eq_zero_or_pos i with hz | hz
      · refine cf (by rw [hz]; rfl) (cf hne ?_)
        rw [e]
      · obtain ⟨d, hd⟩ : ∃ d, a.f3[i - 1]? = some d := ⟨_, List.getElem?_eq_getElem (by omega)⟩
        have hlt : ltS d a.f3[i] = true := by
          have := List.pairwise_iff_getElem.1 h.refs.ord (i - 1) i (by omega) hi (by omega)
          rw [(List.getElem?_eq_some_iff.1 hd).2] at this
          exact this
        refine ct (ltI_t (by omega)) (bs (by rw [prevI hz (by omega)]; exact listAt_some hd) (cf (leS_false.2 hlt) (cf hne ?_)))
        rw [e])
    (fun _ _ => ⟨_, by unfold L241_4; exact cf (ltL_false (Nat.le_refl _)) rfl, _, rfl⟩) () trivial
  have h1 : iter (L241_4 a) 0 = some (.inl y) := h1
  unfold T241
  refine cf (by rw [lenL_eq]; exact ltI_f (by omega)) (bs h1 (si (cf ?_ rfl)))
  have hn := h.new
  by_cases c : a.f2 = 1
  · rw [eqI_t c, hn.1 c]; rfl
  · have c2 : a.f3 ≠ [] := fun e => c (hn.2 e)
    have : (a.f3.length : Int) ≠ 0 := fun e => c2 (List.length_eq_zero_iff.1 (by omega))
    rw [eqI_f c, lenL_eq, eqI_f this]
    rfl
theorem text_ok {s : ByteArray} (h : s ∈ [gN, tO, tF, tM]) : T242 s = some true ∧ ltI 500 (lenS s) = false := by
  simp only [List.mem_cons, List.not_mem_nil, or_false] at h
  rcases h with rfl | rfl | rfl | rfl <;> exact ⟨by kernel_rfl, by kernel_rfl⟩
theorem alert_ok {a : S33} (h : RA a) : T185 a = some 0 := by
  have hf := h.areas.2
  have hat := h.at_
  have hun := h.til
  have hw := h.weight
  obtain ⟨r, h1, y, rfl⟩ := iter_up (st := L185_13 a) (fun (_ : Unit) i => (i : Int)) a.f7.length (fun _ _ => True) (fun r => ∃ y, r = .inl y)
    (fun i _ hi _ => by
      have hx := List.getElem?_eq_getElem hi
      have hr := h.areas.1 _ (List.getElem_mem hi)
      refine ⟨(), ?_, trivial⟩
      unfold L185_13
      refine ct (ltL_true hi) (bs (listAt_some hx) (bs (rect_ok (sm_W hr)) (cf rfl ?_)))
      rw [nextI (i := i) (by omega)])
    (fun _ _ => ⟨_, by unfold L185_13; exact cf (ltL_false (Nat.le_refl _)) rfl, _, rfl⟩) () trivial
  have h1 : iter (L185_13 a) 0 = some (.inl y) := h1
  have hc := h.cancel
  have htx : a.f8 ∈ [gN, tO, tF, tM] := by
    have := h.text
    simp only [List.mem_cons, List.not_mem_nil, or_false] at this ⊢
    rcases this with ⟨_, g | g⟩ | ⟨_, g | g⟩ <;> simp [g]
  obtain ⟨t1, t2⟩ := text_ok htx
  unfold T185
  refine bs (k_key (i6_all h.id)) (cf rfl (bs (k_key h.sender) (cf rfl (bs (t95_in h.kind.1 h.kind.2) (cf rfl (bs (refs_ok h) (cf rfl ?_)))))))
  refine bs (t107_in hat.1 (by omega)) (cf rfl (bs (t95_in (by rw [addI_eq (by omega) (by omega)]; omega) (by rw [addI_eq (by omega) (by omega)]; omega)) (cf rfl (bs (t95_in hw.1 hw.2) (cf rfl ?_)))))
  refine cf (by rw [lenL_eq]; exact ltI_f (by omega)) (bs h1 (si (cf ?_ (cf t2 (bs t1 (cf rfl ?_))))))
  · by_cases c : a.f2 = 3
    · rw [eqI_t c, hc.1 c]; rfl
    · have c2 : a.f7 ≠ [] := fun e => c (hc.2 e)
      have : (a.f7.length : Int) ≠ 0 := fun e => c2 (List.length_eq_zero_iff.1 (by omega))
      rw [eqI_f c, lenL_eq, eqI_f this]
      rfl
  · rcases h.text with ⟨c, _⟩ | ⟨c, g⟩
    · cases eqS a.f8 (ByteArray.mk #[]) with
      | true => exact ct rfl (cf (by rw [eqI_t c]; rfl) rfl)
      | false => rfl
    · refine cf ?_ rfl
      rw [eqS_iff]
      refine decide_eq_false ?_
      simp only [List.mem_cons, List.not_mem_nil, or_false] at g
      rcases g with g | g <;> rw [g] <;> decide
end Go.Abs.TTA

set_option linter.unusedVariables false
set_option linter.unusedSimpArgs false
set_option maxRecDepth 10000
namespace Go.Abs.TTA
open Go.RowKit Go.Proofs Go.Abs R
/-! Who is reached. -/
abbrev pA : ByteArray := ByteArray.mk #[112, 97]
theorem post_ok {x y : Int} (hx : -100000 ≤ x ∧ x ≤ 100000) (hy : -100000 ≤ y ∧ y ≤ 100000) : T157 [(⟨pA, x, y⟩ : S27)] = some 0 := by
  have n0 : addI .i64 0 1 = 1 := by decide
  have s0 : L157_4 [(⟨pA, x, y⟩ : S27)] 0 = some (.inl 1) := by
    unfold L157_4
    refine ct rfl (bs (a := ⟨pA, x, y⟩) rfl (bs (a := true) (by kernel_rfl) (cf rfl (bs (t95_in hx.1 hx.2) (cf rfl (bs (t95_in hy.1 hy.2) (cf rfl (cf rfl ?_))))))))
    rw [n0]
  have s1 : L157_4 [(⟨pA, x, y⟩ : S27)] 1 = some (.inr (.inl (1, false))) := by
    unfold L157_4
    exact cf rfl rfl
  unfold T157
  refine cf rfl (bs ((iter_inl s0).trans (iter_inr s1)) rfl)
theorem one_ok {a : S33} (h : RA a) : T119 [a] = some 0 := by
  have n0 : addI .i64 0 1 = 1 := by decide
  have s0 : L119_4 [a] 0 = some (.inl 1) := by
    unfold L119_4
    refine ct rfl (bs (a := a) rfl (bs (alert_ok h) (cf rfl (cf rfl ?_))))
    rw [n0]
  have s1 : L119_4 [a] 1 = some (.inr (.inl (1, false))) := by
    unfold L119_4
    exact cf rfl rfl
  have u0 : L119_14 [a] ([], 0) = some (.inl ([(a.f0, true)], 1)) := by
    unfold L119_14
    refine ct rfl (bs (a := a) rfl (cf rfl (bs (a := [(a.f0, true)]) rfl ?_)))
    rw [n0]
  have u1 : L119_14 [a] ([(a.f0, true)], 1) = some (.inr (.inl (1, false, [(a.f0, true)]))) := by
    unfold L119_14
    exact cf rfl rfl
  unfold T119
  refine cf rfl (bs ((iter_inl s0).trans (iter_inr s1)) (si (bs ((iter_inl u0).trans (iter_inr u1)) rfl)))
theorem t159 {r : S40} (hw : W r) (c : ByteArray) (x y : Int) : T159 r c x y = some (hasB x y r) := by
  unfold T159 hasB
  cases leI r.f0 x <;> cases ltI x (addI .i64 r.f0 r.f2) <;> cases leI r.f1 y <;> rfl
theorem reach_ok {a : S33} (h : RA a) {x y : Int} (hx : -100000 ≤ x ∧ x ≤ 100000) (hy : -100000 ≤ y ∧ y ≤ 100000) : T17 a ⟨pA, x, y⟩ = some (a.f7.any (hasB x y), 0) := by
  have hf := h.areas.2
  obtain ⟨v, h1, h2⟩ := any_iter (st := L218_2 a.f7 pA x y) (l := a.f7) (hasB x y) (by omega) (fun i r hr => by
    have hi := (List.getElem?_eq_some_iff.1 hr).1
    unfold L218_2
    simp only [ltL_true hi, cond_true, listAt_some hr, Option.bind_some, t159 (sm_W (h.areas.1 r (List.mem_of_getElem? hr))), nextI (i := i) (by omega)]
    cases hasB x y r <;> rfl) (by unfold L218_2; rw [ltL_false (Nat.le_refl _)]; rfl)
  unfold T17 T87
  refine bs (bs (one_ok h) (cf rfl (bs (post_ok hx hy) rfl))) (cf rfl (bs (a := a.f7.any (hasB x y)) ?_ rfl))
  unfold T88 T158 T218
  exact bs (bs h1 (congrArg some h2)) rfl
/-! Who is met. -/
theorem unit_W {x y : Int} (hx : -3 ≤ x ∧ x ≤ 12) (hy : -3 ≤ y ∧ y ≤ 12) : W ⟨x, y, 1, 1⟩ := by
  unfold W
  simp only
  omega
theorem unit_meet {r : S40} (hr : W r) {x y : Int} (hx : -3 ≤ x ∧ x ≤ 12) (hy : -3 ≤ y ∧ y ≤ 12) : (mt r ⟨x, y, 1, 1⟩).2 = hasB x y r := by
  have hu := unit_W hx hy
  have hh : hasB x y r = true ↔ has r x y := by
    have h1 := any_has (l := [r]) (fun s hs => by rw [List.mem_singleton] at hs; subst hs; exact hr) x y
    rw [hasL_one] at h1
    simpa using h1
  obtain ⟨_, m1, m2⟩ := mt_ok hr hu
  cases h : (mt r ⟨x, y, 1, 1⟩).2 with
  | true =>
    obtain ⟨w1, w2⟩ := m1 h
    have h1 : has (mt r ⟨x, y, 1, 1⟩).1 (mt r ⟨x, y, 1, 1⟩).1.f0 (mt r ⟨x, y, 1, 1⟩).1.f1 := by
      unfold W at w1
      unfold has
      omega
    obtain ⟨g1, g2⟩ := (w2 _ _).1 h1
    unfold has at g2
    simp only at g2
    have e1 : (mt r ⟨x, y, 1, 1⟩).1.f0 = x := by omega
    have e2 : (mt r ⟨x, y, 1, 1⟩).1.f1 = y := by omega
    rw [e1, e2] at g1
    exact (hh.2 g1).symm
  | false =>
    have h1 := m2 h
    cases hb : hasB x y r with
    | false => rfl
    | true =>
      refine absurd ⟨hh.1 hb, ?_⟩ (h1 x y)
      unfold has
      simp only
      omega
theorem meet_is {a b : S40} (ha : W a) (hb : W b) : T18 a b = some ((mt a b).1, (mt a b).2, 0) := by
  have n0 : addI .i64 0 1 = 1 := by decide
  have n1 : addI .i64 1 1 = 2 := by decide
  have h0 : L18_2 a b 0 = some (.inl 1) := by
    unfold L18_2
    refine ct rfl ?_
    refine bs (a := a) rfl ?_
    refine bs (rect_ok ha) ?_
    refine cf rfl ?_
    rw [n0]
  have h1 : L18_2 a b 1 = some (.inl 2) := by
    unfold L18_2
    refine ct rfl ?_
    refine bs (a := b) rfl ?_
    refine bs (rect_ok hb) ?_
    refine cf rfl ?_
    rw [n1]
  have h2 : L18_2 a b 2 = some (.inr (.inl (2, false))) := by
    unfold L18_2
    exact cf rfl rfl
  unfold T18
  refine bs ((iter_inl h0).trans ((iter_inl h1).trans (iter_inr h2))) ?_
  refine si ?_
  refine bs (mt_ok ha hb).1 ?_
  rfl
theorem inner_ok (L : List Int) (l : List S33) (a1 a2 a3 i e : Int) (rc : Bool × Int) {R : List S40} (hR : ∀ r ∈ R, W r) (hl : R.length ≤ 225) {x y : Int} (hx : -3 ≤ x ∧ x ≤ 12) (hy : -3 ≤ y ∧ y ≤ 12) :
    iter (L3_10 (x, L, a1) (y, L, a2) (l, L, a3) i (R, e) rc) (false, 0, 0) = some (R.any (hasB x y), 0, (R.length : Int), false) := by
  obtain ⟨r, h1, rfl⟩ := iter_up (st := L3_10 (x, L, a1) (y, L, a2) (l, L, a3) i (R, e) rc) (fun (s : Bool) i => (s, (0 : Int), (i : Int))) R.length (fun i s => s = (R.take i).any (hasB x y)) (fun r => r = (R.any (hasB x y), 0, (R.length : Int), false))
    (fun i s hi hs => by
      have hr := List.getElem?_eq_getElem hi
      have e := nextI (i := i) (by omega)
      refine ⟨(s || hasB x y R[i]), ?_, ?_⟩
      · unfold L3_10
        refine ct (ltL_true hi) (bs (listAt_some hr) (bs (meet_is (hR _ (List.getElem_mem hi)) (unit_W hx hy)) (cf rfl ?_)))
        rw [unit_meet (hR _ (List.getElem_mem hi)) hx hy]
        cases hasB x y R[i] with
        | true => refine ct rfl ?_; simp only [e, Bool.or_true]
        | false => refine cf rfl ?_; simp only [e, Bool.or_false]
      · rw [take_next hr, List.any_append, hs]
        simp)
    (fun s hs => ⟨_, by unfold L3_10; exact cf (ltL_false (Nat.le_refl _)) rfl, by
      show (s, (0 : Int), (R.length : Int), ltI (R.length : Int) (lenL R)) = _
      rw [ltL_false (Nat.le_refl _), hs, List.take_length]⟩) false (by simp)
  exact h1
theorem main_loop (L : List Int) {l : List S33} (hA : Als l) (hl : l.length ≤ 6) (a1 a2 a3 : Int) {x y : Int} (hx : -3 ≤ x ∧ x ≤ 12) (hy : -3 ≤ y ∧ y ≤ 12) : ∃ z, iter (L3_4 (x, L, a1) (y, L, a2) (l, L, a3)) 0 = some (.inl z) := by
  obtain ⟨r, h1, z, rfl⟩ := iter_up (st := L3_4 (x, L, a1) (y, L, a2) (l, L, a3)) (fun (_ : Unit) i => (i : Int)) l.length (fun _ _ => True) (fun r => ∃ z, r = .inl z)
    (fun i _ hi _ => by
      have hr := List.getElem?_eq_getElem hi
      have ha := hA.all _ (List.getElem_mem hi)
      have hW : ∀ r ∈ (l[i]).f7, W r := fun r hr => sm_W (ha.areas.1 r hr)
      have hb : ∀ x y, hasL (l[i]).f7 x y → has big x y := fun x y ⟨r, hr, hh⟩ => sm_big (ha.areas.1 r hr) hh
      have hf := ha.areas.2
      obtain ⟨ap, px⟩ := reg_ap hW hb nil_W (by omega) (by decide)
      have hlen := (ap_area ap).2.2.2
      have e := nextI (i := i) (by omega)
      refine ⟨(), ?_, trivial⟩
      unfold L3_4
      refine ct (ltL_true hi) (bs (listAt_some hr) (bs (region_ok hW hb (by omega)) (bs (reach_ok ha (by omega) (by omega)) (bs (inner_ok L l a1 a2 a3 (i : Int) 0 _ ap.w hlen hx hy) (cf rfl (cf rfl (cf rfl (cf ?_ ?_))))))))
      · have g1 := any_has hW x y
        have g2 := any_has ap.w x y
        have g3 := px x y
        have g4 : ¬ hasL [] x y := nil_has x y
        have : (l[i]).f7.any (hasB x y) = (Reg (l[i]).f7 []).any (hasB x y) := by
          rw [Bool.eq_iff_iff, g1, g2, g3]
          exact ⟨fun h => ⟨h, g4⟩, fun h => h.1⟩
        show ((l[i]).f7.any (hasB x y) != (Reg (l[i]).f7 []).any (hasB x y)) = false
        rw [this]
        cases (Reg (l[i]).f7 []).any (hasB x y) <;> rfl
      · rw [e])
    (fun _ _ => ⟨_, by unfold L3_4; exact cf (ltL_false (Nat.le_refl _)) rfl, _, rfl⟩) () trivial
  exact ⟨z, h1⟩
theorem plain (p0 : (List Int)) (h0 : (p0.length ≤ 1048576 ∧ ∀ x ∈ p0, okI x)) : T3 p0 = some true := by
  have hL := h0.1
  obtain ⟨x, e1, x1, x2⟩ := range_ok (L := p0) (at_ := 0) (lo := -3) (hi := 12) hL (by omega) (by omega) (by decide) (by decide) (by decide)
  obtain ⟨y, e2, y1, y2⟩ := range_ok (L := p0) (at_ := 0 + 1) (lo := -3) (hi := 12) hL (by omega) (by omega) (by decide) (by decide) (by decide)
  obtain ⟨l, a3, e3, hA, hl, _⟩ := alerts_drawn hL (at_ := 0 + 1 + 1) (most := 5) (by omega) (by omega)
  obtain ⟨z, e4⟩ := main_loop p0 hA (by omega) (0 + 1) (0 + 1 + 1) a3 ⟨x1, x2⟩ ⟨y1, y2⟩
  unfold T3
  exact bs e1 (bs e2 (bs e3 (bs e4 (si (bs ready_ok rfl)))))
end Go.Abs.TTA
