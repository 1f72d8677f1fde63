import Derived.Test.YtnaibaifmnjpnaaRTRR
import Derived.Test.YtnaibaifmnjpnaaRPlL
set_option linter.unusedVariables false
set_option linter.unusedSimpArgs false
set_option maxRecDepth 10000
namespace Go.Abs.TR
open Go.RowKit Go.Proofs Go.Abs
/-! Stretches of a line: sorted, apart from one another. -/
def B (a : S266) : Prop := -100000 ≤ a.f0 ∧ a.f0 < a.f1 ∧ a.f1 ≤ 100000
def Can (l : List S266) : Prop := (∀ a ∈ l, B a) ∧ l.Pairwise fun a b => a.f1 < b.f0
def inn (l : List S266) (x : Int) : Prop := ∃ a, a ∈ l ∧ a.f0 ≤ x ∧ x < a.f1
theorem inn_nil (x : Int) : ¬ inn [] x := fun ⟨_, h, _⟩ => by simp at h
theorem inn_cons (a : S266) (l : List S266) (x : Int) : inn (a :: l) x ↔ (a.f0 ≤ x ∧ x < a.f1) ∨ inn l x := by
  unfold inn
  constructor
  · rintro ⟨b, h, h2⟩
    rcases List.mem_cons.1 h with e | e
    · subst e; exact .inl h2
    · exact .inr ⟨b, e, h2⟩
  · rintro (h | ⟨b, e, h2⟩)
    · exact ⟨a, by simp, h⟩
    · exact ⟨b, by simp [e], h2⟩
theorem inn_app (l : List S266) (a : S266) (x : Int) : inn (l ++ [a]) x ↔ inn l x ∨ (a.f0 ≤ x ∧ x < a.f1) := by
  unfold inn
  constructor
  · rintro ⟨b, h, h2⟩
    rcases List.mem_append.1 h with e | e
    · exact .inl ⟨b, e, h2⟩
    · rw [List.mem_singleton] at e
      subst e; exact .inr h2
  · rintro (⟨b, e, h2⟩ | h)
    · exact ⟨b, by simp [e], h2⟩
    · exact ⟨a, by simp, h⟩
theorem can_nil : Can [] := ⟨by simp, .nil⟩
theorem can_cons {a : S266} {l : List S266} : Can (a :: l) ↔ B a ∧ Can l ∧ ∀ b ∈ l, a.f1 < b.f0 := by
  unfold Can
  rw [List.pairwise_cons, List.forall_mem_cons]
  constructor
  · rintro ⟨⟨h1, h2⟩, h3, h4⟩
    exact ⟨h1, ⟨h2, h4⟩, h3⟩
  · rintro ⟨h1, ⟨h2, h4⟩, h3⟩
    exact ⟨⟨h1, h2⟩, h3, h4⟩
theorem can_app {a : S266} {l : List S266} : Can (l ++ [a]) ↔ B a ∧ Can l ∧ ∀ b ∈ l, b.f1 < a.f0 := by
  unfold Can
  rw [List.pairwise_append]
  constructor
  · rintro ⟨h1, h2, h3, h4⟩
    exact ⟨h1 a (by simp), ⟨fun b hb => h1 b (by simp [hb]), h2⟩, fun b hb => h4 b hb a (by simp)⟩
  · rintro ⟨h1, ⟨h2, h4⟩, h3⟩
    refine ⟨fun b hb => ?_, h4, by simp, fun b hb c hc => ?_⟩
    · rcases List.mem_append.1 hb with e | e
      · exact h2 b e
      · rw [List.mem_singleton] at e
        subst e; exact h1
    · rw [List.mem_singleton] at hc
      subst hc; exact h3 b hb
theorem can_lo {a : S266} {l : List S266} (h : Can (a :: l)) {x : Int} (hx : inn (a :: l) x) : a.f0 ≤ x := by
  obtain ⟨h1, h2, h3⟩ := can_cons.1 h
  rcases (inn_cons a l x).1 hx with h | ⟨b, hb, h⟩
  · exact h.1
  · have := h3 b hb
    unfold B at h1
    omega
theorem can_gap {a : S266} {l : List S266} (h : Can (a :: l)) {x : Int} (hx : inn l x) : a.f1 < x := by
  obtain ⟨h1, h2, h3⟩ := can_cons.1 h
  obtain ⟨b, hb, h⟩ := hx
  have := h3 b hb
  omega
theorem can_end {a b : S266} {l m : List S266} (hl : Can (a :: l)) (hm : Can (b :: m)) (h : ∀ x, inn (a :: l) x → inn (b :: m) x) (e : a.f0 = b.f0) : ¬ b.f1 < a.f1 := by
  intro hlt
  have hb := (can_cons.1 hm).1
  unfold B at hb
  have h1 : inn (b :: m) b.f1 := h _ ((inn_cons _ _ _).2 (.inl ⟨by omega, hlt⟩))
  rcases (inn_cons _ _ _).1 h1 with h2 | h2
  · omega
  · have := can_gap hm h2
    omega
/-- The points tell the stretches. -/
theorem can_unique : ∀ (l m : List S266), Can l → Can m → (∀ x, inn l x ↔ inn m x) → l = m := by
  intro l
  induction l with
  | nil =>
    intro m _ hm h
    cases m with
    | nil => rfl
    | cons b m =>
      have hb := (can_cons.1 hm).1
      unfold B at hb
      exact absurd ((h b.f0).2 ((inn_cons _ _ _).2 (.inl ⟨Int.le_refl _, hb.2.1⟩))) (inn_nil _)
  | cons a l ih =>
    intro m hl hm h
    have ha := (can_cons.1 hl).1
    unfold B at ha
    cases m with
    | nil => exact absurd ((h a.f0).1 ((inn_cons _ _ _).2 (.inl ⟨Int.le_refl _, ha.2.1⟩))) (inn_nil _)
    | cons b m =>
      have hb := (can_cons.1 hm).1
      unfold B at hb
      have e0 : a.f0 = b.f0 := by
        have h1 := can_lo hm ((h a.f0).1 ((inn_cons _ _ _).2 (.inl ⟨Int.le_refl _, ha.2.1⟩)))
        have h2 := can_lo hl ((h b.f0).2 ((inn_cons _ _ _).2 (.inl ⟨Int.le_refl _, hb.2.1⟩)))
        omega
      have e1 : a.f1 = b.f1 := by
        have h1 := can_end hl hm (fun x => (h x).1) e0
        have h2 := can_end hm hl (fun x => (h x).2) e0.symm
        omega
      have e : a = b := by cases a; cases b; simp_all
      subst e
      rw [ih m (can_cons.1 hl).2.1 (can_cons.1 hm).2.1 fun x => ⟨fun hx => ?_, fun hx => ?_⟩]
      · have hg := can_gap hl hx
        rcases (inn_cons _ _ _).1 ((h x).1 ((inn_cons _ _ _).2 (.inr hx))) with h1 | h1
        · omega
        · exact h1
      · have hg := can_gap hm hx
        rcases (inn_cons _ _ _).1 ((h x).2 ((inn_cons _ _ _).2 (.inr hx))) with h1 | h1
        · omega
        · exact h1
theorem can_len_lo (l : List S266) (lo : Int) (h : Can l) (hlo : ∀ a ∈ l, lo ≤ a.f0) (hb : lo ≤ 100000) : (l.length : Int) ≤ 100000 - lo := by
  induction l generalizing lo with
  | nil => simp; omega
  | cons a l ih =>
    obtain ⟨h1, h2, h3⟩ := can_cons.1 h
    unfold B at h1
    have := ih a.f1 h2 (fun b hb => by have := h3 b hb; omega) (by omega)
    have h4 := hlo a (by simp)
    rw [List.length_cons]
    omega
theorem can_len {l : List S266} (h : Can l) : l.length ≤ 200000 := by
  have := can_len_lo l (-100000) h (fun a ha => (h.1 a ha).1) (by omega)
  omega
/-! A rectangle's stretch at a height. -/
def W (r : S63) : Prop := -100000 ≤ r.f0 ∧ -100000 ≤ r.f1 ∧ 1 ≤ r.f2 ∧ r.f0 + r.f2 ≤ 100000 ∧ 1 ≤ r.f3 ∧ r.f1 + r.f3 ≤ 100000
def has (r : S63) (x y : Int) : Prop := r.f0 ≤ x ∧ x < r.f0 + r.f2 ∧ r.f1 ≤ y ∧ y < r.f1 + r.f3
def hasL (p : List S63) (x y : Int) : Prop := ∃ r, r ∈ p ∧ has r x y
theorem w_edge {r : S63} (h : W r) : addI .i64 r.f0 r.f2 = r.f0 + r.f2 ∧ addI .i64 r.f1 r.f3 = r.f1 + r.f3 := by
  unfold W at h
  exact ⟨addI_eq (by omega) (by omega), addI_eq (by omega) (by omega)⟩
theorem raw_ok (p : List S63) (y : Int) (hW : ∀ r ∈ p, W r) (hl : p.length ≤ 1000000) : ∃ r, iter (L253_3 p y) ([], 0) = some r ∧ r.2.2.length ≤ p.length ∧ (∀ a ∈ r.2.2, B a) ∧ ∀ x, inn r.2.2 x ↔ hasL p x y := by
  refine iter_up (st := L253_3 p y) (fun (s : List S266) i => (s, (i : Int))) p.length (fun i s => s.length ≤ i ∧ (∀ a ∈ s, B a) ∧ ∀ x, inn s x ↔ upto p i fun r => has r x y) (fun r => r.2.2.length ≤ p.length ∧ (∀ a ∈ r.2.2, B a) ∧ ∀ x, inn r.2.2 x ↔ hasL p x y) ?_ ?_ [] ⟨Nat.le_refl _, by simp, fun x => ⟨fun h => absurd h (inn_nil x), fun h => absurd h (upto_zero _ _)⟩⟩
  · intro i s hi ⟨h1, h2, h3⟩
    obtain ⟨r, hr⟩ : ∃ r, p[i]? = some r := ⟨_, List.getElem?_eq_getElem hi⟩
    have hw := hW r (List.mem_of_getElem? hr)
    have he := w_edge hw
    unfold W at hw
    have hno : ∀ s', s' = s → (∀ x, ¬ has r x y) → s'.length ≤ i + 1 ∧ (∀ a ∈ s', B a) ∧ ∀ x, inn s' x ↔ upto p (i + 1) fun r => has r x y := by
      intro s' e hx
      subst e
      refine ⟨by omega, h2, fun x => ?_⟩
      rw [upto_succ _ hr, h3]
      exact ⟨.inl, fun h => h.resolve_right (hx x)⟩
    simp only [L253_3, ltL_true hi, listAt_some hr, cond_true, Option.bind_some, he.1, he.2, nextI (show i < 9223372036854775807 by omega)]
    by_cases c1 : r.f1 ≤ y
    · rw [show leI r.f1 y = true from decide_eq_true c1]
      by_cases c2 : y < r.f1 + r.f3
      · rw [show ltI y (r.f1 + r.f3) = true from decide_eq_true c2, appO_big (by omega) (by simp only [List.length_cons, List.length_nil]; omega)]
        refine ⟨_, rfl, ?_, ?_, fun x => ?_⟩
        · simp only [List.length_append, List.length_cons, List.length_nil]; omega
        · intro a ha
          rcases List.mem_append.1 ha with e | e
          · exact h2 a e
          · rw [List.mem_singleton] at e
            subst e
            unfold B
            simp only
            omega
        · rw [inn_app, h3, upto_succ _ hr]
          simp only [has]
          constructor
          · rintro (h | h)
            · exact .inl h
            · exact .inr ⟨h.1, h.2, c1, c2⟩
          · rintro (h | h)
            · exact .inl h
            · exact .inr ⟨h.1, h.2.1⟩
      · rw [show ltI y (r.f1 + r.f3) = false from decide_eq_false c2]
        exact ⟨s, rfl, hno s rfl fun x h => by unfold has at h; omega⟩
    · rw [show leI r.f1 y = false from decide_eq_false c1]
      exact ⟨s, rfl, hno s rfl fun x h => by unfold has at h; omega⟩
  · intro s ⟨h1, h2, h3⟩
    simp only [L253_3, ltL_false (Nat.le_refl _), cond_false]
    exact ⟨_, rfl, h1, h2, fun x => (h3 x).trans (upto_len _)⟩
theorem sorted_ok (l : List S266) (hB : ∀ a ∈ l, B a) (hl : l.length ≤ 1000000) : ∃ l', sortO (fun x y => T289 x y) l = some l' ∧ l'.Perm l ∧ l'.Pairwise fun a b => a.f0 ≤ b.f0 :=
  sortO_key _ (fun a => a.f0) l (by omega) fun x hx y hy => by
    have h1 := hB x hx
    have h2 := hB y hy
    unfold B at h1 h2
    refine ⟨x.f0 - y.f0, ?_, by omega⟩
    unfold T289
    rw [subI_eq (by omega) (by omega)]
theorem merge_ok (l : List S266) (hB : ∀ a ∈ l, B a) (hs : l.Pairwise fun a b => a.f0 ≤ b.f0) (hl : l.length ≤ 1000000) : ∃ r, iter (L253_11 l) ([], l, 0) = some r ∧ Can r.2.2.1 ∧ ∀ x, inn r.2.2.1 x ↔ inn l x := by
  refine iter_up (st := L253_11 l) (fun (s : List S266) i => (s, l, (i : Int))) l.length (fun i s => Can s ∧ (∀ a ∈ s, ∃ j b, j < i ∧ l[j]? = some b ∧ a.f0 = b.f0) ∧ ∀ x, inn s x ↔ upto l i fun r => r.f0 ≤ x ∧ x < r.f1) (fun r => Can r.2.2.1 ∧ ∀ x, inn r.2.2.1 x ↔ inn l x) ?_ ?_ [] ⟨can_nil, by simp, fun x => ⟨fun h => absurd h (inn_nil x), fun h => absurd h (upto_zero _ _)⟩⟩
  · intro i s hi ⟨h1, h2, h3⟩
    obtain ⟨r, hr⟩ : ∃ r, l[i]? = some r := ⟨_, List.getElem?_eq_getElem hi⟩
    have hb := hB r (List.mem_of_getElem? hr)
    have hle : ∀ a ∈ s, a.f0 ≤ r.f0 := by
      intro a ha
      obtain ⟨j, b, hj, hjb, e⟩ := h2 a ha
      have := List.pairwise_iff_getElem.1 hs j i (by omega) hi hj
      rw [(List.getElem?_eq_some_iff.1 hjb).2, (List.getElem?_eq_some_iff.1 hr).2] at this
      omega
    have hlen := can_len h1
    simp only [L253_11, ltL_true hi, idx_nat hi, getN_some hr, cond_true, Option.bind_some, nextI (show i < 9223372036854775807 by omega)]
    rcases List.eq_nil_or_concat s with e | ⟨q, b, e⟩
    · subst e
      rw [show leI 0 (subI .i64 (lenL ([] : List S266)) 1) = false from rfl]
      simp only [cond_false]
      rw [appO_big (by omega) (by simp)]
      refine ⟨_, rfl, can_app.2 ⟨hb, h1, by simp⟩, ?_, fun x => ?_⟩
      · intro a ha
        rw [List.nil_append, List.mem_singleton] at ha
        subst ha
        exact ⟨i, a, by omega, hr, rfl⟩
      · rw [inn_app, h3, upto_succ _ hr]
    · subst e
      simp only [List.concat_eq_append] at *
      have hql : q.length < 200000 := by simp only [List.length_append, List.length_cons, List.length_nil] at hlen; omega
      have hlast := last_len q b (by omega)
      obtain ⟨hb1, hq, hqb⟩ := can_app.1 h1
      have hbr := hle b (by simp)
      simp only [hlast, idx_nat (show q.length < (q ++ [b]).length by simp), last_at, Option.bind_some, last_set]
      rw [show leI 0 (q.length : Int) = true from decide_eq_true (by omega)]
      simp only [cond_true]
      by_cases c : r.f0 ≤ b.f1
      · rw [show leI r.f0 b.f1 = true from decide_eq_true c]
        simp only [cond_true, maxI_eq]
        refine ⟨_, rfl, can_app.2 ⟨?_, hq, hqb⟩, ?_, fun x => ?_⟩
        · unfold B at *
          simp only
          omega
        · intro a ha
          rcases List.mem_append.1 ha with e | e
          · obtain ⟨j, b, hj, hjb, e⟩ := h2 a (by simp [e])
            exact ⟨j, b, by omega, hjb, e⟩
          · rw [List.mem_singleton] at e
            subst e
            obtain ⟨j, b', hj, hjb, e⟩ := h2 b (by simp)
            exact ⟨j, b', by omega, hjb, e⟩
        · have h4 := h3 x
          rw [inn_app] at h4
          rw [inn_app, upto_succ _ hr, ← h4]
          unfold B at *
          simp only
          generalize inn q x = A
          constructor
          · rintro (h | h)
            · exact .inl (.inl h)
            · by_cases hxb : x < b.f1
              · exact .inl (.inr ⟨h.1, hxb⟩)
              · exact .inr (by omega)
          · rintro ((h | h) | h)
            · exact .inl h
            · exact .inr (by omega)
            · exact .inr (by omega)
      · rw [show leI r.f0 b.f1 = false from decide_eq_false c]
        simp only [cond_false]
        rw [appO_big (by omega) (by simp only [List.length_append, List.length_cons, List.length_nil]; omega)]
        refine ⟨_, rfl, can_app.2 ⟨hb, h1, ?_⟩, ?_, fun x => ?_⟩
        · intro a ha
          rcases List.mem_append.1 ha with e | e
          · have := hqb a e
            unfold B at *
            omega
          · rw [List.mem_singleton] at e
            subst e
            omega
        · intro a ha
          rcases List.mem_append.1 ha with e | e
          · obtain ⟨j, b, hj, hjb, e⟩ := h2 a e
            exact ⟨j, b, by omega, hjb, e⟩
          · rw [List.mem_singleton] at e
            subst e
            exact ⟨i, a, by omega, hr, rfl⟩
        · rw [inn_app, h3, upto_succ _ hr]
  · intro s ⟨h1, h2, h3⟩
    simp only [L253_11, ltL_false (Nat.le_refl _), cond_false]
    exact ⟨_, rfl, h1, fun x => (h3 x).trans (upto_len _)⟩
theorem runs_ok (p : List S63) (y : Int) (hW : ∀ r ∈ p, W r) (hl : p.length ≤ 1000000) : ∃ l, T253 p y = some l ∧ Can l ∧ ∀ x, inn l x ↔ hasL p x y := by
  obtain ⟨r, h1, h2, h3, h4⟩ := raw_ok p y hW hl
  obtain ⟨l, h5, h6, h7⟩ := sorted_ok r.2.2 h3 (by omega)
  have hB : ∀ a ∈ l, B a := fun a ha => h3 a (h6.mem_iff.1 ha)
  obtain ⟨q, h8, h9, h10⟩ := merge_ok l hB h7 (by rw [h6.length_eq]; omega)
  refine ⟨q.2.2.1, ?_, h9, fun x => ?_⟩
  · unfold T253
    rw [h1, Option.bind_some, h5, Option.bind_some, h8, Option.bind_some]
  · rw [h10, ← h4]
    unfold inn
    exact ⟨fun ⟨a, h, e⟩ => ⟨a, h6.mem_iff.1 h, e⟩, fun ⟨a, h, e⟩ => ⟨a, h6.mem_iff.2 h, e⟩⟩
/-! One line's stretches without another's. -/
theorem skip_ok (l m : List S266) (z0 : List S266 × Int × Int) (x1 : S266) (hm : m.length ≤ 1000000) (j : Nat) (hj : j ≤ m.length) (hk : ∀ k b, k < j → m[k]? = some b → b.f1 ≤ x1.f0) :
    ∃ r, iter (L252_6 l m z0 x1) (j : Int) = some r ∧ ∃ j' : Nat, r.1 = (j' : Int) ∧ j' ≤ m.length ∧ ∀ k b, k < j' → m[k]? = some b → b.f1 ≤ x1.f0 := by
  refine iter_upx (st := L252_6 l m z0 x1) (fun (_ : Unit) i => (i : Int)) m.length (fun i _ => ∀ k b, k < i → m[k]? = some b → b.f1 ≤ x1.f0) (fun r => ∃ j' : Nat, r.1 = (j' : Int) ∧ j' ≤ m.length ∧ ∀ k b, k < j' → m[k]? = some b → b.f1 ≤ x1.f0) ?_ ?_ j () hj hk
  · intro i _ hi h
    obtain ⟨r, hr⟩ : ∃ r, m[i]? = some r := ⟨_, List.getElem?_eq_getElem hi⟩
    simp only [L252_6, ltL_true hi, listAt_some hr, cond_true, Option.bind_some, nextI (show i < 9223372036854775807 by omega)]
    by_cases c : r.f1 ≤ x1.f0
    · rw [show leI r.f1 x1.f0 = true from decide_eq_true c]
      refine .inl ⟨(), rfl, fun k b hk hb => ?_⟩
      by_cases e : k = i
      · subst e
        rw [hr] at hb
        cases hb
        exact c
      · exact h k b (by omega) hb
    · rw [show leI r.f1 x1.f0 = false from decide_eq_false c]
      exact .inr ⟨_, rfl, i, rfl, by omega, h⟩
  · intro _ h
    simp only [L252_6, ltL_false (Nat.le_refl _), cond_false]
    exact ⟨_, rfl, m.length, rfl, Nat.le_refl _, h⟩
theorem can_lt {m : List S266} (hm : Can m) {i j : Nat} {a b : S266} (ha : m[i]? = some a) (hb : m[j]? = some b) (h : i < j) : a.f1 < b.f0 := by
  have h1 := (List.getElem?_eq_some_iff.1 ha)
  have h2 := (List.getElem?_eq_some_iff.1 hb)
  obtain ⟨h1, e1⟩ := h1
  obtain ⟨h2, e2⟩ := h2
  have := List.pairwise_iff_getElem.1 hm.2 i j h1 h2 h
  rw [e1, e2] at this
  exact this
/-- What stands while one stretch x1 is cut. -/
structure Cut (m : List S266) (x1 : S266) (P : Int → Prop) (i : Nat) (s : List S266) (fr : Int) : Prop where
  can : Can s
  lt : ∀ a ∈ s, a.f1 < fr
  hi : ∀ a ∈ s, a.f1 ≤ x1.f1
  lo : x1.f0 ≤ fr
  past : ∀ k b, k < i → m[k]? = some b → b.f1 ≤ fr
  pts : ∀ x, inn s x ↔ P x ∨ (x1.f0 ≤ x ∧ x < fr ∧ x < x1.f1 ∧ ¬ inn m x)
theorem cut_ok (l m : List S266) (z0 : List S266 × Int × Int) (x1 : S266) (y3 : Int × Bool) (hm : Can m) (hx1 : B x1) (P : Int → Prop) (j : Nat) (hj : j ≤ m.length) (s : List S266) (fr : Int) (hs : Cut m x1 P j s fr) :
    ∃ r, iter (L252_9 l m z0 x1 y3) (s, fr, (j : Int)) = some r ∧ ∃ i, Cut m x1 P i r.2.2.1 r.2.2.2 ∧ ∀ x, r.2.2.2 ≤ x → x < x1.f1 → ¬ inn m x := by
  have hlm := can_len hm
  refine iter_upx (st := L252_9 l m z0 x1 y3) (fun (s : List S266 × Int) i => (s.1, s.2, (i : Int))) m.length (fun i s => Cut m x1 P i s.1 s.2) (fun r => ∃ i, Cut m x1 P i r.2.2.1 r.2.2.2 ∧ ∀ x, r.2.2.2 ≤ x → x < x1.f1 → ¬ inn m x) ?_ ?_ j (s, fr) hj hs
  · rintro i ⟨s, fr⟩ hi h
    obtain ⟨r, hr⟩ : ∃ r, m[i]? = some r := ⟨_, List.getElem?_eq_getElem hi⟩
    have hb := hm.1 r (List.mem_of_getElem? hr)
    unfold B at hb hx1
    have hslen : s.length ≤ 200000 := can_len h.can
    simp only [L252_9, ltL_true hi, listAt_some hr, cond_true, Option.bind_some, nextI (show i < 9223372036854775807 by omega), maxI_eq]
    have hG : ∀ x, r.f0 ≤ x → x < r.f1 → inn m x := fun x h1 h2 => ⟨r, List.mem_of_getElem? hr, h1, h2⟩
    have hpast : ∀ k b, k < i + 1 → m[k]? = some b → b.f1 ≤ max fr r.f1 := by
      intro k b hk hkb
      by_cases e : k = i
      · subst e
        rw [hr] at hkb
        cases hkb
        omega
      · have := h.past k b (by omega) hkb
        omega
    by_cases c : r.f0 < x1.f1
    · rw [show ltI r.f0 x1.f1 = true from decide_eq_true c]
      simp only [cond_true]
      left
      by_cases c2 : fr < r.f0
      · rw [show ltI fr r.f0 = true from decide_eq_true c2, appO_big (by omega) (by simp only [List.length_cons, List.length_nil]; omega)]
        have hF : ∀ x, fr ≤ x → x < r.f0 → ¬ inn m x := by
          rintro x h1 h2 ⟨b, hbm, h3, h4⟩
          obtain ⟨k, hk⟩ := List.getElem?_of_mem hbm
          rcases Nat.lt_trichotomy k i with e | e | e
          · have := h.past k b e hk
            omega
          · subst e
            rw [hr] at hk
            cases hk
            omega
          · have := can_lt hm hr hk e
            omega
        have hlo := h.lo
        refine ⟨(_, _), rfl, ⟨can_app.2 ⟨?_, h.can, h.lt⟩, ?_, ?_, ?_, hpast, fun x => ?_⟩⟩
        · unfold B; simp only; omega
        · intro a ha
          simp only at ha ⊢
          rcases List.mem_append.1 ha with e | e
          · have := h.lt a e
            simp only at this
            omega
          · rw [List.mem_singleton] at e
            subst e
            simp only
            omega
        · intro a ha
          rcases List.mem_append.1 ha with e | e
          · exact h.hi a e
          · rw [List.mem_singleton] at e
            subst e
            simp only
            omega
        · simp only; simp only at hlo; omega
        · simp only
          rw [inn_app, h.pts x]
          simp only
          simp only at hlo
          constructor
          · rintro ((hh | hh) | hh)
            · exact .inl hh
            · exact .inr ⟨hh.1, by omega, hh.2.2.1, hh.2.2.2⟩
            · exact .inr ⟨by omega, by omega, by omega, hF x hh.1 hh.2⟩
          · rintro (hh | ⟨h1, h2, h3, h4⟩)
            · exact .inl (.inl hh)
            · by_cases hx : x < fr
              · exact .inl (.inr ⟨h1, hx, h3, h4⟩)
              · have : ¬ r.f0 ≤ x := fun h5 => h4 (hG x h5 (by omega))
                exact .inr ⟨by omega, by omega⟩
      · rw [show ltI fr r.f0 = false from decide_eq_false c2]
        have hlo := h.lo
        refine ⟨(_, _), rfl, ⟨h.can, ?_, h.hi, ?_, hpast, fun x => ?_⟩⟩
        · intro a ha
          have := h.lt a ha
          simp only at this ⊢
          omega
        · simp only; simp only at hlo; omega
        · simp only
          have := h.pts x
          simp only at this
          rw [this]
          constructor
          · rintro (hh | hh)
            · exact .inl hh
            · exact .inr ⟨hh.1, by omega, hh.2.2.1, hh.2.2.2⟩
          · rintro (hh | ⟨h1, h2, h3, h4⟩)
            · exact .inl hh
            · by_cases hx : x < fr
              · exact .inr ⟨h1, hx, h3, h4⟩
              · exact absurd (hG x (by omega) (by omega)) h4
    · rw [show ltI r.f0 x1.f1 = false from decide_eq_false c]
      right
      refine ⟨_, rfl, i, h, ?_⟩
      simp only
      rintro x h1 h2 ⟨b, hbm, h3, h4⟩
      obtain ⟨k, hk⟩ := List.getElem?_of_mem hbm
      rcases Nat.lt_trichotomy k i with e | e | e
      · have := h.past k b e hk
        simp only at this
        omega
      · subst e
        rw [hr] at hk
        cases hk
        omega
      · have := can_lt hm hr hk e
        omega
  · rintro ⟨s, fr⟩ h
    simp only [L252_9, ltL_false (Nat.le_refl _), cond_false]
    refine ⟨_, rfl, m.length, h, ?_⟩
    simp only
    rintro x h1 h2 ⟨b, hbm, h3, h4⟩
    obtain ⟨k, hk⟩ := List.getElem?_of_mem hbm
    have := h.past k b (List.getElem?_eq_some_iff.1 hk).1 hk
    simp only at this
    omega
theorem less_ok (l m : List S266) (hl : Can l) (hm : Can m) : ∃ o, T252 l m = some o ∧ Can o ∧ ∀ x, inn o x ↔ inn l x ∧ ¬ inn m x := by
  have hll := can_len hl
  have hlm := can_len hm
  suffices H : ∃ r, iter (L252_4 l m) ([], 0, 0) = some r ∧ Can r.2.2.2 ∧ ∀ x, inn r.2.2.2 x ↔ inn l x ∧ ¬ inn m x by
    obtain ⟨r, h1, h2, h3⟩ := H
    refine ⟨r.2.2.2, ?_, h2, h3⟩
    unfold T252
    rw [h1, Option.bind_some]
  refine iter_up (st := L252_4 l m) (fun (s : List S266 × Nat) i => (s.1, (s.2 : Int), (i : Int))) l.length
    (fun i s => Can s.1 ∧ s.2 ≤ m.length ∧ (∀ k b i' x, k < s.2 → m[k]? = some b → i ≤ i' → l[i']? = some x → b.f1 ≤ x.f0) ∧ (∀ a i' x, a ∈ s.1 → i ≤ i' → l[i']? = some x → a.f1 < x.f0) ∧ ∀ x, inn s.1 x ↔ (upto l i fun r => r.f0 ≤ x ∧ x < r.f1) ∧ ¬ inn m x)
    (fun r => Can r.2.2.2 ∧ ∀ x, inn r.2.2.2 x ↔ inn l x ∧ ¬ inn m x) ?_ ?_ ([], 0) ⟨can_nil, Nat.zero_le _, ?_, ?_, fun x => ⟨fun h => absurd h (inn_nil x), fun h => absurd h.1 (upto_zero _ _)⟩⟩
  · rintro i ⟨s, j⟩ hi ⟨h1, h2, h3, h4, h5⟩
    simp only at h1 h2 h3 h4 h5
    obtain ⟨r, hr⟩ : ∃ r, l[i]? = some r := ⟨_, List.getElem?_eq_getElem hi⟩
    have hb := hl.1 r (List.mem_of_getElem? hr)
    obtain ⟨q, q1, j', q2, q3, q4⟩ := skip_ok l m (s, (j : Int), (i : Int)) r (by omega) j h2 fun k b hk hkb => h3 k b i r hk hkb (Nat.le_refl _) hr
    have hcut : Cut m r (fun x => (upto l i fun r => r.f0 ≤ x ∧ x < r.f1) ∧ ¬ inn m x) j' s r.f0 := by
      refine ⟨h1, fun a ha => h4 a i r ha (Nat.le_refl _) hr, fun a ha => ?_, Int.le_refl _, q4, fun x => ?_⟩
      · have := h4 a i r ha (Nat.le_refl _) hr
        unfold B at hb
        omega
      · rw [h5]
        exact ⟨.inl, fun h => h.resolve_right fun h => by omega⟩
    obtain ⟨u, u1, i', u2, u3⟩ := cut_ok l m (s, (j : Int), (i : Int)) r q hm hb _ j' q3 s r.f0 hcut
    have hulen := can_len u2.can
    simp only [L252_4, ltL_true hi, listAt_some hr, cond_true, Option.bind_some, nextI (show i < 9223372036854775807 by omega)]
    rw [q1, Option.bind_some, q2, u1, Option.bind_some]
    have hnext : ∀ k b i' x, k < j' → m[k]? = some b → i + 1 ≤ i' → l[i']? = some x → b.f1 ≤ x.f0 := by
      intro k b i' x hk hkb hi' hx
      have h6 := q4 k b hk hkb
      have h7 := can_lt hl hr hx (by omega)
      unfold B at hb
      omega
    by_cases c : u.2.2.2 < r.f1
    · rw [show ltI u.2.2.2 r.f1 = true from decide_eq_true c, appO_big (by omega) (by simp only [List.length_cons, List.length_nil]; omega)]
      have hlo := u2.lo
      refine ⟨(_, j'), rfl, can_app.2 ⟨?_, u2.can, u2.lt⟩, q3, hnext, ?_, fun x => ?_⟩
      · unfold B at hb ⊢
        simp only
        omega
      · intro a i' x ha hi' hx
        have h7 := can_lt hl hr hx (by omega)
        simp only at ha
        rcases List.mem_append.1 ha with e | e
        · have := u2.hi a e
          omega
        · rw [List.mem_singleton] at e
          subst e
          exact h7
      · simp only
        rw [inn_app, u2.pts x, upto_succ _ hr]
        simp only
        constructor
        · rintro ((hh | hh) | hh)
          · exact ⟨.inl hh.1, hh.2⟩
          · exact ⟨.inr ⟨hh.1, hh.2.2.1⟩, hh.2.2.2⟩
          · exact ⟨.inr ⟨by omega, hh.2⟩, u3 x hh.1 hh.2⟩
        · rintro ⟨hh | hh, hn⟩
          · exact .inl (.inl ⟨hh, hn⟩)
          · by_cases hx : x < u.2.2.2
            · exact .inl (.inr ⟨hh.1, hx, hh.2, hn⟩)
            · exact .inr ⟨by omega, hh.2⟩
    · rw [show ltI u.2.2.2 r.f1 = false from decide_eq_false c]
      refine ⟨(_, j'), rfl, u2.can, q3, hnext, ?_, fun x => ?_⟩
      · intro a i' x ha hi' hx
        have h7 := can_lt hl hr hx (by omega)
        have := u2.hi a ha
        omega
      · simp only
        rw [u2.pts x, upto_succ _ hr]
        constructor
        · rintro (hh | hh)
          · exact ⟨.inl hh.1, hh.2⟩
          · exact ⟨.inr ⟨hh.1, hh.2.2.1⟩, hh.2.2.2⟩
        · rintro ⟨hh | hh, hn⟩
          · exact .inl ⟨hh, hn⟩
          · exact .inr ⟨hh.1, by omega, hh.2, hn⟩
  · rintro ⟨s, j⟩ ⟨h1, h2, h3, h4, h5⟩
    simp only [L252_4, ltL_false (Nat.le_refl _), cond_false]
    refine ⟨_, rfl, h1, fun x => ?_⟩
    simp only
    simp only at h5
    rw [h5, upto_len]
    rfl
  · intro k b i' x hk; exact absurd hk (Nat.not_lt_zero k)
  · intro a i' x ha; simp at ha
theorem same_ok (a b : List S266) (hl : a.length ≤ 1000000) : ∃ c, T254 a b = some c ∧ (c = true ↔ a = b) := by
  unfold T254
  by_cases hlen : a.length = b.length
  · have e : neI (lenL a) (lenL b) = false := by rw [neI_iff, lenL_eq, lenL_eq, hlen]; simp
    rw [e]
    simp only [cond_false]
    obtain ⟨r, h1, h2⟩ : ∃ r, iter (L254_4 a b) 0 = some r ∧ (r.isLeft = true ↔ a = b) := by
      refine iter_upx (st := L254_4 a b) (fun (_ : Unit) i => (i : Int)) a.length (fun i _ => ∀ j, j < i → a[j]? = b[j]?) (fun r => r.isLeft = true ↔ a = b) ?_ ?_ 0 () (Nat.zero_le _) (fun j h => absurd h (Nat.not_lt_zero j))
      · intro i _ hi h
        obtain ⟨r, hr⟩ : ∃ r, a[i]? = some r := ⟨_, List.getElem?_eq_getElem hi⟩
        obtain ⟨q, hq⟩ : ∃ r, b[i]? = some r := ⟨_, List.getElem?_eq_getElem (by omega)⟩
        simp only [L254_4, ltL_true hi, listAt_some hr, listAt_some hq, cond_true, Option.bind_some, nextI (show i < 9223372036854775807 by omega), allB, Bool.and_true]
        by_cases c : r.f0 = q.f0 ∧ r.f1 = q.f1
        · left
          rw [eqI_iff, eqI_iff, decide_eq_true c.1, decide_eq_true c.2]
          refine ⟨(), rfl, fun j hj => ?_⟩
          by_cases e : j = i
          · subst e
            rw [hr, hq]
            cases r; cases q
            simp_all
          · exact h j (by omega)
        · right
          have : (eqI r.f0 q.f0 && eqI r.f1 q.f1) = false := by
            rw [eqI_iff, eqI_iff, Bool.and_eq_false_iff]
            by_cases c1 : r.f0 = q.f0
            · exact .inr (decide_eq_false fun c2 => c ⟨c1, c2⟩)
            · exact .inl (decide_eq_false c1)
          rw [this]
          refine ⟨_, rfl, ?_⟩
          simp only [Sum.isLeft_inr, Bool.false_eq_true, false_iff]
          intro e
          subst e
          rw [hr] at hq
          cases hq
          exact c ⟨rfl, rfl⟩
      · intro _ h
        simp only [L254_4, ltL_false (Nat.le_refl _), cond_false]
        refine ⟨_, rfl, ?_⟩
        simp only [Sum.isLeft_inl, true_iff]
        refine List.ext_getElem? fun j => ?_
        by_cases hj : j < a.length
        · exact h j hj
        · rw [List.getElem?_eq_none (by omega), List.getElem?_eq_none (by omega)]
    rw [h1, Option.bind_some]
    cases r with
    | inl y => exact ⟨true, rfl, by simpa using h2⟩
    | inr y => exact ⟨false, rfl, by simpa using h2⟩
  · have e : neI (lenL a) (lenL b) = true := by
      rw [neI_iff, lenL_eq, lenL_eq]
      have : ¬ (a.length : Int) = b.length := by omega
      simp [this]
    rw [e]
    exact ⟨false, rfl, by simp only [Bool.false_eq_true, false_iff]; intro h; exact hlen (by rw [h])⟩
end Go.Abs.TR
