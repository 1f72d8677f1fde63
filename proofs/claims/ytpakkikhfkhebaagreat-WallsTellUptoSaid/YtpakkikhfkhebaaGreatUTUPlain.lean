import Derived.Test.YtpakkikhfkhebaaGreatUTUR
import Derived.Test.YtpakkikhfkhebaaGreatUPlL
import Derived.Test.YtpakkikhfkhebaaGreatUTUK
import Derived.Test.YtpakkikhfkhebaaGreatUPlS
set_option linter.unusedVariables false
set_option linter.unusedSimpArgs false
set_option maxRecDepth 10000
namespace Go.Abs.TU
open Go.RowKit Go.Proofs Go.Abs
/-! Stretches of a line: sorted, apart from one another. -/
def B (a : S110) : Prop := -100000 ≤ a.f0 ∧ a.f0 < a.f1 ∧ a.f1 ≤ 100000
def Can (l : List S110) : Prop := (∀ a ∈ l, B a) ∧ l.Pairwise fun a b => a.f1 < b.f0
def inn (l : List S110) (x : Int) : Prop := ∃ a, a ∈ l ∧ a.f0 ≤ x ∧ x < a.f1
theorem inn_nil (x : Int) : ¬ inn [] x := fun ⟨_, h, _⟩ => by simp at h
theorem inn_cons (a : S110) (l : List S110) (x : Int) : inn (a :: l) x ↔ (a.f0 ≤ x ∧ x < a.f1) ∨ inn l x := by
  unfold inn
  constructor
  · rintro ⟨b, h, h2⟩
    rcases List.mem_cons.1 h with e | e
    · subst e; exact .inl h2
    · exact .inr ⟨b, e, h2⟩
  · rintro (h | ⟨b, e, h2⟩)
    · exact ⟨a, by simp, h⟩
    · exact ⟨b, by simp [e], h2⟩
theorem inn_app (l : List S110) (a : S110) (x : Int) : inn (l ++ [a]) x ↔ inn l x ∨ (a.f0 ≤ x ∧ x < a.f1) := by
  unfold inn
  constructor
  · rintro ⟨b, h, h2⟩
    rcases List.mem_append.1 h with e | e
    · exact .inl ⟨b, e, h2⟩
    · rw [List.mem_singleton] at e
      subst e; exact .inr h2
  · rintro (⟨b, e, h2⟩ | h)
    · exact ⟨b, by simp [e], h2⟩
    · exact ⟨a, by simp, h⟩
theorem can_nil : Can [] := ⟨by simp, .nil⟩
theorem can_cons {a : S110} {l : List S110} : Can (a :: l) ↔ B a ∧ Can l ∧ ∀ b ∈ l, a.f1 < b.f0 := by
  unfold Can
  rw [List.pairwise_cons, List.forall_mem_cons]
  constructor
  · rintro ⟨⟨h1, h2⟩, h3, h4⟩
    exact ⟨h1, ⟨h2, h4⟩, h3⟩
  · rintro ⟨h1, ⟨h2, h4⟩, h3⟩
    exact ⟨⟨h1, h2⟩, h3, h4⟩
theorem can_app {a : S110} {l : List S110} : Can (l ++ [a]) ↔ B a ∧ Can l ∧ ∀ b ∈ l, b.f1 < a.f0 := by
  unfold Can
  rw [List.pairwise_append]
  constructor
  · rintro ⟨h1, h2, h3, h4⟩
    exact ⟨h1 a (by simp), ⟨fun b hb => h1 b (by simp [hb]), h2⟩, fun b hb => h4 b hb a (by simp)⟩
  · rintro ⟨h1, ⟨h2, h4⟩, h3⟩
    refine ⟨fun b hb => ?_, h4, by simp, fun b hb c hc => ?_⟩
    · rcases List.mem_append.1 hb with e | e
      · exact h2 b e
      · rw [List.mem_singleton] at e
        subst e; exact h1
    · rw [List.mem_singleton] at hc
      subst hc; exact h3 b hb
theorem can_lo {a : S110} {l : List S110} (h : Can (a :: l)) {x : Int} (hx : inn (a :: l) x) : a.f0 ≤ x := by
  obtain ⟨h1, h2, h3⟩ := can_cons.1 h
  rcases (inn_cons a l x).1 hx with h | ⟨b, hb, h⟩
  · exact h.1
  · have := h3 b hb
    unfold B at h1
    omega
theorem can_gap {a : S110} {l : List S110} (h : Can (a :: l)) {x : Int} (hx : inn l x) : a.f1 < x := by
  obtain ⟨h1, h2, h3⟩ := can_cons.1 h
  obtain ⟨b, hb, h⟩ := hx
  have := h3 b hb
  omega
theorem can_end {a b : S110} {l m : List S110} (hl : Can (a :: l)) (hm : Can (b :: m)) (h : ∀ x, inn (a :: l) x → inn (b :: m) x) (e : a.f0 = b.f0) : ¬ b.f1 < a.f1 := by
  intro hlt
  have hb := (can_cons.1 hm).1
  unfold B at hb
  have h1 : inn (b :: m) b.f1 := h _ ((inn_cons _ _ _).2 (.inl ⟨by omega, hlt⟩))
  rcases (inn_cons _ _ _).1 h1 with h2 | h2
  · omega
  · have := can_gap hm h2
    omega
/-- The points tell the stretches. -/
theorem can_unique : ∀ (l m : List S110), Can l → Can m → (∀ x, inn l x ↔ inn m x) → l = m := by
  intro l
  induction l with
  | nil =>
    intro m _ hm h
    cases m with
    | nil => rfl
    | cons b m =>
      have hb := (can_cons.1 hm).1
      unfold B at hb
      exact absurd ((h b.f0).2 ((inn_cons _ _ _).2 (.inl ⟨Int.le_refl _, hb.2.1⟩))) (inn_nil _)
  | cons a l ih =>
    intro m hl hm h
    have ha := (can_cons.1 hl).1
    unfold B at ha
    cases m with
    | nil => exact absurd ((h a.f0).1 ((inn_cons _ _ _).2 (.inl ⟨Int.le_refl _, ha.2.1⟩))) (inn_nil _)
    | cons b m =>
      have hb := (can_cons.1 hm).1
      unfold B at hb
      have e0 : a.f0 = b.f0 := by
        have h1 := can_lo hm ((h a.f0).1 ((inn_cons _ _ _).2 (.inl ⟨Int.le_refl _, ha.2.1⟩)))
        have h2 := can_lo hl ((h b.f0).2 ((inn_cons _ _ _).2 (.inl ⟨Int.le_refl _, hb.2.1⟩)))
        omega
      have e1 : a.f1 = b.f1 := by
        have h1 := can_end hl hm (fun x => (h x).1) e0
        have h2 := can_end hm hl (fun x => (h x).2) e0.symm
        omega
      have e : a = b := by cases a; cases b; simp_all
      subst e
      rw [ih m (can_cons.1 hl).2.1 (can_cons.1 hm).2.1 fun x => ⟨fun hx => ?_, fun hx => ?_⟩]
      · have hg := can_gap hl hx
        rcases (inn_cons _ _ _).1 ((h x).1 ((inn_cons _ _ _).2 (.inr hx))) with h1 | h1
        · omega
        · exact h1
      · have hg := can_gap hm hx
        rcases (inn_cons _ _ _).1 ((h x).2 ((inn_cons _ _ _).2 (.inr hx))) with h1 | h1
        · omega
        · exact h1
theorem can_len_lo (l : List S110) (lo : Int) (h : Can l) (hlo : ∀ a ∈ l, lo ≤ a.f0) (hb : lo ≤ 100000) : (l.length : Int) ≤ 100000 - lo := by
  induction l generalizing lo with
  | nil => simp; omega
  | cons a l ih =>
    obtain ⟨h1, h2, h3⟩ := can_cons.1 h
    unfold B at h1
    have := ih a.f1 h2 (fun b hb => by have := h3 b hb; omega) (by omega)
    have h4 := hlo a (by simp)
    rw [List.length_cons]
    omega
theorem can_len {l : List S110} (h : Can l) : l.length ≤ 200000 := by
  have := can_len_lo l (-100000) h (fun a ha => (h.1 a ha).1) (by omega)
  omega
/-! A rectangle's stretch at a height. -/
def W (r : S25) : Prop := -100000 ≤ r.f0 ∧ -100000 ≤ r.f1 ∧ 1 ≤ r.f2 ∧ r.f0 + r.f2 ≤ 100000 ∧ 1 ≤ r.f3 ∧ r.f1 + r.f3 ≤ 100000
def has (r : S25) (x y : Int) : Prop := r.f0 ≤ x ∧ x < r.f0 + r.f2 ∧ r.f1 ≤ y ∧ y < r.f1 + r.f3
def hasL (p : List S25) (x y : Int) : Prop := ∃ r, r ∈ p ∧ has r x y
theorem w_edge {r : S25} (h : W r) : addI .i64 r.f0 r.f2 = r.f0 + r.f2 ∧ addI .i64 r.f1 r.f3 = r.f1 + r.f3 := by
  unfold W at h
  exact ⟨addI_eq (by omega) (by omega), addI_eq (by omega) (by omega)⟩
theorem raw_ok (p : List S25) (y : Int) (hW : ∀ r ∈ p, W r) (hl : p.length ≤ 1000000) : ∃ r, iter (L69_3 p y) ([], 0) = some r ∧ r.2.2.length ≤ p.length ∧ (∀ a ∈ r.2.2, B a) ∧ ∀ x, inn r.2.2 x ↔ hasL p x y := by
  refine iter_up (st := L69_3 p y) (fun (s : List S110) i => (s, (i : Int))) p.length (fun i s => s.length ≤ i ∧ (∀ a ∈ s, B a) ∧ ∀ x, inn s x ↔ upto p i fun r => has r x y) (fun r => r.2.2.length ≤ p.length ∧ (∀ a ∈ r.2.2, B a) ∧ ∀ x, inn r.2.2 x ↔ hasL p x y) ?_ ?_ [] ⟨Nat.le_refl _, by simp, fun x => ⟨fun h => absurd h (inn_nil x), fun h => absurd h (upto_zero _ _)⟩⟩
  · intro i s hi ⟨h1, h2, h3⟩
    obtain ⟨r, hr⟩ : ∃ r, p[i]? = some r := ⟨_, List.getElem?_eq_getElem hi⟩
    have hw := hW r (List.mem_of_getElem? hr)
    have he := w_edge hw
    unfold W at hw
    have hno : ∀ s', s' = s → (∀ x, ¬ has r x y) → s'.length ≤ i + 1 ∧ (∀ a ∈ s', B a) ∧ ∀ x, inn s' x ↔ upto p (i + 1) fun r => has r x y := by
      intro s' e hx
      subst e
      refine ⟨by omega, h2, fun x => ?_⟩
      rw [upto_succ _ hr, h3]
      exact ⟨.inl, fun h => h.resolve_right (hx x)⟩
    simp only [L69_3, ltL_true hi, listAt_some hr, cond_true, Option.bind_some, he.1, he.2, nextI (show i < 9223372036854775807 by omega)]
    by_cases c1 : r.f1 ≤ y
    · rw [show leI r.f1 y = true from decide_eq_true c1]
      by_cases c2 : y < r.f1 + r.f3
      · rw [show ltI y (r.f1 + r.f3) = true from decide_eq_true c2, appO_big (by omega) (by simp only [List.length_cons, List.length_nil]; omega)]
        refine ⟨_, rfl, ?_, ?_, fun x => ?_⟩
        · simp only [List.length_append, List.length_cons, List.length_nil]; omega
        · intro a ha
          rcases List.mem_append.1 ha with e | e
          · exact h2 a e
          · rw [List.mem_singleton] at e
            subst e
            unfold B
            simp only
            omega
        · rw [inn_app, h3, upto_succ _ hr]
          simp only [has]
          constructor
          · rintro (h | h)
            · exact .inl h
            · exact .inr ⟨h.1, h.2, c1, c2⟩
          · rintro (h | h)
            · exact .inl h
            · exact .inr ⟨h.1, h.2.1⟩
      · rw [show ltI y (r.f1 + r.f3) = false from decide_eq_false c2]
        exact ⟨s, rfl, hno s rfl fun x h => by unfold has at h; omega⟩
    · rw [show leI r.f1 y = false from decide_eq_false c1]
      exact ⟨s, rfl, hno s rfl fun x h => by unfold has at h; omega⟩
  · intro s ⟨h1, h2, h3⟩
    simp only [L69_3, ltL_false (Nat.le_refl _), cond_false]
    exact ⟨_, rfl, h1, h2, fun x => (h3 x).trans (upto_len _)⟩
theorem sorted_ok (l : List S110) (hB : ∀ a ∈ l, B a) (hl : l.length ≤ 1000000) : ∃ l', sortO (fun x y => T88 x y) l = some l' ∧ l'.Perm l ∧ l'.Pairwise fun a b => a.f0 ≤ b.f0 :=
  sortO_key _ (fun a => a.f0) l (by omega) fun x hx y hy => by
    have h1 := hB x hx
    have h2 := hB y hy
    unfold B at h1 h2
    refine ⟨x.f0 - y.f0, ?_, by omega⟩
    unfold T88
    rw [subI_eq (by omega) (by omega)]
theorem merge_ok (l : List S110) (hB : ∀ a ∈ l, B a) (hs : l.Pairwise fun a b => a.f0 ≤ b.f0) (hl : l.length ≤ 1000000) : ∃ r, iter (L69_11 l) ([], l, 0) = some r ∧ Can r.2.2.1 ∧ ∀ x, inn r.2.2.1 x ↔ inn l x := by
  refine iter_up (st := L69_11 l) (fun (s : List S110) i => (s, l, (i : Int))) l.length (fun i s => Can s ∧ (∀ a ∈ s, ∃ j b, j < i ∧ l[j]? = some b ∧ a.f0 = b.f0) ∧ ∀ x, inn s x ↔ upto l i fun r => r.f0 ≤ x ∧ x < r.f1) (fun r => Can r.2.2.1 ∧ ∀ x, inn r.2.2.1 x ↔ inn l x) ?_ ?_ [] ⟨can_nil, by simp, fun x => ⟨fun h => absurd h (inn_nil x), fun h => absurd h (upto_zero _ _)⟩⟩
  · intro i s hi ⟨h1, h2, h3⟩
    obtain ⟨r, hr⟩ : ∃ r, l[i]? = some r := ⟨_, List.getElem?_eq_getElem hi⟩
    have hb := hB r (List.mem_of_getElem? hr)
    have hle : ∀ a ∈ s, a.f0 ≤ r.f0 := by
      intro a ha
      obtain ⟨j, b, hj, hjb, e⟩ := h2 a ha
      have := List.pairwise_iff_getElem.1 hs j i (by omega) hi hj
      rw [(List.getElem?_eq_some_iff.1 hjb).2, (List.getElem?_eq_some_iff.1 hr).2] at this
      omega
    have hlen := can_len h1
    simp only [L69_11, ltL_true hi, idx_nat hi, getN_some hr, cond_true, Option.bind_some, nextI (show i < 9223372036854775807 by omega)]
    rcases List.eq_nil_or_concat s with e | ⟨q, b, e⟩
    · subst e
      rw [show leI 0 (subI .i64 (lenL ([] : List S110)) 1) = false from rfl]
      simp only [cond_false]
      rw [appO_big (by omega) (by simp)]
      refine ⟨_, rfl, can_app.2 ⟨hb, h1, by simp⟩, ?_, fun x => ?_⟩
      · intro a ha
        rw [List.nil_append, List.mem_singleton] at ha
        subst ha
        exact ⟨i, a, by omega, hr, rfl⟩
      · rw [inn_app, h3, upto_succ _ hr]
    · subst e
      simp only [List.concat_eq_append] at *
      have hql : q.length < 200000 := by simp only [List.length_append, List.length_cons, List.length_nil] at hlen; omega
      have hlast := last_len q b (by omega)
      obtain ⟨hb1, hq, hqb⟩ := can_app.1 h1
      have hbr := hle b (by simp)
      simp only [hlast, idx_nat (show q.length < (q ++ [b]).length by simp), last_at, Option.bind_some, last_set]
      rw [show leI 0 (q.length : Int) = true from decide_eq_true (by omega)]
      simp only [cond_true]
      by_cases c : r.f0 ≤ b.f1
      · rw [show leI r.f0 b.f1 = true from decide_eq_true c]
        simp only [cond_true, maxI_eq]
        refine ⟨_, rfl, can_app.2 ⟨?_, hq, hqb⟩, ?_, fun x => ?_⟩
        · unfold B at *
          simp only
          omega
        · intro a ha
          rcases List.mem_append.1 ha with e | e
          · obtain ⟨j, b, hj, hjb, e⟩ := h2 a (by simp [e])
            exact ⟨j, b, by omega, hjb, e⟩
          · rw [List.mem_singleton] at e
            subst e
            obtain ⟨j, b', hj, hjb, e⟩ := h2 b (by simp)
            exact ⟨j, b', by omega, hjb, e⟩
        · have h4 := h3 x
          rw [inn_app] at h4
          rw [inn_app, upto_succ _ hr, ← h4]
          unfold B at *
          simp only
          generalize inn q x = A
          constructor
          · rintro (h | h)
            · exact .inl (.inl h)
            · by_cases hxb : x < b.f1
              · exact .inl (.inr ⟨h.1, hxb⟩)
              · exact .inr (by omega)
          · rintro ((h | h) | h)
            · exact .inl h
            · exact .inr (by omega)
            · exact .inr (by omega)
      · rw [show leI r.f0 b.f1 = false from decide_eq_false c]
        simp only [cond_false]
        rw [appO_big (by omega) (by simp only [List.length_append, List.length_cons, List.length_nil]; omega)]
        refine ⟨_, rfl, can_app.2 ⟨hb, h1, ?_⟩, ?_, fun x => ?_⟩
        · intro a ha
          rcases List.mem_append.1 ha with e | e
          · have := hqb a e
            unfold B at *
            omega
          · rw [List.mem_singleton] at e
            subst e
            omega
        · intro a ha
          rcases List.mem_append.1 ha with e | e
          · obtain ⟨j, b, hj, hjb, e⟩ := h2 a e
            exact ⟨j, b, by omega, hjb, e⟩
          · rw [List.mem_singleton] at e
            subst e
            exact ⟨i, a, by omega, hr, rfl⟩
        · rw [inn_app, h3, upto_succ _ hr]
  · intro s ⟨h1, h2, h3⟩
    simp only [L69_11, ltL_false (Nat.le_refl _), cond_false]
    exact ⟨_, rfl, h1, fun x => (h3 x).trans (upto_len _)⟩
theorem runs_ok (p : List S25) (y : Int) (hW : ∀ r ∈ p, W r) (hl : p.length ≤ 1000000) : ∃ l, T69 p y = some l ∧ Can l ∧ ∀ x, inn l x ↔ hasL p x y := by
  obtain ⟨r, h1, h2, h3, h4⟩ := raw_ok p y hW hl
  obtain ⟨l, h5, h6, h7⟩ := sorted_ok r.2.2 h3 (by omega)
  have hB : ∀ a ∈ l, B a := fun a ha => h3 a (h6.mem_iff.1 ha)
  obtain ⟨q, h8, h9, h10⟩ := merge_ok l hB h7 (by rw [h6.length_eq]; omega)
  refine ⟨q.2.2.1, ?_, h9, fun x => ?_⟩
  · unfold T69
    rw [h1, Option.bind_some, h5, Option.bind_some, h8, Option.bind_some]
  · rw [h10, ← h4]
    unfold inn
    exact ⟨fun ⟨a, h, e⟩ => ⟨a, h6.mem_iff.1 h, e⟩, fun ⟨a, h, e⟩ => ⟨a, h6.mem_iff.2 h, e⟩⟩
/-! One line's stretches without another's. -/
theorem skip_ok (l m : List S110) (z0 : List S110 × Int × Int) (x1 : S110) (hm : m.length ≤ 1000000) (j : Nat) (hj : j ≤ m.length) (hk : ∀ k b, k < j → m[k]? = some b → b.f1 ≤ x1.f0) :
    ∃ r, iter (L68_6 l m z0 x1) (j : Int) = some r ∧ ∃ j' : Nat, r.1 = (j' : Int) ∧ j' ≤ m.length ∧ ∀ k b, k < j' → m[k]? = some b → b.f1 ≤ x1.f0 := by
  refine iter_upx (st := L68_6 l m z0 x1) (fun (_ : Unit) i => (i : Int)) m.length (fun i _ => ∀ k b, k < i → m[k]? = some b → b.f1 ≤ x1.f0) (fun r => ∃ j' : Nat, r.1 = (j' : Int) ∧ j' ≤ m.length ∧ ∀ k b, k < j' → m[k]? = some b → b.f1 ≤ x1.f0) ?_ ?_ j () hj hk
  · intro i _ hi h
    obtain ⟨r, hr⟩ : ∃ r, m[i]? = some r := ⟨_, List.getElem?_eq_getElem hi⟩
    simp only [L68_6, ltL_true hi, listAt_some hr, cond_true, Option.bind_some, nextI (show i < 9223372036854775807 by omega)]
    by_cases c : r.f1 ≤ x1.f0
    · rw [show leI r.f1 x1.f0 = true from decide_eq_true c]
      refine .inl ⟨(), rfl, fun k b hk hb => ?_⟩
      by_cases e : k = i
      · subst e
        rw [hr] at hb
        cases hb
        exact c
      · exact h k b (by omega) hb
    · rw [show leI r.f1 x1.f0 = false from decide_eq_false c]
      exact .inr ⟨_, rfl, i, rfl, by omega, h⟩
  · intro _ h
    simp only [L68_6, ltL_false (Nat.le_refl _), cond_false]
    exact ⟨_, rfl, m.length, rfl, Nat.le_refl _, h⟩
theorem can_lt {m : List S110} (hm : Can m) {i j : Nat} {a b : S110} (ha : m[i]? = some a) (hb : m[j]? = some b) (h : i < j) : a.f1 < b.f0 := by
  have h1 := (List.getElem?_eq_some_iff.1 ha)
  have h2 := (List.getElem?_eq_some_iff.1 hb)
  obtain ⟨h1, e1⟩ := h1
  obtain ⟨h2, e2⟩ := h2
  have := List.pairwise_iff_getElem.1 hm.2 i j h1 h2 h
  rw [e1, e2] at this
  exact this
/-- What stands while one stretch x1 is cut. -/
structure Cut (m : List S110) (x1 : S110) (P : Int → Prop) (i : Nat) (s : List S110) (fr : Int) : Prop where
  can : Can s
  lt : ∀ a ∈ s, a.f1 < fr
  hi : ∀ a ∈ s, a.f1 ≤ x1.f1
  lo : x1.f0 ≤ fr
  past : ∀ k b, k < i → m[k]? = some b → b.f1 ≤ fr
  pts : ∀ x, inn s x ↔ P x ∨ (x1.f0 ≤ x ∧ x < fr ∧ x < x1.f1 ∧ ¬ inn m x)
theorem cut_ok (l m : List S110) (z0 : List S110 × Int × Int) (x1 : S110) (y3 : Int × Bool) (hm : Can m) (hx1 : B x1) (P : Int → Prop) (j : Nat) (hj : j ≤ m.length) (s : List S110) (fr : Int) (hs : Cut m x1 P j s fr) :
    ∃ r, iter (L68_9 l m z0 x1 y3) (s, fr, (j : Int)) = some r ∧ ∃ i, Cut m x1 P i r.2.2.1 r.2.2.2 ∧ ∀ x, r.2.2.2 ≤ x → x < x1.f1 → ¬ inn m x := by
  have hlm := can_len hm
  refine iter_upx (st := L68_9 l m z0 x1 y3) (fun (s : List S110 × Int) i => (s.1, s.2, (i : Int))) m.length (fun i s => Cut m x1 P i s.1 s.2) (fun r => ∃ i, Cut m x1 P i r.2.2.1 r.2.2.2 ∧ ∀ x, r.2.2.2 ≤ x → x < x1.f1 → ¬ inn m x) ?_ ?_ j (s, fr) hj hs
  · rintro i ⟨s, fr⟩ hi h
    obtain ⟨r, hr⟩ : ∃ r, m[i]? = some r := ⟨_, List.getElem?_eq_getElem hi⟩
    have hb := hm.1 r (List.mem_of_getElem? hr)
    unfold B at hb hx1
    have hslen : s.length ≤ 200000 := can_len h.can
    simp only [L68_9, ltL_true hi, listAt_some hr, cond_true, Option.bind_some, nextI (show i < 9223372036854775807 by omega), maxI_eq]
    have hG : ∀ x, r.f0 ≤ x → x < r.f1 → inn m x := fun x h1 h2 => ⟨r, List.mem_of_getElem? hr, h1, h2⟩
    have hpast : ∀ k b, k < i + 1 → m[k]? = some b → b.f1 ≤ max fr r.f1 := by
      intro k b hk hkb
      by_cases e : k = i
      · subst e
        rw [hr] at hkb
        cases hkb
        omega
      · have := h.past k b (by omega) hkb
        omega
    by_cases c : r.f0 < x1.f1
    · rw [show ltI r.f0 x1.f1 = true from decide_eq_true c]
      simp only [cond_true]
      left
      by_cases c2 : fr < r.f0
      · rw [show ltI fr r.f0 = true from decide_eq_true c2, appO_big (by omega) (by simp only [List.length_cons, List.length_nil]; omega)]
        have hF : ∀ x, fr ≤ x → x < r.f0 → ¬ inn m x := by
          rintro x h1 h2 ⟨b, hbm, h3, h4⟩
          obtain ⟨k, hk⟩ := List.getElem?_of_mem hbm
          rcases Nat.lt_trichotomy k i with e | e | e
          · have := h.past k b e hk
            omega
          · subst e
            rw [hr] at hk
            cases hk
            omega
          · have := can_lt hm hr hk e
            omega
        have hlo := h.lo
        refine ⟨(_, _), rfl, ⟨can_app.2 ⟨?_, h.can, h.lt⟩, ?_, ?_, ?_, hpast, fun x => ?_⟩⟩
        · unfold B; simp only; omega
        · intro a ha
          simp only at ha ⊢
          rcases List.mem_append.1 ha with e | e
          · have := h.lt a e
            simp only at this
            omega
          · rw [List.mem_singleton] at e
            subst e
            simp only
            omega
        · intro a ha
          rcases List.mem_append.1 ha with e | e
          · exact h.hi a e
          · rw [List.mem_singleton] at e
            subst e
            simp only
            omega
        · simp only; simp only at hlo; omega
        · simp only
          rw [inn_app, h.pts x]
          simp only
          simp only at hlo
          constructor
          · rintro ((hh | hh) | hh)
            · exact .inl hh
            · exact .inr ⟨hh.1, by omega, hh.2.2.1, hh.2.2.2⟩
            · exact .inr ⟨by omega, by omega, by omega, hF x hh.1 hh.2⟩
          · rintro (hh | ⟨h1, h2, h3, h4⟩)
            · exact .inl (.inl hh)
            · by_cases hx : x < fr
              · exact .inl (.inr ⟨h1, hx, h3, h4⟩)
              · have : ¬ r.f0 ≤ x := fun h5 => h4 (hG x h5 (by omega))
                exact .inr ⟨by omega, by omega⟩
      · rw [show ltI fr r.f0 = false from decide_eq_false c2]
        have hlo := h.lo
        refine ⟨(_, _), rfl, ⟨h.can, ?_, h.hi, ?_, hpast, fun x => ?_⟩⟩
        · intro a ha
          have := h.lt a ha
          simp only at this ⊢
          omega
        · simp only; simp only at hlo; omega
        · simp only
          have := h.pts x
          simp only at this
          rw [this]
          constructor
          · rintro (hh | hh)
            · exact .inl hh
            · exact .inr ⟨hh.1, by omega, hh.2.2.1, hh.2.2.2⟩
          · rintro (hh | ⟨h1, h2, h3, h4⟩)
            · exact .inl hh
            · by_cases hx : x < fr
              · exact .inr ⟨h1, hx, h3, h4⟩
              · exact absurd (hG x (by omega) (by omega)) h4
    · rw [show ltI r.f0 x1.f1 = false from decide_eq_false c]
      right
      refine ⟨_, rfl, i, h, ?_⟩
      simp only
      rintro x h1 h2 ⟨b, hbm, h3, h4⟩
      obtain ⟨k, hk⟩ := List.getElem?_of_mem hbm
      rcases Nat.lt_trichotomy k i with e | e | e
      · have := h.past k b e hk
        simp only at this
        omega
      · subst e
        rw [hr] at hk
        cases hk
        omega
      · have := can_lt hm hr hk e
        omega
  · rintro ⟨s, fr⟩ h
    simp only [L68_9, ltL_false (Nat.le_refl _), cond_false]
    refine ⟨_, rfl, m.length, h, ?_⟩
    simp only
    rintro x h1 h2 ⟨b, hbm, h3, h4⟩
    obtain ⟨k, hk⟩ := List.getElem?_of_mem hbm
    have := h.past k b (List.getElem?_eq_some_iff.1 hk).1 hk
    simp only at this
    omega
theorem less_ok (l m : List S110) (hl : Can l) (hm : Can m) : ∃ o, T68 l m = some o ∧ Can o ∧ ∀ x, inn o x ↔ inn l x ∧ ¬ inn m x := by
  have hll := can_len hl
  have hlm := can_len hm
  suffices H : ∃ r, iter (L68_4 l m) ([], 0, 0) = some r ∧ Can r.2.2.2 ∧ ∀ x, inn r.2.2.2 x ↔ inn l x ∧ ¬ inn m x by
    obtain ⟨r, h1, h2, h3⟩ := H
    refine ⟨r.2.2.2, ?_, h2, h3⟩
    unfold T68
    rw [h1, Option.bind_some]
  refine iter_up (st := L68_4 l m) (fun (s : List S110 × Nat) i => (s.1, (s.2 : Int), (i : Int))) l.length
    (fun i s => Can s.1 ∧ s.2 ≤ m.length ∧ (∀ k b i' x, k < s.2 → m[k]? = some b → i ≤ i' → l[i']? = some x → b.f1 ≤ x.f0) ∧ (∀ a i' x, a ∈ s.1 → i ≤ i' → l[i']? = some x → a.f1 < x.f0) ∧ ∀ x, inn s.1 x ↔ (upto l i fun r => r.f0 ≤ x ∧ x < r.f1) ∧ ¬ inn m x)
    (fun r => Can r.2.2.2 ∧ ∀ x, inn r.2.2.2 x ↔ inn l x ∧ ¬ inn m x) ?_ ?_ ([], 0) ⟨can_nil, Nat.zero_le _, ?_, ?_, fun x => ⟨fun h => absurd h (inn_nil x), fun h => absurd h.1 (upto_zero _ _)⟩⟩
  · rintro i ⟨s, j⟩ hi ⟨h1, h2, h3, h4, h5⟩
    simp only at h1 h2 h3 h4 h5
    obtain ⟨r, hr⟩ : ∃ r, l[i]? = some r := ⟨_, List.getElem?_eq_getElem hi⟩
    have hb := hl.1 r (List.mem_of_getElem? hr)
    obtain ⟨q, q1, j', q2, q3, q4⟩ := skip_ok l m (s, (j : Int), (i : Int)) r (by omega) j h2 fun k b hk hkb => h3 k b i r hk hkb (Nat.le_refl _) hr
    have hcut : Cut m r (fun x => (upto l i fun r => r.f0 ≤ x ∧ x < r.f1) ∧ ¬ inn m x) j' s r.f0 := by
      refine ⟨h1, fun a ha => h4 a i r ha (Nat.le_refl _) hr, fun a ha => ?_, Int.le_refl _, q4, fun x => ?_⟩
      · have := h4 a i r ha (Nat.le_refl _) hr
        unfold B at hb
        omega
      · rw [h5]
        exact ⟨.inl, fun h => h.resolve_right fun h => by omega⟩
    obtain ⟨u, u1, i', u2, u3⟩ := cut_ok l m (s, (j : Int), (i : Int)) r q hm hb _ j' q3 s r.f0 hcut
    have hulen := can_len u2.can
    simp only [L68_4, ltL_true hi, listAt_some hr, cond_true, Option.bind_some, nextI (show i < 9223372036854775807 by omega)]
    rw [q1, Option.bind_some, q2, u1, Option.bind_some]
    have hnext : ∀ k b i' x, k < j' → m[k]? = some b → i + 1 ≤ i' → l[i']? = some x → b.f1 ≤ x.f0 := by
      intro k b i' x hk hkb hi' hx
      have h6 := q4 k b hk hkb
      have h7 := can_lt hl hr hx (by omega)
      unfold B at hb
      omega
    by_cases c : u.2.2.2 < r.f1
    · rw [show ltI u.2.2.2 r.f1 = true from decide_eq_true c, appO_big (by omega) (by simp only [List.length_cons, List.length_nil]; omega)]
      have hlo := u2.lo
      refine ⟨(_, j'), rfl, can_app.2 ⟨?_, u2.can, u2.lt⟩, q3, hnext, ?_, fun x => ?_⟩
      · unfold B at hb ⊢
        simp only
        omega
      · intro a i' x ha hi' hx
        have h7 := can_lt hl hr hx (by omega)
        simp only at ha
        rcases List.mem_append.1 ha with e | e
        · have := u2.hi a e
          omega
        · rw [List.mem_singleton] at e
          subst e
          exact h7
      · simp only
        rw [inn_app, u2.pts x, upto_succ _ hr]
        simp only
        constructor
        · rintro ((hh | hh) | hh)
          · exact ⟨.inl hh.1, hh.2⟩
          · exact ⟨.inr ⟨hh.1, hh.2.2.1⟩, hh.2.2.2⟩
          · exact ⟨.inr ⟨by omega, hh.2⟩, u3 x hh.1 hh.2⟩
        · rintro ⟨hh | hh, hn⟩
          · exact .inl (.inl ⟨hh, hn⟩)
          · by_cases hx : x < u.2.2.2
            · exact .inl (.inr ⟨hh.1, hx, hh.2, hn⟩)
            · exact .inr ⟨by omega, hh.2⟩
    · rw [show ltI u.2.2.2 r.f1 = false from decide_eq_false c]
      refine ⟨(_, j'), rfl, u2.can, q3, hnext, ?_, fun x => ?_⟩
      · intro a i' x ha hi' hx
        have h7 := can_lt hl hr hx (by omega)
        have := u2.hi a ha
        omega
      · simp only
        rw [u2.pts x, upto_succ _ hr]
        constructor
        · rintro (hh | hh)
          · exact ⟨.inl hh.1, hh.2⟩
          · exact ⟨.inr ⟨hh.1, hh.2.2.1⟩, hh.2.2.2⟩
        · rintro ⟨hh | hh, hn⟩
          · exact .inl ⟨hh, hn⟩
          · exact .inr ⟨hh.1, by omega, hh.2, hn⟩
  · rintro ⟨s, j⟩ ⟨h1, h2, h3, h4, h5⟩
    simp only [L68_4, ltL_false (Nat.le_refl _), cond_false]
    refine ⟨_, rfl, h1, fun x => ?_⟩
    simp only
    simp only at h5
    rw [h5, upto_len]
    rfl
  · intro k b i' x hk; exact absurd hk (Nat.not_lt_zero k)
  · intro a i' x ha; simp at ha
theorem same_ok (a b : List S110) (hl : a.length ≤ 1000000) : ∃ c, T70 a b = some c ∧ (c = true ↔ a = b) := by
  unfold T70
  by_cases hlen : a.length = b.length
  · have e : neI (lenL a) (lenL b) = false := by rw [neI_iff, lenL_eq, lenL_eq, hlen]; simp
    rw [e]
    simp only [cond_false]
    obtain ⟨r, h1, h2⟩ : ∃ r, iter (L70_4 a b) 0 = some r ∧ (r.isLeft = true ↔ a = b) := by
      refine iter_upx (st := L70_4 a b) (fun (_ : Unit) i => (i : Int)) a.length (fun i _ => ∀ j, j < i → a[j]? = b[j]?) (fun r => r.isLeft = true ↔ a = b) ?_ ?_ 0 () (Nat.zero_le _) (fun j h => absurd h (Nat.not_lt_zero j))
      · intro i _ hi h
        obtain ⟨r, hr⟩ : ∃ r, a[i]? = some r := ⟨_, List.getElem?_eq_getElem hi⟩
        obtain ⟨q, hq⟩ : ∃ r, b[i]? = some r := ⟨_, List.getElem?_eq_getElem (by omega)⟩
        simp only [L70_4, ltL_true hi, listAt_some hr, listAt_some hq, cond_true, Option.bind_some, nextI (show i < 9223372036854775807 by omega), allB, Bool.and_true]
        by_cases c : r.f0 = q.f0 ∧ r.f1 = q.f1
        · left
          rw [eqI_iff, eqI_iff, decide_eq_true c.1, decide_eq_true c.2]
          refine ⟨(), rfl, fun j hj => ?_⟩
          by_cases e : j = i
          · subst e
            rw [hr, hq]
            cases r; cases q
            simp_all
          · exact h j (by omega)
        · right
          have : (eqI r.f0 q.f0 && eqI r.f1 q.f1) = false := by
            rw [eqI_iff, eqI_iff, Bool.and_eq_false_iff]
            by_cases c1 : r.f0 = q.f0
            · exact .inr (decide_eq_false fun c2 => c ⟨c1, c2⟩)
            · exact .inl (decide_eq_false c1)
          rw [this]
          refine ⟨_, rfl, ?_⟩
          simp only [Sum.isLeft_inr, Bool.false_eq_true, false_iff]
          intro e
          subst e
          rw [hr] at hq
          cases hq
          exact c ⟨rfl, rfl⟩
      · intro _ h
        simp only [L70_4, ltL_false (Nat.le_refl _), cond_false]
        refine ⟨_, rfl, ?_⟩
        simp only [Sum.isLeft_inl, true_iff]
        refine List.ext_getElem? fun j => ?_
        by_cases hj : j < a.length
        · exact h j hj
        · rw [List.getElem?_eq_none (by omega), List.getElem?_eq_none (by omega)]
    rw [h1, Option.bind_some]
    cases r with
    | inl y => exact ⟨true, rfl, by simpa using h2⟩
    | inr y => exact ⟨false, rfl, by simpa using h2⟩
  · have e : neI (lenL a) (lenL b) = true := by
      rw [neI_iff, lenL_eq, lenL_eq]
      have : ¬ (a.length : Int) = b.length := by omega
      simp [this]
    rw [e]
    exact ⟨false, rfl, by simp only [Bool.false_eq_true, false_iff]; intro h; exact hlen (by rw [h])⟩
end Go.Abs.TU

set_option linter.unusedVariables false
set_option linter.unusedSimpArgs false
set_option maxRecDepth 10000
namespace Go.Abs.TU
open Go.RowKit Go.Proofs Go.Abs
/-! The walk over cells, by whatever tells a cell. -/
noncomputable def G9 (h : Int → Int → Option Bool) (z0 : ((List Int) × (List Int) × (List S25) × (List S25) × Int)) (z1 : ((List Int) × (List Int) × (List S25) × (List S25) × (List S25) × Int)) : Option (((List Int) × (List Int) × (List S25) × (List S25) × (List S25) × Int) ⊕ (Int × Bool × (List Int) × (List Int) × (List S25) × (List S25) × (List S25))) := (bif (ltI (addI .i64 z1.2.2.2.2.2 1) (lenL z1.1)) then ((idxO (List.length z1.1) z1.2.2.2.2.2).bind fun x3 => ((getN z1.1 x3).bind fun x4 => ((idxO (List.length z1.2.1) z0.2.2.2.2).bind fun x5 => ((getN z1.2.1 x5).bind fun x6 => ((h x4 x6).bind fun x7 => (bif (!x7) then (some (.inl (z1.1, z1.2.1, z1.2.2.1, z1.2.2.2.1, z1.2.2.2.2.1, (addI .i64 z1.2.2.2.2.2 1)))) else (bif (leI 0 (subI .i64 (lenL z1.2.2.2.2.1) 1)) then ((idxO (List.length z1.2.2.2.2.1) (subI .i64 (lenL z1.2.2.2.2.1) 1)).bind fun x8 => ((getN z1.2.2.2.2.1 x8).bind fun x9 => ((idxO (List.length z1.2.2.2.2.1) (subI .i64 (lenL z1.2.2.2.2.1) 1)).bind fun x10 => ((getN z1.2.2.2.2.1 x10).bind fun x11 => ((idxO (List.length z1.1) z1.2.2.2.2.2).bind fun x12 => ((getN z1.1 x12).bind fun x13 => (bif (eqI (addI .i64 x9.f0 x11.f2) x13) then ((idxO (List.length z1.1) (addI .i64 z1.2.2.2.2.2 1)).bind fun x14 => ((getN z1.1 x14).bind fun x15 => ((idxO (List.length z1.2.2.2.2.1) (subI .i64 (lenL z1.2.2.2.2.1) 1)).bind fun x16 => ((getN z1.2.2.2.2.1 x16).bind fun x17 => ((idxO (List.length z1.2.2.2.2.1) (subI .i64 (lenL z1.2.2.2.2.1) 1)).bind fun x18 => ((getN z1.2.2.2.2.1 x18).bind fun x19 => (some (.inl (z1.1, z1.2.1, z1.2.2.1, z1.2.2.2.1, (List.set z1.2.2.2.2.1 x18 (S25.mk x19.f0 x19.f1 (subI .i64 x15 x17.f0) x19.f3)), (addI .i64 z1.2.2.2.2.2 1)))))))))) else ((idxO (List.length z1.1) z1.2.2.2.2.2).bind fun x20 => ((getN z1.1 x20).bind fun x21 => ((idxO (List.length z1.2.1) z0.2.2.2.2).bind fun x22 => ((getN z1.2.1 x22).bind fun x23 => ((idxO (List.length z1.1) (addI .i64 z1.2.2.2.2.2 1)).bind fun x24 => ((getN z1.1 x24).bind fun x25 => ((idxO (List.length z1.1) z1.2.2.2.2.2).bind fun x26 => ((getN z1.1 x26).bind fun x27 => ((idxO (List.length z1.2.1) (addI .i64 z0.2.2.2.2 1)).bind fun x28 => ((getN z1.2.1 x28).bind fun x29 => ((idxO (List.length z1.2.1) z0.2.2.2.2).bind fun x30 => ((getN z1.2.1 x30).bind fun x31 => ((appO 32 z1.2.2.2.2.1 ([(S25.mk x21 x23 (subI .i64 x25 x27) (subI .i64 x29 x31))] : List S25)).bind fun x32 => (some (.inl (z1.1, z1.2.1, z1.2.2.1, z1.2.2.2.1, x32, (addI .i64 z1.2.2.2.2.2 1)))))))))))))))))))))))) else ((idxO (List.length z1.1) z1.2.2.2.2.2).bind fun x33 => ((getN z1.1 x33).bind fun x34 => ((idxO (List.length z1.2.1) z0.2.2.2.2).bind fun x35 => ((getN z1.2.1 x35).bind fun x36 => ((idxO (List.length z1.1) (addI .i64 z1.2.2.2.2.2 1)).bind fun x37 => ((getN z1.1 x37).bind fun x38 => ((idxO (List.length z1.1) z1.2.2.2.2.2).bind fun x39 => ((getN z1.1 x39).bind fun x40 => ((idxO (List.length z1.2.1) (addI .i64 z0.2.2.2.2 1)).bind fun x41 => ((getN z1.2.1 x41).bind fun x42 => ((idxO (List.length z1.2.1) z0.2.2.2.2).bind fun x43 => ((getN z1.2.1 x43).bind fun x44 => ((appO 32 z1.2.2.2.2.1 ([(S25.mk x34 x36 (subI .i64 x38 x40) (subI .i64 x42 x44))] : List S25)).bind fun x45 => (some (.inl (z1.1, z1.2.1, z1.2.2.1, z1.2.2.2.1, x45, (addI .i64 z1.2.2.2.2.2 1)))))))))))))))))))))))) else (some (.inr (z1.2.2.2.2.2, (ltI (addI .i64 z1.2.2.2.2.2 1) (lenL z1.1)), z1.1, z1.2.1, z1.2.2.1, z1.2.2.2.1, z1.2.2.2.2.1))))
noncomputable def G19 (h : Int → Int → Option Bool) (z0 : ((List Int) × (List Int) × (List S25) × (List S25) × Int)) (y46 : (Int × Bool × (List Int) × (List Int) × (List S25) × (List S25) × (List S25))) (z2 : ((List Int) × (List Int) × (List S25) × (List S25) × (List S25) × Int)) : Option (((List Int) × (List Int) × (List S25) × (List S25) × (List S25) × Int) ⊕ (Int × Bool × (List Int) × (List Int) × (List S25) × (List S25) × (List S25))) := (bif (ltI z2.2.2.2.2.2 (lenL y46.2.2.2.2.2.1)) then ((idxO (List.length z2.2.2.2.1) z2.2.2.2.2.2).bind fun x48 => ((getN z2.2.2.2.1 x48).bind fun x49 => ((idxO (List.length z2.2.2.2.2.1) z2.2.2.2.2.2).bind fun x50 => ((getN z2.2.2.2.2.1 x50).bind fun x51 => ((idxO (List.length z2.2.2.2.1) z2.2.2.2.2.2).bind fun x52 => ((getN z2.2.2.2.1 x52).bind fun x53 => (some (.inl (z2.1, z2.2.1, z2.2.2.1, (List.set z2.2.2.2.1 x52 (S25.mk x53.f0 x53.f1 x53.f2 (addI .i64 x49.f3 x51.f3))), z2.2.2.2.2.1, (addI .i64 z2.2.2.2.2.2 1)))))))))) else (some (.inr (z2.2.2.2.2.2, (ltI z2.2.2.2.2.2 (lenL y46.2.2.2.2.2.1)), z2.1, z2.2.1, z2.2.2.1, z2.2.2.2.1, z2.2.2.2.2.1))))
noncomputable def G5 (h : Int → Int → Option Bool) (z0 : ((List Int) × (List Int) × (List S25) × (List S25) × Int)) : Option (((List Int) × (List Int) × (List S25) × (List S25) × Int) ⊕ (Int × Bool × (List Int) × (List Int) × (List S25) × (List S25))) := (bif (ltI (addI .i64 z0.2.2.2.2 1) (lenL z0.2.1)) then ((iter (G9 h z0) (z0.1, z0.2.1, z0.2.2.1, z0.2.2.2.1, [], 0)).bind fun y46 => ((T82 y46.2.2.2.2.2.2 y46.2.2.2.2.2.1).bind fun x47 => (bif x47 then (bif (ltI 0 (lenL y46.2.2.2.2.2.2)) then ((iter (G19 h z0 y46) (y46.2.2.1, y46.2.2.2.1, y46.2.2.2.2.1, y46.2.2.2.2.2.1, y46.2.2.2.2.2.2, 0)).bind fun y54 => (some (.inl (y54.2.2.1, y54.2.2.2.1, y54.2.2.2.2.1, y54.2.2.2.2.2.1, (addI .i64 z0.2.2.2.2 1))))) else ((appO 32 y46.2.2.2.2.1 y46.2.2.2.2.2.1).bind fun x55 => (some (.inl (y46.2.2.1, y46.2.2.2.1, x55, y46.2.2.2.2.2.2, (addI .i64 z0.2.2.2.2 1)))))) else ((appO 32 y46.2.2.2.2.1 y46.2.2.2.2.2.1).bind fun x56 => (some (.inl (y46.2.2.1, y46.2.2.2.1, x56, y46.2.2.2.2.2.2, (addI .i64 z0.2.2.2.2 1)))))))) else (some (.inr (z0.2.2.2.2, (ltI (addI .i64 z0.2.2.2.2 1) (lenL z0.2.1)), z0.1, z0.2.1, z0.2.2.1, z0.2.2.2.1))))
noncomputable def G (p0 : (List S25)) (h : Int → Int → Option Bool) : Option (List S25) := ((T79 p0).bind fun x1 => ((T79_1 p0).bind fun x2 => ((iter (G5 h) (x1, x2, [], [], 0)).bind fun y57 => ((appO 32 y57.2.2.2.2.1 y57.2.2.2.2.2).bind fun x58 => (some x58)))))
/-! Edges. -/
def eX (p : List S25) : List Int := p.flatMap fun r => [r.f0, addI .i64 r.f0 r.f2]
def eY (p : List S25) : List Int := p.flatMap fun r => [r.f1, addI .i64 r.f1 r.f3]
theorem eX_len (p : List S25) : (eX p).length = 2 * p.length := by
  unfold eX
  induction p with
  | nil => rfl
  | cons a p ih => rw [List.flatMap_cons, List.length_append, ih, List.length_cons]; simp; omega
theorem eY_len (p : List S25) : (eY p).length = 2 * p.length := by
  unfold eY
  induction p with
  | nil => rfl
  | cons a p ih => rw [List.flatMap_cons, List.length_append, ih, List.length_cons]; simp; omega
theorem take_next {α : Type} {l : List α} {i : Nat} {x : α} (h : l[i]? = some x) : l.take (i + 1) = l.take i ++ [x] := by
  rw [List.take_add_one, h]; rfl
theorem fm_next {α : Type} (f : α → List Int) {l : List α} {i : Nat} {x : α} (h : l[i]? = some x) : (l.take (i + 1)).flatMap f = (l.take i).flatMap f ++ f x := by
  rw [take_next h, List.flatMap_append]; simp
theorem edges_loop (p q x1 : List S25) (hl : x1.length ≤ 1000000) : ∃ r, iter (L41_3 p q x1) ([], x1, 0) = some r ∧ r.2.2 = (eY x1, x1) := by
  refine iter_up (st := L41_3 p q x1) (fun (s : List Int) i => (s, x1, (i : Int))) x1.length (fun i s => s = eY (x1.take i)) (fun r => r.2.2 = (eY x1, x1)) ?_ ?_ [] rfl
  · intro i s hi h
    obtain ⟨r, hr⟩ : ∃ r, x1[i]? = some r := ⟨_, List.getElem?_eq_getElem hi⟩
    have hs : s.length ≤ 2000000 := by rw [h, eY_len, List.length_take]; omega
    simp only [L41_3, ltL_true hi, idx_nat hi, getN_some hr, cond_true, Option.bind_some, nextI (show i < 9223372036854775807 by omega)]
    rw [appO_big (by omega) (by simp only [List.length_cons, List.length_nil]; omega)]
    refine ⟨_, rfl, ?_⟩
    rw [h]
    exact (fm_next _ hr).symm
  · intro s h
    simp only [L41_3, ltL_false (Nat.le_refl _), cond_false]
    refine ⟨_, rfl, ?_⟩
    rw [h, List.take_length]
theorem xs_ok (p : List S25) (hl : p.length ≤ 1000000) : T79 p = some (Lib.compact (sortI (eX p))) := by
  have H : ∃ r, iter (L79_3 p) ([], 0) = some r ∧ r.2.2 = eX p := by
    refine iter_up (st := L79_3 p) (fun (s : List Int) i => (s, (i : Int))) p.length (fun i s => s = eX (p.take i)) (fun r => r.2.2 = eX p) ?_ ?_ [] rfl
    · intro i s hi h
      obtain ⟨r, hr⟩ : ∃ r, p[i]? = some r := ⟨_, List.getElem?_eq_getElem hi⟩
      have hs : s.length ≤ 2000000 := by rw [h, eX_len, List.length_take]; omega
      simp only [L79_3, T80, ltL_true hi, listAt_some hr, cond_true, Option.bind_some, nextI (show i < 9223372036854775807 by omega)]
      rw [appO_big (by omega) (by simp only [List.length_cons, List.length_nil]; omega)]
      refine ⟨_, rfl, ?_⟩
      rw [h]
      exact (fm_next _ hr).symm
    · intro s h
      simp only [L79_3, ltL_false (Nat.le_refl _), cond_false]
      refine ⟨_, rfl, ?_⟩
      rw [h, List.take_length]
  obtain ⟨r, h1, h2⟩ := H
  unfold T79
  rw [h1, Option.bind_some, h2]
  unfold sortIO compIO
  rw [if_pos (by rw [eX_len]; omega)]
  rfl
theorem ys_ok (p : List S25) (hl : p.length ≤ 1000000) : T79_1 p = some (Lib.compact (sortI (eY p))) := by
  have H : ∃ r, iter (L79_1_3 p) ([], 0) = some r ∧ r.2.2 = eY p := by
    refine iter_up (st := L79_1_3 p) (fun (s : List Int) i => (s, (i : Int))) p.length (fun i s => s = eY (p.take i)) (fun r => r.2.2 = eY p) ?_ ?_ [] rfl
    · intro i s hi h
      obtain ⟨r, hr⟩ : ∃ r, p[i]? = some r := ⟨_, List.getElem?_eq_getElem hi⟩
      have hs : s.length ≤ 2000000 := by rw [h, eY_len, List.length_take]; omega
      simp only [L79_1_3, T81, ltL_true hi, listAt_some hr, cond_true, Option.bind_some, nextI (show i < 9223372036854775807 by omega)]
      rw [appO_big (by omega) (by simp only [List.length_cons, List.length_nil]; omega)]
      refine ⟨_, rfl, ?_⟩
      rw [h]
      exact (fm_next _ hr).symm
    · intro s h
      simp only [L79_1_3, ltL_false (Nat.le_refl _), cond_false]
      refine ⟨_, rfl, ?_⟩
      rw [h, List.take_length]
  obtain ⟨r, h1, h2⟩ := H
  unfold T79_1
  rw [h1, Option.bind_some, h2]
  unfold sortIO compIO
  rw [if_pos (by rw [eY_len]; omega)]
  rfl
theorem both_ok (p q : List S25) (hp : p.length ≤ 1000000) (hq : q.length ≤ 1000000) : T65 [p, q] = some (p ++ q) := by
  unfold T65
  have e1 : lenL p = (p.length : Int) := rfl
  have e2 : lenL q = (q.length : Int) := rfl
  have hlt0 : ltI 0 (lenL [p, q]) = true := rfl
  have hlt1 : ltI 1 (lenL [p, q]) = true := rfl
  have hlt2 : ltI 2 (lenL [p, q]) = false := rfl
  have n0 : addI .i64 0 1 = 1 := by decide
  have n1 : addI .i64 1 1 = 2 := by decide
  have a0 : listAt [p, q] 0 = some p := rfl
  have a1 : listAt [p, q] 1 = some q := rfl
  have s0 : addI .i64 0 (p.length : Int) = (p.length : Int) := by rw [addI_eq (by omega) (by omega)]; omega
  have s1 : addI .i64 (p.length : Int) (q.length : Int) = ((p.length + q.length : Nat) : Int) := by rw [addI_eq (by omega) (by omega)]; omega
  have l0 : ltI (p.length : Int) 0 = false := decide_eq_false (by omega)
  have l1 : ltI ((p.length + q.length : Nat) : Int) 0 = false := decide_eq_false (by omega)
  have h0 : L65_3 [p, q] (0, 0) = some (.inl ((p.length : Int), 1)) := by
    simp only [L65_3, hlt0, cond_true, a0, Option.bind_some, e1, s0, l0, cond_false, n0]
  have h1 : L65_3 [p, q] ((p.length : Int), 1) = some (.inl (((p.length + q.length : Nat) : Int), 2)) := by
    simp only [L65_3, hlt1, cond_true, a1, Option.bind_some, e2, s1, l1, cond_false, n1]
  have h2 : L65_3 [p, q] (((p.length + q.length : Nat) : Int), 2) = some (.inr (((p.length + q.length : Nat) : Int), 2, false)) := by
    simp only [L65_3, hlt2, cond_false]
  rw [iter_inl h0, iter_inl h1, iter_inr h2, Option.bind_some]
  have hg : growO S25 32 ((p.length + q.length : Nat) : Int) = some [] := by
    unfold growO
    rw [if_pos ⟨by omega, by omega, by omega⟩]
  simp only [hg, Option.bind_some]
  have k0 : L65_11 [p, q] ([], 0) = some (.inl (p, 1)) := by
    simp only [L65_11, hlt0, cond_true, a0, Option.bind_some, n0]
    rw [appO_big (by omega) (by simp only [List.length_nil]; omega)]
    rfl
  have k1 : L65_11 [p, q] (p, 1) = some (.inl (p ++ q, 2)) := by
    simp only [L65_11, hlt1, cond_true, a1, Option.bind_some, n1]
    rw [appO_big (by omega) (by omega)]
    rfl
  have k2 : L65_11 [p, q] (p ++ q, 2) = some (.inr (2, false, p ++ q)) := by
    simp only [L65_11, hlt2, cond_false]
  rw [iter_inl k0, iter_inl k1, iter_inr k2, Option.bind_some]
/-! Numbers in order. -/
theorem next_to {xs : List Int} (hs : xs.Pairwise (· < ·)) {j : Nat} {a b v : Int} (ha : xs[j]? = some a) (hb : xs[j + 1]? = some b) (hv : v ∈ xs) : v ≤ a ∨ b ≤ v := by
  obtain ⟨k, hk, rfl⟩ := List.getElem_of_mem hv
  obtain ⟨h1, rfl⟩ := List.getElem?_eq_some_iff.1 ha
  obtain ⟨h2, rfl⟩ := List.getElem?_eq_some_iff.1 hb
  have hp := List.pairwise_iff_getElem.1 hs
  rcases Nat.lt_trichotomy k j with h | h | h
  · have := hp k j hk h1 h
    omega
  · subst h; exact .inl (Int.le_refl _)
  · by_cases e : k = j + 1
    · subst e; exact .inr (Int.le_refl _)
    · have := hp (j + 1) k h2 hk (by omega)
      omega
theorem between : ∀ (xs : List Int), xs.Pairwise (· < ·) → ∀ x u v : Int, u ∈ xs → u ≤ x → v ∈ xs → x < v → ∃ j a b, xs[j]? = some a ∧ xs[j + 1]? = some b ∧ a ≤ x ∧ x < b := by
  intro xs
  induction xs with
  | nil => intro _ x u v hu; simp at hu
  | cons c t ih =>
    intro hs x u v hu hux hv hxv
    obtain ⟨hc, ht⟩ := List.pairwise_cons.1 hs
    cases t with
    | nil => simp at hu hv; omega
    | cons d t =>
      by_cases hx : x < d
      · refine ⟨0, c, d, rfl, rfl, ?_, hx⟩
        rcases List.mem_cons.1 hu with e | e
        · omega
        · have := hc u e; omega
      · have hcd := hc d (by simp)
        have hv' : v ∈ d :: t := by
          rcases List.mem_cons.1 hv with e | e
          · omega
          · exact e
        obtain ⟨j, a, b, h1, h2, h3⟩ := ih ht x d v (by simp) (by omega) hv' hxv
        exact ⟨j + 1, a, b, h1, h2, h3⟩
/-! A row of cells. -/
def cell (y h : Int) (a : S110) : S25 := ⟨a.f0, y, a.f1 - a.f0, h⟩
def pts (xs : List Int) (H : Int → Prop) (i : Nat) (x : Int) : Prop := ∃ j a b, j < i ∧ xs[j]? = some a ∧ xs[j + 1]? = some b ∧ a ≤ x ∧ x < b ∧ H a
theorem pts_succ {xs : List Int} (H : Int → Prop) {i : Nat} {a b : Int} (ha : xs[i]? = some a) (hb : xs[i + 1]? = some b) (x : Int) : pts xs H (i + 1) x ↔ pts xs H i x ∨ (a ≤ x ∧ x < b ∧ H a) := by
  constructor
  · rintro ⟨j, c, d, h1, h2, h3, h4⟩
    by_cases e : j = i
    · subst e
      rw [ha] at h2
      rw [hb] at h3
      cases h2; cases h3
      exact .inr h4
    · exact .inl ⟨j, c, d, by omega, h2, h3, h4⟩
  · rintro (⟨j, c, d, h1, h2, h3, h4⟩ | h4)
    · exact ⟨j, c, d, by omega, h2, h3, h4⟩
    · exact ⟨i, a, b, by omega, ha, hb, h4⟩
theorem row_ok (h : Int → Int → Option Bool) (xs ys : List Int) (out last : List S25) (k : Nat) (y y' : Int) (hy : ys[k]? = some y) (hy' : ys[k + 1]? = some y') (by1 : -100000 ≤ y ∧ y ≤ 100000) (by2 : -100000 ≤ y' ∧ y' ≤ 100000)
    (hxs : xs.Pairwise (· < ·)) (hB : ∀ x ∈ xs, -100000 ≤ x ∧ x ≤ 100000) (hlx : xs.length ≤ 10000000) (hly : ys.length ≤ 10000000) (H : Int → Prop) (hh : ∀ x ∈ xs, ∃ b, h x y = some b ∧ (b = true ↔ H x)) :
    ∃ r rr, iter (G9 h (xs, ys, out, last, (k : Int))) (xs, ys, out, last, [], 0) = some r ∧ r.2.2 = (xs, ys, out, last, rr.map (cell y (y' - y))) ∧ Can rr ∧ ∀ x, inn rr x ↔ ∃ j a b, xs[j]? = some a ∧ xs[j + 1]? = some b ∧ a ≤ x ∧ x < b ∧ H a := by
  suffices HH : ∃ r, iter (G9 h (xs, ys, out, last, (k : Int))) (xs, ys, out, last, [], 0) = some r ∧ ∃ rr, r.2.2 = (xs, ys, out, last, rr.map (cell y (y' - y))) ∧ Can rr ∧ ∀ x, inn rr x ↔ ∃ j a b, xs[j]? = some a ∧ xs[j + 1]? = some b ∧ a ≤ x ∧ x < b ∧ H a by
    obtain ⟨r, h1, rr, h2⟩ := HH
    exact ⟨r, rr, h1, h2⟩
  have hk := (List.getElem?_eq_some_iff.1 hy).1
  have hk' := (List.getElem?_eq_some_iff.1 hy').1
  refine iter_up (st := G9 h (xs, ys, out, last, (k : Int))) (fun (rr : List S110) i => (xs, ys, out, last, rr.map (cell y (y' - y)), (i : Int))) (xs.length - 1) (fun i rr => Can rr ∧ (∀ a ∈ rr, ∀ x, xs[i]? = some x → a.f1 ≤ x) ∧ ∀ x, inn rr x ↔ pts xs H i x)
    (fun r => ∃ rr, r.2.2 = (xs, ys, out, last, rr.map (cell y (y' - y))) ∧ Can rr ∧ ∀ x, inn rr x ↔ ∃ j a b, xs[j]? = some a ∧ xs[j + 1]? = some b ∧ a ≤ x ∧ x < b ∧ H a) ?_ ?_ [] ⟨can_nil, by simp, fun x => ⟨fun h => absurd h (inn_nil x), fun ⟨j, _, _, h, _⟩ => absurd h (Nat.not_lt_zero j)⟩⟩
  · intro i rr hi ⟨h1, h2, h3⟩
    have hi0 : i < xs.length := by omega
    have hi1 : i + 1 < xs.length := by omega
    obtain ⟨a, ha⟩ : ∃ a, xs[i]? = some a := ⟨_, List.getElem?_eq_getElem hi0⟩
    obtain ⟨b, hb⟩ : ∃ a, xs[i + 1]? = some a := ⟨_, List.getElem?_eq_getElem hi1⟩
    have hab : a < b := by
      have := List.pairwise_iff_getElem.1 hxs i (i + 1) hi0 hi1 (by omega)
      rw [(List.getElem?_eq_some_iff.1 ha).2, (List.getElem?_eq_some_iff.1 hb).2] at this
      exact this
    have ba := hB a (List.mem_of_getElem? ha)
    have bb := hB b (List.mem_of_getElem? hb)
    obtain ⟨c, hc, hcH⟩ := hh a (List.mem_of_getElem? ha)
    have hlen := can_len h1
    simp only [G9, nextI (show i < 9223372036854775807 by omega), nextI (show k < 9223372036854775807 by omega), ltL_true hi1, idx_nat hi0, idx_nat hi1, getN_some ha, getN_some hb, idx_nat hk, idx_nat hk', getN_some hy, getN_some hy', cond_true, Option.bind_some, hc, subI_eq (a := b) (b := a) (by omega) (by omega), subI_eq (a := y') (b := y) (by omega) (by omega)]
    cases c with
    | false =>
      have hnH : ¬ H a := fun hH => by simpa using hcH.2 hH
      simp only [Bool.not_false, cond_true]
      refine ⟨rr, rfl, h1, fun q hq x hx => ?_, fun x => ?_⟩
      · rw [hb] at hx
        cases hx
        have := h2 q hq a ha
        omega
      · rw [h3, pts_succ H ha hb]
        exact ⟨.inl, fun h => h.resolve_right fun h => hnH h.2.2⟩
    | true =>
      have hH : H a := hcH.1 rfl
      simp only [Bool.not_true, cond_false]
      rcases List.eq_nil_or_concat rr with e | ⟨q, g, e⟩
      · subst e
        rw [List.map_nil, show leI 0 (subI .i64 (lenL ([] : List S25)) 1) = false from rfl]
        simp only [cond_false]
        rw [appO_big (by omega) (by simp)]
        refine ⟨[⟨a, b⟩], rfl, can_app (l := []).2 ⟨⟨ba.1, hab, bb.2⟩, can_nil, by simp⟩, ?_, fun x => ?_⟩
        · intro q hq x hx
          rw [List.mem_singleton] at hq
          subst hq
          rw [hb] at hx
          cases hx
          exact Int.le_refl _
        · rw [pts_succ H ha hb, ← h3, inn_cons]
          constructor
          · rintro (h | h)
            · exact .inr ⟨h.1, h.2, hH⟩
            · exact .inl h
          · rintro (h | h)
            · exact .inr h
            · exact .inl ⟨h.1, h.2.1⟩
      · subst e
        simp only [List.concat_eq_append] at *
        obtain ⟨hg1, hq, hqg⟩ := can_app.1 h1
        have hqlen : (q.map (cell y (y' - y))).length < 200000 := by simp only [List.length_append, List.length_cons, List.length_nil, List.length_map] at *; omega
        have hga := h2 g (by simp) a ha
        have hgB := hg1
        unfold B at hgB
        simp only [List.map_append, List.map_cons, List.map_nil]
        have hlast := last_len (q.map (cell y (y' - y))) (cell y (y' - y) g) (by omega)
        simp only [hlast, idx_nat (show (q.map (cell y (y' - y))).length < (q.map (cell y (y' - y)) ++ [cell y (y' - y) g]).length by simp), last_at, Option.bind_some, last_set]
        rw [show leI 0 ((q.map (cell y (y' - y))).length : Int) = true from decide_eq_true (by omega)]
        have hend : addI .i64 (cell y (y' - y) g).f0 (cell y (y' - y) g).f2 = g.f1 := by
          show addI .i64 g.f0 (g.f1 - g.f0) = g.f1
          rw [addI_eq (by omega) (by omega)]
          omega
        have hw : subI .i64 b (cell y (y' - y) g).f0 = b - g.f0 := by
          show subI .i64 b g.f0 = b - g.f0
          rw [subI_eq (by omega) (by omega)]
        simp only [cond_true, hend, hw]
        by_cases ce : g.f1 = a
        · rw [show eqI g.f1 a = true by rw [eqI_iff]; exact decide_eq_true ce]
          simp only [cond_true]
          refine ⟨q ++ [⟨g.f0, b⟩], ?_, can_app.2 ⟨⟨by simp only; omega, by simp only; omega, bb.2⟩, hq, hqg⟩, ?_, fun x => ?_⟩
          · simp only [List.map_append, List.map_cons, List.map_nil]
            rfl
          · intro z hz x hx
            rw [hb] at hx
            cases hx
            rcases List.mem_append.1 hz with e | e
            · have := h2 z (by simp [e]) a ha
              omega
            · rw [List.mem_singleton] at e
              subst e
              exact Int.le_refl _
          · have h4 := h3 x
            rw [inn_app] at h4
            rw [inn_app, pts_succ H ha hb, ← h4]
            simp only
            constructor
            · rintro (h | h)
              · exact .inl (.inl h)
              · by_cases hx : x < g.f1
                · exact .inl (.inr ⟨h.1, hx⟩)
                · exact .inr ⟨by omega, h.2, hH⟩
            · rintro ((h | h) | h)
              · exact .inl h
              · exact .inr ⟨h.1, by omega⟩
              · exact .inr ⟨by omega, h.2.1⟩
        · rw [show eqI g.f1 a = false by rw [eqI_iff]; exact decide_eq_false ce]
          simp only [cond_false]
          rw [appO_big (by omega) (by simp only [List.length_append, List.length_cons, List.length_nil]; omega)]
          refine ⟨(q ++ [g]) ++ [⟨a, b⟩], ?_, can_app.2 ⟨⟨ba.1, hab, bb.2⟩, h1, ?_⟩, ?_, fun x => ?_⟩
          · simp only [List.map_append, List.map_cons, List.map_nil]
            rfl
          · intro z hz
            rcases List.mem_append.1 hz with e | e
            · have := hqg z e
              simp only
              omega
            · rw [List.mem_singleton] at e
              subst e
              simp only
              omega
          · intro z hz x hx
            rw [hb] at hx
            cases hx
            rcases List.mem_append.1 hz with e | e
            · have := h2 z e a ha
              omega
            · rw [List.mem_singleton] at e
              subst e
              exact Int.le_refl _
          · rw [inn_app, pts_succ H ha hb, ← h3]
            constructor
            · rintro (h | h)
              · exact .inl h
              · exact .inr ⟨h.1, h.2, hH⟩
            · rintro (h | h)
              · exact .inl h
              · exact .inr ⟨h.1, h.2.1⟩
  · intro rr ⟨h1, h2, h3⟩
    have hlt : ltI ((xs.length - 1 + 1 : Nat) : Int) (lenL xs) = false := ltL_false (by omega)
    simp only [G9, nextI (show xs.length - 1 < 9223372036854775807 by omega), hlt, cond_false]
    refine ⟨_, rfl, rr, rfl, h1, fun x => (h3 x).trans ⟨?_, ?_⟩⟩
    · rintro ⟨j, a, b, h, h4⟩
      exact ⟨j, a, b, h4⟩
    · rintro ⟨j, a, b, h4, h5, h6⟩
      have := (List.getElem?_eq_some_iff.1 h5).1
      exact ⟨j, a, b, by omega, h4, h5, h6⟩
/-! Rows alike; rows grown. -/
theorem alike_ok (rr cur : List S110) (y h f hh : Int) (hl : rr.length ≤ 1000000) (e : addI .i64 f hh = y) (hr : ∀ a ∈ rr, B a) (hc : ∀ a ∈ cur, B a) : ∃ c, T82 (rr.map (cell y h)) (cur.map (cell f hh)) = some c ∧ (c = true ↔ rr = cur) := by
  unfold T82
  by_cases hlen : rr.length = cur.length
  · have e0 : neI (lenL (rr.map (cell y h))) (lenL (cur.map (cell f hh))) = false := by rw [neI_iff, lenL_eq, lenL_eq, List.length_map, List.length_map, hlen]; simp
    rw [e0]
    simp only [cond_false]
    obtain ⟨r, h1, h2⟩ : ∃ r, iter (L82_4 (rr.map (cell y h)) (cur.map (cell f hh))) 0 = some r ∧ (r.isLeft = true ↔ rr = cur) := by
      refine iter_upx (st := L82_4 (rr.map (cell y h)) (cur.map (cell f hh))) (fun (_ : Unit) i => (i : Int)) rr.length (fun i _ => ∀ j, j < i → rr[j]? = cur[j]?) (fun r => r.isLeft = true ↔ rr = cur) ?_ ?_ 0 () (Nat.zero_le _) (fun j h => absurd h (Nat.not_lt_zero j))
      · intro i _ hi hinv
        obtain ⟨r, hr'⟩ : ∃ r, rr[i]? = some r := ⟨_, List.getElem?_eq_getElem hi⟩
        obtain ⟨q, hq'⟩ : ∃ r, cur[i]? = some r := ⟨_, List.getElem?_eq_getElem (by omega)⟩
        have b1 := hr r (List.mem_of_getElem? hr')
        have b2 := hc q (List.mem_of_getElem? hq')
        have hr2 : (rr.map (cell y h))[i]? = some (cell y h r) := by rw [List.getElem?_map, hr']; rfl
        have hq2 : (cur.map (cell f hh))[i]? = some (cell f hh q) := by rw [List.getElem?_map, hq']; rfl
        have hlt : i < (rr.map (cell y h)).length := by rw [List.length_map]; exact hi
        have ey : eqI y (addI .i64 f hh) = true := by rw [e]; exact eqI_self y
        simp only [L82_4, T83, ltL_true hlt, listAt_some hr2, listAt_some hq2, cond_true, Option.bind_some, nextI (show i < 9223372036854775807 by omega)]
        have f1 : (cell y h r).f1 = y := rfl
        have f2 : (cell f hh q).f1 = f := rfl
        have f3 : (cell f hh q).f3 = hh := rfl
        rw [f1, f2, f3, ey]
        unfold B at b1 b2
        by_cases c : r.f0 = q.f0 ∧ r.f1 = q.f1
        · left
          have g1 : eqI (cell y h r).f0 (cell f hh q).f0 = true := by rw [eqI_iff]; exact decide_eq_true c.1
          have g2 : eqI (cell y h r).f2 (cell f hh q).f2 = true := by rw [eqI_iff]; exact decide_eq_true (show r.f1 - r.f0 = q.f1 - q.f0 by omega)
          rw [g1, g2]
          refine ⟨(), rfl, fun j hj => ?_⟩
          by_cases e : j = i
          · subst e
            rw [hr', hq']
            cases r; cases q
            simp_all
          · exact hinv j (by omega)
        · right
          have hne : ¬ rr = cur := by
            intro e
            subst e
            rw [hr'] at hq'
            cases hq'
            exact c ⟨rfl, rfl⟩
          have : ∃ b, (bif eqI (cell y h r).f0 (cell f hh q).f0 then bif eqI (cell y h r).f2 (cell f hh q).f2 then some true else some false else some false) = some b ∧ b = false := by
            by_cases c1 : r.f0 = q.f0
            · have g1 : eqI (cell y h r).f0 (cell f hh q).f0 = true := by rw [eqI_iff]; exact decide_eq_true c1
              have g2 : eqI (cell y h r).f2 (cell f hh q).f2 = false := by
                rw [eqI_iff]
                refine decide_eq_false fun c2 => ?_
                have : r.f1 - r.f0 = q.f1 - q.f0 := c2
                exact c ⟨c1, by omega⟩
              rw [g1, g2]
              exact ⟨_, rfl, rfl⟩
            · have g1 : eqI (cell y h r).f0 (cell f hh q).f0 = false := by rw [eqI_iff]; exact decide_eq_false c1
              rw [g1]
              exact ⟨_, rfl, rfl⟩
          obtain ⟨b, g1, g2⟩ := this
          subst g2
          rw [g1]
          refine ⟨_, rfl, ?_⟩
          simp only [Sum.isLeft_inr, Bool.false_eq_true, false_iff]
          exact hne
      · intro _ hinv
        have : ltI (rr.length : Int) (lenL (rr.map (cell y h))) = false := ltL_false (by rw [List.length_map]; exact Nat.le_refl _)
        simp only [L82_4, this, cond_false]
        refine ⟨_, rfl, ?_⟩
        simp only [Sum.isLeft_inl, true_iff]
        refine List.ext_getElem? fun j => ?_
        by_cases hj : j < rr.length
        · exact hinv j hj
        · rw [List.getElem?_eq_none (by omega), List.getElem?_eq_none (by omega)]
    rw [h1, Option.bind_some]
    cases r with
    | inl y => exact ⟨true, rfl, by simpa using h2⟩
    | inr y => exact ⟨false, rfl, by simpa using h2⟩
  · have e : neI (lenL (rr.map (cell y h))) (lenL (cur.map (cell f hh))) = true := by
      rw [neI_iff, lenL_eq, lenL_eq, List.length_map, List.length_map]
      have : ¬ (rr.length : Int) = cur.length := by omega
      simp [this]
    rw [e]
    exact ⟨false, rfl, by simp only [Bool.false_eq_true, false_iff]; intro h; exact hlen (by rw [h])⟩
theorem grown_ok (h : Int → Int → Option Bool) (z0 : ((List Int) × (List Int) × (List S25) × (List S25) × Int)) (y46 : (Int × Bool × (List Int) × (List Int) × (List S25) × (List S25) × (List S25))) (xs ys : List Int) (out : List S25) (cur : List S110) (y h1 f hh : Int)
    (hl : cur.length ≤ 1000000) (hlast : y46.2.2.2.2.2.1 = cur.map (cell f hh)) :
    ∃ r, iter (G19 h z0 y46) (xs, ys, out, cur.map (cell f hh), cur.map (cell y h1), 0) = some r ∧ r.2.2 = (xs, ys, out, cur.map (cell f (addI .i64 hh h1)), cur.map (cell y h1)) := by
  refine iter_up (st := G19 h z0 y46) (fun (l : List S25) i => (xs, ys, out, l, cur.map (cell y h1), (i : Int))) cur.length (fun i l => l.length = cur.length ∧ ∀ j a, cur[j]? = some a → l[j]? = some (cell f (if j < i then addI .i64 hh h1 else hh) a))
    (fun r => r.2.2 = (xs, ys, out, cur.map (cell f (addI .i64 hh h1)), cur.map (cell y h1))) ?_ ?_ (cur.map (cell f hh)) ⟨by simp, fun j a ha => by rw [List.getElem?_map, ha]; rfl⟩
  · intro i l hi ⟨h2, h3⟩
    obtain ⟨a, ha⟩ : ∃ r, cur[i]? = some r := ⟨_, List.getElem?_eq_getElem hi⟩
    have g1 := h3 i a ha
    rw [if_neg (Nat.lt_irrefl i)] at g1
    have g2 : (cur.map (cell y h1))[i]? = some (cell y h1 a) := by rw [List.getElem?_map, ha]; rfl
    have hlt : i < (cur.map (cell f hh)).length := by rw [List.length_map]; exact hi
    have hlt1 : i < l.length := by omega
    have hlt2 : i < (cur.map (cell y h1)).length := by rw [List.length_map]; exact hi
    simp only [G19, hlast, ltL_true hlt, idx_nat hlt1, idx_nat hlt2, getN_some g1, getN_some g2, cond_true, Option.bind_some, nextI (show i < 9223372036854775807 by omega)]
    refine ⟨_, rfl, by simp [h2], fun j b hb => ?_⟩
    rw [List.getElem?_set]
    by_cases e : i = j
    · subst e
      rw [ha] at hb
      cases hb
      rw [if_pos rfl, if_pos hlt1, if_pos (by omega)]
      rfl
    · rw [if_neg e, h3 j b hb]
      have : (j < i) ↔ (j < i + 1) := by omega
      simp only [this]
  · intro l ⟨h2, h3⟩
    have hlt : ltI (cur.length : Int) (lenL (cur.map (cell f hh))) = false := ltL_false (by rw [List.length_map]; exact Nat.le_refl _)
    simp only [G19, hlast, hlt, cond_false]
    refine ⟨_, rfl, ?_⟩
    have : l = cur.map (cell f (addI .i64 hh h1)) := by
      refine List.ext_getElem? fun j => ?_
      by_cases hj : j < cur.length
      · obtain ⟨a, ha⟩ : ∃ r, cur[j]? = some r := ⟨_, List.getElem?_eq_getElem hj⟩
        rw [h3 j a ha, if_pos hj, List.getElem?_map, ha]
        rfl
      · rw [List.getElem?_eq_none (by omega), List.getElem?_eq_none (by simp; omega)]
    rw [this]
theorem emit_ok {st : ((List Int) × (List S25) × Int) → Option (((List Int) × (List S25) × Int) ⊕ (Int × Bool × (List Int) × (List S25)))} (ys : List Int) (cur : List S110) (f h : Int) (out : List S25) (hout : out.length ≤ 1900000000000) (hcur : cur.length ≤ 1000000)
    (h1 : ∀ (s : List S25) (i : Nat) a, i < cur.length → cur[i]? = some a → st (ys, s, (i : Int)) = (appO 32 s [cell f h a]).bind fun x => some (.inl (ys, x, ((i + 1 : Nat) : Int)))) (h2 : ∀ s, st (ys, s, (cur.length : Int)) = some (.inr ((cur.length : Int), false, ys, s))) :
    ∃ r, iter st (ys, out, 0) = some r ∧ r.2.2 = (ys, out ++ cur.map (cell f h)) := by
  refine iter_up (st := st) (fun (s : List S25) i => (ys, s, (i : Int))) cur.length (fun i s => s = out ++ (cur.take i).map (cell f h)) (fun r => r.2.2 = (ys, out ++ cur.map (cell f h))) ?_ ?_ out (by simp)
  · intro i s hi hs
    obtain ⟨a, ha⟩ : ∃ r, cur[i]? = some r := ⟨_, List.getElem?_eq_getElem hi⟩
    have hlen : s.length ≤ 1900001000000 := by rw [hs, List.length_append, List.length_map, List.length_take]; omega
    refine ⟨s ++ [cell f h a], ?_, ?_⟩
    · rw [h1 s i a hi ha, appO_big (by omega) (by simp only [List.length_cons, List.length_nil]; omega)]
      rfl
    · rw [hs, take_next ha, List.map_append, List.append_assoc]
      rfl
  · intro s hs
    refine ⟨_, h2 s, ?_⟩
    rw [hs, List.take_length]
end Go.Abs.TU

set_option linter.unusedVariables false
set_option linter.unusedSimpArgs false
set_option maxRecDepth 10000
namespace Go.Abs.TU
open Go.RowKit Go.Proofs Go.Abs
/-! The bands, one after another. -/
noncomputable def rowAt (p q : List S25) (y : Int) : List S110 := ((T69 p y).bind fun a => (T69 q y).bind fun b => T68 a b).getD []
theorem rowAt_ok (p q : List S25) (y : Int) (hp : ∀ r ∈ p, W r) (hq : ∀ r ∈ q, W r) (lp : p.length ≤ 1000000) (lq : q.length ≤ 1000000) :
    ∃ a b, T69 p y = some a ∧ T69 q y = some b ∧ T68 a b = some (rowAt p q y) ∧ Can (rowAt p q y) ∧ ∀ x, inn (rowAt p q y) x ↔ hasL p x y ∧ ¬ hasL q x y := by
  obtain ⟨a, a1, a2, a3⟩ := runs_ok p y hp lp
  obtain ⟨b, b1, b2, b3⟩ := runs_ok q y hq lq
  obtain ⟨o, o1, o2, o3⟩ := less_ok a b a2 b2
  have e : rowAt p q y = o := by
    unfold rowAt
    rw [a1, Option.bind_some, b1, Option.bind_some, o1, Option.getD_some]
  rw [e]
  exact ⟨a, b, a1, b1, o1, o2, fun x => by rw [o3, a3, b3]⟩
attribute [local irreducible] rowAt
open Classical in
noncomputable def St (R : Int → List S110) (ys : List Int) : Nat → List S25 × List S110 × Int
  | 0 => ([], [], 0)
  | k + 1 => if (St R ys k).2.1 = R (ys.getD k 0) then St R ys k else ((St R ys k).1 ++ (St R ys k).2.1.map (cell (St R ys k).2.2 (ys.getD k 0 - (St R ys k).2.2)), R (ys.getD k 0), ys.getD k 0)
noncomputable def Fin (R : Int → List S110) (ys : List Int) : List S25 :=
  (St R ys (ys.length - 1)).1 ++ (St R ys (ys.length - 1)).2.1.map (cell (St R ys (ys.length - 1)).2.2 (ys.getD (ys.length - 1) 0 - (St R ys (ys.length - 1)).2.2))
theorem St_same {R : Int → List S110} {ys : List Int} {k : Nat} {y : Int} (hy : ys[k]? = some y) (h : (St R ys k).2.1 = R y) : St R ys (k + 1) = St R ys k := by
  rw [St]
  rw [List.getD_eq_getElem?_getD, hy, Option.getD_some, if_pos h]
theorem St_new {R : Int → List S110} {ys : List Int} {k : Nat} {y : Int} (hy : ys[k]? = some y) (h : ¬ (St R ys k).2.1 = R y) : St R ys (k + 1) = ((St R ys k).1 ++ (St R ys k).2.1.map (cell (St R ys k).2.2 (y - (St R ys k).2.2)), R y, y) := by
  rw [St]
  rw [List.getD_eq_getElem?_getD, hy, Option.getD_some, if_neg h]
theorem St_ok (R : Int → List S110) (ys : List Int) (hR : ∀ y, Can (R y)) (hys : ∀ y ∈ ys, -100000 ≤ y ∧ y ≤ 100000) : ∀ k, k ≤ ys.length → (St R ys k).1.length ≤ k * 200000 ∧ Can (St R ys k).2.1 ∧ -100000 ≤ (St R ys k).2.2 ∧ (St R ys k).2.2 ≤ 100000 := by
  intro k
  induction k with
  | zero => intro _; exact ⟨by simp [St], can_nil, by simp [St], by simp [St]⟩
  | succ k ih =>
    intro hk
    obtain ⟨h1, h2, h3, h4⟩ := ih (by omega)
    obtain ⟨y, hy⟩ : ∃ r, ys[k]? = some r := ⟨_, List.getElem?_eq_getElem (by omega)⟩
    have hb := hys y (List.mem_of_getElem? hy)
    by_cases c : (St R ys k).2.1 = R y
    · rw [St_same hy c]
      exact ⟨Nat.le_trans h1 (Nat.mul_le_mul_right _ (Nat.le_succ k)), h2, h3, h4⟩
    · rw [St_new hy c]
      have hl := can_len h2
      refine ⟨?_, hR y, hb.1, hb.2⟩
      simp only [List.length_append, List.length_map]
      rw [Nat.succ_mul]
      omega
theorem prog_ok (p q : List S25) (ys : List Int) (hp : ∀ r ∈ p, W r) (hq : ∀ r ∈ q, W r) (lp : p.length ≤ 1000000) (lq : q.length ≤ 1000000) (hys : ∀ y ∈ ys, -100000 ≤ y ∧ y ≤ 100000) (hl : ys.length ≤ 1000000) :
    ∃ r, iter (L41_13 p q ys) (ys, [], [], 0, 0) = some r ∧ r.2.2.2.2.2 = Fin (rowAt p q) ys := by
  have hR : ∀ y, Can (rowAt p q y) := fun y => by obtain ⟨_, _, _, _, _, h, _⟩ := rowAt_ok p q y hp hq lp lq; exact h
  refine iter_up (st := L41_13 p q ys) (fun (s : List S25 × List S110 × Int) i => (ys, s.1, s.2.1, s.2.2, (i : Int))) ys.length (fun i s => (i < ys.length → s = St (rowAt p q) ys i) ∧ (i = ys.length → s.1 = Fin (rowAt p q) ys))
    (fun r => r.2.2.2.2.2 = Fin (rowAt p q) ys) ?_ ?_ ([], [], 0) ⟨fun _ => rfl, fun h => ?_⟩
  · intro i s hi ⟨hs, _⟩
    have hs := hs hi
    obtain ⟨o1, o2, o3, o4⟩ := St_ok (rowAt p q) ys hR hys i (by omega)
    obtain ⟨y, hy⟩ : ∃ r, ys[i]? = some r := ⟨_, List.getElem?_eq_getElem hi⟩
    have hb := hys y (List.mem_of_getElem? hy)
    obtain ⟨a, b, r1, r2, r3, r4, r5⟩ := rowAt_ok p q y hp hq lp lq
    rw [← hs] at o1 o2 o3 o4
    have hlen := can_len o2
    obtain ⟨out, cur, fr⟩ := s
    simp only at o1 o2 o3 o4 hlen hs
    have ho : out.length ≤ 1900000000000 := by
      have : i * 200000 ≤ 1000000 * 200000 := Nat.mul_le_mul (by omega) (Nat.le_refl _)
      omega
    have hsub : subI .i64 y fr = y - fr := subI_eq (by omega) (by omega)
    simp only [L41_13, ltL_true hi, idx_nat hi, getN_some hy, cond_true, Option.bind_some, nextI (show i < 9223372036854775807 by omega)]
    have hcell : ∀ a ∈ cur, subI .i64 a.f1 a.f0 = a.f1 - a.f0 := by
      intro a ha
      have := o2.1 a ha
      unfold B at this
      exact subI_eq (by omega) (by omega)
    by_cases hi1 : i + 1 < ys.length
    · simp only [ltL_true hi1, cond_true, r1, r2, r3, Option.bind_some]
      obtain ⟨c, c1, c2⟩ := same_ok cur (rowAt p q y) (by omega)
      rw [c1, Option.bind_some]
      cases c with
      | true =>
        have e := c2.1 rfl
        refine ⟨(out, cur, fr), rfl, fun _ => ?_, fun h => by omega⟩
        rw [St_same hy (by rw [← hs]; exact e)]
        exact hs
      | false =>
        have e : ¬ cur = rowAt p q y := fun e => by simpa using c2.2 e
        obtain ⟨v, v1, v2⟩ := emit_ok (st := L41_20 p q ys (ys, out, cur, fr, (i : Int)) y (rowAt p q y)) ys cur fr (y - fr) out ho (by omega) (fun s j a hj ha => by
          simp only [L41_20, ltL_true hj, listAt_some ha, cond_true, Option.bind_some, nextI (show j < 9223372036854775807 by omega), hsub, hcell a (List.mem_of_getElem? ha)]
          rfl) (fun s => by simp only [L41_20, ltL_false (Nat.le_refl _), cond_false])
        simp only [cond_false]
        rw [v1, Option.bind_some, v2]
        refine ⟨(_, _, _), rfl, fun _ => ?_, fun h => by omega⟩
        rw [St_new hy (by rw [← hs]; exact e), ← hs]
    · have hlt : ltI ((i + 1 : Nat) : Int) (lenL ys) = false := ltL_false (by omega)
      simp only [hlt, cond_false]
      obtain ⟨c, c1, c2⟩ := same_ok cur [] (by omega)
      rw [c1, Option.bind_some]
      have hii : i = ys.length - 1 := by omega
      have hgd : ys.getD (ys.length - 1) 0 = y := by rw [← hii, List.getD_eq_getElem?_getD, hy, Option.getD_some]
      cases c with
      | true =>
        have e := c2.1 rfl
        refine ⟨(out, cur, fr), rfl, fun h => by omega, fun _ => ?_⟩
        unfold Fin
        rw [← hii, ← hs]
        simp only [e, List.map_nil, List.append_nil]
      | false =>
        obtain ⟨v, v1, v2⟩ := emit_ok (st := L41_20_v1 p q ys (ys, out, cur, fr, (i : Int)) y) ys cur fr (y - fr) out ho (by omega) (fun s j a hj ha => by
          simp only [L41_20_v1, ltL_true hj, listAt_some ha, cond_true, Option.bind_some, nextI (show j < 9223372036854775807 by omega), hsub, hcell a (List.mem_of_getElem? ha)]
          rfl) (fun s => by simp only [L41_20_v1, ltL_false (Nat.le_refl _), cond_false])
        simp only [cond_false]
        rw [v1, Option.bind_some, v2]
        refine ⟨(_, _, _), rfl, fun h => by omega, fun _ => ?_⟩
        unfold Fin
        rw [hgd, ← hii, ← hs]
  · intro s ⟨_, h⟩
    simp only [L41_13, ltL_false (Nat.le_refl _), cond_false]
    exact ⟨_, rfl, h rfl⟩
  · simp only
    unfold Fin
    rw [← h]
    simp [St]
theorem ref_ok (p q : List S25) (xs ys : List Int) (h : Int → Int → Option Bool) (hp : ∀ r ∈ p, W r) (hq : ∀ r ∈ q, W r) (lp : p.length ≤ 1000000) (lq : q.length ≤ 1000000)
    (hys : ∀ y ∈ ys, -100000 ≤ y ∧ y ≤ 100000) (hl : ys.length ≤ 1000000) (hxs : ∀ y ∈ xs, -100000 ≤ y ∧ y ≤ 100000) (hlx : xs.length ≤ 1000000) (hord : xs.Pairwise (· < ·))
    (hed : ∀ r, r ∈ p ∨ r ∈ q → r.f0 ∈ xs ∧ r.f0 + r.f2 ∈ xs) (hh : ∀ x y, ∃ b, h x y = some b ∧ (b = true ↔ hasL p x y ∧ ¬ hasL q x y)) :
    ∃ r, iter (G5 h) (xs, ys, [], [], 0) = some r ∧ r.2.2.2.2.1 ++ r.2.2.2.2.2 = Fin (rowAt p q) ys ∧ r.2.2.2.2.1.length ≤ 1000000000000 ∧ r.2.2.2.2.2.length ≤ 1000000 := by
  have hR : ∀ y, Can (rowAt p q y) := fun y => by obtain ⟨_, _, _, _, _, h, _⟩ := rowAt_ok p q y hp hq lp lq; exact h
  have hedge : ∀ (l : List S25), (∀ r ∈ l, r ∈ p ∨ r ∈ q) → ∀ (j : Nat) (a b x y : Int), xs[j]? = some a → xs[j + 1]? = some b → a ≤ x → x < b → (hasL l x y ↔ hasL l a y) := by
    intro l hsub j a b x y ha hb h1 h2
    constructor
    · rintro ⟨r, hr, h3, h4, h5⟩
      refine ⟨r, hr, ?_, by omega, h5⟩
      rcases next_to hord ha hb (hed r (hsub r hr)).1 with e | e
      · exact e
      · omega
    · rintro ⟨r, hr, h3, h4, h5⟩
      refine ⟨r, hr, by omega, ?_, h5⟩
      rcases next_to hord ha hb (hed r (hsub r hr)).2 with e | e
      · omega
      · omega
  let L : Nat → List S25 := fun k => (St (rowAt p q) ys k).2.1.map (cell (St (rowAt p q) ys k).2.2 (ys.getD k 0 - (St (rowAt p q) ys k).2.2))
  refine iter_up (st := G5 h) (fun (_ : Unit) i => (xs, ys, (St (rowAt p q) ys i).1, L i, (i : Int))) (ys.length - 1) (fun _ _ => True)
    (fun r => r.2.2.2.2.1 ++ r.2.2.2.2.2 = Fin (rowAt p q) ys ∧ r.2.2.2.2.1.length ≤ 1000000000000 ∧ r.2.2.2.2.2.length ≤ 1000000) ?_ ?_ () trivial
  · intro i _ hi _
    have hi0 : i < ys.length := by omega
    have hi1 : i + 1 < ys.length := by omega
    obtain ⟨o1, o2, o3, o4⟩ := St_ok (rowAt p q) ys hR hys i (by omega)
    obtain ⟨y, hy⟩ : ∃ r, ys[i]? = some r := ⟨_, List.getElem?_eq_getElem hi0⟩
    obtain ⟨y', hy'⟩ : ∃ r, ys[i + 1]? = some r := ⟨_, List.getElem?_eq_getElem hi1⟩
    have hb := hys y (List.mem_of_getElem? hy)
    have hb' := hys y' (List.mem_of_getElem? hy')
    obtain ⟨_, _, _, _, _, r4, r5⟩ := rowAt_ok p q y hp hq lp lq
    have hlen := can_len o2
    have hgd : ys.getD i 0 = y := by rw [List.getD_eq_getElem?_getD, hy, Option.getD_some]
    have hgd' : ys.getD (i + 1) 0 = y' := by rw [List.getD_eq_getElem?_getD, hy', Option.getD_some]
    have ho : (St (rowAt p q) ys i).1.length ≤ 1900000000000 := by
      have : i * 200000 ≤ 1000000 * 200000 := Nat.mul_le_mul (by omega) (Nat.le_refl _)
      omega
    have hL : L i = (St (rowAt p q) ys i).2.1.map (cell (St (rowAt p q) ys i).2.2 (y - (St (rowAt p q) ys i).2.2)) := by show List.map _ _ = _; rw [hgd]
    have hL' : L (i + 1) = (St (rowAt p q) ys (i + 1)).2.1.map (cell (St (rowAt p q) ys (i + 1)).2.2 (y' - (St (rowAt p q) ys (i + 1)).2.2)) := by show List.map _ _ = _; rw [hgd']
    simp only [hL, hL']
    have hsame : ∀ e : (St (rowAt p q) ys i).2.1 = rowAt p q y, St (rowAt p q) ys (i + 1) = St (rowAt p q) ys i := fun e => St_same hy e
    have hnew : ∀ e : ¬ (St (rowAt p q) ys i).2.1 = rowAt p q y, St (rowAt p q) ys (i + 1) = ((St (rowAt p q) ys i).1 ++ (St (rowAt p q) ys i).2.1.map (cell (St (rowAt p q) ys i).2.2 (y - (St (rowAt p q) ys i).2.2)), rowAt p q y, y) := fun e => St_new hy e
    generalize St (rowAt p q) ys (i + 1) = S' at hsame hnew ⊢
    generalize St (rowAt p q) ys i = S at hsame hnew o1 o2 o3 o4 hlen ho ⊢
    obtain ⟨out, cur, fr⟩ := S
    simp only at hsame hnew o1 o2 o3 o4 hlen ho ⊢
    obtain ⟨u, rr, u1, u2, u3, u4⟩ := row_ok h xs ys out (cur.map (cell fr (y - fr))) i y y' hy hy' hb hb' hord hxs (by omega) (by omega) (fun x => hasL p x y ∧ ¬ hasL q x y) (fun x _ => hh x y)
    have hrr : rr = rowAt p q y := by
      refine can_unique _ _ u3 r4 fun x => ?_
      rw [u4, r5]
      constructor
      · rintro ⟨j, a, b, ha, hb, h1, h2, h3, h4⟩
        exact ⟨(hedge p (fun r => .inl) j a b x y ha hb h1 h2).2 h3, fun h5 => h4 ((hedge q (fun r => .inr) j a b x y ha hb h1 h2).1 h5)⟩
      · rintro ⟨h3, h4⟩
        obtain ⟨r, hr, h6, h7, h8⟩ := h3
        obtain ⟨j, a, b, ha, hb, h1, h2⟩ := between xs hord x r.f0 (r.f0 + r.f2) (hed r (.inl hr)).1 h6 (hed r (.inl hr)).2 h7
        refine ⟨j, a, b, ha, hb, h1, h2, (hedge p (fun r => .inl) j a b x y ha hb h1 h2).1 ⟨r, hr, h6, h7, h8⟩, fun h5 => h4 ((hedge q (fun r => .inr) j a b x y ha hb h1 h2).2 h5)⟩
    rw [hrr] at u2
    have hlr := can_len r4
    obtain ⟨c, c1, c2⟩ := alike_ok (rowAt p q y) cur y (y' - y) fr (y - fr) (by omega) (by rw [addI_eq (by omega) (by omega)]; omega) r4.1 o2.1
    simp only [G5, nextI (show i < 9223372036854775807 by omega), ltL_true hi1, cond_true]
    rw [u1]
    simp only [Option.bind_some, u2]
    rw [c1, Option.bind_some]
    have happ : appO 32 out (cur.map (cell fr (y - fr))) = some (out ++ cur.map (cell fr (y - fr))) := appO_big (by omega) (by rw [List.length_map]; omega)
    cases c with
    | true =>
      have e := c2.1 rfl
      have hS := hsame e.symm
      subst hS
      simp only [cond_true]
      by_cases h0 : 0 < (rowAt p q y).length
      · have hlt : ltI 0 (lenL ((rowAt p q y).map (cell y (y' - y)))) = true := by
          have := ltL_true (l := (rowAt p q y).map (cell y (y' - y))) (i := 0) (by rw [List.length_map]; exact h0)
          exact this
        rw [hlt]
        simp only [cond_true]
        obtain ⟨v, v1, v2⟩ := grown_ok h (xs, ys, out, cur.map (cell fr (y - fr)), (i : Int)) u xs ys out cur y (y' - y) fr (y - fr) (by omega) (by rw [u2])
        have e2 : addI .i64 (y - fr) (y' - y) = y' - fr := by
          rw [addI_eq (by omega) (by omega)]
          omega
        rw [e] 
        rw [v1, Option.bind_some, v2, e2]
        exact ⟨(), rfl, trivial⟩
      · have h00 : rowAt p q y = [] := List.eq_nil_of_length_eq_zero (by omega)
        have hc0 : cur = [] := by rw [← e, h00]
        rw [h00]
        subst hc0
        refine ⟨(), ?_, trivial⟩
        have : ltI 0 (lenL (List.map (cell y (y' - y)) ([] : List S110))) = false := rfl
        rw [this]
        simp only [cond_false, List.map_nil] at happ ⊢
        rw [happ, List.append_nil]
        rfl
    | false =>
      have e : ¬ cur = rowAt p q y := fun e => by simpa using c2.2 e.symm
      have hS := hnew e
      subst hS
      simp only [cond_false]
      rw [happ]
      exact ⟨(), rfl, trivial⟩
  · intro _ _
    have hlt : ltI ((ys.length - 1 + 1 : Nat) : Int) (lenL ys) = false := ltL_false (by omega)
    obtain ⟨o1, o2, o3, o4⟩ := St_ok (rowAt p q) ys hR hys (ys.length - 1) (by omega)
    have hlen := can_len o2
    simp only [G5, nextI (show ys.length - 1 < 9223372036854775807 by omega), hlt, cond_false]
    refine ⟨_, rfl, rfl, ?_, ?_⟩
    · have : (ys.length - 1) * 200000 ≤ 1000000 * 200000 := Nat.mul_le_mul (by omega) (Nat.le_refl _)
      simp only
      omega
    · show (List.map _ _).length ≤ _
      rw [List.length_map]
      omega
theorem mem_eX {p : List S25} {x : Int} : x ∈ eX p ↔ ∃ r ∈ p, x = r.f0 ∨ x = addI .i64 r.f0 r.f2 := by
  unfold eX
  rw [List.mem_flatMap]
  simp only [List.mem_cons, List.not_mem_nil, or_false]
theorem mem_eY {p : List S25} {x : Int} : x ∈ eY p ↔ ∃ r ∈ p, x = r.f1 ∨ x = addI .i64 r.f1 r.f3 := by
  unfold eY
  rw [List.mem_flatMap]
  simp only [List.mem_cons, List.not_mem_nil, or_false]
/-- What the program finds is what the cells tell. -/
theorem main (p q : List S25) (h : Int → Int → Option Bool) (hp : ∀ r ∈ p, W r) (hq : ∀ r ∈ q, W r) (lp : p.length ≤ 2000) (lq : q.length ≤ 2000) (hh : ∀ x y, ∃ b, h x y = some b ∧ (b = true ↔ hasL p x y ∧ ¬ hasL q x y)) :
    ∃ o, T41 p q = some o ∧ G (p ++ q) h = some o ∧ o.length ≤ 1000001000000 := by
  have hall : ∀ r ∈ p ++ q, W r := fun r hr => by
    rcases List.mem_append.1 hr with e | e
    · exact hp r e
    · exact hq r e
  have hl : (p ++ q).length ≤ 1000000 := by rw [List.length_append]; omega
  have fx := compact_facts (sortI (eX (p ++ q))) (sortI_sorted _)
  have fy := compact_facts (sortI (eY (p ++ q))) (sortI_sorted _)
  have lx : (Lib.compact (sortI (eX (p ++ q)))).length ≤ 1000000 := by
    have h1 := compact_le (sortI (eX (p ++ q)))
    have h2 := (sortI_perm (eX (p ++ q))).length_eq
    rw [eX_len, List.length_append] at h2
    omega
  have ly : (Lib.compact (sortI (eY (p ++ q)))).length ≤ 1000000 := by
    have h1 := compact_le (sortI (eY (p ++ q)))
    have h2 := (sortI_perm (eY (p ++ q))).length_eq
    rw [eY_len, List.length_append] at h2
    omega
  have mx : ∀ x, x ∈ Lib.compact (sortI (eX (p ++ q))) ↔ x ∈ eX (p ++ q) := fun x => (fx.2 x).trans (sortI_perm _).mem_iff
  have my : ∀ x, x ∈ Lib.compact (sortI (eY (p ++ q))) ↔ x ∈ eY (p ++ q) := fun x => (fy.2 x).trans (sortI_perm _).mem_iff
  have bx : ∀ x ∈ Lib.compact (sortI (eX (p ++ q))), -100000 ≤ x ∧ x ≤ 100000 := by
    intro x hx
    obtain ⟨r, hr, e⟩ := mem_eX.1 ((mx x).1 hx)
    have hw := hall r hr
    rw [(w_edge hw).1] at e
    unfold W at hw
    rcases e with e | e <;> omega
  have by' : ∀ x ∈ Lib.compact (sortI (eY (p ++ q))), -100000 ≤ x ∧ x ≤ 100000 := by
    intro x hx
    obtain ⟨r, hr, e⟩ := mem_eY.1 ((my x).1 hx)
    have hw := hall r hr
    rw [(w_edge hw).2] at e
    unfold W at hw
    rcases e with e | e <;> omega
  have hed : ∀ r, r ∈ p ∨ r ∈ q → r.f0 ∈ Lib.compact (sortI (eX (p ++ q))) ∧ r.f0 + r.f2 ∈ Lib.compact (sortI (eX (p ++ q))) := by
    intro r hr
    have hr : r ∈ p ++ q := List.mem_append.2 hr
    have e := (w_edge (hall r hr)).1
    exact ⟨(mx _).2 (mem_eX.2 ⟨r, hr, .inl rfl⟩), (mx _).2 (mem_eX.2 ⟨r, hr, .inr e.symm⟩)⟩
  obtain ⟨e, e1, e2⟩ := edges_loop p q (p ++ q) hl
  obtain ⟨u, u1, u2⟩ := prog_ok p q _ hp hq (by omega) (by omega) by' ly
  obtain ⟨v, v1, v2, v3, v4⟩ := ref_ok p q _ _ h hp hq (by omega) (by omega) by' ly bx lx fx.1 hed hh
  refine ⟨Fin (rowAt p q) (Lib.compact (sortI (eY (p ++ q)))), ?_, ?_, ?_⟩
  · unfold T41
    rw [both_ok p q (by omega) (by omega), Option.bind_some, e1, Option.bind_some, e2]
    unfold sortIO compIO
    rw [if_pos (by rw [eY_len]; omega), Option.bind_some, Option.bind_some, u1, Option.bind_some, u2]
  · unfold G
    rw [xs_ok _ hl, Option.bind_some, ys_ok _ hl, Option.bind_some, v1, Option.bind_some, appO_big (by omega) (by omega), Option.bind_some, v2]
  · rw [← v2, List.length_append]
    omega
end Go.Abs.TU

set_option linter.unusedVariables false
set_option linter.unusedSimpArgs false
set_option maxRecDepth 10000
namespace Go.Abs.TU
open Go.RowKit Go.Proofs Go.Abs
/-! More edges than a region has change nothing. -/
open Classical in
noncomputable def stp (R : Int → List S110) (s : List S25 × List S110 × Int) (y : Int) : List S25 × List S110 × Int :=
  if s.2.1 = R y then s else (s.1 ++ s.2.1.map (cell s.2.2 (y - s.2.2)), R y, y)
theorem stp_cur (R : Int → List S110) (s : List S25 × List S110 × Int) (y : Int) : (stp R s y).2.1 = R y := by
  unfold stp
  by_cases h : s.2.1 = R y
  · rw [if_pos h, h]
  · rw [if_neg h]
theorem St_fold (R : Int → List S110) (ys : List Int) : ∀ k, k ≤ ys.length → St R ys k = (ys.take k).foldl (stp R) ([], [], 0) := by
  intro k
  induction k with
  | zero => intro _; simp [St]
  | succ k ih =>
    intro hk
    obtain ⟨y, hy⟩ : ∃ r, ys[k]? = some r := ⟨_, List.getElem?_eq_getElem (by omega)⟩
    rw [take_next hy, List.foldl_append, ← ih (by omega), List.foldl_cons, List.foldl_nil]
    unfold stp
    by_cases h : (St R ys k).2.1 = R y
    · rw [St_same hy h, if_pos h]
    · rw [St_new hy h, if_neg h]
theorem Fin_fold (R : Int → List S110) (ys : List Int) (h : ∀ y, ys.getLast? = some y → R y = []) : Fin R ys = (ys.foldl (stp R) ([], [], 0)).1 := by
  cases hn : ys.length with
  | zero =>
    have : ys = [] := List.eq_nil_of_length_eq_zero hn
    subst this
    simp [Fin, St]
  | succ n =>
    obtain ⟨y, hy⟩ : ∃ r, ys[n]? = some r := ⟨_, List.getElem?_eq_getElem (by omega)⟩
    have hlast : R y = [] := h y (by rw [List.getLast?_eq_getElem?, hn]; simpa using hy)
    have hall : ys = ys.take n ++ [y] := by
      have := take_next hy
      rw [List.take_of_length_le (by omega)] at this
      exact this
    have hgd : ys.getD n 0 = y := by rw [List.getD_eq_getElem?_getD, hy, Option.getD_some]
    unfold Fin
    rw [hn, Nat.add_sub_cancel, hgd, St_fold R ys n (by omega)]
    conv => rhs; rw [hall, List.foldl_append, List.foldl_cons, List.foldl_nil]
    generalize (ys.take n).foldl (stp R) ([], [], 0) = s
    unfold stp
    by_cases e : s.2.1 = R y
    · rw [if_pos e, e, hlast]
      simp
    · rw [if_neg e]
theorem fold_skip (R : Int → List S110) (E : List Int) (hK : ∀ a b, a ≤ b → (∀ e ∈ E, ¬ (a < e ∧ e ≤ b)) → R a = R b) :
    ∀ (ys : List Int) (s : List S25 × List S110 × Int) (c : Int), ys.Pairwise (· < ·) → (∀ y ∈ ys, c < y) → s.2.1 = R c → (∀ e ∈ E, c < e → e ∈ ys) → ys.foldl (stp R) s = (ys.filter fun y => decide (y ∈ E)).foldl (stp R) s := by
  intro ys
  induction ys with
  | nil => intro s c _ _ _ _; rfl
  | cons y ys ih =>
    intro s c hp hc hs hE
    obtain ⟨h1, h2⟩ := List.pairwise_cons.1 hp
    have hcy := hc y (by simp)
    have hE2 : ∀ e ∈ E, y < e → e ∈ ys := by
      intro e he hye
      rcases List.mem_cons.1 (hE e he (by omega)) with h | h
      · omega
      · exact h
    by_cases hy : y ∈ E
    · rw [List.filter_cons_of_pos (by simpa using hy), List.foldl_cons, List.foldl_cons]
      exact ih _ y h2 (fun z hz => h1 z hz) (stp_cur R s y) hE2
    · rw [List.filter_cons_of_neg (by simpa using hy), List.foldl_cons]
      have hR : R c = R y := hK c y (by omega) fun e he hh => by
        rcases List.mem_cons.1 (hE e he hh.1) with h | h
        · subst h; exact hy he
        · have := h1 e h; omega
      have hst : stp R s y = s := by
        unfold stp
        rw [if_pos (hs.trans hR)]
      rw [hst]
      exact ih s y h2 (fun z hz => h1 z hz) (hs.trans hR) hE2
theorem sorted_same {l m : List Int} (hl : l.Pairwise (· < ·)) (hm : m.Pairwise (· < ·)) (h : ∀ x, x ∈ l ↔ x ∈ m) : l = m := by
  have n1 : l.Nodup := hl.imp fun h => Int.ne_of_lt h
  have n2 : m.Nodup := hm.imp fun h => Int.ne_of_lt h
  exact List.Perm.eq_of_pairwise (le := (· < ·)) (fun a b _ _ h1 h2 => absurd h1 (by omega)) hl hm ((List.perm_ext_iff_of_nodup n1 n2).2 h)
theorem fin_more (R : Int → List S110) (ys ys' : List Int) (h1 : ys.Pairwise (· < ·)) (h2 : ys'.Pairwise (· < ·)) (hsub : ∀ y ∈ ys, y ∈ ys') (hK : ∀ a b, a ≤ b → (∀ e ∈ ys, ¬ (a < e ∧ e ≤ b)) → R a = R b)
    (hlo : ∀ y, (∀ e ∈ ys, y < e) → R y = []) (hhi : ∀ y, (∀ e ∈ ys, e ≤ y) → R y = []) (hb : ∀ y ∈ ys', -100000 ≤ y) : Fin R ys = Fin R ys' := by
  have hlast : ∀ (l : List Int), l.Pairwise (· < ·) → (∀ y ∈ ys, y ∈ l) → ∀ y, l.getLast? = some y → R y = [] := by
    intro l hl hsl y hy
    refine hhi y fun e he => ?_
    have hel := hsl e he
    obtain ⟨m, hm⟩ : ∃ m, l = m ++ [y] := by
      obtain ⟨m, hm⟩ := List.getLast?_eq_some_iff.1 hy
      exact ⟨m, hm⟩
    rw [hm] at hel hl
    rcases List.mem_append.1 hel with h | h
    · have := (List.pairwise_append.1 hl).2.2 e h y (by simp)
      omega
    · rw [List.mem_singleton] at h
      omega
  rw [Fin_fold R ys (hlast ys h1 fun y hy => hy), Fin_fold R ys' (hlast ys' h2 hsub)]
  have hbot : R (-100001) = [] := hlo _ fun e he => by have := hb e (hsub e he); omega
  rw [fold_skip R ys hK ys' ([], [], 0) (-100001) h2 (fun y hy => by have := hb y hy; omega) hbot.symm (fun e he _ => hsub e he)]
  have : (ys'.filter fun y => decide (y ∈ ys)) = ys := by
    refine sorted_same (h2.filter _) h1 fun x => ?_
    rw [List.mem_filter]
    constructor
    · rintro ⟨_, h⟩
      simpa using h
    · intro h
      exact ⟨hsub x h, by simpa using h⟩
  rw [this]
theorem row_same (p q : List S25) (a b : Int) (hp : ∀ r ∈ p, W r) (hq : ∀ r ∈ q, W r) (lp : p.length ≤ 1000000) (lq : q.length ≤ 1000000) (h : ∀ r, r ∈ p ∨ r ∈ q → ∀ x, has r x a ↔ has r x b) : rowAt p q a = rowAt p q b := by
  obtain ⟨_, _, _, _, _, c1, d1⟩ := rowAt_ok p q a hp hq lp lq
  obtain ⟨_, _, _, _, _, c2, d2⟩ := rowAt_ok p q b hp hq lp lq
  have key : ∀ (l : List S25), (∀ r ∈ l, r ∈ p ∨ r ∈ q) → ∀ x, hasL l x a ↔ hasL l x b := fun l hl x => ⟨fun ⟨r, hr, h1⟩ => ⟨r, hr, (h r (hl r hr) x).1 h1⟩, fun ⟨r, hr, h1⟩ => ⟨r, hr, (h r (hl r hr) x).2 h1⟩⟩
  refine can_unique _ _ c1 c2 fun x => ?_
  rw [d1, d2, key p (fun r => .inl) x, key q (fun r => .inr) x]
theorem row_none (p q : List S25) (y : Int) (hp : ∀ r ∈ p, W r) (hq : ∀ r ∈ q, W r) (lp : p.length ≤ 1000000) (lq : q.length ≤ 1000000) (h : ∀ r ∈ p, ∀ x, ¬ has r x y) : rowAt p q y = [] := by
  obtain ⟨_, _, _, _, _, c1, d1⟩ := rowAt_ok p q y hp hq lp lq
  refine can_unique _ _ c1 can_nil fun x => ?_
  rw [d1]
  constructor
  · rintro ⟨⟨r, hr, h1⟩, _⟩
    exact absurd h1 (h r hr x)
  · intro h1; exact absurd h1 (inn_nil x)
theorem Fin_len (R : Int → List S110) (ys : List Int) (hR : ∀ y, Can (R y)) (hys : ∀ y ∈ ys, -100000 ≤ y ∧ y ≤ 100000) : (Fin R ys).length ≤ (ys.length + 1) * 200000 := by
  obtain ⟨h1, h2, _⟩ := St_ok R ys hR hys (ys.length - 1) (by omega)
  have h3 := can_len h2
  unfold Fin
  rw [List.length_append, List.length_map]
  have : (ys.length - 1) * 200000 ≤ ys.length * 200000 := Nat.mul_le_mul_right _ (by omega)
  rw [Nat.succ_mul]
  omega
def edgesY (p : List S25) : List Int := Lib.compact (sortI (eY p))
def edgesX (p : List S25) : List Int := Lib.compact (sortI (eX p))
theorem edgesY_ok (p : List S25) (hp : ∀ r ∈ p, W r) : (edgesY p).Pairwise (· < ·) ∧ (∀ y, y ∈ edgesY p ↔ ∃ r ∈ p, y = r.f1 ∨ y = r.f1 + r.f3) ∧ (∀ y ∈ edgesY p, -100000 ≤ y ∧ y ≤ 100000) ∧ (edgesY p).length ≤ 2 * p.length := by
  have fy := compact_facts (sortI (eY p)) (sortI_sorted _)
  have my : ∀ y, y ∈ edgesY p ↔ ∃ r ∈ p, y = r.f1 ∨ y = r.f1 + r.f3 := fun y => by
    unfold edgesY
    rw [fy.2, (sortI_perm _).mem_iff, mem_eY]
    exact ⟨fun ⟨r, hr, h⟩ => ⟨r, hr, by rw [(w_edge (hp r hr)).2] at h; exact h⟩, fun ⟨r, hr, h⟩ => ⟨r, hr, by rw [(w_edge (hp r hr)).2]; exact h⟩⟩
  refine ⟨fy.1, my, fun y hy => ?_, ?_⟩
  · obtain ⟨r, hr, e⟩ := (my y).1 hy
    have hw := hp r hr
    unfold W at hw
    rcases e with e | e <;> omega
  · have h1 := compact_le (sortI (eY p))
    have h2 := (sortI_perm (eY p)).length_eq
    rw [eY_len] at h2
    unfold edgesY
    omega
theorem edgesX_ok (p : List S25) (hp : ∀ r ∈ p, W r) : (edgesX p).Pairwise (· < ·) ∧ (∀ y, y ∈ edgesX p ↔ ∃ r ∈ p, y = r.f0 ∨ y = r.f0 + r.f2) ∧ (∀ y ∈ edgesX p, -100000 ≤ y ∧ y ≤ 100000) ∧ (edgesX p).length ≤ 2 * p.length := by
  have fy := compact_facts (sortI (eX p)) (sortI_sorted _)
  have my : ∀ y, y ∈ edgesX p ↔ ∃ r ∈ p, y = r.f0 ∨ y = r.f0 + r.f2 := fun y => by
    unfold edgesX
    rw [fy.2, (sortI_perm _).mem_iff, mem_eX]
    exact ⟨fun ⟨r, hr, h⟩ => ⟨r, hr, by rw [(w_edge (hp r hr)).1] at h; exact h⟩, fun ⟨r, hr, h⟩ => ⟨r, hr, by rw [(w_edge (hp r hr)).1]; exact h⟩⟩
  refine ⟨fy.1, my, fun y hy => ?_, ?_⟩
  · obtain ⟨r, hr, e⟩ := (my y).1 hy
    have hw := hp r hr
    unfold W at hw
    rcases e with e | e <;> omega
  · have h1 := compact_le (sortI (eX p))
    have h2 := (sortI_perm (eX p)).length_eq
    rw [eX_len] at h2
    unfold edgesX
    omega
/-- What the program finds is what the cells of these and more rectangles tell. -/
theorem main2 (p q P : List S25) (h : Int → Int → Option Bool) (hp : ∀ r ∈ p, W r) (hq : ∀ r ∈ q, W r) (hP : ∀ r ∈ P, W r) (lp : p.length ≤ 100000) (lq : q.length ≤ 100000) (lP : P.length ≤ 100000)
    (hsub : ∀ r, r ∈ p ∨ r ∈ q → r ∈ P) (hh : ∀ x y, ∃ b, h x y = some b ∧ (b = true ↔ hasL p x y ∧ ¬ hasL q x y)) :
    ∃ o, T41 p q = some o ∧ G P h = some o ∧ o = Fin (rowAt p q) (edgesY (p ++ q)) ∧ o.length ≤ (2 * (p.length + q.length) + 1) * 200000 := by
  have hall : ∀ r ∈ p ++ q, W r := fun r hr => by
    rcases List.mem_append.1 hr with e | e
    · exact hp r e
    · exact hq r e
  have hl : (p ++ q).length ≤ 1000000 := by rw [List.length_append]; omega
  obtain ⟨y1, y2, y3, y4⟩ := edgesY_ok (p ++ q) hall
  obtain ⟨Y1, Y2, Y3, Y4⟩ := edgesY_ok P hP
  obtain ⟨X1, X2, X3, X4⟩ := edgesX_ok P hP
  rw [List.length_append] at y4
  have hR : ∀ y, Can (rowAt p q y) := fun y => by obtain ⟨_, _, _, _, _, h, _⟩ := rowAt_ok p q y hp hq (by omega) (by omega); exact h
  obtain ⟨e, e1, e2⟩ := edges_loop p q (p ++ q) hl
  obtain ⟨u, u1, u2⟩ := prog_ok p q (edgesY (p ++ q)) hp hq (by omega) (by omega) y3 (by omega)
  obtain ⟨v, v1, v2, v3, v4⟩ := ref_ok p q (edgesX P) (edgesY P) h hp hq (by omega) (by omega) Y3 (by omega) X3 (by omega) X1 (fun r hr => ⟨(X2 _).2 ⟨r, hsub r hr, .inl rfl⟩, (X2 _).2 ⟨r, hsub r hr, .inr rfl⟩⟩) hh
  have hmore : Fin (rowAt p q) (edgesY (p ++ q)) = Fin (rowAt p q) (edgesY P) := by
    have mem : ∀ r, r ∈ p ∨ r ∈ q → r.f1 ∈ edgesY (p ++ q) ∧ r.f1 + r.f3 ∈ edgesY (p ++ q) := fun r hr => ⟨(y2 _).2 ⟨r, List.mem_append.2 hr, .inl rfl⟩, (y2 _).2 ⟨r, List.mem_append.2 hr, .inr rfl⟩⟩
    have hw : ∀ r, r ∈ p ∨ r ∈ q → W r := fun r hr => hall r (List.mem_append.2 hr)
    refine fin_more _ _ _ y1 Y1 (fun y hy => ?_) (fun a b hab hE => ?_) (fun y hE => ?_) (fun y hE => ?_) (fun y hy => (Y3 y hy).1)
    · obtain ⟨r, hr, h1⟩ := (y2 y).1 hy
      exact (Y2 y).2 ⟨r, hsub r (List.mem_append.1 hr), h1⟩
    · refine row_same p q a b hp hq (by omega) (by omega) fun r hr x => ?_
      have h1 := hE _ (mem r hr).1
      have h2 := hE _ (mem r hr).2
      unfold has
      omega
    · refine row_none p q y hp hq (by omega) (by omega) fun r hr x hx => ?_
      have h1 := hE _ (mem r (.inl hr)).1
      unfold has at hx
      omega
    · refine row_none p q y hp hq (by omega) (by omega) fun r hr x hx => ?_
      have h1 := hE _ (mem r (.inl hr)).2
      unfold has at hx
      omega
  refine ⟨Fin (rowAt p q) (edgesY (p ++ q)), ?_, ?_, rfl, ?_⟩
  · unfold T41
    rw [both_ok p q (by omega) (by omega), Option.bind_some, e1, Option.bind_some, e2]
    unfold sortIO compIO
    rw [if_pos (by rw [eY_len]; omega), Option.bind_some, Option.bind_some]
    unfold edgesY at u1 u2
    rw [u1, Option.bind_some, u2]
    rfl
  · unfold G
    rw [xs_ok _ (by omega), Option.bind_some, ys_ok _ (by omega), Option.bind_some]
    have e1 : iter (G5 h) (Lib.compact (sortI (eX P)), Lib.compact (sortI (eY P)), [], [], 0) = some v := v1
    rw [e1, Option.bind_some, appO_big (by omega) (by omega), Option.bind_some, v2, hmore]
  · have := Fin_len (rowAt p q) (edgesY (p ++ q)) hR y3
    exact Nat.le_trans this (Nat.mul_le_mul_right _ (by omega))
end Go.Abs.TU

set_option linter.unusedVariables false
set_option linter.unusedSimpArgs false
set_option maxRecDepth 10000
namespace Go.Abs.TU
open Go.RowKit Go.Proofs Go.Abs
def inB (a b c : Int) : Bool := leI b a && leI a c
theorem t32 (a b c : Int) : T53 a b c = some (inB a b c) := by
  unfold T53 inB
  cases leI b a <;> cases leI a c <;> rfl
/-! Which rectangle holds a place. -/
theorem t262 (r : S25) (x y : Int) (hw : W r) : ∃ b, T54 r x y = some b ∧ (b = true ↔ has r x y) := by
  have he := w_edge hw
  unfold W at hw
  unfold T54
  rw [he.1, he.2, subI_eq (by omega) (by omega), subI_eq (by omega) (by omega), t32, t32]
  simp only [Option.bind_some]
  unfold inB leI has
  cases h : (decide (r.f0 ≤ x) && decide (x ≤ r.f0 + r.f2 - 1)) with
  | true =>
    refine ⟨_, rfl, ?_⟩
    simp only [Bool.and_eq_true, decide_eq_true_eq] at h ⊢
    omega
  | false =>
    refine ⟨false, rfl, ?_⟩
    have : ¬ (r.f0 ≤ x ∧ x ≤ r.f0 + r.f2 - 1) := fun hh => by
      rw [decide_eq_true hh.1, decide_eq_true hh.2] at h
      cases h
    simp only [Bool.false_eq_true, false_iff]
    omega
theorem t217 (l : List S25) (x y : Int) (hw : ∀ r ∈ l, W r) (hl : l.length ≤ 1000000) : ∃ b, T74 l x y = some b ∧ (b = true ↔ hasL l x y) := by
  obtain ⟨r, h1, h2⟩ : ∃ r, iter (L106_2 l x y) 0 = some r ∧ ((r.isLeft = true ∧ ¬ hasL l x y) ∨ ((∃ i : Nat, r = .inr (i : Int)) ∧ hasL l x y)) := by
    refine iter_upx (st := L106_2 l x y) (fun (_ : Unit) i => (i : Int)) l.length (fun i _ => ¬ upto l i fun r => has r x y) (fun r => (r.isLeft = true ∧ ¬ hasL l x y) ∨ ((∃ i : Nat, r = .inr (i : Int)) ∧ hasL l x y)) ?_ ?_ 0 () (Nat.zero_le _) (upto_zero _ _)
    · intro i _ hi hinv
      obtain ⟨r, hr⟩ : ∃ r, l[i]? = some r := ⟨_, List.getElem?_eq_getElem hi⟩
      obtain ⟨b, b1, b2⟩ := t262 r x y (hw r (List.mem_of_getElem? hr))
      simp only [L106_2, T91, ltL_true hi, listAt_some hr, cond_true, Option.bind_some, nextI (show i < 9223372036854775807 by omega), b1]
      cases b with
      | true => exact .inr ⟨_, rfl, .inr ⟨⟨i, rfl⟩, r, List.mem_of_getElem? hr, b2.1 rfl⟩⟩
      | false =>
        refine .inl ⟨(), rfl, fun h => ?_⟩
        rcases (upto_succ _ hr).1 h with h | h
        · exact hinv h
        · have := b2.2 h
          cases this
    · intro _ hinv
      simp only [L106_2, ltL_false (Nat.le_refl _), cond_false]
      exact ⟨_, rfl, .inl ⟨rfl, fun h => hinv ((upto_len _).2 h)⟩⟩
  unfold T74 T90 T106
  rw [h1, Option.bind_some]
  rcases h2 with ⟨h2, h3⟩ | ⟨⟨i, h2⟩, h3⟩
  · cases r with
    | inl z => exact ⟨false, rfl, by simp [h3]⟩
    | inr z => cases h2
  · subst h2
    refine ⟨leI 0 (i : Int), rfl, ?_⟩
    rw [leI_iff, decide_eq_true (show (0 : Int) ≤ i by omega)]
    simp [h3]
theorem h219 (p q : List S25) (hp : ∀ r ∈ p, W r) (hq : ∀ r ∈ q, W r) (lp : p.length ≤ 2000) (lq : q.length ≤ 2000) (x y : Int) : ∃ b, T73 x y p q = some b ∧ (b = true ↔ hasL p x y ∧ ¬ hasL q x y) := by
  obtain ⟨b, h1, h2⟩ := t217 p x y hp (by omega)
  obtain ⟨c, h3, h4⟩ := t217 q x y hq (by omega)
  unfold T73
  rw [h1, Option.bind_some, h3, Option.bind_some, ← h2, ← h4]
  cases b <;> cases c <;> exact ⟨_, rfl, by simp⟩
end Go.Abs.TU

set_option linter.unusedVariables false
set_option linter.unusedSimpArgs false
set_option maxRecDepth 10000
namespace Go.Abs.TU
open Go.RowKit Go.Proofs Go.Abs
theorem t37 (a b c : Int) : T64 a b c = some (!inB a b c) := by
  unfold T64 inB ltI leI
  by_cases h1 : a < b
  · have : ¬ b ≤ a := by omega
    simp [h1, this]
  · have : b ≤ a := by omega
    by_cases h2 : c < a
    · have h3 : ¬ a ≤ c := by omega
      simp [h1, h2, this, h3]
    · have h3 : a ≤ c := by omega
      simp [h1, h2, this, h3]
def good (r : S25) : Bool := inB r.f0 (-100000) 100000 && inB r.f1 (-100000) 100000 && inB r.f2 1 (subI .i64 100000 r.f0) && inB r.f3 1 (subI .i64 100000 r.f1)
theorem t35 (r : S25) : T43 r = some (bif good r then 0 else 1) := by
  unfold T43 good
  simp only [t37, Option.bind_some]
  cases inB r.f0 (-100000) 100000 <;> cases inB r.f1 (-100000) 100000 <;> cases inB r.f2 1 (subI .i64 100000 r.f0) <;> cases inB r.f3 1 (subI .i64 100000 r.f1) <;> rfl
theorem t30 (r : S25) : T19 r = some (bif good r then 0 else 1) := by
  unfold T19 good
  simp only [t32, Option.bind_some]
  cases inB r.f0 (-100000) 100000 <;> cases inB r.f1 (-100000) 100000 <;> cases inB r.f2 1 (subI .i64 100000 r.f0) <;> cases inB r.f3 1 (subI .i64 100000 r.f1) <;> rfl
theorem neI_code (b : Bool) : neI (bif b then (0 : Int) else 1) 0 = !b := by cases b <;> rfl
theorem good_W {r : S25} (h : good r = true) : W r := by
  unfold good inB leI at h
  simp only [Bool.and_eq_true, decide_eq_true_eq] at h
  obtain ⟨⟨⟨⟨h1, h2⟩, h3, h4⟩, h5, h6⟩, h7, h8⟩ := h
  rw [subI_eq (by omega) (by omega)] at h6 h8
  unfold W
  omega
def side (a : Int) : Bool := inB a 1 20000
theorem t46 (a : Int) : T72 a = some (side a) := by
  unfold T72
  rw [t37, Option.bind_some, Bool.not_not]
  rfl
theorem t29 (a : Int) : T47 a = some (side a) := by
  unfold T47
  rw [t32, Option.bind_some]
  rfl
theorem t34 (a b : Int) : T51 [a, b] = some (bif side a && side b then 0 else 1) := by
  unfold T51
  have hlt2 : ltI 2 (lenL [a, b]) = false := rfl
  have n0 : addI .i64 0 1 = 1 := by decide
  have n1 : addI .i64 1 1 = 2 := by decide
  have a0 : listAt [a, b] 0 = some a := rfl
  have a1 : listAt [a, b] 1 = some b := rfl
  have h0 : L51_2 [a, b] 0 = bif side a then some (.inl 1) else some (.inr (.inr ())) := by
    simp only [L51_2, show ltI 0 (lenL [a, b]) = true from rfl, a0, cond_true, Option.bind_some, t46, n0]
    cases side a <;> rfl
  have h1 : L51_2 [a, b] 1 = bif side b then some (.inl 2) else some (.inr (.inr ())) := by
    simp only [L51_2, show ltI 1 (lenL [a, b]) = true from rfl, a1, cond_true, Option.bind_some, t46, n1]
    cases side b <;> rfl
  have h2 : L51_2 [a, b] 2 = some (.inr (.inl (2, false))) := by simp only [L51_2, hlt2, cond_false]
  cases ha : side a with
  | false => rw [ha] at h0; rw [iter_inr h0]; rfl
  | true =>
    rw [ha] at h0
    rw [iter_inl h0]
    cases hb : side b with
    | false => rw [hb] at h1; rw [iter_inr h1]; rfl
    | true => rw [hb] at h1; rw [iter_inl h1, iter_inr h2]; rfl
def ins (r : S25) (w h : Int) : Bool := leI 0 r.f0 && (leI 0 r.f1 && (leI (addI .i64 r.f0 r.f2) w && leI (addI .i64 r.f1 r.f3) h))
theorem t36 (r : S25) (w h : Int) : T52 r w h = some (ins r w h) := by
  unfold T52 ins
  cases leI 0 r.f0 <;> cases leI 0 r.f1 <;> cases leI (addI .i64 r.f0 r.f2) w <;> rfl
theorem t31 (r : S25) (w h : Int) : T48 r w h = some (ins r w h) := by
  unfold T48 ins
  cases leI 0 r.f0 <;> cases leI 0 r.f1 <;> cases leI (addI .i64 r.f0 r.f2) w <;> rfl
theorem t24 (r : S25) (x y : Int) (hw : W r) : ∃ b, T39 r x y = some b ∧ (b = true ↔ has r x y) := by
  have he := w_edge hw
  unfold T39 has
  rw [he.1, he.2]
  by_cases c1 : r.f0 ≤ x
  · rw [show leI r.f0 x = true from decide_eq_true c1]
    by_cases c2 : x < r.f0 + r.f2
    · rw [show ltI x (r.f0 + r.f2) = true from decide_eq_true c2]
      by_cases c3 : r.f1 ≤ y
      · rw [show leI r.f1 y = true from decide_eq_true c3]
        refine ⟨_, rfl, ?_⟩
        rw [ltI_iff, decide_eq_true_eq]
        exact ⟨fun h => ⟨c1, c2, c3, h⟩, fun h => h.2.2.2⟩
      · rw [show leI r.f1 y = false from decide_eq_false c3]
        exact ⟨false, rfl, by simp [c3]⟩
    · rw [show ltI x (r.f0 + r.f2) = false from decide_eq_false c2]
      exact ⟨false, rfl, by simp [c2]⟩
  · rw [show leI r.f0 x = false from decide_eq_false c1]
    exact ⟨false, rfl, by simp [c1]⟩
theorem eqB_self (a : ByteArray) : eqB a a = true := by
  show (a.data == a.data) = true
  exact beq_self_eq_true a.data
theorem neI_self (a : Int) : neI a a = false := by rw [neI_iff]; simp
theorem same_all {α : Type} {st : Int → Option (Int ⊕ ((Int × Bool) ⊕ Unit))} (l : List α) (hl : l.length ≤ 2000000000000)
    (h1 : ∀ (i : Nat) x, i < l.length → l[i]? = some x → st (i : Int) = some (.inl ((i + 1 : Nat) : Int))) (h2 : ∃ y, st (l.length : Int) = some (.inr (.inl y))) : ∃ y, iter st 0 = some (.inl y) := by
  obtain ⟨r, r1, r2⟩ : ∃ r, iter st 0 = some r ∧ r.isLeft = true := by
    refine iter_up (st := st) (fun (_ : Unit) i => (i : Int)) l.length (fun _ _ => True) (fun r => r.isLeft = true) ?_ ?_ () trivial
    · intro i _ hi _
      obtain ⟨x, hx⟩ : ∃ r, l[i]? = some r := ⟨_, List.getElem?_eq_getElem hi⟩
      exact ⟨(), h1 i x hi hx, trivial⟩
    · intro _ _
      obtain ⟨y, hy⟩ := h2
      exact ⟨_, hy, rfl⟩
  cases r with
  | inl y => exact ⟨y, r1⟩
  | inr y => cases r2
theorem t13 (a b : Int) : T17 [a, b] = some (if a = 0 then b else a) := by
  unfold T17
  have hlt2 : ltI 2 (lenL [a, b]) = false := rfl
  have n0 : addI .i64 0 1 = 1 := by decide
  have n1 : addI .i64 1 1 = 2 := by decide
  have a0 : listAt [a, b] 0 = some a := rfl
  have a1 : listAt [a, b] 1 = some b := rfl
  by_cases ha : a = 0
  · rw [if_pos ha]
    have e0 : neI a 0 = false := by rw [neI_iff, decide_eq_true ha]; rfl
    have h0 : L17_2 [a, b] 0 = some (.inl 1) := by simp only [L17_2, show ltI 0 (lenL [a, b]) = true from rfl, a0, cond_true, Option.bind_some, e0, cond_false, n0]
    rw [iter_inl h0]
    by_cases hb : b = 0
    · have e1 : neI b 0 = false := by rw [neI_iff, decide_eq_true hb]; rfl
      have h1 : L17_2 [a, b] 1 = some (.inl 2) := by simp only [L17_2, show ltI 1 (lenL [a, b]) = true from rfl, a1, cond_true, Option.bind_some, e1, cond_false, n1]
      have h2 : L17_2 [a, b] 2 = some (.inr (.inl (2, false))) := by simp only [L17_2, hlt2, cond_false]
      rw [iter_inl h1, iter_inr h2, hb]
      rfl
    · have e1 : neI b 0 = true := by rw [neI_iff, decide_eq_false hb]; rfl
      have h1 : L17_2 [a, b] 1 = some (.inr (.inr b)) := by simp only [L17_2, show ltI 1 (lenL [a, b]) = true from rfl, a1, cond_true, Option.bind_some, e1]
      rw [iter_inr h1]
      rfl
  · rw [if_neg ha]
    have e0 : neI a 0 = true := by rw [neI_iff, decide_eq_false ha]; rfl
    have h0 : L17_2 [a, b] 0 = some (.inr (.inr a)) := by simp only [L17_2, show ltI 0 (lenL [a, b]) = true from rfl, a0, cond_true, Option.bind_some, e0]
    rw [iter_inr h0]
    rfl
def spot (x y : Int) : Bool := inB x (-100000) 100000 && inB y (-100000) 100000
theorem t23 (x y : Int) : T38 x y = some (bif spot x y then 0 else 1) := by
  unfold T38 spot
  simp only [t37, Option.bind_some]
  cases inB x (-100000) 100000 <;> cases inB y (-100000) 100000 <;> rfl
end Go.Abs.TU

set_option linter.unusedVariables false
set_option linter.unusedSimpArgs false
set_option maxRecDepth 10000
namespace Go.Abs.TU
open Go.RowKit Go.Proofs Go.Abs
/-! Faults of a wall. -/
def Prev {α : Type} (l : List α) (k : α → ByteArray) (i : Nat) (s : ByteArray) : Prop := (i = 0 ∧ s = ByteArray.mk #[]) ∨ ∃ x, 0 < i ∧ l[i - 1]? = some x ∧ s = k x
def screenF (w h : Int) (_ : Nat) (last : ByteArray) (z : S37) : ByteArray ⊕ Int :=
  bif !key z.f0 then .inr 5 else bif !good z.f1 then .inr 1 else bif !ins z.f1 w h then .inr 3 else bif leS z.f0 last then .inr 7 else .inl z.f0
theorem screenF_inl {w h : Int} {i : Nat} {u s : ByteArray} {z : S37} (hf : screenF w h i u z = .inl s) : key z.f0 = true ∧ good z.f1 = true ∧ s = z.f0 := by
  unfold screenF at hf
  cases h1 : key z.f0 <;> rw [h1] at hf
  · cases hf
  cases h2 : good z.f1 <;> rw [h2] at hf
  · cases hf
  cases h3 : ins z.f1 w h <;> rw [h3] at hf
  · cases hf
  cases h5 : leS z.f0 u <;> rw [h5] at hf
  · exact ⟨rfl, rfl, (Sum.inl.inj hf).symm⟩
  · cases hf
theorem screenF_inr {w h : Int} {i : Nat} {u : ByteArray} {z : S37} {r : Int} (hf : screenF w h i u z = .inr r) : r ≠ 0 := by
  unfold screenF at hf
  cases h1 : key z.f0 <;> rw [h1] at hf
  · cases hf; decide
  cases h2 : good z.f1 <;> rw [h2] at hf
  · cases hf; decide
  cases h3 : ins z.f1 w h <;> rw [h3] at hf
  · cases hf; decide
  cases h5 : leS z.f0 u <;> rw [h5] at hf
  · cases hf
  · cases hf; decide
theorem meet_same : T49 = T44 := rfl
theorem meet_some (p q : S25) : ∃ v, T44 p q = some v := by
  unfold T44
  cases leI (subI .i64 (minI (addI .i64 p.f0 p.f2) (addI .i64 q.f0 q.f2)) (maxI p.f0 q.f0)) 0
  · cases leI (subI .i64 (minI (addI .i64 p.f1 p.f3) (addI .i64 q.f1 q.f3)) (maxI p.f1 q.f1)) 0
    · exact ⟨_, rfl⟩
    · exact ⟨_, rfl⟩
  · exact ⟨_, rfl⟩
theorem over_same : L15_23 = L16_22 := rfl
theorem over_in (l : S23) (z1 : Int) (x9 : S37) (x10 : List S37) (hl : x10.length ≤ 1048576) : ∃ y, iter (L16_25 l z1 x9 x10) 0 = some y := by
  obtain ⟨r, h, _⟩ := iter_upx (st := L16_25 l z1 x9 x10) (fun (_ : Unit) i => (i : Int)) x10.length (fun _ _ => True) (fun _ => True) (fun i _ hi _ => by
    obtain ⟨z, hz⟩ : ∃ r, x10[i]? = some r := ⟨_, List.getElem?_eq_getElem hi⟩
    obtain ⟨v, hv⟩ := meet_some x9.f1 z.f1
    simp only [L16_25, ltL_true hi, listAt_some hz, cond_true, Option.bind_some, nextI (show i < 9223372036854775807 by omega), hv]
    cases v.2 with
    | true => exact .inr ⟨_, rfl, trivial⟩
    | false => exact .inl ⟨(), rfl, trivial⟩) (fun _ _ => by
    simp only [L16_25, ltL_false (Nat.le_refl _), cond_false]
    exact ⟨_, rfl, trivial⟩) 0 () (Nat.zero_le _) trivial
  exact ⟨r, h⟩
theorem cutL_take (l : List S37) (i : Nat) (h : i ≤ l.length) : ∃ m, cutL l none (some (i : Int)) = some m ∧ m.length ≤ l.length := by
  have h1 : (0 : Int) ≤ (i : Int) ∧ (i : Int) ≤ (l.length : Int) := by omega
  have e : cutL l none (some (i : Int)) = some ((l.take i).drop 0) := by
    unfold cutL cutB
    simp only [if_pos h1, Option.bind_some, Option.map_some, Int.toNat_natCast]
  refine ⟨_, e, ?_⟩
  rw [List.drop_zero, List.length_take]
  omega
theorem over_some (l : S23) (hl : l.f3.length ≤ 1048576) : ∃ y, iter (L16_22 l) 0 = some y := by
  obtain ⟨r, h, _⟩ := iter_upx (st := L16_22 l) (fun (_ : Unit) i => (i : Int)) l.f3.length (fun _ _ => True) (fun _ => True) (fun i _ hi _ => by
    obtain ⟨z, hz⟩ : ∃ r, l.f3[i]? = some r := ⟨_, List.getElem?_eq_getElem hi⟩
    obtain ⟨m, m1, m2⟩ := cutL_take l.f3 i (by omega)
    obtain ⟨v, hv⟩ := over_in l (i : Int) z m (by omega)
    simp only [L16_22, ltL_true hi, listAt_some hz, cond_true, Option.bind_some, nextI (show i < 9223372036854775807 by omega), m1, hv]
    cases v with
    | inr y => exact .inr ⟨_, rfl, trivial⟩
    | inl y => exact .inl ⟨(), rfl, trivial⟩) (fun _ _ => by
    simp only [L16_22, ltL_false (Nat.le_refl _), cond_false]
    exact ⟨_, rfl, trivial⟩) 0 () (Nat.zero_le _) trivial
  exact ⟨r, h⟩
/-- Whether two screens meet. -/
noncomputable def overF (l : S23) : Int := Sum.elim (fun _ => 0) (fun _ => 13) ((iter (L16_22 l) 0).getD (.inl (0, false)))
noncomputable def faultW (l : S23) : Int := bif !key l.f0 then 5 else bif !(side l.f1 && side l.f2) then 1 else bif ltI 50 (lenL l.f3) then 2 else Sum.elim (fun _ => overF l) id (wp (screenF l.f1 l.f2) 0 (ByteArray.mk #[]) l.f3)
theorem T16_eq (l : S23) (hl : ok23 1048576 l) : T16 l = some (faultW l) := by
  obtain ⟨q1, q2, q3, q4, q5⟩ := hl
  have hi : iter (L16_9 l) ((0 : Nat) : Int) = some (Sum.elim (fun _ => .inl ((l.f3.length : Int), false)) (fun r => .inr r) (wp (screenF l.f1 l.f2) 0 (ByteArray.mk #[]) l.f3)) := by
    refine iter_wp (fun _ i => (i : Int)) _ _ l.f3 (screenF l.f1 l.f2) (Prev l.f3 S37.f0) (fun i u x hx hI => ?_) (fun u _ => ?_) _ (.inl ⟨rfl, rfl⟩)
    · have hlt : i < l.f3.length := (List.getElem?_eq_some_iff.1 hx).1
      obtain ⟨k1, _⟩ := q5 x (List.mem_of_getElem? hx)
      have h3 := T50_eq x.f0 k1
      refine ⟨?_, fun s' hf => ?_⟩
      · simp only [L16_9, ltL_true hlt, cond_true, listAt_some hx, Option.bind_some, h3, nextI (show i < 9223372036854775807 by omega), screenF, t35, t36, neI_code]
        cases hk : key x.f0 with
        | false => rfl
        | true =>
          simp only [Bool.not_true, cond_false]
          rcases hI with ⟨rfl, rfl⟩ | ⟨y, hi0, hy, hu⟩
          · have h4 : ltI 0 ((0 : Nat) : Int) = false := rfl
            rw [h4, leS_empty (key_pos hk)]
            simp only [cond_false]
            cases good x.f1 <;> cases ins x.f1 l.f1 l.f2 <;> rfl
          · have h4 : ltI 0 (i : Int) = true := by rw [ltI_iff]; simp; omega
            have h5 : subI .i64 (i : Int) 1 = ((i - 1 : Nat) : Int) := by rw [subI_eq (by omega) (by omega)]; omega
            rw [h4, h5, listAt_some hy, hu]
            simp only [cond_true, Option.bind_some, leS]
            cases good x.f1 <;> cases ins x.f1 l.f1 l.f2 <;> cases (ltS x.f0 y.f0 || eqS x.f0 y.f0) <;> rfl
      · exact .inr ⟨x, by omega, by simpa using hx, (screenF_inl hf).2.2⟩
    · simp only [L16_9, ltL_false (Nat.le_refl _), cond_false]
  obtain ⟨v, hv⟩ := over_some l q4
  unfold T16 faultW overF
  rw [T50_eq _ q1, Option.bind_some, t34, Option.bind_some, hv, show (0 : Int) = ((0 : Nat) : Int) from rfl, hi]
  cases key l.f0 <;> cases side l.f1 <;> cases side l.f2 <;> cases ltI 50 (lenL l.f3) <;> cases wp (screenF l.f1 l.f2) 0 (ByteArray.mk #[]) l.f3 <;> cases v <;> rfl
theorem T15_eq (l : S23) (hl : ok23 1048576 l) : T15 l = some (faultW l) := by
  obtain ⟨q1, q2, q3, q4, q5⟩ := hl
  have hi : iter (L15_9 l) (ByteArray.mk #[], ((0 : Nat) : Int)) = some (Sum.elim (fun s => .inl (s, (l.f3.length : Int), false)) (fun r => .inr r) (wp (screenF l.f1 l.f2) 0 (ByteArray.mk #[]) l.f3)) := by
    refine iter_wp (fun s i => (s, (i : Int))) _ _ l.f3 (screenF l.f1 l.f2) (fun _ _ => True) (fun i u x hx _ => ⟨?_, fun _ _ => trivial⟩) (fun u _ => ?_) _ trivial
    · have hlt : i < l.f3.length := (List.getElem?_eq_some_iff.1 hx).1
      obtain ⟨k1, _⟩ := q5 x (List.mem_of_getElem? hx)
      have h3 := T46_eq x.f0 k1
      simp only [L15_9, ltL_true hlt, cond_true, listAt_some hx, Option.bind_some, h3, nextI (show i < 9223372036854775807 by omega), screenF, t30, t31, neI_code, leS]
      cases key x.f0 <;> cases good x.f1 <;> cases ins x.f1 l.f1 l.f2 <;> cases (ltS x.f0 u || eqS x.f0 u) <;> rfl
    · simp only [L15_9, ltL_false (Nat.le_refl _), cond_false]
  obtain ⟨v, hv⟩ := over_some l q4
  unfold T15 faultW overF
  rw [T46_eq _ q1, Option.bind_some, t29, Option.bind_some, t29, Option.bind_some, over_same, hv, show (0 : Int) = ((0 : Nat) : Int) from rfl, hi]
  cases key l.f0 <;> cases side l.f1 <;> cases side l.f2 <;> cases ltI 50 (lenL l.f3) <;> cases wp (screenF l.f1 l.f2) 0 (ByteArray.mk #[]) l.f3 <;> cases v <;> rfl
theorem wp_screens (w h : Int) : ∀ (l : List S37) (i : Nat) (u : ByteArray), (∀ r, wp (screenF w h) i u l = .inr r → r ≠ 0) ∧ ∀ s, wp (screenF w h) i u l = .inl s → (∀ z ∈ l, good z.f1 = true)
  | [], i, u => ⟨fun r h => (by cases h), fun s _ => by simp⟩
  | z :: l, i, u => by
    unfold wp
    cases hf : screenF w h i u z with
    | inr r => exact ⟨fun r' h => (by cases h; exact screenF_inr hf), fun s h => (by cases h)⟩
    | inl v =>
      obtain ⟨h1, h2, h4⟩ := screenF_inl hf
      subst h4
      obtain ⟨g1, g2⟩ := wp_screens w h l (i + 1) z.f0
      refine ⟨fun r h => g1 r h, fun s h => ?_⟩
      have g3 := g2 s h
      intro y hy
      rcases List.mem_cons.1 hy with e | e
      · subst e
        exact h2
      · exact g3 y e
/-- What a right wall is. -/
structure RightW (l : S23) : Prop where
  few : l.f3.length ≤ 50
  rects : ∀ z ∈ l.f3, W z.f1
  side : 1 ≤ l.f1 ∧ l.f1 ≤ 20000 ∧ 1 ≤ l.f2 ∧ l.f2 ≤ 20000
theorem right_w {l : S23} (h : faultW l = 0) : RightW l := by
  unfold faultW at h
  cases h1 : key l.f0 <;> rw [h1] at h
  · cases h
  simp only [Bool.not_true, cond_false] at h
  cases h2 : (side l.f1 && side l.f2) <;> rw [h2] at h
  · cases h
  simp only [Bool.not_true, cond_false] at h
  cases h3 : ltI 50 (lenL l.f3) <;> rw [h3] at h
  · simp only [cond_false] at h
    obtain ⟨g1, g2⟩ := wp_screens l.f1 l.f2 l.f3 0 (ByteArray.mk #[])
    cases h4 : wp (screenF l.f1 l.f2) 0 (ByteArray.mk #[]) l.f3 with
    | inr r =>
      rw [h4] at h
      exact absurd h (g1 r h4)
    | inl s =>
      have g3 := g2 s h4
      refine ⟨?_, fun z hz => good_W (g3 z hz), ?_⟩
      · rw [ltI_iff, lenL_eq] at h3
        have := of_decide_eq_false h3
        omega
      · unfold side inB leI at h2
        simp only [Bool.and_eq_true, decide_eq_true_eq] at h2
        omega
  · cases h
theorem rects_ok (l : S23) (hl : RightW l) : T42 l = some (l.f3.map (·.f1)) ∧ T56 l = some (l.f3.map (·.f1)) := by
  have hfew := hl.few
  constructor
  · obtain ⟨u, u1, u2⟩ : ∃ r, iter (L42_3 l) ([], 0) = some r ∧ r.2.2 = l.f3.map (·.f1) := by
      refine iter_up (st := L42_3 l) (fun (s : List S25) i => (s, (i : Int))) l.f3.length (fun i s => s = (l.f3.take i).map (·.f1)) (fun r => r.2.2 = l.f3.map (·.f1)) ?_ ?_ [] rfl
      · intro i s hi hs
        obtain ⟨z, hz⟩ : ∃ r, l.f3[i]? = some r := ⟨_, List.getElem?_eq_getElem hi⟩
        have hlen : s.length ≤ 50 := by rw [hs, List.length_map, List.length_take]; omega
        simp only [L42_3, ltL_true hi, listAt_some hz, cond_true, Option.bind_some, nextI (show i < 9223372036854775807 by omega)]
        rw [appO_big (by omega) (by simp only [List.length_cons, List.length_nil]; omega)]
        refine ⟨_, rfl, ?_⟩
        rw [hs, take_next hz, List.map_append]
        rfl
      · intro s hs
        simp only [L42_3, ltL_false (Nat.le_refl _), cond_false]
        refine ⟨_, rfl, ?_⟩
        rw [hs, List.take_length]
    unfold T42
    rw [u1, Option.bind_some, u2]
  · obtain ⟨u, u1, u2⟩ : ∃ r, iter (L56_3 l) ([], 0) = some r ∧ r.2.2 = l.f3.map (·.f1) := by
      refine iter_up (st := L56_3 l) (fun (s : List S25) i => (s, (i : Int))) l.f3.length (fun i s => s = (l.f3.take i).map (·.f1)) (fun r => r.2.2 = l.f3.map (·.f1)) ?_ ?_ [] rfl
      · intro i s hi hs
        obtain ⟨z, hz⟩ : ∃ r, l.f3[i]? = some r := ⟨_, List.getElem?_eq_getElem hi⟩
        have hlen : s.length ≤ 50 := by rw [hs, List.length_map, List.length_take]; omega
        simp only [L56_3, ltL_true hi, listAt_some hz, cond_true, Option.bind_some, nextI (show i < 9223372036854775807 by omega)]
        rw [appO_big (by omega) (by simp only [List.length_cons, List.length_nil]; omega)]
        refine ⟨_, rfl, ?_⟩
        rw [hs, take_next hz, List.map_append]
        rfl
      · intro s hs
        simp only [L56_3, ltL_false (Nat.le_refl _), cond_false]
        refine ⟨_, rfl, ?_⟩
        rw [hs, List.take_length]
    unfold T56
    rw [u1, Option.bind_some, u2]
theorem g60 (p l m : List S25) : T60 p l m = G p (fun x y => T73 x y l m) := rfl
/-- What is dark, both ways. -/
theorem dark_same (l : S23) (hl : RightW l) : ∃ v : List S25 × Int, ((T42 l).bind fun x2 => ((T41 ([(S25.mk 0 0 l.f1 l.f2)] : List S25) x2).bind fun x3 => ((T40 x3).bind fun x4 => (some (x4.1, x4.2))))) = some v ∧ ((T22 l).bind fun x => T21 x) = some v ∧ v.1.length ≤ 2000000000000 := by
  have hfew := hl.few
  have hside := hl.side
  obtain ⟨r1, r2⟩ := rects_ok l hl
  have hp : ∀ r ∈ ([(S25.mk 0 0 l.f1 l.f2)] : List S25), W r := by
    intro r hr
    rw [List.mem_singleton] at hr
    subst hr
    unfold W
    simp only
    omega
  have hq : ∀ r ∈ l.f3.map (·.f1), W r := fun r hr => by obtain ⟨v, h1, rfl⟩ := List.mem_map.1 hr; exact hl.rects v h1
  have hP : ∀ r ∈ [(S25.mk 0 0 l.f1 l.f2)] ++ l.f3.map (·.f1), W r := fun r hr => by
    rcases List.mem_append.1 hr with e | e
    · exact hp r e
    · exact hq r e
  have hlq : (l.f3.map (·.f1)).length ≤ 50 := by rw [List.length_map]; exact hfew
  generalize hpp : ([(S25.mk 0 0 l.f1 l.f2)] : List S25) = p at hp hP ⊢
  generalize hqq : l.f3.map (·.f1) = q at hq hP hlq r1 r2 ⊢
  have hlp : p.length = 1 := by rw [← hpp]; rfl
  have hh := h219 p q hp hq (by omega) (by omega)
  obtain ⟨o, o1, o2, _, o3⟩ := main2 p q (p ++ q) (fun x y => T73 x y p q) hp hq hP (by omega) (by omega) (by rw [List.length_append]; omega) (fun r hr => List.mem_append.2 hr) hh
  have ho : o.length ≤ 2000000000000 := by omega
  have h22 : T22 l = some o := by
    unfold T22 T55
    rw [r2, hpp, Option.bind_some, both_ok p q (by omega) (by omega), Option.bind_some, g60, o2]
    rfl
  rw [r1, Option.bind_some, o1, Option.bind_some, h22, Option.bind_some]
  obtain ⟨v, v1, v2⟩ : ∃ v : List S25 × Int, T40 o = some v ∧ v.1.length ≤ 2000000000000 := by
    unfold T40
    cases ltI 2000 (lenL o)
    · exact ⟨_, rfl, ho⟩
    · exact ⟨_, rfl, Nat.zero_le _⟩
  have e : T21 = T40 := rfl
  rw [e, v1]
  exact ⟨v, rfl, rfl, v2⟩
/-! The screen at a place. -/
open Classical in
noncomputable def atF (x y : Int) (_ : Nat) (_ : Unit) (z : S37) : Unit ⊕ ByteArray := if has z.f1 x y then .inr z.f0 else .inl ()
theorem at_prog (l : S23) (hl : RightW l) (x y : Int) : iter (L12_8 l x y) 0 = some (Sum.elim (fun _ => .inl ((l.f3.length : Int), false)) (fun r => .inr r) (wp (atF x y) 0 () l.f3)) := by
  have hfew := hl.few
  have := iter_wp (st := L12_8 l x y) (fun _ i => (i : Int)) (fun _ => .inl ((l.f3.length : Int), false)) (fun r => .inr r) l.f3 (atF x y) (fun _ _ => True) (fun i u z hz _ => ⟨?_, fun _ _ => trivial⟩) (fun u _ => ?_) () trivial
  · exact this
  · have hi : i < l.f3.length := (List.getElem?_eq_some_iff.1 hz).1
    obtain ⟨b, b1, b2⟩ := t24 z.f1 x y (hl.rects z (List.mem_of_getElem? hz))
    simp only [L12_8, ltL_true hi, listAt_some hz, cond_true, Option.bind_some, nextI (show i < 9223372036854775807 by omega), b1, atF]
    cases b with
    | true => rw [if_pos (b2.1 rfl)]; rfl
    | false => rw [if_neg fun h => by simpa using b2.2 h]; rfl
  · simp only [L12_8, ltL_false (Nat.le_refl _), cond_false]
theorem at_ref (l : S23) (hl : RightW l) (x y : Int) : iter (L20_2 l x y) 0 = some (Sum.elim (fun _ => .inl ((l.f3.length : Int), false)) (fun r => .inr r) (wp (atF x y) 0 () l.f3)) := by
  have hfew := hl.few
  have := iter_wp (st := L20_2 l x y) (fun _ i => (i : Int)) (fun _ => .inl ((l.f3.length : Int), false)) (fun r => .inr r) l.f3 (atF x y) (fun _ _ => True) (fun i u z hz _ => ⟨?_, fun _ _ => trivial⟩) (fun u _ => ?_) () trivial
  · exact this
  · have hi : i < l.f3.length := (List.getElem?_eq_some_iff.1 hz).1
    obtain ⟨b, b1, b2⟩ := t262 z.f1 x y (hl.rects z (List.mem_of_getElem? hz))
    simp only [L20_2, ltL_true hi, listAt_some hz, cond_true, Option.bind_some, nextI (show i < 9223372036854775807 by omega), b1, atF]
    cases b with
    | true => rw [if_pos (b2.1 rfl)]; rfl
    | false => rw [if_neg fun h => by simpa using b2.2 h]; rfl
  · simp only [L20_2, ltL_false (Nat.le_refl _), cond_false]
/-! Parts. -/
theorem part_same (l : S23) (r : S25) : L14_9 l r = L23_3 l r := rfl
theorem part_some (l : S23) (hl : l.f3.length ≤ 50) (r : S25) : ∃ y, iter (L23_3 l r) ([], 0) = some y ∧ y.2.2.length ≤ 50 := by
  refine iter_up (st := L23_3 l r) (fun (s : List S59) i => (s, (i : Int))) l.f3.length (fun i s => s.length ≤ i) (fun y => y.2.2.length ≤ 50) ?_ ?_ [] (Nat.le_refl _)
  · intro i s hi hs
    obtain ⟨z, hz⟩ : ∃ r, l.f3[i]? = some r := ⟨_, List.getElem?_eq_getElem hi⟩
    obtain ⟨v, hv⟩ := meet_some z.f1 r
    simp only [L23_3, ltL_true hi, listAt_some hz, cond_true, Option.bind_some, nextI (show i < 9223372036854775807 by omega), meet_same, hv]
    cases v.2 with
    | true =>
      simp only [cond_true]
      rw [appO_eq (by simp only [List.length_cons, List.length_nil]; omega) (by simp only [List.length_cons, List.length_nil]; omega)]
      exact ⟨_, rfl, by simp only [List.length_append, List.length_cons, List.length_nil]; omega⟩
    | false => exact ⟨s, rfl, by omega⟩
  · intro s hs
    simp only [L23_3, ltL_false (Nat.le_refl _), cond_false]
    exact ⟨_, rfl, by simp only; omega⟩
end Go.Abs.TU

set_option linter.unusedVariables false
set_option linter.unusedSimpArgs false
set_option maxRecDepth 10000
namespace Go.Abs.TU
open Go.RowKit Go.Proofs Go.Abs
/-! The two rectangles of 'lit'. -/
theorem lit_sort1 (x : S110) : sortO (fun x y => T88 x y) [x] = some [x] := by
  obtain ⟨l', h1, h2, _⟩ := sortO_le (fun x y => T88 x y) (fun _ _ => True) (fun _ _ => .inl trivial) (fun _ _ _ _ _ => trivial) [x] (by simp) (by
    intro a ha b hb
    simp only [List.mem_singleton] at ha hb
    subst ha; subst hb
    refine ⟨_, rfl, ?_⟩
    have : subI .i64 b.f0 b.f0 = 0 := by unfold subI; rw [Int.sub_self]; rfl
    simp [this])
  rw [h1, List.perm_singleton.1 h2]
theorem lit_sort2 : sortO (fun x y => T88 x y) [⟨0, 2⟩, ⟨1, 3⟩] = some [⟨0, 2⟩, ⟨1, 3⟩] := by
  obtain ⟨l', h1, h2, h3⟩ := sortO_key (fun x y => T88 x y) (·.f0) [⟨0, 2⟩, ⟨1, 3⟩] (by simp) (by
    intro a ha b hb
    simp only [List.mem_cons, List.not_mem_nil, or_false] at ha hb
    rcases ha with rfl | rfl <;> rcases hb with rfl | rfl <;> exact ⟨_, rfl, by decide⟩)
  rw [h1]
  congr 1
  match l', h2.length_eq with
  | [a, b], _ =>
    have ha : a ∈ [(⟨0, 2⟩ : S110), ⟨1, 3⟩] := h2.mem_iff.1 (by simp)
    have hb : b ∈ [(⟨0, 2⟩ : S110), ⟨1, 3⟩] := h2.mem_iff.1 (by simp)
    have hp := h2.countP_eq (fun x : S110 => x.f0 == 0)
    simp only [List.mem_cons, List.not_mem_nil, or_false] at ha hb
    simp only [List.pairwise_cons, List.mem_singleton, forall_eq] at h3
    rcases ha with rfl | rfl <;> rcases hb with rfl | rfl
    · simp at hp
    · rfl
    · have := h3.1
      simp at this
    · simp at hp
abbrev r0 : S25 := S25.mk 0 0 2 2
abbrev r1 : S25 := S25.mk 1 1 2 2
theorem runs_nil (y : Int) : T69 [] y = some [] := by
  unfold T69
  rw [iter_run (r := (0, false, [])) 1 (by kernel_rfl)]
  simp only [Option.bind_some]
  rw [show sortO (fun x y => T88 x y) ([] : List S110) = some [] from by simp [sortO], Option.bind_some, iter_run (r := (0, false, [], [])) 1 (by kernel_rfl)]
  rfl
theorem runs0 : T69 [r0, r1] 0 = some [⟨0, 2⟩] := by
  unfold T69
  rw [iter_run (r := (2, false, [⟨0, 2⟩])) 3 (by kernel_rfl)]
  simp only [Option.bind_some]
  rw [lit_sort1, Option.bind_some, iter_run (r := (1, false, [⟨0, 2⟩], [⟨0, 2⟩])) 2 (by kernel_rfl)]
  rfl
theorem runs1 : T69 [r0, r1] 1 = some [⟨0, 3⟩] := by
  unfold T69
  rw [iter_run (r := (2, false, [⟨0, 2⟩, ⟨1, 3⟩])) 3 (by kernel_rfl)]
  simp only [Option.bind_some]
  rw [lit_sort2, Option.bind_some, iter_run (r := (2, false, [⟨0, 3⟩], [⟨0, 2⟩, ⟨1, 3⟩])) 3 (by kernel_rfl)]
  rfl
theorem runs2 : T69 [r0, r1] 2 = some [⟨1, 3⟩] := by
  unfold T69
  rw [iter_run (r := (2, false, [⟨1, 3⟩])) 3 (by kernel_rfl)]
  simp only [Option.bind_some]
  rw [lit_sort1, Option.bind_some, iter_run (r := (1, false, [⟨1, 3⟩], [⟨1, 3⟩])) 2 (by kernel_rfl)]
  rfl
theorem less_nil (x : S110) (hx : ltI x.f0 x.f1 = true) : T68 [x] [] = some [x] := by
  have h : L68_4 [x] [] ([], 0, 0) = some (.inl ([x], 0, 1)) := by
    unfold L68_4
    have e1 : ltI ((([], 0, 0) : List S110 × Int × Int).2.2) (lenL [x]) = true := rfl
    have e2 : listAt [x] ((([], 0, 0) : List S110 × Int × Int).2.2) = some x := rfl
    rw [e1, e2]
    simp only [cond_true, Option.bind_some]
    rw [iter_run (r := (0, false)) 1 (by kernel_rfl), Option.bind_some, iter_run (r := (0, false, [], x.f0)) 1 (by kernel_rfl)]
    simp only [Option.bind_some, hx, cond_true]
    rfl
  unfold T68
  rw [iter_inl h, iter_inr (r := (0, 1, false, [x])) (by kernel_rfl)]
  rfl
theorem same_no (a b : S110) (h : allB [eqI a.f0 b.f0, eqI a.f1 b.f1] = false) : T70 [a] [b] = some false := by
  unfold T70
  rw [iter_inr (r := .inr ()) (by
    unfold L70_4
    have e1 : ltI 0 (lenL [a]) = true := rfl
    have e2 : listAt [a] 0 = some a := rfl
    have e3 : listAt [b] 0 = some b := rfl
    rw [e1, e2, e3]
    simp only [cond_true, Option.bind_some, h, Bool.not_false])]
  rfl
theorem lit_region : T41 [r0, r1] [] = some [⟨0, 0, 2, 1⟩, ⟨0, 1, 3, 1⟩, ⟨1, 2, 2, 1⟩] := by
  unfold T41 T65
  rw [iter_run (r := (2, 2, false)) 3 (by kernel_rfl)]
  simp only [Option.bind_some]
  rw [show growO S25 32 2 = some [] by unfold growO; rw [if_pos (by decide)], Option.bind_some, iter_run (r := (2, false, [r0, r1])) 3 (by kernel_rfl)]
  simp only [Option.bind_some]
  rw [iter_run (r := (2, false, [0, 2, 1, 3], [r0, r1])) 3 (by kernel_rfl)]
  simp only [Option.bind_some]
  rw [show sortIO [0, 2, 1, 3] = some [0, 1, 2, 3] by
    unfold sortIO
    rw [if_pos (by simp), sortI_of (l' := [0, 1, 2, 3]) (by decide) (by decide)]]
  simp only [Option.bind_some]
  rw [show compIO [0, 1, 2, 3] = some [0, 1, 2, 3] by decide]
  simp only [Option.bind_some]
  have s0 : L41_13 [r0, r1] [] [0, 1, 2, 3] ([0, 1, 2, 3], [], [], 0, 0) = some (.inl ([0, 1, 2, 3], [], [⟨0, 2⟩], 0, 1)) := by
    unfold L41_13
    rw [show ltI ((([0, 1, 2, 3], [], [], 0, 0) : List Int × List S25 × List S110 × Int × Int).2.2.2.2) (lenL ([0, 1, 2, 3] : List Int)) = true by decide]
    simp only [cond_true]
    rw [show idxO (List.length ([0, 1, 2, 3] : List Int)) 0 = some 0 by decide]
    simp only [Option.bind_some]
    rw [show getN ([0, 1, 2, 3] : List Int) 0 = some 0 by decide]
    simp only [Option.bind_some]
    rw [show ltI (addI .i64 0 1) (lenL ([0, 1, 2, 3] : List Int)) = true by decide]
    simp only [cond_true]
    rw [runs0, runs_nil]
    simp only [Option.bind_some]
    rw [less_nil ⟨0, 2⟩ (by decide)]
    simp only [Option.bind_some]
    rw [show T70 [] [⟨0, 2⟩] = some false by unfold T70; rfl]
    simp only [Option.bind_some, cond_false]
    rw [iter_run (r := (0, false, [0, 1, 2, 3], [])) 1 (by kernel_rfl)]
    rfl
  have s1 : L41_13 [r0, r1] [] [0, 1, 2, 3] ([0, 1, 2, 3], [], [⟨0, 2⟩], 0, 1) = some (.inl ([0, 1, 2, 3], [⟨0, 0, 2, 1⟩], [⟨0, 3⟩], 1, 2)) := by
    unfold L41_13
    rw [show ltI ((([0, 1, 2, 3], [], [⟨0, 2⟩], 0, 1) : List Int × List S25 × List S110 × Int × Int).2.2.2.2) (lenL ([0, 1, 2, 3] : List Int)) = true by decide]
    simp only [cond_true]
    rw [show idxO (List.length ([0, 1, 2, 3] : List Int)) 1 = some 1 by decide]
    simp only [Option.bind_some]
    rw [show getN ([0, 1, 2, 3] : List Int) 1 = some 1 by decide]
    simp only [Option.bind_some]
    rw [show ltI (addI .i64 1 1) (lenL ([0, 1, 2, 3] : List Int)) = true by decide]
    simp only [cond_true]
    rw [runs1, runs_nil]
    simp only [Option.bind_some]
    rw [less_nil ⟨0, 3⟩ (by decide)]
    simp only [Option.bind_some]
    rw [same_no _ _ (by decide)]
    simp only [Option.bind_some, cond_false]
    rw [iter_run (r := (1, false, [0, 1, 2, 3], [⟨0, 0, 2, 1⟩])) 2 (by kernel_rfl)]
    rfl
  have s2 : L41_13 [r0, r1] [] [0, 1, 2, 3] ([0, 1, 2, 3], [⟨0, 0, 2, 1⟩], [⟨0, 3⟩], 1, 2) = some (.inl ([0, 1, 2, 3], [⟨0, 0, 2, 1⟩, ⟨0, 1, 3, 1⟩], [⟨1, 3⟩], 2, 3)) := by
    unfold L41_13
    rw [show ltI ((([0, 1, 2, 3], [⟨0, 0, 2, 1⟩], [⟨0, 3⟩], 1, 2) : List Int × List S25 × List S110 × Int × Int).2.2.2.2) (lenL ([0, 1, 2, 3] : List Int)) = true by decide]
    simp only [cond_true]
    rw [show idxO (List.length ([0, 1, 2, 3] : List Int)) 2 = some 2 by decide]
    simp only [Option.bind_some]
    rw [show getN ([0, 1, 2, 3] : List Int) 2 = some 2 by decide]
    simp only [Option.bind_some]
    rw [show ltI (addI .i64 2 1) (lenL ([0, 1, 2, 3] : List Int)) = true by decide]
    simp only [cond_true]
    rw [runs2, runs_nil]
    simp only [Option.bind_some]
    rw [less_nil ⟨1, 3⟩ (by decide)]
    simp only [Option.bind_some]
    rw [same_no _ _ (by decide)]
    simp only [Option.bind_some, cond_false]
    rw [iter_run (r := (1, false, [0, 1, 2, 3], [⟨0, 0, 2, 1⟩, ⟨0, 1, 3, 1⟩])) 2 (by kernel_rfl)]
    rfl
  have s3 : L41_13 [r0, r1] [] [0, 1, 2, 3] ([0, 1, 2, 3], [⟨0, 0, 2, 1⟩, ⟨0, 1, 3, 1⟩], [⟨1, 3⟩], 2, 3) = some (.inl ([0, 1, 2, 3], [⟨0, 0, 2, 1⟩, ⟨0, 1, 3, 1⟩, ⟨1, 2, 2, 1⟩], [], 3, 4)) := by
    unfold L41_13
    rw [show ltI ((([0, 1, 2, 3], [⟨0, 0, 2, 1⟩, ⟨0, 1, 3, 1⟩], [⟨1, 3⟩], 2, 3) : List Int × List S25 × List S110 × Int × Int).2.2.2.2) (lenL ([0, 1, 2, 3] : List Int)) = true by decide]
    simp only [cond_true]
    rw [show idxO (List.length ([0, 1, 2, 3] : List Int)) 3 = some 3 by decide]
    simp only [Option.bind_some]
    rw [show getN ([0, 1, 2, 3] : List Int) 3 = some 3 by decide]
    simp only [Option.bind_some]
    rw [show ltI (addI .i64 3 1) (lenL ([0, 1, 2, 3] : List Int)) = false by decide]
    simp only [cond_false]
    rw [show T70 [⟨1, 3⟩] [] = some false by unfold T70; rfl]
    simp only [Option.bind_some, cond_false]
    rw [iter_run (r := (1, false, [0, 1, 2, 3], [⟨0, 0, 2, 1⟩, ⟨0, 1, 3, 1⟩, ⟨1, 2, 2, 1⟩])) 2 (by kernel_rfl)]
    rfl
  rw [iter_inl s0, iter_inl s1, iter_inl s2, iter_inl s3, iter_inr (r := ([], 3, 4, false, [0, 1, 2, 3], [⟨0, 0, 2, 1⟩, ⟨0, 1, 3, 1⟩, ⟨1, 2, 2, 1⟩])) (by kernel_rfl)]
  rfl
theorem lit_ok : T26 = some true := by
  unfold T26 T57 T75 T59
  rw [iter_run (r := .inl (2, false)) 3 (by kernel_rfl)]
  rw [show (bif ltI 2000 (lenL ([r0, r1] : List S25)) then (some 2 : Option Int) else (some (Sum.inl (2, false) : (Int × Bool) ⊕ Int)).bind fun y3 => (Sum.elim (fun y3a => some 0) (fun y3b => some y3b) y3)) = some 0 by decide]
  simp only [Option.bind_some]
  rw [show neI 0 0 = false by decide]
  simp only [cond_false]
  rw [lit_region]
  simp only [Option.bind_some]
  rw [iter_run (r := (7, 3, false)) 4 (by kernel_rfl)]
  rfl
end Go.Abs.TU

set_option linter.unusedVariables false
set_option linter.unusedSimpArgs false
set_option maxRecDepth 10000
namespace Go.Abs.TU
open Go.RowKit Go.Proofs Go.Abs
theorem T24_self (l : List S25) (hl : l.length ≤ 2000000000000) : T24 l l = some true := by
  unfold T24
  rw [neI_self]
  simp only [cond_false]
  obtain ⟨y, hy⟩ := same_all (st := L24_4 l l) l hl (fun i x hi hx => by
    simp only [L24_4, ltL_true hi, listAt_some hx, cond_true, Option.bind_some, nextI (show i < 9223372036854775807 by omega), eqI_self, eqB_self, allB, Bool.and_true, Bool.not_true, cond_false]) ⟨_, by simp only [L24_4, ltL_false (Nat.le_refl _), cond_false]; rfl⟩
  rw [hy]
  rfl
theorem T25_self (l : List S59) (hl : l.length ≤ 2000000000000) : T25 l l = some true := by
  unfold T25
  rw [neI_self]
  simp only [cond_false]
  obtain ⟨y, hy⟩ := same_all (st := L25_4 l l) l hl (fun i x hi hx => by
    simp only [L25_4, ltL_true hi, listAt_some hx, cond_true, Option.bind_some, nextI (show i < 9223372036854775807 by omega), eqI_self, eqB_self, allB, Bool.and_true, Bool.not_true, cond_false]) ⟨_, by simp only [L25_4, ltL_false (Nat.le_refl _), cond_false]; rfl⟩
  rw [hy]
  rfl
theorem T27_self (l : List S37) (hl : l.length ≤ 2000000000000) : T27 l l = some true := by
  unfold T27
  rw [neI_self]
  simp only [cond_false]
  obtain ⟨y, hy⟩ := same_all (st := L27_4 l l) l hl (fun i x hi hx => by
    simp only [L27_4, ltL_true hi, listAt_some hx, cond_true, Option.bind_some, nextI (show i < 9223372036854775807 by omega), eqI_self, eqB_self, allB, Bool.and_true, Bool.not_true, cond_false]) ⟨_, by simp only [L27_4, ltL_false (Nat.le_refl _), cond_false]; rfl⟩
  rw [hy]
  rfl
theorem ltI_not (a b : Int) : ltI a b = !leI b a := by
  rw [ltI_iff, leI_iff, Bool.eq_iff_iff]; simp
def or2 (c d : Int) : Int := if c = 0 then d else c
theorem asked (x y c : Int) (r : S25) : ((bif (ltI x (-100000)) then ((T18 true 1).bind fun x6 => ((T17 ([c, x6] : List Int)).bind fun x7 => ((T19 r).bind fun x8 => ((T17 ([c, x8] : List Int)).bind fun x9 => (some (x7, x9)))))) else (bif (ltI 100000 x) then ((T18 true 1).bind fun x10 => ((T17 ([c, x10] : List Int)).bind fun x11 => ((T19 r).bind fun x12 => ((T17 ([c, x12] : List Int)).bind fun x13 => (some (x11, x13)))))) else (bif (ltI y (-100000)) then ((T18 true 1).bind fun x14 => ((T17 ([c, x14] : List Int)).bind fun x15 => ((T19 r).bind fun x16 => ((T17 ([c, x16] : List Int)).bind fun x17 => (some (x15, x17)))))) else ((T18 (ltI 100000 y) 1).bind fun x18 => ((T17 ([c, x18] : List Int)).bind fun x19 => ((T19 r).bind fun x20 => ((T17 ([c, x20] : List Int)).bind fun x21 => (some (x19, x21))))))))) : Option (Int × Int)) = some (or2 c (bif spot x y then 0 else 1), or2 c (bif good r then 0 else 1)) := by
  have e2 : ∀ b, T18 b 1 = some (bif b then 1 else 0) := fun b => by cases b <;> rfl
  simp only [e2, Option.bind_some, t13, t30]
  unfold spot inB or2
  rw [ltI_not x, ltI_not 100000 x, ltI_not y, ltI_not 100000 y]
  cases leI (-100000) x <;> cases leI x 100000 <;> cases leI (-100000) y <;> cases leI y 100000 <;> rfl
theorem t12 (l : S23) (hl : ok23 1048576 l) (x y : Int) : ∃ (k : ByteArray) (ok : Bool), T12 l x y = some (k, ok, or2 (faultW l) (bif spot x y then 0 else 1)) ∧
    ((or2 (faultW l) (bif spot x y then 0 else 1) = 0 ∧ T20 l x y = some (k, ok)) ∨ (or2 (faultW l) (bif spot x y then 0 else 1) ≠ 0 ∧ k = ByteArray.mk #[] ∧ ok = false)) := by
  unfold T12 or2
  rw [T16_eq l hl, Option.bind_some]
  by_cases h : faultW l = 0
  · have e0 : neI (faultW l) 0 = false := by rw [neI_iff, decide_eq_true h]; rfl
    rw [e0, if_pos h, t23]
    simp only [cond_false, Option.bind_some, neI_code]
    cases hs : spot x y with
    | false => exact ⟨_, _, rfl, .inr ⟨by simp, rfl, rfl⟩⟩
    | true =>
      have hr := right_w h
      have h1 := at_prog l hr x y
      have h2 := at_ref l hr x y
      simp only [Bool.not_true, cond_false, cond_true]
      unfold T20
      rw [h1, h2]
      cases wp (atF x y) 0 () l.f3 with
      | inl u => exact ⟨_, _, rfl, .inl ⟨by first | rfl | trivial, rfl⟩⟩
      | inr u => exact ⟨_, _, rfl, .inl ⟨by first | rfl | trivial, rfl⟩⟩
  · have e0 : neI (faultW l) 0 = true := by rw [neI_iff, decide_eq_false h]; rfl
    rw [e0, if_neg h]
    exact ⟨_, _, rfl, .inr ⟨h, rfl, rfl⟩⟩
theorem dark_both (l : S23) (hl : ok23 1048576 l) : ∃ v : List S25 × Int, T13 l = some v ∧ v.1.length ≤ 2000000000000 ∧ ((faultW l = 0 ∧ ∃ o, T22 l = some o ∧ T21 o = some v) ∨ (faultW l ≠ 0 ∧ v = ([], faultW l))) := by
  unfold T13
  rw [T16_eq l hl, Option.bind_some]
  by_cases h : faultW l = 0
  · have e0 : neI (faultW l) 0 = false := by rw [neI_iff, decide_eq_true h]; rfl
    rw [e0]
    simp only [cond_false]
    obtain ⟨v, v1, v2, v3⟩ := dark_same l (right_w h)
    refine ⟨v, v1, v3, .inl ⟨h, ?_⟩⟩
    cases ho : T22 l with
    | none => rw [ho] at v2; cases v2
    | some o => rw [ho] at v2; exact ⟨o, rfl, v2⟩
  · have e0 : neI (faultW l) 0 = true := by rw [neI_iff, decide_eq_false h]; rfl
    rw [e0]
    exact ⟨_, rfl, by simp, .inr ⟨h, rfl⟩⟩
theorem parts_both (l : S23) (hl : ok23 1048576 l) (r : S25) : ∃ v : List S59 × Int, T14 l r = some v ∧ v.1.length ≤ 50 ∧ v.2 = or2 (faultW l) (bif good r then 0 else 1) ∧ ((v.2 = 0 ∧ T23 l r = some v.1) ∨ (v.2 ≠ 0 ∧ v.1 = [])) := by
  unfold T14 or2
  rw [T16_eq l hl, Option.bind_some]
  by_cases h : faultW l = 0
  · have e0 : neI (faultW l) 0 = false := by rw [neI_iff, decide_eq_true h]; rfl
    rw [e0, if_pos h, t35]
    simp only [cond_false, Option.bind_some, neI_code]
    cases hs : good r with
    | false => exact ⟨_, rfl, by simp, rfl, .inr ⟨by simp, rfl⟩⟩
    | true =>
      obtain ⟨y, y1, y2⟩ := part_some l (right_w h).few r
      simp only [Bool.not_true, cond_false, cond_true]
      unfold T23
      rw [part_same, y1]
      exact ⟨_, rfl, y2, rfl, .inl ⟨rfl, rfl⟩⟩
  · have e0 : neI (faultW l) 0 = true := by rw [neI_iff, decide_eq_false h]; rfl
    rw [e0, if_neg h]
    exact ⟨_, rfl, by simp, rfl, .inr ⟨h, rfl⟩⟩
theorem t6 (l : S23) (hl : ok23 1048576 l) (r : S25) (x y : Int) : T6 l r x y = some true := by
  obtain ⟨k, ok, a1, a2⟩ := t12 l hl x y
  obtain ⟨v, b1, b2, b3⟩ := dark_both l hl
  obtain ⟨w, c1, c2, c3, c4⟩ := parts_both l hl r
  unfold T6
  rw [a1, b1, c1, T15_eq l hl, T16_eq l hl]
  simp only [asked, Option.bind_some, neI_self, cond_false]
  rw [← c3]
  have hz : ∀ a : Int, a ≠ 0 → eqI a 0 = false := fun a h => by rw [eqI_iff]; exact decide_eq_false h
  have hv := T24_self v.1 b2
  have hw := T25_self w.1 (by omega)
  have hn1 : T24 [] [] = some true := T24_self [] (by simp)
  have hn2 : T25 [] [] = some true := T25_self [] (by simp)
  have he0 : eqI 0 0 = true := rfl
  generalize or2 (faultW l) (bif spot x y then 0 else 1) = e at a2 ⊢
  rcases a2 with ⟨h1, h2⟩ | ⟨h1, h2, h3⟩
  · rcases b3 with ⟨g1, o, g2, g3⟩ | ⟨g1, g2⟩
    · rcases c4 with ⟨f1, f2⟩ | ⟨f1, f2⟩
      · simp [h1, h2, g1, g2, g3, f1, f2, he0, eqI_self, eqS_self, hv, hw, lit_ok]
      · simp [h1, h2, g1, g2, g3, hz _ f1, f2, he0, eqI_self, eqS_self, hv, hn2, lit_ok]
    · rcases c4 with ⟨f1, f2⟩ | ⟨f1, f2⟩
      · simp [h1, h2, hz _ g1, g2, f1, f2, he0, eqI_self, eqS_self, hn1, hw, lit_ok]
      · simp [h1, h2, hz _ g1, g2, hz _ f1, f2, he0, eqI_self, eqS_self, hn1, hn2, lit_ok]
  · rcases b3 with ⟨g1, o, g2, g3⟩ | ⟨g1, g2⟩
    · rcases c4 with ⟨f1, f2⟩ | ⟨f1, f2⟩
      · simp [hz _ h1, h2, h3, g1, g2, g3, f1, f2, he0, eqI_self, eqS_self, hv, hw, lit_ok]
      · simp [hz _ h1, h2, h3, g1, g2, g3, hz _ f1, f2, he0, eqI_self, eqS_self, hv, hn2, lit_ok]
    · rcases c4 with ⟨f1, f2⟩ | ⟨f1, f2⟩
      · simp [hz _ h1, h2, h3, hz _ g1, g2, f1, f2, he0, eqI_self, eqS_self, hn1, hw, lit_ok]
      · simp [hz _ h1, h2, h3, hz _ g1, g2, hz _ f1, f2, he0, eqI_self, eqS_self, hn1, hn2, lit_ok]
theorem plain (p0 : S23) (p1 : S25) (p2 : Int) (p3 : Int) (h0 : ok23 1048576 p0) (h1 : ok25 1048576 p1) (h2 : okI p2) (h3 : okI p3) : T3 p0 p1 p2 p3 = some true := by
  have hlen : p0.f3.length ≤ 1048576 := h0.2.2.2.1
  unfold T3 T5 T7
  rw [appO_big (by omega) (by simp only [List.length_nil]; omega), Option.bind_some, List.nil_append, Option.bind_some, t6 p0 h0 p1 p2 p3]
  simp only [Option.bind_some, cond_true, eqS_self, eqI_self]
  rw [T27_self p0.f3 (by omega)]
  rfl
end Go.Abs.TU
