import Derived.Test.YtpakkikhfkhebaaGreatVTVR
import Derived.Test.YtpakkikhfkhebaaGreatVPlL
import Derived.Test.YtpakkikhfkhebaaGreatVTVK
import Derived.Test.YtpakkikhfkhebaaGreatVPlS
set_option linter.unusedVariables false
set_option linter.unusedSimpArgs false
set_option maxRecDepth 10000
namespace Go.Abs.TV
open Go.RowKit Go.Proofs Go.Abs
def B (a : S110) : Prop := -100000 ≤ a.f0 ∧ a.f0 < a.f1 ∧ a.f1 ≤ 100000
def Can (l : List S110) : Prop := (∀ a ∈ l, B a) ∧ l.Pairwise fun a b => a.f1 < b.f0
def inn (l : List S110) (x : Int) : Prop := ∃ a, a ∈ l ∧ a.f0 ≤ x ∧ x < a.f1
theorem inn_nil (x : Int) : ¬ inn [] x := fun ⟨_, h, _⟩ => by simp at h
theorem inn_cons (a : S110) (l : List S110) (x : Int) : inn (a :: l) x ↔ (a.f0 ≤ x ∧ x < a.f1) ∨ inn l x := by
  unfold inn
  constructor
  · rintro ⟨b, h, h2⟩
    rcases List.mem_cons.1 h with e | e
    · subst e; exact .inl h2
    · exact .inr ⟨b, e, h2⟩
  · rintro (h | ⟨b, e, h2⟩)
    · exact ⟨a, by simp, h⟩
    · exact ⟨b, by simp [e], h2⟩
theorem inn_app (l : List S110) (a : S110) (x : Int) : inn (l ++ [a]) x ↔ inn l x ∨ (a.f0 ≤ x ∧ x < a.f1) := by
  unfold inn
  constructor
  · rintro ⟨b, h, h2⟩
    rcases List.mem_append.1 h with e | e
    · exact .inl ⟨b, e, h2⟩
    · rw [List.mem_singleton] at e
      subst e; exact .inr h2
  · rintro (⟨b, e, h2⟩ | h)
    · exact ⟨b, by simp [e], h2⟩
    · exact ⟨a, by simp, h⟩
theorem can_nil : Can [] := ⟨by simp, .nil⟩
theorem can_cons {a : S110} {l : List S110} : Can (a :: l) ↔ B a ∧ Can l ∧ ∀ b ∈ l, a.f1 < b.f0 := by
  unfold Can
  rw [List.pairwise_cons, List.forall_mem_cons]
  constructor
  · rintro ⟨⟨h1, h2⟩, h3, h4⟩
    exact ⟨h1, ⟨h2, h4⟩, h3⟩
  · rintro ⟨h1, ⟨h2, h4⟩, h3⟩
    exact ⟨⟨h1, h2⟩, h3, h4⟩
theorem can_app {a : S110} {l : List S110} : Can (l ++ [a]) ↔ B a ∧ Can l ∧ ∀ b ∈ l, b.f1 < a.f0 := by
  unfold Can
  rw [List.pairwise_append]
  constructor
  · rintro ⟨h1, h2, h3, h4⟩
    exact ⟨h1 a (by simp), ⟨fun b hb => h1 b (by simp [hb]), h2⟩, fun b hb => h4 b hb a (by simp)⟩
  · rintro ⟨h1, ⟨h2, h4⟩, h3⟩
    refine ⟨fun b hb => ?_, h4, by simp, fun b hb c hc => ?_⟩
    · rcases List.mem_append.1 hb with e | e
      · exact h2 b e
      · rw [List.mem_singleton] at e
        subst e; exact h1
    · rw [List.mem_singleton] at hc
      subst hc; exact h3 b hb
theorem can_lo {a : S110} {l : List S110} (h : Can (a :: l)) {x : Int} (hx : inn (a :: l) x) : a.f0 ≤ x := by
  obtain ⟨h1, h2, h3⟩ := can_cons.1 h
  rcases (inn_cons a l x).1 hx with h | ⟨b, hb, h⟩
  · exact h.1
  · have := h3 b hb
    unfold B at h1
    omega
theorem can_gap {a : S110} {l : List S110} (h : Can (a :: l)) {x : Int} (hx : inn l x) : a.f1 < x := by
  obtain ⟨h1, h2, h3⟩ := can_cons.1 h
  obtain ⟨b, hb, h⟩ := hx
  have := h3 b hb
  omega
theorem can_end {a b : S110} {l m : List S110} (hl : Can (a :: l)) (hm : Can (b :: m)) (h : ∀ x, inn (a :: l) x → inn (b :: m) x) (e : a.f0 = b.f0) : ¬ b.f1 < a.f1 := by
  intro hlt
  have hb := (can_cons.1 hm).1
  unfold B at hb
  have h1 : inn (b :: m) b.f1 := h _ ((inn_cons _ _ _).2 (.inl ⟨by omega, hlt⟩))
  rcases (inn_cons _ _ _).1 h1 with h2 | h2
  · omega
  · have := can_gap hm h2
    omega
theorem can_unique : ∀ (l m : List S110), Can l → Can m → (∀ x, inn l x ↔ inn m x) → l = m := by
  intro l
  induction l with
  | nil =>
    intro m _ hm h
    cases m with
    | nil => rfl
    | cons b m =>
      have hb := (can_cons.1 hm).1
      unfold B at hb
      exact absurd ((h b.f0).2 ((inn_cons _ _ _).2 (.inl ⟨Int.le_refl _, hb.2.1⟩))) (inn_nil _)
  | cons a l ih =>
    intro m hl hm h
    have ha := (can_cons.1 hl).1
    unfold B at ha
    cases m with
    | nil => exact absurd ((h a.f0).1 ((inn_cons _ _ _).2 (.inl ⟨Int.le_refl _, ha.2.1⟩))) (inn_nil _)
    | cons b m =>
      have hb := (can_cons.1 hm).1
      unfold B at hb
      have e0 : a.f0 = b.f0 := by
        have h1 := can_lo hm ((h a.f0).1 ((inn_cons _ _ _).2 (.inl ⟨Int.le_refl _, ha.2.1⟩)))
        have h2 := can_lo hl ((h b.f0).2 ((inn_cons _ _ _).2 (.inl ⟨Int.le_refl _, hb.2.1⟩)))
        omega
      have e1 : a.f1 = b.f1 := by
        have h1 := can_end hl hm (fun x => (h x).1) e0
        have h2 := can_end hm hl (fun x => (h x).2) e0.symm
        omega
      have e : a = b := by cases a; cases b; simp_all
      subst e
      rw [ih m (can_cons.1 hl).2.1 (can_cons.1 hm).2.1 fun x => ⟨fun hx => ?_, fun hx => ?_⟩]
      · have hg := can_gap hl hx
        rcases (inn_cons _ _ _).1 ((h x).1 ((inn_cons _ _ _).2 (.inr hx))) with h1 | h1
        · omega
        · exact h1
      · have hg := can_gap hm hx
        rcases (inn_cons _ _ _).1 ((h x).2 ((inn_cons _ _ _).2 (.inr hx))) with h1 | h1
        · omega
        · exact h1
theorem can_len_lo (l : List S110) (lo : Int) (h : Can l) (hlo : ∀ a ∈ l, lo ≤ a.f0) (hb : lo ≤ 100000) : (l.length : Int) ≤ 100000 - lo := by
  induction l generalizing lo with
  | nil => simp; omega
  | cons a l ih =>
    obtain ⟨h1, h2, h3⟩ := can_cons.1 h
    unfold B at h1
    have := ih a.f1 h2 (fun b hb => by have := h3 b hb; omega) (by omega)
    have h4 := hlo a (by simp)
    rw [List.length_cons]
    omega
theorem can_len {l : List S110} (h : Can l) : l.length ≤ 200000 := by
  have := can_len_lo l (-100000) h (fun a ha => (h.1 a ha).1) (by omega)
  omega
def W (r : S25) : Prop := -100000 ≤ r.f0 ∧ -100000 ≤ r.f1 ∧ 1 ≤ r.f2 ∧ r.f0 + r.f2 ≤ 100000 ∧ 1 ≤ r.f3 ∧ r.f1 + r.f3 ≤ 100000
def has (r : S25) (x y : Int) : Prop := r.f0 ≤ x ∧ x < r.f0 + r.f2 ∧ r.f1 ≤ y ∧ y < r.f1 + r.f3
def hasL (p : List S25) (x y : Int) : Prop := ∃ r, r ∈ p ∧ has r x y
theorem w_edge {r : S25} (h : W r) : addI .i64 r.f0 r.f2 = r.f0 + r.f2 ∧ addI .i64 r.f1 r.f3 = r.f1 + r.f3 := by
  unfold W at h
  exact ⟨addI_eq (by omega) (by omega), addI_eq (by omega) (by omega)⟩
theorem raw_ok (p : List S25) (y : Int) (hW : ∀ r ∈ p, W r) (hl : p.length ≤ 1000000) : ∃ r, iter (L69_3 p y) ([], 0) = some r ∧ r.2.2.length ≤ p.length ∧ (∀ a ∈ r.2.2, B a) ∧ ∀ x, inn r.2.2 x ↔ hasL p x y := by
  refine iter_up (st := L69_3 p y) (fun (s : List S110) i => (s, (i : Int))) p.length (fun i s => s.length ≤ i ∧ (∀ a ∈ s, B a) ∧ ∀ x, inn s x ↔ upto p i fun r => has r x y) (fun r => r.2.2.length ≤ p.length ∧ (∀ a ∈ r.2.2, B a) ∧ ∀ x, inn r.2.2 x ↔ hasL p x y) ?_ ?_ [] ⟨Nat.le_refl _, by simp, fun x => ⟨fun h => absurd h (inn_nil x), fun h => absurd h (upto_zero _ _)⟩⟩
  · intro i s hi ⟨h1, h2, h3⟩
    obtain ⟨r, hr⟩ : ∃ r, p[i]? = some r := ⟨_, List.getElem?_eq_getElem hi⟩
    have hw := hW r (List.mem_of_getElem? hr)
    have he := w_edge hw
    unfold W at hw
    have hno : ∀ s', s' = s → (∀ x, ¬ has r x y) → s'.length ≤ i + 1 ∧ (∀ a ∈ s', B a) ∧ ∀ x, inn s' x ↔ upto p (i + 1) fun r => has r x y := by
      intro s' e hx
      subst e
      refine ⟨by omega, h2, fun x => ?_⟩
      rw [upto_succ _ hr, h3]
      exact ⟨.inl, fun h => h.resolve_right (hx x)⟩
    simp only [L69_3, ltL_true hi, listAt_some hr, cond_true, Option.bind_some, he.1, he.2, nextI (show i < 9223372036854775807 by omega)]
    by_cases c1 : r.f1 ≤ y
    · rw [show leI r.f1 y = true from decide_eq_true c1]
      by_cases c2 : y < r.f1 + r.f3
      · rw [show ltI y (r.f1 + r.f3) = true from decide_eq_true c2, appO_big (by omega) (by simp only [List.length_cons, List.length_nil]; omega)]
        refine ⟨_, rfl, ?_, ?_, fun x => ?_⟩
        · simp only [List.length_append, List.length_cons, List.length_nil]; omega
        · intro a ha
          rcases List.mem_append.1 ha with e | e
          · exact h2 a e
          · rw [List.mem_singleton] at e
            subst e
            unfold B
            simp only
            omega
        · rw [inn_app, h3, upto_succ _ hr]
          simp only [has]
          constructor
          · rintro (h | h)
            · exact .inl h
            · exact .inr ⟨h.1, h.2, c1, c2⟩
          · rintro (h | h)
            · exact .inl h
            · exact .inr ⟨h.1, h.2.1⟩
      · rw [show ltI y (r.f1 + r.f3) = false from decide_eq_false c2]
        exact ⟨s, rfl, hno s rfl fun x h => by unfold has at h; omega⟩
    · rw [show leI r.f1 y = false from decide_eq_false c1]
      exact ⟨s, rfl, hno s rfl fun x h => by unfold has at h; omega⟩
  · intro s ⟨h1, h2, h3⟩
    simp only [L69_3, ltL_false (Nat.le_refl _), cond_false]
    exact ⟨_, rfl, h1, h2, fun x => (h3 x).trans (upto_len _)⟩
theorem sorted_ok (l : List S110) (hB : ∀ a ∈ l, B a) (hl : l.length ≤ 1000000) : ∃ l', sortO (fun x y => T88 x y) l = some l' ∧ l'.Perm l ∧ l'.Pairwise fun a b => a.f0 ≤ b.f0 :=
  sortO_key _ (fun a => a.f0) l (by omega) fun x hx y hy => by
    have h1 := hB x hx
    have h2 := hB y hy
    unfold B at h1 h2
    refine ⟨x.f0 - y.f0, ?_, by omega⟩
    unfold T88
    rw [subI_eq (by omega) (by omega)]
theorem merge_ok (l : List S110) (hB : ∀ a ∈ l, B a) (hs : l.Pairwise fun a b => a.f0 ≤ b.f0) (hl : l.length ≤ 1000000) : ∃ r, iter (L69_11 l) ([], l, 0) = some r ∧ Can r.2.2.1 ∧ ∀ x, inn r.2.2.1 x ↔ inn l x := by
  refine iter_up (st := L69_11 l) (fun (s : List S110) i => (s, l, (i : Int))) l.length (fun i s => Can s ∧ (∀ a ∈ s, ∃ j b, j < i ∧ l[j]? = some b ∧ a.f0 = b.f0) ∧ ∀ x, inn s x ↔ upto l i fun r => r.f0 ≤ x ∧ x < r.f1) (fun r => Can r.2.2.1 ∧ ∀ x, inn r.2.2.1 x ↔ inn l x) ?_ ?_ [] ⟨can_nil, by simp, fun x => ⟨fun h => absurd h (inn_nil x), fun h => absurd h (upto_zero _ _)⟩⟩
  · intro i s hi ⟨h1, h2, h3⟩
    obtain ⟨r, hr⟩ : ∃ r, l[i]? = some r := ⟨_, List.getElem?_eq_getElem hi⟩
    have hb := hB r (List.mem_of_getElem? hr)
    have hle : ∀ a ∈ s, a.f0 ≤ r.f0 := by
      intro a ha
      obtain ⟨j, b, hj, hjb, e⟩ := h2 a ha
      have := List.pairwise_iff_getElem.1 hs j i (by omega) hi hj
      rw [(List.getElem?_eq_some_iff.1 hjb).2, (List.getElem?_eq_some_iff.1 hr).2] at this
      omega
    have hlen := can_len h1
    simp only [L69_11, ltL_true hi, idx_nat hi, getN_some hr, cond_true, Option.bind_some, nextI (show i < 9223372036854775807 by omega)]
    rcases List.eq_nil_or_concat s with e | ⟨q, b, e⟩
    · subst e
      rw [show leI 0 (subI .i64 (lenL ([] : List S110)) 1) = false from rfl]
      simp only [cond_false]
      rw [appO_big (by omega) (by simp)]
      refine ⟨_, rfl, can_app.2 ⟨hb, h1, by simp⟩, ?_, fun x => ?_⟩
      · intro a ha
        rw [List.nil_append, List.mem_singleton] at ha
        subst ha
        exact ⟨i, a, by omega, hr, rfl⟩
      · rw [inn_app, h3, upto_succ _ hr]
    · subst e
      simp only [List.concat_eq_append] at *
      have hql : q.length < 200000 := by simp only [List.length_append, List.length_cons, List.length_nil] at hlen; omega
      have hlast := last_len q b (by omega)
      obtain ⟨hb1, hq, hqb⟩ := can_app.1 h1
      have hbr := hle b (by simp)
      simp only [hlast, idx_nat (show q.length < (q ++ [b]).length by simp), last_at, Option.bind_some, last_set]
      rw [show leI 0 (q.length : Int) = true from decide_eq_true (by omega)]
      simp only [cond_true]
      by_cases c : r.f0 ≤ b.f1
      · rw [show leI r.f0 b.f1 = true from decide_eq_true c]
        simp only [cond_true, maxI_eq]
        refine ⟨_, rfl, can_app.2 ⟨?_, hq, hqb⟩, ?_, fun x => ?_⟩
        · unfold B at *
          simp only
          omega
        · intro a ha
          rcases List.mem_append.1 ha with e | e
          · obtain ⟨j, b, hj, hjb, e⟩ := h2 a (by simp [e])
            exact ⟨j, b, by omega, hjb, e⟩
          · rw [List.mem_singleton] at e
            subst e
            obtain ⟨j, b', hj, hjb, e⟩ := h2 b (by simp)
            exact ⟨j, b', by omega, hjb, e⟩
        · have h4 := h3 x
          rw [inn_app] at h4
          rw [inn_app, upto_succ _ hr, ← h4]
          unfold B at *
          simp only
          generalize inn q x = A
          constructor
          · rintro (h | h)
            · exact .inl (.inl h)
            · by_cases hxb : x < b.f1
              · exact .inl (.inr ⟨h.1, hxb⟩)
              · exact .inr (by omega)
          · rintro ((h | h) | h)
            · exact .inl h
            · exact .inr (by omega)
            · exact .inr (by omega)
      · rw [show leI r.f0 b.f1 = false from decide_eq_false c]
        simp only [cond_false]
        rw [appO_big (by omega) (by simp only [List.length_append, List.length_cons, List.length_nil]; omega)]
        refine ⟨_, rfl, can_app.2 ⟨hb, h1, ?_⟩, ?_, fun x => ?_⟩
        · intro a ha
          rcases List.mem_append.1 ha with e | e
          · have := hqb a e
            unfold B at *
            omega
          · rw [List.mem_singleton] at e
            subst e
            omega
        · intro a ha
          rcases List.mem_append.1 ha with e | e
          · obtain ⟨j, b, hj, hjb, e⟩ := h2 a e
            exact ⟨j, b, by omega, hjb, e⟩
          · rw [List.mem_singleton] at e
            subst e
            exact ⟨i, a, by omega, hr, rfl⟩
        · rw [inn_app, h3, upto_succ _ hr]
  · intro s ⟨h1, h2, h3⟩
    simp only [L69_11, ltL_false (Nat.le_refl _), cond_false]
    exact ⟨_, rfl, h1, fun x => (h3 x).trans (upto_len _)⟩
theorem runs_ok (p : List S25) (y : Int) (hW : ∀ r ∈ p, W r) (hl : p.length ≤ 1000000) : ∃ l, T69 p y = some l ∧ Can l ∧ ∀ x, inn l x ↔ hasL p x y := by
  obtain ⟨r, h1, h2, h3, h4⟩ := raw_ok p y hW hl
  obtain ⟨l, h5, h6, h7⟩ := sorted_ok r.2.2 h3 (by omega)
  have hB : ∀ a ∈ l, B a := fun a ha => h3 a (h6.mem_iff.1 ha)
  obtain ⟨q, h8, h9, h10⟩ := merge_ok l hB h7 (by rw [h6.length_eq]; omega)
  refine ⟨q.2.2.1, ?_, h9, fun x => ?_⟩
  · unfold T69
    rw [h1, Option.bind_some, h5, Option.bind_some, h8, Option.bind_some]
  · rw [h10, ← h4]
    unfold inn
    exact ⟨fun ⟨a, h, e⟩ => ⟨a, h6.mem_iff.1 h, e⟩, fun ⟨a, h, e⟩ => ⟨a, h6.mem_iff.2 h, e⟩⟩
theorem skip_ok (l m : List S110) (z0 : List S110 × Int × Int) (x1 : S110) (hm : m.length ≤ 1000000) (j : Nat) (hj : j ≤ m.length) (hk : ∀ k b, k < j → m[k]? = some b → b.f1 ≤ x1.f0) :
    ∃ r, iter (L68_6 l m z0 x1) (j : Int) = some r ∧ ∃ j' : Nat, r.1 = (j' : Int) ∧ j' ≤ m.length ∧ ∀ k b, k < j' → m[k]? = some b → b.f1 ≤ x1.f0 := by
  refine iter_upx (st := L68_6 l m z0 x1) (fun (_ : Unit) i => (i : Int)) m.length (fun i _ => ∀ k b, k < i → m[k]? = some b → b.f1 ≤ x1.f0) (fun r => ∃ j' : Nat, r.1 = (j' : Int) ∧ j' ≤ m.length ∧ ∀ k b, k < j' → m[k]? = some b → b.f1 ≤ x1.f0) ?_ ?_ j () hj hk
  · intro i _ hi h
    obtain ⟨r, hr⟩ : ∃ r, m[i]? = some r := ⟨_, List.getElem?_eq_getElem hi⟩
    simp only [L68_6, ltL_true hi, listAt_some hr, cond_true, Option.bind_some, nextI (show i < 9223372036854775807 by omega)]
    by_cases c : r.f1 ≤ x1.f0
    · rw [show leI r.f1 x1.f0 = true from decide_eq_true c]
      refine .inl ⟨(), rfl, fun k b hk hb => ?_⟩
      by_cases e : k = i
      · subst e
        rw [hr] at hb
        cases hb
        exact c
      · exact h k b (by omega) hb
    · rw [show leI r.f1 x1.f0 = false from decide_eq_false c]
      exact .inr ⟨_, rfl, i, rfl, by omega, h⟩
  · intro _ h
    simp only [L68_6, ltL_false (Nat.le_refl _), cond_false]
    exact ⟨_, rfl, m.length, rfl, Nat.le_refl _, h⟩
theorem can_lt {m : List S110} (hm : Can m) {i j : Nat} {a b : S110} (ha : m[i]? = some a) (hb : m[j]? = some b) (h : i < j) : a.f1 < b.f0 := by
  have h1 := (List.getElem?_eq_some_iff.1 ha)
  have h2 := (List.getElem?_eq_some_iff.1 hb)
  obtain ⟨h1, e1⟩ := h1
  obtain ⟨h2, e2⟩ := h2
  have := List.pairwise_iff_getElem.1 hm.2 i j h1 h2 h
  rw [e1, e2] at this
  exact this
structure Cut (m : List S110) (x1 : S110) (P : Int → Prop) (i : Nat) (s : List S110) (fr : Int) : Prop where
  can : Can s
  lt : ∀ a ∈ s, a.f1 < fr
  hi : ∀ a ∈ s, a.f1 ≤ x1.f1
  lo : x1.f0 ≤ fr
  past : ∀ k b, k < i → m[k]? = some b → b.f1 ≤ fr
  pts : ∀ x, inn s x ↔ P x ∨ (x1.f0 ≤ x ∧ x < fr ∧ x < x1.f1 ∧ ¬ inn m x)
theorem cut_ok (l m : List S110) (z0 : List S110 × Int × Int) (x1 : S110) (y3 : Int × Bool) (hm : Can m) (hx1 : B x1) (P : Int → Prop) (j : Nat) (hj : j ≤ m.length) (s : List S110) (fr : Int) (hs : Cut m x1 P j s fr) :
    ∃ r, iter (L68_9 l m z0 x1 y3) (s, fr, (j : Int)) = some r ∧ ∃ i, Cut m x1 P i r.2.2.1 r.2.2.2 ∧ ∀ x, r.2.2.2 ≤ x → x < x1.f1 → ¬ inn m x := by
  have hlm := can_len hm
  refine iter_upx (st := L68_9 l m z0 x1 y3) (fun (s : List S110 × Int) i => (s.1, s.2, (i : Int))) m.length (fun i s => Cut m x1 P i s.1 s.2) (fun r => ∃ i, Cut m x1 P i r.2.2.1 r.2.2.2 ∧ ∀ x, r.2.2.2 ≤ x → x < x1.f1 → ¬ inn m x) ?_ ?_ j (s, fr) hj hs
  · rintro i ⟨s, fr⟩ hi h
    obtain ⟨r, hr⟩ : ∃ r, m[i]? = some r := ⟨_, List.getElem?_eq_getElem hi⟩
    have hb := hm.1 r (List.mem_of_getElem? hr)
    unfold B at hb hx1
    have hslen : s.length ≤ 200000 := can_len h.can
    simp only [L68_9, ltL_true hi, listAt_some hr, cond_true, Option.bind_some, nextI (show i < 9223372036854775807 by omega), maxI_eq]
    have hG : ∀ x, r.f0 ≤ x → x < r.f1 → inn m x := fun x h1 h2 => ⟨r, List.mem_of_getElem? hr, h1, h2⟩
    have hpast : ∀ k b, k < i + 1 → m[k]? = some b → b.f1 ≤ max fr r.f1 := by
      intro k b hk hkb
      by_cases e : k = i
      · subst e
        rw [hr] at hkb
        cases hkb
        omega
      · have := h.past k b (by omega) hkb
        omega
    by_cases c : r.f0 < x1.f1
    · rw [show ltI r.f0 x1.f1 = true from decide_eq_true c]
      simp only [cond_true]
      left
      by_cases c2 : fr < r.f0
      · rw [show ltI fr r.f0 = true from decide_eq_true c2, appO_big (by omega) (by simp only [List.length_cons, List.length_nil]; omega)]
        have hF : ∀ x, fr ≤ x → x < r.f0 → ¬ inn m x := by
          rintro x h1 h2 ⟨b, hbm, h3, h4⟩
          obtain ⟨k, hk⟩ := List.getElem?_of_mem hbm
          rcases Nat.lt_trichotomy k i with e | e | e
          · have := h.past k b e hk
            omega
          · subst e
            rw [hr] at hk
            cases hk
            omega
          · have := can_lt hm hr hk e
            omega
        have hlo := h.lo
        refine ⟨(_, _), rfl, ⟨can_app.2 ⟨?_, h.can, h.lt⟩, ?_, ?_, ?_, hpast, fun x => ?_⟩⟩
        · unfold B; simp only; omega
        · intro a ha
          simp only at ha ⊢
          rcases List.mem_append.1 ha with e | e
          · have := h.lt a e
            simp only at this
            omega
          · rw [List.mem_singleton] at e
            subst e
            simp only
            omega
        · intro a ha
          rcases List.mem_append.1 ha with e | e
          · exact h.hi a e
          · rw [List.mem_singleton] at e
            subst e
            simp only
            omega
        · simp only; simp only at hlo; omega
        · simp only
          rw [inn_app, h.pts x]
          simp only
          simp only at hlo
          constructor
          · rintro ((hh | hh) | hh)
            · exact .inl hh
            · exact .inr ⟨hh.1, by omega, hh.2.2.1, hh.2.2.2⟩
            · exact .inr ⟨by omega, by omega, by omega, hF x hh.1 hh.2⟩
          · rintro (hh | ⟨h1, h2, h3, h4⟩)
            · exact .inl (.inl hh)
            · by_cases hx : x < fr
              · exact .inl (.inr ⟨h1, hx, h3, h4⟩)
              · have : ¬ r.f0 ≤ x := fun h5 => h4 (hG x h5 (by omega))
                exact .inr ⟨by omega, by omega⟩
      · rw [show ltI fr r.f0 = false from decide_eq_false c2]
        have hlo := h.lo
        refine ⟨(_, _), rfl, ⟨h.can, ?_, h.hi, ?_, hpast, fun x => ?_⟩⟩
        · intro a ha
          have := h.lt a ha
          simp only at this ⊢
          omega
        · simp only; simp only at hlo; omega
        · simp only
          have := h.pts x
          simp only at this
          rw [this]
          constructor
          · rintro (hh | hh)
            · exact .inl hh
            · exact .inr ⟨hh.1, by omega, hh.2.2.1, hh.2.2.2⟩
          · rintro (hh | ⟨h1, h2, h3, h4⟩)
            · exact .inl hh
            · by_cases hx : x < fr
              · exact .inr ⟨h1, hx, h3, h4⟩
              · exact absurd (hG x (by omega) (by omega)) h4
    · rw [show ltI r.f0 x1.f1 = false from decide_eq_false c]
      right
      refine ⟨_, rfl, i, h, ?_⟩
      simp only
      rintro x h1 h2 ⟨b, hbm, h3, h4⟩
      obtain ⟨k, hk⟩ := List.getElem?_of_mem hbm
      rcases Nat.lt_trichotomy k i with e | e | e
      · have := h.past k b e hk
        simp only at this
        omega
      · subst e
        rw [hr] at hk
        cases hk
        omega
      · have := can_lt hm hr hk e
        omega
  · rintro ⟨s, fr⟩ h
    simp only [L68_9, ltL_false (Nat.le_refl _), cond_false]
    refine ⟨_, rfl, m.length, h, ?_⟩
    simp only
    rintro x h1 h2 ⟨b, hbm, h3, h4⟩
    obtain ⟨k, hk⟩ := List.getElem?_of_mem hbm
    have := h.past k b (List.getElem?_eq_some_iff.1 hk).1 hk
    simp only at this
    omega
theorem less_ok (l m : List S110) (hl : Can l) (hm : Can m) : ∃ o, T68 l m = some o ∧ Can o ∧ ∀ x, inn o x ↔ inn l x ∧ ¬ inn m x := by
  have hll := can_len hl
  have hlm := can_len hm
  suffices H : ∃ r, iter (L68_4 l m) ([], 0, 0) = some r ∧ Can r.2.2.2 ∧ ∀ x, inn r.2.2.2 x ↔ inn l x ∧ ¬ inn m x by
    obtain ⟨r, h1, h2, h3⟩ := H
    refine ⟨r.2.2.2, ?_, h2, h3⟩
    unfold T68
    rw [h1, Option.bind_some]
  refine iter_up (st := L68_4 l m) (fun (s : List S110 × Nat) i => (s.1, (s.2 : Int), (i : Int))) l.length
    (fun i s => Can s.1 ∧ s.2 ≤ m.length ∧ (∀ k b i' x, k < s.2 → m[k]? = some b → i ≤ i' → l[i']? = some x → b.f1 ≤ x.f0) ∧ (∀ a i' x, a ∈ s.1 → i ≤ i' → l[i']? = some x → a.f1 < x.f0) ∧ ∀ x, inn s.1 x ↔ (upto l i fun r => r.f0 ≤ x ∧ x < r.f1) ∧ ¬ inn m x)
    (fun r => Can r.2.2.2 ∧ ∀ x, inn r.2.2.2 x ↔ inn l x ∧ ¬ inn m x) ?_ ?_ ([], 0) ⟨can_nil, Nat.zero_le _, ?_, ?_, fun x => ⟨fun h => absurd h (inn_nil x), fun h => absurd h.1 (upto_zero _ _)⟩⟩
  · rintro i ⟨s, j⟩ hi ⟨h1, h2, h3, h4, h5⟩
    simp only at h1 h2 h3 h4 h5
    obtain ⟨r, hr⟩ : ∃ r, l[i]? = some r := ⟨_, List.getElem?_eq_getElem hi⟩
    have hb := hl.1 r (List.mem_of_getElem? hr)
    obtain ⟨q, q1, j', q2, q3, q4⟩ := skip_ok l m (s, (j : Int), (i : Int)) r (by omega) j h2 fun k b hk hkb => h3 k b i r hk hkb (Nat.le_refl _) hr
    have hcut : Cut m r (fun x => (upto l i fun r => r.f0 ≤ x ∧ x < r.f1) ∧ ¬ inn m x) j' s r.f0 := by
      refine ⟨h1, fun a ha => h4 a i r ha (Nat.le_refl _) hr, fun a ha => ?_, Int.le_refl _, q4, fun x => ?_⟩
      · have := h4 a i r ha (Nat.le_refl _) hr
        unfold B at hb
        omega
      · rw [h5]
        exact ⟨.inl, fun h => h.resolve_right fun h => by omega⟩
    obtain ⟨u, u1, i', u2, u3⟩ := cut_ok l m (s, (j : Int), (i : Int)) r q hm hb _ j' q3 s r.f0 hcut
    have hulen := can_len u2.can
    simp only [L68_4, ltL_true hi, listAt_some hr, cond_true, Option.bind_some, nextI (show i < 9223372036854775807 by omega)]
    rw [q1, Option.bind_some, q2, u1, Option.bind_some]
    have hnext : ∀ k b i' x, k < j' → m[k]? = some b → i + 1 ≤ i' → l[i']? = some x → b.f1 ≤ x.f0 := by
      intro k b i' x hk hkb hi' hx
      have h6 := q4 k b hk hkb
      have h7 := can_lt hl hr hx (by omega)
      unfold B at hb
      omega
    by_cases c : u.2.2.2 < r.f1
    · rw [show ltI u.2.2.2 r.f1 = true from decide_eq_true c, appO_big (by omega) (by simp only [List.length_cons, List.length_nil]; omega)]
      have hlo := u2.lo
      refine ⟨(_, j'), rfl, can_app.2 ⟨?_, u2.can, u2.lt⟩, q3, hnext, ?_, fun x => ?_⟩
      · unfold B at hb ⊢
        simp only
        omega
      · intro a i' x ha hi' hx
        have h7 := can_lt hl hr hx (by omega)
        simp only at ha
        rcases List.mem_append.1 ha with e | e
        · have := u2.hi a e
          omega
        · rw [List.mem_singleton] at e
          subst e
          exact h7
      · simp only
        rw [inn_app, u2.pts x, upto_succ _ hr]
        simp only
        constructor
        · rintro ((hh | hh) | hh)
          · exact ⟨.inl hh.1, hh.2⟩
          · exact ⟨.inr ⟨hh.1, hh.2.2.1⟩, hh.2.2.2⟩
          · exact ⟨.inr ⟨by omega, hh.2⟩, u3 x hh.1 hh.2⟩
        · rintro ⟨hh | hh, hn⟩
          · exact .inl (.inl ⟨hh, hn⟩)
          · by_cases hx : x < u.2.2.2
            · exact .inl (.inr ⟨hh.1, hx, hh.2, hn⟩)
            · exact .inr ⟨by omega, hh.2⟩
    · rw [show ltI u.2.2.2 r.f1 = false from decide_eq_false c]
      refine ⟨(_, j'), rfl, u2.can, q3, hnext, ?_, fun x => ?_⟩
      · intro a i' x ha hi' hx
        have h7 := can_lt hl hr hx (by omega)
        have := u2.hi a ha
        omega
      · simp only
        rw [u2.pts x, upto_succ _ hr]
        constructor
        · rintro (hh | hh)
          · exact ⟨.inl hh.1, hh.2⟩
          · exact ⟨.inr ⟨hh.1, hh.2.2.1⟩, hh.2.2.2⟩
        · rintro ⟨hh | hh, hn⟩
          · exact .inl ⟨hh, hn⟩
          · exact .inr ⟨hh.1, by omega, hh.2, hn⟩
  · rintro ⟨s, j⟩ ⟨h1, h2, h3, h4, h5⟩
    simp only [L68_4, ltL_false (Nat.le_refl _), cond_false]
    refine ⟨_, rfl, h1, fun x => ?_⟩
    simp only
    simp only at h5
    rw [h5, upto_len]
    rfl
  · intro k b i' x hk; exact absurd hk (Nat.not_lt_zero k)
  · intro a i' x ha; simp at ha
theorem same_ok (a b : List S110) (hl : a.length ≤ 1000000) : ∃ c, T70 a b = some c ∧ (c = true ↔ a = b) := by
  unfold T70
  by_cases hlen : a.length = b.length
  · have e : neI (lenL a) (lenL b) = false := by rw [neI_iff, lenL_eq, lenL_eq, hlen]; simp
    rw [e]
    simp only [cond_false]
    obtain ⟨r, h1, h2⟩ : ∃ r, iter (L70_4 a b) 0 = some r ∧ (r.isLeft = true ↔ a = b) := by
      refine iter_upx (st := L70_4 a b) (fun (_ : Unit) i => (i : Int)) a.length (fun i _ => ∀ j, j < i → a[j]? = b[j]?) (fun r => r.isLeft = true ↔ a = b) ?_ ?_ 0 () (Nat.zero_le _) (fun j h => absurd h (Nat.not_lt_zero j))
      · intro i _ hi h
        obtain ⟨r, hr⟩ : ∃ r, a[i]? = some r := ⟨_, List.getElem?_eq_getElem hi⟩
        obtain ⟨q, hq⟩ : ∃ r, b[i]? = some r := ⟨_, List.getElem?_eq_getElem (by omega)⟩
        simp only [L70_4, ltL_true hi, listAt_some hr, listAt_some hq, cond_true, Option.bind_some, nextI (show i < 9223372036854775807 by omega), allB, Bool.and_true]
        by_cases c : r.f0 = q.f0 ∧ r.f1 = q.f1
        · left
          rw [eqI_iff, eqI_iff, decide_eq_true c.1, decide_eq_true c.2]
          refine ⟨(), rfl, fun j hj => ?_⟩
          by_cases e : j = i
          · subst e
            rw [hr, hq]
            cases r; cases q
            simp_all
          · exact h j (by omega)
        · right
          have : (eqI r.f0 q.f0 && eqI r.f1 q.f1) = false := by
            rw [eqI_iff, eqI_iff, Bool.and_eq_false_iff]
            by_cases c1 : r.f0 = q.f0
            · exact .inr (decide_eq_false fun c2 => c ⟨c1, c2⟩)
            · exact .inl (decide_eq_false c1)
          rw [this]
          refine ⟨_, rfl, ?_⟩
          simp only [Sum.isLeft_inr, Bool.false_eq_true, false_iff]
          intro e
          subst e
          rw [hr] at hq
          cases hq
          exact c ⟨rfl, rfl⟩
      · intro _ h
        simp only [L70_4, ltL_false (Nat.le_refl _), cond_false]
        refine ⟨_, rfl, ?_⟩
        simp only [Sum.isLeft_inl, true_iff]
        refine List.ext_getElem? fun j => ?_
        by_cases hj : j < a.length
        · exact h j hj
        · rw [List.getElem?_eq_none (by omega), List.getElem?_eq_none (by omega)]
    rw [h1, Option.bind_some]
    cases r with
    | inl y => exact ⟨true, rfl, by simpa using h2⟩
    | inr y => exact ⟨false, rfl, by simpa using h2⟩
  · have e : neI (lenL a) (lenL b) = true := by
      rw [neI_iff, lenL_eq, lenL_eq]
      have : ¬ (a.length : Int) = b.length := by omega
      simp [this]
    rw [e]
    exact ⟨false, rfl, by simp only [Bool.false_eq_true, false_iff]; intro h; exact hlen (by rw [h])⟩
end Go.Abs.TV

set_option linter.unusedVariables false
set_option linter.unusedSimpArgs false
set_option maxRecDepth 10000
namespace Go.Abs.TV
open Go.RowKit Go.Proofs Go.Abs
noncomputable def G9 (h : Int → Int → Option Bool) (z0 : ((List Int) × (List Int) × (List S25) × (List S25) × Int)) (z1 : ((List Int) × (List Int) × (List S25) × (List S25) × (List S25) × Int)) : Option (((List Int) × (List Int) × (List S25) × (List S25) × (List S25) × Int) ⊕ (Int × Bool × (List Int) × (List Int) × (List S25) × (List S25) × (List S25))) := (bif (ltI (addI .i64 z1.2.2.2.2.2 1) (lenL z1.1)) then ((idxO (List.length z1.1) z1.2.2.2.2.2).bind fun x3 => ((getN z1.1 x3).bind fun x4 => ((idxO (List.length z1.2.1) z0.2.2.2.2).bind fun x5 => ((getN z1.2.1 x5).bind fun x6 => ((h x4 x6).bind fun x7 => (bif (!x7) then (some (.inl (z1.1, z1.2.1, z1.2.2.1, z1.2.2.2.1, z1.2.2.2.2.1, (addI .i64 z1.2.2.2.2.2 1)))) else (bif (leI 0 (subI .i64 (lenL z1.2.2.2.2.1) 1)) then ((idxO (List.length z1.2.2.2.2.1) (subI .i64 (lenL z1.2.2.2.2.1) 1)).bind fun x8 => ((getN z1.2.2.2.2.1 x8).bind fun x9 => ((idxO (List.length z1.2.2.2.2.1) (subI .i64 (lenL z1.2.2.2.2.1) 1)).bind fun x10 => ((getN z1.2.2.2.2.1 x10).bind fun x11 => ((idxO (List.length z1.1) z1.2.2.2.2.2).bind fun x12 => ((getN z1.1 x12).bind fun x13 => (bif (eqI (addI .i64 x9.f0 x11.f2) x13) then ((idxO (List.length z1.1) (addI .i64 z1.2.2.2.2.2 1)).bind fun x14 => ((getN z1.1 x14).bind fun x15 => ((idxO (List.length z1.2.2.2.2.1) (subI .i64 (lenL z1.2.2.2.2.1) 1)).bind fun x16 => ((getN z1.2.2.2.2.1 x16).bind fun x17 => ((idxO (List.length z1.2.2.2.2.1) (subI .i64 (lenL z1.2.2.2.2.1) 1)).bind fun x18 => ((getN z1.2.2.2.2.1 x18).bind fun x19 => (some (.inl (z1.1, z1.2.1, z1.2.2.1, z1.2.2.2.1, (List.set z1.2.2.2.2.1 x18 (S25.mk x19.f0 x19.f1 (subI .i64 x15 x17.f0) x19.f3)), (addI .i64 z1.2.2.2.2.2 1)))))))))) else ((idxO (List.length z1.1) z1.2.2.2.2.2).bind fun x20 => ((getN z1.1 x20).bind fun x21 => ((idxO (List.length z1.2.1) z0.2.2.2.2).bind fun x22 => ((getN z1.2.1 x22).bind fun x23 => ((idxO (List.length z1.1) (addI .i64 z1.2.2.2.2.2 1)).bind fun x24 => ((getN z1.1 x24).bind fun x25 => ((idxO (List.length z1.1) z1.2.2.2.2.2).bind fun x26 => ((getN z1.1 x26).bind fun x27 => ((idxO (List.length z1.2.1) (addI .i64 z0.2.2.2.2 1)).bind fun x28 => ((getN z1.2.1 x28).bind fun x29 => ((idxO (List.length z1.2.1) z0.2.2.2.2).bind fun x30 => ((getN z1.2.1 x30).bind fun x31 => ((appO 32 z1.2.2.2.2.1 ([(S25.mk x21 x23 (subI .i64 x25 x27) (subI .i64 x29 x31))] : List S25)).bind fun x32 => (some (.inl (z1.1, z1.2.1, z1.2.2.1, z1.2.2.2.1, x32, (addI .i64 z1.2.2.2.2.2 1)))))))))))))))))))))))) else ((idxO (List.length z1.1) z1.2.2.2.2.2).bind fun x33 => ((getN z1.1 x33).bind fun x34 => ((idxO (List.length z1.2.1) z0.2.2.2.2).bind fun x35 => ((getN z1.2.1 x35).bind fun x36 => ((idxO (List.length z1.1) (addI .i64 z1.2.2.2.2.2 1)).bind fun x37 => ((getN z1.1 x37).bind fun x38 => ((idxO (List.length z1.1) z1.2.2.2.2.2).bind fun x39 => ((getN z1.1 x39).bind fun x40 => ((idxO (List.length z1.2.1) (addI .i64 z0.2.2.2.2 1)).bind fun x41 => ((getN z1.2.1 x41).bind fun x42 => ((idxO (List.length z1.2.1) z0.2.2.2.2).bind fun x43 => ((getN z1.2.1 x43).bind fun x44 => ((appO 32 z1.2.2.2.2.1 ([(S25.mk x34 x36 (subI .i64 x38 x40) (subI .i64 x42 x44))] : List S25)).bind fun x45 => (some (.inl (z1.1, z1.2.1, z1.2.2.1, z1.2.2.2.1, x45, (addI .i64 z1.2.2.2.2.2 1)))))))))))))))))))))))) else (some (.inr (z1.2.2.2.2.2, (ltI (addI .i64 z1.2.2.2.2.2 1) (lenL z1.1)), z1.1, z1.2.1, z1.2.2.1, z1.2.2.2.1, z1.2.2.2.2.1))))
noncomputable def G19 (h : Int → Int → Option Bool) (z0 : ((List Int) × (List Int) × (List S25) × (List S25) × Int)) (y46 : (Int × Bool × (List Int) × (List Int) × (List S25) × (List S25) × (List S25))) (z2 : ((List Int) × (List Int) × (List S25) × (List S25) × (List S25) × Int)) : Option (((List Int) × (List Int) × (List S25) × (List S25) × (List S25) × Int) ⊕ (Int × Bool × (List Int) × (List Int) × (List S25) × (List S25) × (List S25))) := (bif (ltI z2.2.2.2.2.2 (lenL y46.2.2.2.2.2.1)) then ((idxO (List.length z2.2.2.2.1) z2.2.2.2.2.2).bind fun x48 => ((getN z2.2.2.2.1 x48).bind fun x49 => ((idxO (List.length z2.2.2.2.2.1) z2.2.2.2.2.2).bind fun x50 => ((getN z2.2.2.2.2.1 x50).bind fun x51 => ((idxO (List.length z2.2.2.2.1) z2.2.2.2.2.2).bind fun x52 => ((getN z2.2.2.2.1 x52).bind fun x53 => (some (.inl (z2.1, z2.2.1, z2.2.2.1, (List.set z2.2.2.2.1 x52 (S25.mk x53.f0 x53.f1 x53.f2 (addI .i64 x49.f3 x51.f3))), z2.2.2.2.2.1, (addI .i64 z2.2.2.2.2.2 1)))))))))) else (some (.inr (z2.2.2.2.2.2, (ltI z2.2.2.2.2.2 (lenL y46.2.2.2.2.2.1)), z2.1, z2.2.1, z2.2.2.1, z2.2.2.2.1, z2.2.2.2.2.1))))
noncomputable def G5 (h : Int → Int → Option Bool) (z0 : ((List Int) × (List Int) × (List S25) × (List S25) × Int)) : Option (((List Int) × (List Int) × (List S25) × (List S25) × Int) ⊕ (Int × Bool × (List Int) × (List Int) × (List S25) × (List S25))) := (bif (ltI (addI .i64 z0.2.2.2.2 1) (lenL z0.2.1)) then ((iter (G9 h z0) (z0.1, z0.2.1, z0.2.2.1, z0.2.2.2.1, [], 0)).bind fun y46 => ((T82 y46.2.2.2.2.2.2 y46.2.2.2.2.2.1).bind fun x47 => (bif x47 then (bif (ltI 0 (lenL y46.2.2.2.2.2.2)) then ((iter (G19 h z0 y46) (y46.2.2.1, y46.2.2.2.1, y46.2.2.2.2.1, y46.2.2.2.2.2.1, y46.2.2.2.2.2.2, 0)).bind fun y54 => (some (.inl (y54.2.2.1, y54.2.2.2.1, y54.2.2.2.2.1, y54.2.2.2.2.2.1, (addI .i64 z0.2.2.2.2 1))))) else ((appO 32 y46.2.2.2.2.1 y46.2.2.2.2.2.1).bind fun x55 => (some (.inl (y46.2.2.1, y46.2.2.2.1, x55, y46.2.2.2.2.2.2, (addI .i64 z0.2.2.2.2 1)))))) else ((appO 32 y46.2.2.2.2.1 y46.2.2.2.2.2.1).bind fun x56 => (some (.inl (y46.2.2.1, y46.2.2.2.1, x56, y46.2.2.2.2.2.2, (addI .i64 z0.2.2.2.2 1)))))))) else (some (.inr (z0.2.2.2.2, (ltI (addI .i64 z0.2.2.2.2 1) (lenL z0.2.1)), z0.1, z0.2.1, z0.2.2.1, z0.2.2.2.1))))
noncomputable def G (p0 : (List S25)) (h : Int → Int → Option Bool) : Option (List S25) := ((T79 p0).bind fun x1 => ((T79_1 p0).bind fun x2 => ((iter (G5 h) (x1, x2, [], [], 0)).bind fun y57 => ((appO 32 y57.2.2.2.2.1 y57.2.2.2.2.2).bind fun x58 => (some x58)))))
def eX (p : List S25) : List Int := p.flatMap fun r => [r.f0, addI .i64 r.f0 r.f2]
def eY (p : List S25) : List Int := p.flatMap fun r => [r.f1, addI .i64 r.f1 r.f3]
theorem eX_len (p : List S25) : (eX p).length = 2 * p.length := by
  unfold eX
  induction p with
  | nil => rfl
  | cons a p ih => rw [List.flatMap_cons, List.length_append, ih, List.length_cons]; simp; omega
theorem eY_len (p : List S25) : (eY p).length = 2 * p.length := by
  unfold eY
  induction p with
  | nil => rfl
  | cons a p ih => rw [List.flatMap_cons, List.length_append, ih, List.length_cons]; simp; omega
theorem take_next {α : Type} {l : List α} {i : Nat} {x : α} (h : l[i]? = some x) : l.take (i + 1) = l.take i ++ [x] := by
  rw [List.take_add_one, h]; rfl
theorem fm_next {α : Type} (f : α → List Int) {l : List α} {i : Nat} {x : α} (h : l[i]? = some x) : (l.take (i + 1)).flatMap f = (l.take i).flatMap f ++ f x := by
  rw [take_next h, List.flatMap_append]; simp
theorem edges_loop (p q x1 : List S25) (hl : x1.length ≤ 1000000) : ∃ r, iter (L41_3 p q x1) ([], x1, 0) = some r ∧ r.2.2 = (eY x1, x1) := by
  refine iter_up (st := L41_3 p q x1) (fun (s : List Int) i => (s, x1, (i : Int))) x1.length (fun i s => s = eY (x1.take i)) (fun r => r.2.2 = (eY x1, x1)) ?_ ?_ [] rfl
  · intro i s hi h
    obtain ⟨r, hr⟩ : ∃ r, x1[i]? = some r := ⟨_, List.getElem?_eq_getElem hi⟩
    have hs : s.length ≤ 2000000 := by rw [h, eY_len, List.length_take]; omega
    simp only [L41_3, ltL_true hi, idx_nat hi, getN_some hr, cond_true, Option.bind_some, nextI (show i < 9223372036854775807 by omega)]
    rw [appO_big (by omega) (by simp only [List.length_cons, List.length_nil]; omega)]
    refine ⟨_, rfl, ?_⟩
    rw [h]
    exact (fm_next _ hr).symm
  · intro s h
    simp only [L41_3, ltL_false (Nat.le_refl _), cond_false]
    refine ⟨_, rfl, ?_⟩
    rw [h, List.take_length]
theorem xs_ok (p : List S25) (hl : p.length ≤ 1000000) : T79 p = some (Lib.compact (sortI (eX p))) := by
  have H : ∃ r, iter (L79_3 p) ([], 0) = some r ∧ r.2.2 = eX p := by
    refine iter_up (st := L79_3 p) (fun (s : List Int) i => (s, (i : Int))) p.length (fun i s => s = eX (p.take i)) (fun r => r.2.2 = eX p) ?_ ?_ [] rfl
    · intro i s hi h
      obtain ⟨r, hr⟩ : ∃ r, p[i]? = some r := ⟨_, List.getElem?_eq_getElem hi⟩
      have hs : s.length ≤ 2000000 := by rw [h, eX_len, List.length_take]; omega
      simp only [L79_3, T80, ltL_true hi, listAt_some hr, cond_true, Option.bind_some, nextI (show i < 9223372036854775807 by omega)]
      rw [appO_big (by omega) (by simp only [List.length_cons, List.length_nil]; omega)]
      refine ⟨_, rfl, ?_⟩
      rw [h]
      exact (fm_next _ hr).symm
    · intro s h
      simp only [L79_3, ltL_false (Nat.le_refl _), cond_false]
      refine ⟨_, rfl, ?_⟩
      rw [h, List.take_length]
  obtain ⟨r, h1, h2⟩ := H
  unfold T79
  rw [h1, Option.bind_some, h2]
  unfold sortIO compIO
  rw [if_pos (by rw [eX_len]; omega)]
  rfl
theorem ys_ok (p : List S25) (hl : p.length ≤ 1000000) : T79_1 p = some (Lib.compact (sortI (eY p))) := by
  have H : ∃ r, iter (L79_1_3 p) ([], 0) = some r ∧ r.2.2 = eY p := by
    refine iter_up (st := L79_1_3 p) (fun (s : List Int) i => (s, (i : Int))) p.length (fun i s => s = eY (p.take i)) (fun r => r.2.2 = eY p) ?_ ?_ [] rfl
    · intro i s hi h
      obtain ⟨r, hr⟩ : ∃ r, p[i]? = some r := ⟨_, List.getElem?_eq_getElem hi⟩
      have hs : s.length ≤ 2000000 := by rw [h, eY_len, List.length_take]; omega
      simp only [L79_1_3, T81, ltL_true hi, listAt_some hr, cond_true, Option.bind_some, nextI (show i < 9223372036854775807 by omega)]
      rw [appO_big (by omega) (by simp only [List.length_cons, List.length_nil]; omega)]
      refine ⟨_, rfl, ?_⟩
      rw [h]
      exact (fm_next _ hr).symm
    · intro s h
      simp only [L79_1_3, ltL_false (Nat.le_refl _), cond_false]
      refine ⟨_, rfl, ?_⟩
      rw [h, List.take_length]
  obtain ⟨r, h1, h2⟩ := H
  unfold T79_1
  rw [h1, Option.bind_some, h2]
  unfold sortIO compIO
  rw [if_pos (by rw [eY_len]; omega)]
  rfl
theorem both_ok (p q : List S25) (hp : p.length ≤ 1000000) (hq : q.length ≤ 1000000) : T65 [p, q] = some (p ++ q) := by
  unfold T65
  have e1 : lenL p = (p.length : Int) := rfl
  have e2 : lenL q = (q.length : Int) := rfl
  have hlt0 : ltI 0 (lenL [p, q]) = true := rfl
  have hlt1 : ltI 1 (lenL [p, q]) = true := rfl
  have hlt2 : ltI 2 (lenL [p, q]) = false := rfl
  have n0 : addI .i64 0 1 = 1 := by decide
  have n1 : addI .i64 1 1 = 2 := by decide
  have a0 : listAt [p, q] 0 = some p := rfl
  have a1 : listAt [p, q] 1 = some q := rfl
  have s0 : addI .i64 0 (p.length : Int) = (p.length : Int) := by rw [addI_eq (by omega) (by omega)]; omega
  have s1 : addI .i64 (p.length : Int) (q.length : Int) = ((p.length + q.length : Nat) : Int) := by rw [addI_eq (by omega) (by omega)]; omega
  have l0 : ltI (p.length : Int) 0 = false := decide_eq_false (by omega)
  have l1 : ltI ((p.length + q.length : Nat) : Int) 0 = false := decide_eq_false (by omega)
  have h0 : L65_3 [p, q] (0, 0) = some (.inl ((p.length : Int), 1)) := by
    simp only [L65_3, hlt0, cond_true, a0, Option.bind_some, e1, s0, l0, cond_false, n0]
  have h1 : L65_3 [p, q] ((p.length : Int), 1) = some (.inl (((p.length + q.length : Nat) : Int), 2)) := by
    simp only [L65_3, hlt1, cond_true, a1, Option.bind_some, e2, s1, l1, cond_false, n1]
  have h2 : L65_3 [p, q] (((p.length + q.length : Nat) : Int), 2) = some (.inr (((p.length + q.length : Nat) : Int), 2, false)) := by
    simp only [L65_3, hlt2, cond_false]
  rw [iter_inl h0, iter_inl h1, iter_inr h2, Option.bind_some]
  have hg : growO S25 32 ((p.length + q.length : Nat) : Int) = some [] := by
    unfold growO
    rw [if_pos ⟨by omega, by omega, by omega⟩]
  simp only [hg, Option.bind_some]
  have k0 : L65_11 [p, q] ([], 0) = some (.inl (p, 1)) := by
    simp only [L65_11, hlt0, cond_true, a0, Option.bind_some, n0]
    rw [appO_big (by omega) (by simp only [List.length_nil]; omega)]
    rfl
  have k1 : L65_11 [p, q] (p, 1) = some (.inl (p ++ q, 2)) := by
    simp only [L65_11, hlt1, cond_true, a1, Option.bind_some, n1]
    rw [appO_big (by omega) (by omega)]
    rfl
  have k2 : L65_11 [p, q] (p ++ q, 2) = some (.inr (2, false, p ++ q)) := by
    simp only [L65_11, hlt2, cond_false]
  rw [iter_inl k0, iter_inl k1, iter_inr k2, Option.bind_some]
theorem next_to {xs : List Int} (hs : xs.Pairwise (· < ·)) {j : Nat} {a b v : Int} (ha : xs[j]? = some a) (hb : xs[j + 1]? = some b) (hv : v ∈ xs) : v ≤ a ∨ b ≤ v := by
  obtain ⟨k, hk, rfl⟩ := List.getElem_of_mem hv
  obtain ⟨h1, rfl⟩ := List.getElem?_eq_some_iff.1 ha
  obtain ⟨h2, rfl⟩ := List.getElem?_eq_some_iff.1 hb
  have hp := List.pairwise_iff_getElem.1 hs
  rcases Nat.lt_trichotomy k j with h | h | h
  · have := hp k j hk h1 h
    omega
  · subst h; exact .inl (Int.le_refl _)
  · by_cases e : k = j + 1
    · subst e; exact .inr (Int.le_refl _)
    · have := hp (j + 1) k h2 hk (by omega)
      omega
theorem between : ∀ (xs : List Int), xs.Pairwise (· < ·) → ∀ x u v : Int, u ∈ xs → u ≤ x → v ∈ xs → x < v → ∃ j a b, xs[j]? = some a ∧ xs[j + 1]? = some b ∧ a ≤ x ∧ x < b := by
  intro xs
  induction xs with
  | nil => intro _ x u v hu; simp at hu
  | cons c t ih =>
    intro hs x u v hu hux hv hxv
    obtain ⟨hc, ht⟩ := List.pairwise_cons.1 hs
    cases t with
    | nil => simp at hu hv; omega
    | cons d t =>
      by_cases hx : x < d
      · refine ⟨0, c, d, rfl, rfl, ?_, hx⟩
        rcases List.mem_cons.1 hu with e | e
        · omega
        · have := hc u e; omega
      · have hcd := hc d (by simp)
        have hv' : v ∈ d :: t := by
          rcases List.mem_cons.1 hv with e | e
          · omega
          · exact e
        obtain ⟨j, a, b, h1, h2, h3⟩ := ih ht x d v (by simp) (by omega) hv' hxv
        exact ⟨j + 1, a, b, h1, h2, h3⟩
def cell (y h : Int) (a : S110) : S25 := ⟨a.f0, y, a.f1 - a.f0, h⟩
def pts (xs : List Int) (H : Int → Prop) (i : Nat) (x : Int) : Prop := ∃ j a b, j < i ∧ xs[j]? = some a ∧ xs[j + 1]? = some b ∧ a ≤ x ∧ x < b ∧ H a
theorem pts_succ {xs : List Int} (H : Int → Prop) {i : Nat} {a b : Int} (ha : xs[i]? = some a) (hb : xs[i + 1]? = some b) (x : Int) : pts xs H (i + 1) x ↔ pts xs H i x ∨ (a ≤ x ∧ x < b ∧ H a) := by
  constructor
  · rintro ⟨j, c, d, h1, h2, h3, h4⟩
    by_cases e : j = i
    · subst e
      rw [ha] at h2
      rw [hb] at h3
      cases h2; cases h3
      exact .inr h4
    · exact .inl ⟨j, c, d, by omega, h2, h3, h4⟩
  · rintro (⟨j, c, d, h1, h2, h3, h4⟩ | h4)
    · exact ⟨j, c, d, by omega, h2, h3, h4⟩
    · exact ⟨i, a, b, by omega, ha, hb, h4⟩
theorem row_ok (h : Int → Int → Option Bool) (xs ys : List Int) (out last : List S25) (k : Nat) (y y' : Int) (hy : ys[k]? = some y) (hy' : ys[k + 1]? = some y') (by1 : -100000 ≤ y ∧ y ≤ 100000) (by2 : -100000 ≤ y' ∧ y' ≤ 100000)
    (hxs : xs.Pairwise (· < ·)) (hB : ∀ x ∈ xs, -100000 ≤ x ∧ x ≤ 100000) (hlx : xs.length ≤ 10000000) (hly : ys.length ≤ 10000000) (H : Int → Prop) (hh : ∀ x ∈ xs, ∃ b, h x y = some b ∧ (b = true ↔ H x)) :
    ∃ r rr, iter (G9 h (xs, ys, out, last, (k : Int))) (xs, ys, out, last, [], 0) = some r ∧ r.2.2 = (xs, ys, out, last, rr.map (cell y (y' - y))) ∧ Can rr ∧ ∀ x, inn rr x ↔ ∃ j a b, xs[j]? = some a ∧ xs[j + 1]? = some b ∧ a ≤ x ∧ x < b ∧ H a := by
  suffices HH : ∃ r, iter (G9 h (xs, ys, out, last, (k : Int))) (xs, ys, out, last, [], 0) = some r ∧ ∃ rr, r.2.2 = (xs, ys, out, last, rr.map (cell y (y' - y))) ∧ Can rr ∧ ∀ x, inn rr x ↔ ∃ j a b, xs[j]? = some a ∧ xs[j + 1]? = some b ∧ a ≤ x ∧ x < b ∧ H a by
    obtain ⟨r, h1, rr, h2⟩ := HH
    exact ⟨r, rr, h1, h2⟩
  have hk := (List.getElem?_eq_some_iff.1 hy).1
  have hk' := (List.getElem?_eq_some_iff.1 hy').1
  refine iter_up (st := G9 h (xs, ys, out, last, (k : Int))) (fun (rr : List S110) i => (xs, ys, out, last, rr.map (cell y (y' - y)), (i : Int))) (xs.length - 1) (fun i rr => Can rr ∧ (∀ a ∈ rr, ∀ x, xs[i]? = some x → a.f1 ≤ x) ∧ ∀ x, inn rr x ↔ pts xs H i x)
    (fun r => ∃ rr, r.2.2 = (xs, ys, out, last, rr.map (cell y (y' - y))) ∧ Can rr ∧ ∀ x, inn rr x ↔ ∃ j a b, xs[j]? = some a ∧ xs[j + 1]? = some b ∧ a ≤ x ∧ x < b ∧ H a) ?_ ?_ [] ⟨can_nil, by simp, fun x => ⟨fun h => absurd h (inn_nil x), fun ⟨j, _, _, h, _⟩ => absurd h (Nat.not_lt_zero j)⟩⟩
  · intro i rr hi ⟨h1, h2, h3⟩
    have hi0 : i < xs.length := by omega
    have hi1 : i + 1 < xs.length := by omega
    obtain ⟨a, ha⟩ : ∃ a, xs[i]? = some a := ⟨_, List.getElem?_eq_getElem hi0⟩
    obtain ⟨b, hb⟩ : ∃ a, xs[i + 1]? = some a := ⟨_, List.getElem?_eq_getElem hi1⟩
    have hab : a < b := by
      have := List.pairwise_iff_getElem.1 hxs i (i + 1) hi0 hi1 (by omega)
      rw [(List.getElem?_eq_some_iff.1 ha).2, (List.getElem?_eq_some_iff.1 hb).2] at this
      exact this
    have ba := hB a (List.mem_of_getElem? ha)
    have bb := hB b (List.mem_of_getElem? hb)
    obtain ⟨c, hc, hcH⟩ := hh a (List.mem_of_getElem? ha)
    have hlen := can_len h1
    simp only [G9, nextI (show i < 9223372036854775807 by omega), nextI (show k < 9223372036854775807 by omega), ltL_true hi1, idx_nat hi0, idx_nat hi1, getN_some ha, getN_some hb, idx_nat hk, idx_nat hk', getN_some hy, getN_some hy', cond_true, Option.bind_some, hc, subI_eq (a := b) (b := a) (by omega) (by omega), subI_eq (a := y') (b := y) (by omega) (by omega)]
    cases c with
    | false =>
      have hnH : ¬ H a := fun hH => by simpa using hcH.2 hH
      simp only [Bool.not_false, cond_true]
      refine ⟨rr, rfl, h1, fun q hq x hx => ?_, fun x => ?_⟩
      · rw [hb] at hx
        cases hx
        have := h2 q hq a ha
        omega
      · rw [h3, pts_succ H ha hb]
        exact ⟨.inl, fun h => h.resolve_right fun h => hnH h.2.2⟩
    | true =>
      have hH : H a := hcH.1 rfl
      simp only [Bool.not_true, cond_false]
      rcases List.eq_nil_or_concat rr with e | ⟨q, g, e⟩
      · subst e
        rw [List.map_nil, show leI 0 (subI .i64 (lenL ([] : List S25)) 1) = false from rfl]
        simp only [cond_false]
        rw [appO_big (by omega) (by simp)]
        refine ⟨[⟨a, b⟩], rfl, can_app (l := []).2 ⟨⟨ba.1, hab, bb.2⟩, can_nil, by simp⟩, ?_, fun x => ?_⟩
        · intro q hq x hx
          rw [List.mem_singleton] at hq
          subst hq
          rw [hb] at hx
          cases hx
          exact Int.le_refl _
        · rw [pts_succ H ha hb, ← h3, inn_cons]
          constructor
          · rintro (h | h)
            · exact .inr ⟨h.1, h.2, hH⟩
            · exact .inl h
          · rintro (h | h)
            · exact .inr h
            · exact .inl ⟨h.1, h.2.1⟩
      · subst e
        simp only [List.concat_eq_append] at *
        obtain ⟨hg1, hq, hqg⟩ := can_app.1 h1
        have hqlen : (q.map (cell y (y' - y))).length < 200000 := by simp only [List.length_append, List.length_cons, List.length_nil, List.length_map] at *; omega
        have hga := h2 g (by simp) a ha
        have hgB := hg1
        unfold B at hgB
        simp only [List.map_append, List.map_cons, List.map_nil]
        have hlast := last_len (q.map (cell y (y' - y))) (cell y (y' - y) g) (by omega)
        simp only [hlast, idx_nat (show (q.map (cell y (y' - y))).length < (q.map (cell y (y' - y)) ++ [cell y (y' - y) g]).length by simp), last_at, Option.bind_some, last_set]
        rw [show leI 0 ((q.map (cell y (y' - y))).length : Int) = true from decide_eq_true (by omega)]
        have hend : addI .i64 (cell y (y' - y) g).f0 (cell y (y' - y) g).f2 = g.f1 := by
          show addI .i64 g.f0 (g.f1 - g.f0) = g.f1
          rw [addI_eq (by omega) (by omega)]
          omega
        have hw : subI .i64 b (cell y (y' - y) g).f0 = b - g.f0 := by
          show subI .i64 b g.f0 = b - g.f0
          rw [subI_eq (by omega) (by omega)]
        simp only [cond_true, hend, hw]
        by_cases ce : g.f1 = a
        · rw [show eqI g.f1 a = true by rw [eqI_iff]; exact decide_eq_true ce]
          simp only [cond_true]
          refine ⟨q ++ [⟨g.f0, b⟩], ?_, can_app.2 ⟨⟨by simp only; omega, by simp only; omega, bb.2⟩, hq, hqg⟩, ?_, fun x => ?_⟩
          · simp only [List.map_append, List.map_cons, List.map_nil]
            rfl
          · intro z hz x hx
            rw [hb] at hx
            cases hx
            rcases List.mem_append.1 hz with e | e
            · have := h2 z (by simp [e]) a ha
              omega
            · rw [List.mem_singleton] at e
              subst e
              exact Int.le_refl _
          · have h4 := h3 x
            rw [inn_app] at h4
            rw [inn_app, pts_succ H ha hb, ← h4]
            simp only
            constructor
            · rintro (h | h)
              · exact .inl (.inl h)
              · by_cases hx : x < g.f1
                · exact .inl (.inr ⟨h.1, hx⟩)
                · exact .inr ⟨by omega, h.2, hH⟩
            · rintro ((h | h) | h)
              · exact .inl h
              · exact .inr ⟨h.1, by omega⟩
              · exact .inr ⟨by omega, h.2.1⟩
        · rw [show eqI g.f1 a = false by rw [eqI_iff]; exact decide_eq_false ce]
          simp only [cond_false]
          rw [appO_big (by omega) (by simp only [List.length_append, List.length_cons, List.length_nil]; omega)]
          refine ⟨(q ++ [g]) ++ [⟨a, b⟩], ?_, can_app.2 ⟨⟨ba.1, hab, bb.2⟩, h1, ?_⟩, ?_, fun x => ?_⟩
          · simp only [List.map_append, List.map_cons, List.map_nil]
            rfl
          · intro z hz
            rcases List.mem_append.1 hz with e | e
            · have := hqg z e
              simp only
              omega
            · rw [List.mem_singleton] at e
              subst e
              simp only
              omega
          · intro z hz x hx
            rw [hb] at hx
            cases hx
            rcases List.mem_append.1 hz with e | e
            · have := h2 z e a ha
              omega
            · rw [List.mem_singleton] at e
              subst e
              exact Int.le_refl _
          · rw [inn_app, pts_succ H ha hb, ← h3]
            constructor
            · rintro (h | h)
              · exact .inl h
              · exact .inr ⟨h.1, h.2, hH⟩
            · rintro (h | h)
              · exact .inl h
              · exact .inr ⟨h.1, h.2.1⟩
  · intro rr ⟨h1, h2, h3⟩
    have hlt : ltI ((xs.length - 1 + 1 : Nat) : Int) (lenL xs) = false := ltL_false (by omega)
    simp only [G9, nextI (show xs.length - 1 < 9223372036854775807 by omega), hlt, cond_false]
    refine ⟨_, rfl, rr, rfl, h1, fun x => (h3 x).trans ⟨?_, ?_⟩⟩
    · rintro ⟨j, a, b, h, h4⟩
      exact ⟨j, a, b, h4⟩
    · rintro ⟨j, a, b, h4, h5, h6⟩
      have := (List.getElem?_eq_some_iff.1 h5).1
      exact ⟨j, a, b, by omega, h4, h5, h6⟩
theorem alike_ok (rr cur : List S110) (y h f hh : Int) (hl : rr.length ≤ 1000000) (e : addI .i64 f hh = y) (hr : ∀ a ∈ rr, B a) (hc : ∀ a ∈ cur, B a) : ∃ c, T82 (rr.map (cell y h)) (cur.map (cell f hh)) = some c ∧ (c = true ↔ rr = cur) := by
  unfold T82
  by_cases hlen : rr.length = cur.length
  · have e0 : neI (lenL (rr.map (cell y h))) (lenL (cur.map (cell f hh))) = false := by rw [neI_iff, lenL_eq, lenL_eq, List.length_map, List.length_map, hlen]; simp
    rw [e0]
    simp only [cond_false]
    obtain ⟨r, h1, h2⟩ : ∃ r, iter (L82_4 (rr.map (cell y h)) (cur.map (cell f hh))) 0 = some r ∧ (r.isLeft = true ↔ rr = cur) := by
      refine iter_upx (st := L82_4 (rr.map (cell y h)) (cur.map (cell f hh))) (fun (_ : Unit) i => (i : Int)) rr.length (fun i _ => ∀ j, j < i → rr[j]? = cur[j]?) (fun r => r.isLeft = true ↔ rr = cur) ?_ ?_ 0 () (Nat.zero_le _) (fun j h => absurd h (Nat.not_lt_zero j))
      · intro i _ hi hinv
        obtain ⟨r, hr'⟩ : ∃ r, rr[i]? = some r := ⟨_, List.getElem?_eq_getElem hi⟩
        obtain ⟨q, hq'⟩ : ∃ r, cur[i]? = some r := ⟨_, List.getElem?_eq_getElem (by omega)⟩
        have b1 := hr r (List.mem_of_getElem? hr')
        have b2 := hc q (List.mem_of_getElem? hq')
        have hr2 : (rr.map (cell y h))[i]? = some (cell y h r) := by rw [List.getElem?_map, hr']; rfl
        have hq2 : (cur.map (cell f hh))[i]? = some (cell f hh q) := by rw [List.getElem?_map, hq']; rfl
        have hlt : i < (rr.map (cell y h)).length := by rw [List.length_map]; exact hi
        have ey : eqI y (addI .i64 f hh) = true := by rw [e]; exact eqI_self y
        simp only [L82_4, T83, ltL_true hlt, listAt_some hr2, listAt_some hq2, cond_true, Option.bind_some, nextI (show i < 9223372036854775807 by omega)]
        have f1 : (cell y h r).f1 = y := rfl
        have f2 : (cell f hh q).f1 = f := rfl
        have f3 : (cell f hh q).f3 = hh := rfl
        rw [f1, f2, f3, ey]
        unfold B at b1 b2
        by_cases c : r.f0 = q.f0 ∧ r.f1 = q.f1
        · left
          have g1 : eqI (cell y h r).f0 (cell f hh q).f0 = true := by rw [eqI_iff]; exact decide_eq_true c.1
          have g2 : eqI (cell y h r).f2 (cell f hh q).f2 = true := by rw [eqI_iff]; exact decide_eq_true (show r.f1 - r.f0 = q.f1 - q.f0 by omega)
          rw [g1, g2]
          refine ⟨(), rfl, fun j hj => ?_⟩
          by_cases e : j = i
          · subst e
            rw [hr', hq']
            cases r; cases q
            simp_all
          · exact hinv j (by omega)
        · right
          have hne : ¬ rr = cur := by
            intro e
            subst e
            rw [hr'] at hq'
            cases hq'
            exact c ⟨rfl, rfl⟩
          have : ∃ b, (bif eqI (cell y h r).f0 (cell f hh q).f0 then bif eqI (cell y h r).f2 (cell f hh q).f2 then some true else some false else some false) = some b ∧ b = false := by
            by_cases c1 : r.f0 = q.f0
            · have g1 : eqI (cell y h r).f0 (cell f hh q).f0 = true := by rw [eqI_iff]; exact decide_eq_true c1
              have g2 : eqI (cell y h r).f2 (cell f hh q).f2 = false := by
                rw [eqI_iff]
                refine decide_eq_false fun c2 => ?_
                have : r.f1 - r.f0 = q.f1 - q.f0 := c2
                exact c ⟨c1, by omega⟩
              rw [g1, g2]
              exact ⟨_, rfl, rfl⟩
            · have g1 : eqI (cell y h r).f0 (cell f hh q).f0 = false := by rw [eqI_iff]; exact decide_eq_false c1
              rw [g1]
              exact ⟨_, rfl, rfl⟩
          obtain ⟨b, g1, g2⟩ := this
          subst g2
          rw [g1]
          refine ⟨_, rfl, ?_⟩
          simp only [Sum.isLeft_inr, Bool.false_eq_true, false_iff]
          exact hne
      · intro _ hinv
        have : ltI (rr.length : Int) (lenL (rr.map (cell y h))) = false := ltL_false (by rw [List.length_map]; exact Nat.le_refl _)
        simp only [L82_4, this, cond_false]
        refine ⟨_, rfl, ?_⟩
        simp only [Sum.isLeft_inl, true_iff]
        refine List.ext_getElem? fun j => ?_
        by_cases hj : j < rr.length
        · exact hinv j hj
        · rw [List.getElem?_eq_none (by omega), List.getElem?_eq_none (by omega)]
    rw [h1, Option.bind_some]
    cases r with
    | inl y => exact ⟨true, rfl, by simpa using h2⟩
    | inr y => exact ⟨false, rfl, by simpa using h2⟩
  · have e : neI (lenL (rr.map (cell y h))) (lenL (cur.map (cell f hh))) = true := by
      rw [neI_iff, lenL_eq, lenL_eq, List.length_map, List.length_map]
      have : ¬ (rr.length : Int) = cur.length := by omega
      simp [this]
    rw [e]
    exact ⟨false, rfl, by simp only [Bool.false_eq_true, false_iff]; intro h; exact hlen (by rw [h])⟩
theorem grown_ok (h : Int → Int → Option Bool) (z0 : ((List Int) × (List Int) × (List S25) × (List S25) × Int)) (y46 : (Int × Bool × (List Int) × (List Int) × (List S25) × (List S25) × (List S25))) (xs ys : List Int) (out : List S25) (cur : List S110) (y h1 f hh : Int)
    (hl : cur.length ≤ 1000000) (hlast : y46.2.2.2.2.2.1 = cur.map (cell f hh)) :
    ∃ r, iter (G19 h z0 y46) (xs, ys, out, cur.map (cell f hh), cur.map (cell y h1), 0) = some r ∧ r.2.2 = (xs, ys, out, cur.map (cell f (addI .i64 hh h1)), cur.map (cell y h1)) := by
  refine iter_up (st := G19 h z0 y46) (fun (l : List S25) i => (xs, ys, out, l, cur.map (cell y h1), (i : Int))) cur.length (fun i l => l.length = cur.length ∧ ∀ j a, cur[j]? = some a → l[j]? = some (cell f (if j < i then addI .i64 hh h1 else hh) a))
    (fun r => r.2.2 = (xs, ys, out, cur.map (cell f (addI .i64 hh h1)), cur.map (cell y h1))) ?_ ?_ (cur.map (cell f hh)) ⟨by simp, fun j a ha => by rw [List.getElem?_map, ha]; rfl⟩
  · intro i l hi ⟨h2, h3⟩
    obtain ⟨a, ha⟩ : ∃ r, cur[i]? = some r := ⟨_, List.getElem?_eq_getElem hi⟩
    have g1 := h3 i a ha
    rw [if_neg (Nat.lt_irrefl i)] at g1
    have g2 : (cur.map (cell y h1))[i]? = some (cell y h1 a) := by rw [List.getElem?_map, ha]; rfl
    have hlt : i < (cur.map (cell f hh)).length := by rw [List.length_map]; exact hi
    have hlt1 : i < l.length := by omega
    have hlt2 : i < (cur.map (cell y h1)).length := by rw [List.length_map]; exact hi
    simp only [G19, hlast, ltL_true hlt, idx_nat hlt1, idx_nat hlt2, getN_some g1, getN_some g2, cond_true, Option.bind_some, nextI (show i < 9223372036854775807 by omega)]
    refine ⟨_, rfl, by simp [h2], fun j b hb => ?_⟩
    rw [List.getElem?_set]
    by_cases e : i = j
    · subst e
      rw [ha] at hb
      cases hb
      rw [if_pos rfl, if_pos hlt1, if_pos (by omega)]
      rfl
    · rw [if_neg e, h3 j b hb]
      have : (j < i) ↔ (j < i + 1) := by omega
      simp only [this]
  · intro l ⟨h2, h3⟩
    have hlt : ltI (cur.length : Int) (lenL (cur.map (cell f hh))) = false := ltL_false (by rw [List.length_map]; exact Nat.le_refl _)
    simp only [G19, hlast, hlt, cond_false]
    refine ⟨_, rfl, ?_⟩
    have : l = cur.map (cell f (addI .i64 hh h1)) := by
      refine List.ext_getElem? fun j => ?_
      by_cases hj : j < cur.length
      · obtain ⟨a, ha⟩ : ∃ r, cur[j]? = some r := ⟨_, List.getElem?_eq_getElem hj⟩
        rw [h3 j a ha, if_pos hj, List.getElem?_map, ha]
        rfl
      · rw [List.getElem?_eq_none (by omega), List.getElem?_eq_none (by simp; omega)]
    rw [this]
theorem emit_ok {st : ((List Int) × (List S25) × Int) → Option (((List Int) × (List S25) × Int) ⊕ (Int × Bool × (List Int) × (List S25)))} (ys : List Int) (cur : List S110) (f h : Int) (out : List S25) (hout : out.length ≤ 1900000000000) (hcur : cur.length ≤ 1000000)
    (h1 : ∀ (s : List S25) (i : Nat) a, i < cur.length → cur[i]? = some a → st (ys, s, (i : Int)) = (appO 32 s [cell f h a]).bind fun x => some (.inl (ys, x, ((i + 1 : Nat) : Int)))) (h2 : ∀ s, st (ys, s, (cur.length : Int)) = some (.inr ((cur.length : Int), false, ys, s))) :
    ∃ r, iter st (ys, out, 0) = some r ∧ r.2.2 = (ys, out ++ cur.map (cell f h)) := by
  refine iter_up (st := st) (fun (s : List S25) i => (ys, s, (i : Int))) cur.length (fun i s => s = out ++ (cur.take i).map (cell f h)) (fun r => r.2.2 = (ys, out ++ cur.map (cell f h))) ?_ ?_ out (by simp)
  · intro i s hi hs
    obtain ⟨a, ha⟩ : ∃ r, cur[i]? = some r := ⟨_, List.getElem?_eq_getElem hi⟩
    have hlen : s.length ≤ 1900001000000 := by rw [hs, List.length_append, List.length_map, List.length_take]; omega
    refine ⟨s ++ [cell f h a], ?_, ?_⟩
    · rw [h1 s i a hi ha, appO_big (by omega) (by simp only [List.length_cons, List.length_nil]; omega)]
      rfl
    · rw [hs, take_next ha, List.map_append, List.append_assoc]
      rfl
  · intro s hs
    refine ⟨_, h2 s, ?_⟩
    rw [hs, List.take_length]
end Go.Abs.TV

set_option linter.unusedVariables false
set_option linter.unusedSimpArgs false
set_option maxRecDepth 10000
namespace Go.Abs.TV
open Go.RowKit Go.Proofs Go.Abs
noncomputable def rowAt (p q : List S25) (y : Int) : List S110 := ((T69 p y).bind fun a => (T69 q y).bind fun b => T68 a b).getD []
theorem rowAt_ok (p q : List S25) (y : Int) (hp : ∀ r ∈ p, W r) (hq : ∀ r ∈ q, W r) (lp : p.length ≤ 1000000) (lq : q.length ≤ 1000000) :
    ∃ a b, T69 p y = some a ∧ T69 q y = some b ∧ T68 a b = some (rowAt p q y) ∧ Can (rowAt p q y) ∧ ∀ x, inn (rowAt p q y) x ↔ hasL p x y ∧ ¬ hasL q x y := by
  obtain ⟨a, a1, a2, a3⟩ := runs_ok p y hp lp
  obtain ⟨b, b1, b2, b3⟩ := runs_ok q y hq lq
  obtain ⟨o, o1, o2, o3⟩ := less_ok a b a2 b2
  have e : rowAt p q y = o := by
    unfold rowAt
    rw [a1, Option.bind_some, b1, Option.bind_some, o1, Option.getD_some]
  rw [e]
  exact ⟨a, b, a1, b1, o1, o2, fun x => by rw [o3, a3, b3]⟩
attribute [local irreducible] rowAt
open Classical in
noncomputable def St (R : Int → List S110) (ys : List Int) : Nat → List S25 × List S110 × Int
  | 0 => ([], [], 0)
  | k + 1 => if (St R ys k).2.1 = R (ys.getD k 0) then St R ys k else ((St R ys k).1 ++ (St R ys k).2.1.map (cell (St R ys k).2.2 (ys.getD k 0 - (St R ys k).2.2)), R (ys.getD k 0), ys.getD k 0)
noncomputable def Fin (R : Int → List S110) (ys : List Int) : List S25 :=
  (St R ys (ys.length - 1)).1 ++ (St R ys (ys.length - 1)).2.1.map (cell (St R ys (ys.length - 1)).2.2 (ys.getD (ys.length - 1) 0 - (St R ys (ys.length - 1)).2.2))
theorem St_same {R : Int → List S110} {ys : List Int} {k : Nat} {y : Int} (hy : ys[k]? = some y) (h : (St R ys k).2.1 = R y) : St R ys (k + 1) = St R ys k := by
  rw [St]
  rw [List.getD_eq_getElem?_getD, hy, Option.getD_some, if_pos h]
theorem St_new {R : Int → List S110} {ys : List Int} {k : Nat} {y : Int} (hy : ys[k]? = some y) (h : ¬ (St R ys k).2.1 = R y) : St R ys (k + 1) = ((St R ys k).1 ++ (St R ys k).2.1.map (cell (St R ys k).2.2 (y - (St R ys k).2.2)), R y, y) := by
  rw [St]
  rw [List.getD_eq_getElem?_getD, hy, Option.getD_some, if_neg h]
theorem St_ok (R : Int → List S110) (ys : List Int) (hR : ∀ y, Can (R y)) (hys : ∀ y ∈ ys, -100000 ≤ y ∧ y ≤ 100000) : ∀ k, k ≤ ys.length → (St R ys k).1.length ≤ k * 200000 ∧ Can (St R ys k).2.1 ∧ -100000 ≤ (St R ys k).2.2 ∧ (St R ys k).2.2 ≤ 100000 := by
  intro k
  induction k with
  | zero => intro _; exact ⟨by simp [St], can_nil, by simp [St], by simp [St]⟩
  | succ k ih =>
    intro hk
    obtain ⟨h1, h2, h3, h4⟩ := ih (by omega)
    obtain ⟨y, hy⟩ : ∃ r, ys[k]? = some r := ⟨_, List.getElem?_eq_getElem (by omega)⟩
    have hb := hys y (List.mem_of_getElem? hy)
    by_cases c : (St R ys k).2.1 = R y
    · rw [St_same hy c]
      exact ⟨Nat.le_trans h1 (Nat.mul_le_mul_right _ (Nat.le_succ k)), h2, h3, h4⟩
    · rw [St_new hy c]
      have hl := can_len h2
      refine ⟨?_, hR y, hb.1, hb.2⟩
      simp only [List.length_append, List.length_map]
      rw [Nat.succ_mul]
      omega
theorem prog_ok (p q : List S25) (ys : List Int) (hp : ∀ r ∈ p, W r) (hq : ∀ r ∈ q, W r) (lp : p.length ≤ 1000000) (lq : q.length ≤ 1000000) (hys : ∀ y ∈ ys, -100000 ≤ y ∧ y ≤ 100000) (hl : ys.length ≤ 1000000) :
    ∃ r, iter (L41_13 p q ys) (ys, [], [], 0, 0) = some r ∧ r.2.2.2.2.2 = Fin (rowAt p q) ys := by
  have hR : ∀ y, Can (rowAt p q y) := fun y => by obtain ⟨_, _, _, _, _, h, _⟩ := rowAt_ok p q y hp hq lp lq; exact h
  refine iter_up (st := L41_13 p q ys) (fun (s : List S25 × List S110 × Int) i => (ys, s.1, s.2.1, s.2.2, (i : Int))) ys.length (fun i s => (i < ys.length → s = St (rowAt p q) ys i) ∧ (i = ys.length → s.1 = Fin (rowAt p q) ys))
    (fun r => r.2.2.2.2.2 = Fin (rowAt p q) ys) ?_ ?_ ([], [], 0) ⟨fun _ => rfl, fun h => ?_⟩
  · intro i s hi ⟨hs, _⟩
    have hs := hs hi
    obtain ⟨o1, o2, o3, o4⟩ := St_ok (rowAt p q) ys hR hys i (by omega)
    obtain ⟨y, hy⟩ : ∃ r, ys[i]? = some r := ⟨_, List.getElem?_eq_getElem hi⟩
    have hb := hys y (List.mem_of_getElem? hy)
    obtain ⟨a, b, r1, r2, r3, r4, r5⟩ := rowAt_ok p q y hp hq lp lq
    rw [← hs] at o1 o2 o3 o4
    have hlen := can_len o2
    obtain ⟨out, cur, fr⟩ := s
    simp only at o1 o2 o3 o4 hlen hs
    have ho : out.length ≤ 1900000000000 := by
      have : i * 200000 ≤ 1000000 * 200000 := Nat.mul_le_mul (by omega) (Nat.le_refl _)
      omega
    have hsub : subI .i64 y fr = y - fr := subI_eq (by omega) (by omega)
    simp only [L41_13, ltL_true hi, idx_nat hi, getN_some hy, cond_true, Option.bind_some, nextI (show i < 9223372036854775807 by omega)]
    have hcell : ∀ a ∈ cur, subI .i64 a.f1 a.f0 = a.f1 - a.f0 := by
      intro a ha
      have := o2.1 a ha
      unfold B at this
      exact subI_eq (by omega) (by omega)
    by_cases hi1 : i + 1 < ys.length
    · simp only [ltL_true hi1, cond_true, r1, r2, r3, Option.bind_some]
      obtain ⟨c, c1, c2⟩ := same_ok cur (rowAt p q y) (by omega)
      rw [c1, Option.bind_some]
      cases c with
      | true =>
        have e := c2.1 rfl
        refine ⟨(out, cur, fr), rfl, fun _ => ?_, fun h => by omega⟩
        rw [St_same hy (by rw [← hs]; exact e)]
        exact hs
      | false =>
        have e : ¬ cur = rowAt p q y := fun e => by simpa using c2.2 e
        obtain ⟨v, v1, v2⟩ := emit_ok (st := L41_20 p q ys (ys, out, cur, fr, (i : Int)) y (rowAt p q y)) ys cur fr (y - fr) out ho (by omega) (fun s j a hj ha => by
          simp only [L41_20, ltL_true hj, listAt_some ha, cond_true, Option.bind_some, nextI (show j < 9223372036854775807 by omega), hsub, hcell a (List.mem_of_getElem? ha)]
          rfl) (fun s => by simp only [L41_20, ltL_false (Nat.le_refl _), cond_false])
        simp only [cond_false]
        rw [v1, Option.bind_some, v2]
        refine ⟨(_, _, _), rfl, fun _ => ?_, fun h => by omega⟩
        rw [St_new hy (by rw [← hs]; exact e), ← hs]
    · have hlt : ltI ((i + 1 : Nat) : Int) (lenL ys) = false := ltL_false (by omega)
      simp only [hlt, cond_false]
      obtain ⟨c, c1, c2⟩ := same_ok cur [] (by omega)
      rw [c1, Option.bind_some]
      have hii : i = ys.length - 1 := by omega
      have hgd : ys.getD (ys.length - 1) 0 = y := by rw [← hii, List.getD_eq_getElem?_getD, hy, Option.getD_some]
      cases c with
      | true =>
        have e := c2.1 rfl
        refine ⟨(out, cur, fr), rfl, fun h => by omega, fun _ => ?_⟩
        unfold Fin
        rw [← hii, ← hs]
        simp only [e, List.map_nil, List.append_nil]
      | false =>
        obtain ⟨v, v1, v2⟩ := emit_ok (st := L41_20_v1 p q ys (ys, out, cur, fr, (i : Int)) y) ys cur fr (y - fr) out ho (by omega) (fun s j a hj ha => by
          simp only [L41_20_v1, ltL_true hj, listAt_some ha, cond_true, Option.bind_some, nextI (show j < 9223372036854775807 by omega), hsub, hcell a (List.mem_of_getElem? ha)]
          rfl) (fun s => by simp only [L41_20_v1, ltL_false (Nat.le_refl _), cond_false])
        simp only [cond_false]
        rw [v1, Option.bind_some, v2]
        refine ⟨(_, _, _), rfl, fun h => by omega, fun _ => ?_⟩
        unfold Fin
        rw [hgd, ← hii, ← hs]
  · intro s ⟨_, h⟩
    simp only [L41_13, ltL_false (Nat.le_refl _), cond_false]
    exact ⟨_, rfl, h rfl⟩
  · simp only
    unfold Fin
    rw [← h]
    simp [St]
theorem ref_ok (p q : List S25) (xs ys : List Int) (h : Int → Int → Option Bool) (hp : ∀ r ∈ p, W r) (hq : ∀ r ∈ q, W r) (lp : p.length ≤ 1000000) (lq : q.length ≤ 1000000)
    (hys : ∀ y ∈ ys, -100000 ≤ y ∧ y ≤ 100000) (hl : ys.length ≤ 1000000) (hxs : ∀ y ∈ xs, -100000 ≤ y ∧ y ≤ 100000) (hlx : xs.length ≤ 1000000) (hord : xs.Pairwise (· < ·))
    (hed : ∀ r, r ∈ p ∨ r ∈ q → r.f0 ∈ xs ∧ r.f0 + r.f2 ∈ xs) (hh : ∀ x y, ∃ b, h x y = some b ∧ (b = true ↔ hasL p x y ∧ ¬ hasL q x y)) :
    ∃ r, iter (G5 h) (xs, ys, [], [], 0) = some r ∧ r.2.2.2.2.1 ++ r.2.2.2.2.2 = Fin (rowAt p q) ys ∧ r.2.2.2.2.1.length ≤ 1000000000000 ∧ r.2.2.2.2.2.length ≤ 1000000 := by
  have hR : ∀ y, Can (rowAt p q y) := fun y => by obtain ⟨_, _, _, _, _, h, _⟩ := rowAt_ok p q y hp hq lp lq; exact h
  have hedge : ∀ (l : List S25), (∀ r ∈ l, r ∈ p ∨ r ∈ q) → ∀ (j : Nat) (a b x y : Int), xs[j]? = some a → xs[j + 1]? = some b → a ≤ x → x < b → (hasL l x y ↔ hasL l a y) := by
    intro l hsub j a b x y ha hb h1 h2
    constructor
    · rintro ⟨r, hr, h3, h4, h5⟩
      refine ⟨r, hr, ?_, by omega, h5⟩
      rcases next_to hord ha hb (hed r (hsub r hr)).1 with e | e
      · exact e
      · omega
    · rintro ⟨r, hr, h3, h4, h5⟩
      refine ⟨r, hr, by omega, ?_, h5⟩
      rcases next_to hord ha hb (hed r (hsub r hr)).2 with e | e
      · omega
      · omega
  let L : Nat → List S25 := fun k => (St (rowAt p q) ys k).2.1.map (cell (St (rowAt p q) ys k).2.2 (ys.getD k 0 - (St (rowAt p q) ys k).2.2))
  refine iter_up (st := G5 h) (fun (_ : Unit) i => (xs, ys, (St (rowAt p q) ys i).1, L i, (i : Int))) (ys.length - 1) (fun _ _ => True)
    (fun r => r.2.2.2.2.1 ++ r.2.2.2.2.2 = Fin (rowAt p q) ys ∧ r.2.2.2.2.1.length ≤ 1000000000000 ∧ r.2.2.2.2.2.length ≤ 1000000) ?_ ?_ () trivial
  · intro i _ hi _
    have hi0 : i < ys.length := by omega
    have hi1 : i + 1 < ys.length := by omega
    obtain ⟨o1, o2, o3, o4⟩ := St_ok (rowAt p q) ys hR hys i (by omega)
    obtain ⟨y, hy⟩ : ∃ r, ys[i]? = some r := ⟨_, List.getElem?_eq_getElem hi0⟩
    obtain ⟨y', hy'⟩ : ∃ r, ys[i + 1]? = some r := ⟨_, List.getElem?_eq_getElem hi1⟩
    have hb := hys y (List.mem_of_getElem? hy)
    have hb' := hys y' (List.mem_of_getElem? hy')
    obtain ⟨_, _, _, _, _, r4, r5⟩ := rowAt_ok p q y hp hq lp lq
    have hlen := can_len o2
    have hgd : ys.getD i 0 = y := by rw [List.getD_eq_getElem?_getD, hy, Option.getD_some]
    have hgd' : ys.getD (i + 1) 0 = y' := by rw [List.getD_eq_getElem?_getD, hy', Option.getD_some]
    have ho : (St (rowAt p q) ys i).1.length ≤ 1900000000000 := by
      have : i * 200000 ≤ 1000000 * 200000 := Nat.mul_le_mul (by omega) (Nat.le_refl _)
      omega
    have hL : L i = (St (rowAt p q) ys i).2.1.map (cell (St (rowAt p q) ys i).2.2 (y - (St (rowAt p q) ys i).2.2)) := by show List.map _ _ = _; rw [hgd]
    have hL' : L (i + 1) = (St (rowAt p q) ys (i + 1)).2.1.map (cell (St (rowAt p q) ys (i + 1)).2.2 (y' - (St (rowAt p q) ys (i + 1)).2.2)) := by show List.map _ _ = _; rw [hgd']
    simp only [hL, hL']
    have hsame : ∀ e : (St (rowAt p q) ys i).2.1 = rowAt p q y, St (rowAt p q) ys (i + 1) = St (rowAt p q) ys i := fun e => St_same hy e
    have hnew : ∀ e : ¬ (St (rowAt p q) ys i).2.1 = rowAt p q y, St (rowAt p q) ys (i + 1) = ((St (rowAt p q) ys i).1 ++ (St (rowAt p q) ys i).2.1.map (cell (St (rowAt p q) ys i).2.2 (y - (St (rowAt p q) ys i).2.2)), rowAt p q y, y) := fun e => St_new hy e
    generalize St (rowAt p q) ys (i + 1) = S' at hsame hnew ⊢
    generalize St (rowAt p q) ys i = S at hsame hnew o1 o2 o3 o4 hlen ho ⊢
    obtain ⟨out, cur, fr⟩ := S
    simp only at hsame hnew o1 o2 o3 o4 hlen ho ⊢
    obtain ⟨u, rr, u1, u2, u3, u4⟩ := row_ok h xs ys out (cur.map (cell fr (y - fr))) i y y' hy hy' hb hb' hord hxs (by omega) (by omega) (fun x => hasL p x y ∧ ¬ hasL q x y) (fun x _ => hh x y)
    have hrr : rr = rowAt p q y := by
      refine can_unique _ _ u3 r4 fun x => ?_
      rw [u4, r5]
      constructor
      · rintro ⟨j, a, b, ha, hb, h1, h2, h3, h4⟩
        exact ⟨(hedge p (fun r => .inl) j a b x y ha hb h1 h2).2 h3, fun h5 => h4 ((hedge q (fun r => .inr) j a b x y ha hb h1 h2).1 h5)⟩
      · rintro ⟨h3, h4⟩
        obtain ⟨r, hr, h6, h7, h8⟩ := h3
        obtain ⟨j, a, b, ha, hb, h1, h2⟩ := between xs hord x r.f0 (r.f0 + r.f2) (hed r (.inl hr)).1 h6 (hed r (.inl hr)).2 h7
        refine ⟨j, a, b, ha, hb, h1, h2, (hedge p (fun r => .inl) j a b x y ha hb h1 h2).1 ⟨r, hr, h6, h7, h8⟩, fun h5 => h4 ((hedge q (fun r => .inr) j a b x y ha hb h1 h2).2 h5)⟩
    rw [hrr] at u2
    have hlr := can_len r4
    obtain ⟨c, c1, c2⟩ := alike_ok (rowAt p q y) cur y (y' - y) fr (y - fr) (by omega) (by rw [addI_eq (by omega) (by omega)]; omega) r4.1 o2.1
    simp only [G5, nextI (show i < 9223372036854775807 by omega), ltL_true hi1, cond_true]
    rw [u1]
    simp only [Option.bind_some, u2]
    rw [c1, Option.bind_some]
    have happ : appO 32 out (cur.map (cell fr (y - fr))) = some (out ++ cur.map (cell fr (y - fr))) := appO_big (by omega) (by rw [List.length_map]; omega)
    cases c with
    | true =>
      have e := c2.1 rfl
      have hS := hsame e.symm
      subst hS
      simp only [cond_true]
      by_cases h0 : 0 < (rowAt p q y).length
      · have hlt : ltI 0 (lenL ((rowAt p q y).map (cell y (y' - y)))) = true := by
          have := ltL_true (l := (rowAt p q y).map (cell y (y' - y))) (i := 0) (by rw [List.length_map]; exact h0)
          exact this
        rw [hlt]
        simp only [cond_true]
        obtain ⟨v, v1, v2⟩ := grown_ok h (xs, ys, out, cur.map (cell fr (y - fr)), (i : Int)) u xs ys out cur y (y' - y) fr (y - fr) (by omega) (by rw [u2])
        have e2 : addI .i64 (y - fr) (y' - y) = y' - fr := by
          rw [addI_eq (by omega) (by omega)]
          omega
        rw [e] 
        rw [v1, Option.bind_some, v2, e2]
        exact ⟨(), rfl, trivial⟩
      · have h00 : rowAt p q y = [] := List.eq_nil_of_length_eq_zero (by omega)
        have hc0 : cur = [] := by rw [← e, h00]
        rw [h00]
        subst hc0
        refine ⟨(), ?_, trivial⟩
        have : ltI 0 (lenL (List.map (cell y (y' - y)) ([] : List S110))) = false := rfl
        rw [this]
        simp only [cond_false, List.map_nil] at happ ⊢
        rw [happ, List.append_nil]
        rfl
    | false =>
      have e : ¬ cur = rowAt p q y := fun e => by simpa using c2.2 e.symm
      have hS := hnew e
      subst hS
      simp only [cond_false]
      rw [happ]
      exact ⟨(), rfl, trivial⟩
  · intro _ _
    have hlt : ltI ((ys.length - 1 + 1 : Nat) : Int) (lenL ys) = false := ltL_false (by omega)
    obtain ⟨o1, o2, o3, o4⟩ := St_ok (rowAt p q) ys hR hys (ys.length - 1) (by omega)
    have hlen := can_len o2
    simp only [G5, nextI (show ys.length - 1 < 9223372036854775807 by omega), hlt, cond_false]
    refine ⟨_, rfl, rfl, ?_, ?_⟩
    · have : (ys.length - 1) * 200000 ≤ 1000000 * 200000 := Nat.mul_le_mul (by omega) (Nat.le_refl _)
      simp only
      omega
    · show (List.map _ _).length ≤ _
      rw [List.length_map]
      omega
theorem mem_eX {p : List S25} {x : Int} : x ∈ eX p ↔ ∃ r ∈ p, x = r.f0 ∨ x = addI .i64 r.f0 r.f2 := by
  unfold eX
  rw [List.mem_flatMap]
  simp only [List.mem_cons, List.not_mem_nil, or_false]
theorem mem_eY {p : List S25} {x : Int} : x ∈ eY p ↔ ∃ r ∈ p, x = r.f1 ∨ x = addI .i64 r.f1 r.f3 := by
  unfold eY
  rw [List.mem_flatMap]
  simp only [List.mem_cons, List.not_mem_nil, or_false]
end Go.Abs.TV

set_option linter.unusedVariables false
set_option linter.unusedSimpArgs false
set_option maxRecDepth 10000
namespace Go.Abs.TV
open Go.RowKit Go.Proofs Go.Abs
open Classical in
noncomputable def stp (R : Int → List S110) (s : List S25 × List S110 × Int) (y : Int) : List S25 × List S110 × Int :=
  if s.2.1 = R y then s else (s.1 ++ s.2.1.map (cell s.2.2 (y - s.2.2)), R y, y)
theorem stp_cur (R : Int → List S110) (s : List S25 × List S110 × Int) (y : Int) : (stp R s y).2.1 = R y := by
  unfold stp
  by_cases h : s.2.1 = R y
  · rw [if_pos h, h]
  · rw [if_neg h]
theorem St_fold (R : Int → List S110) (ys : List Int) : ∀ k, k ≤ ys.length → St R ys k = (ys.take k).foldl (stp R) ([], [], 0) := by
  intro k
  induction k with
  | zero => intro _; simp [St]
  | succ k ih =>
    intro hk
    obtain ⟨y, hy⟩ : ∃ r, ys[k]? = some r := ⟨_, List.getElem?_eq_getElem (by omega)⟩
    rw [take_next hy, List.foldl_append, ← ih (by omega), List.foldl_cons, List.foldl_nil]
    unfold stp
    by_cases h : (St R ys k).2.1 = R y
    · rw [St_same hy h, if_pos h]
    · rw [St_new hy h, if_neg h]
theorem Fin_fold (R : Int → List S110) (ys : List Int) (h : ∀ y, ys.getLast? = some y → R y = []) : Fin R ys = (ys.foldl (stp R) ([], [], 0)).1 := by
  cases hn : ys.length with
  | zero =>
    have : ys = [] := List.eq_nil_of_length_eq_zero hn
    subst this
    simp [Fin, St]
  | succ n =>
    obtain ⟨y, hy⟩ : ∃ r, ys[n]? = some r := ⟨_, List.getElem?_eq_getElem (by omega)⟩
    have hlast : R y = [] := h y (by rw [List.getLast?_eq_getElem?, hn]; simpa using hy)
    have hall : ys = ys.take n ++ [y] := by
      have := take_next hy
      rw [List.take_of_length_le (by omega)] at this
      exact this
    have hgd : ys.getD n 0 = y := by rw [List.getD_eq_getElem?_getD, hy, Option.getD_some]
    unfold Fin
    rw [hn, Nat.add_sub_cancel, hgd, St_fold R ys n (by omega)]
    conv => rhs; rw [hall, List.foldl_append, List.foldl_cons, List.foldl_nil]
    generalize (ys.take n).foldl (stp R) ([], [], 0) = s
    unfold stp
    by_cases e : s.2.1 = R y
    · rw [if_pos e, e, hlast]
      simp
    · rw [if_neg e]
theorem fold_skip (R : Int → List S110) (E : List Int) (hK : ∀ a b, a ≤ b → (∀ e ∈ E, ¬ (a < e ∧ e ≤ b)) → R a = R b) :
    ∀ (ys : List Int) (s : List S25 × List S110 × Int) (c : Int), ys.Pairwise (· < ·) → (∀ y ∈ ys, c < y) → s.2.1 = R c → (∀ e ∈ E, c < e → e ∈ ys) → ys.foldl (stp R) s = (ys.filter fun y => decide (y ∈ E)).foldl (stp R) s := by
  intro ys
  induction ys with
  | nil => intro s c _ _ _ _; rfl
  | cons y ys ih =>
    intro s c hp hc hs hE
    obtain ⟨h1, h2⟩ := List.pairwise_cons.1 hp
    have hcy := hc y (by simp)
    have hE2 : ∀ e ∈ E, y < e → e ∈ ys := by
      intro e he hye
      rcases List.mem_cons.1 (hE e he (by omega)) with h | h
      · omega
      · exact h
    by_cases hy : y ∈ E
    · rw [List.filter_cons_of_pos (by simpa using hy), List.foldl_cons, List.foldl_cons]
      exact ih _ y h2 (fun z hz => h1 z hz) (stp_cur R s y) hE2
    · rw [List.filter_cons_of_neg (by simpa using hy), List.foldl_cons]
      have hR : R c = R y := hK c y (by omega) fun e he hh => by
        rcases List.mem_cons.1 (hE e he hh.1) with h | h
        · subst h; exact hy he
        · have := h1 e h; omega
      have hst : stp R s y = s := by
        unfold stp
        rw [if_pos (hs.trans hR)]
      rw [hst]
      exact ih s y h2 (fun z hz => h1 z hz) (hs.trans hR) hE2
theorem sorted_same {l m : List Int} (hl : l.Pairwise (· < ·)) (hm : m.Pairwise (· < ·)) (h : ∀ x, x ∈ l ↔ x ∈ m) : l = m := by
  have n1 : l.Nodup := hl.imp fun h => Int.ne_of_lt h
  have n2 : m.Nodup := hm.imp fun h => Int.ne_of_lt h
  exact List.Perm.eq_of_pairwise (le := (· < ·)) (fun a b _ _ h1 h2 => absurd h1 (by omega)) hl hm ((List.perm_ext_iff_of_nodup n1 n2).2 h)
theorem fin_more (R : Int → List S110) (ys ys' : List Int) (h1 : ys.Pairwise (· < ·)) (h2 : ys'.Pairwise (· < ·)) (hsub : ∀ y ∈ ys, y ∈ ys') (hK : ∀ a b, a ≤ b → (∀ e ∈ ys, ¬ (a < e ∧ e ≤ b)) → R a = R b)
    (hlo : ∀ y, (∀ e ∈ ys, y < e) → R y = []) (hhi : ∀ y, (∀ e ∈ ys, e ≤ y) → R y = []) (hb : ∀ y ∈ ys', -100000 ≤ y) : Fin R ys = Fin R ys' := by
  have hlast : ∀ (l : List Int), l.Pairwise (· < ·) → (∀ y ∈ ys, y ∈ l) → ∀ y, l.getLast? = some y → R y = [] := by
    intro l hl hsl y hy
    refine hhi y fun e he => ?_
    have hel := hsl e he
    obtain ⟨m, hm⟩ : ∃ m, l = m ++ [y] := by
      obtain ⟨m, hm⟩ := List.getLast?_eq_some_iff.1 hy
      exact ⟨m, hm⟩
    rw [hm] at hel hl
    rcases List.mem_append.1 hel with h | h
    · have := (List.pairwise_append.1 hl).2.2 e h y (by simp)
      omega
    · rw [List.mem_singleton] at h
      omega
  rw [Fin_fold R ys (hlast ys h1 fun y hy => hy), Fin_fold R ys' (hlast ys' h2 hsub)]
  have hbot : R (-100001) = [] := hlo _ fun e he => by have := hb e (hsub e he); omega
  rw [fold_skip R ys hK ys' ([], [], 0) (-100001) h2 (fun y hy => by have := hb y hy; omega) hbot.symm (fun e he _ => hsub e he)]
  have : (ys'.filter fun y => decide (y ∈ ys)) = ys := by
    refine sorted_same (h2.filter _) h1 fun x => ?_
    rw [List.mem_filter]
    constructor
    · rintro ⟨_, h⟩
      simpa using h
    · intro h
      exact ⟨hsub x h, by simpa using h⟩
  rw [this]
theorem row_same (p q : List S25) (a b : Int) (hp : ∀ r ∈ p, W r) (hq : ∀ r ∈ q, W r) (lp : p.length ≤ 1000000) (lq : q.length ≤ 1000000) (h : ∀ r, r ∈ p ∨ r ∈ q → ∀ x, has r x a ↔ has r x b) : rowAt p q a = rowAt p q b := by
  obtain ⟨_, _, _, _, _, c1, d1⟩ := rowAt_ok p q a hp hq lp lq
  obtain ⟨_, _, _, _, _, c2, d2⟩ := rowAt_ok p q b hp hq lp lq
  have key : ∀ (l : List S25), (∀ r ∈ l, r ∈ p ∨ r ∈ q) → ∀ x, hasL l x a ↔ hasL l x b := fun l hl x => ⟨fun ⟨r, hr, h1⟩ => ⟨r, hr, (h r (hl r hr) x).1 h1⟩, fun ⟨r, hr, h1⟩ => ⟨r, hr, (h r (hl r hr) x).2 h1⟩⟩
  refine can_unique _ _ c1 c2 fun x => ?_
  rw [d1, d2, key p (fun r => .inl) x, key q (fun r => .inr) x]
theorem row_none (p q : List S25) (y : Int) (hp : ∀ r ∈ p, W r) (hq : ∀ r ∈ q, W r) (lp : p.length ≤ 1000000) (lq : q.length ≤ 1000000) (h : ∀ r ∈ p, ∀ x, ¬ has r x y) : rowAt p q y = [] := by
  obtain ⟨_, _, _, _, _, c1, d1⟩ := rowAt_ok p q y hp hq lp lq
  refine can_unique _ _ c1 can_nil fun x => ?_
  rw [d1]
  constructor
  · rintro ⟨⟨r, hr, h1⟩, _⟩
    exact absurd h1 (h r hr x)
  · intro h1; exact absurd h1 (inn_nil x)
theorem Fin_len (R : Int → List S110) (ys : List Int) (hR : ∀ y, Can (R y)) (hys : ∀ y ∈ ys, -100000 ≤ y ∧ y ≤ 100000) : (Fin R ys).length ≤ (ys.length + 1) * 200000 := by
  obtain ⟨h1, h2, _⟩ := St_ok R ys hR hys (ys.length - 1) (by omega)
  have h3 := can_len h2
  unfold Fin
  rw [List.length_append, List.length_map]
  have : (ys.length - 1) * 200000 ≤ ys.length * 200000 := Nat.mul_le_mul_right _ (by omega)
  rw [Nat.succ_mul]
  omega
def edgesY (p : List S25) : List Int := Lib.compact (sortI (eY p))
def edgesX (p : List S25) : List Int := Lib.compact (sortI (eX p))
theorem edgesY_ok (p : List S25) (hp : ∀ r ∈ p, W r) : (edgesY p).Pairwise (· < ·) ∧ (∀ y, y ∈ edgesY p ↔ ∃ r ∈ p, y = r.f1 ∨ y = r.f1 + r.f3) ∧ (∀ y ∈ edgesY p, -100000 ≤ y ∧ y ≤ 100000) ∧ (edgesY p).length ≤ 2 * p.length := by
  have fy := compact_facts (sortI (eY p)) (sortI_sorted _)
  have my : ∀ y, y ∈ edgesY p ↔ ∃ r ∈ p, y = r.f1 ∨ y = r.f1 + r.f3 := fun y => by
    unfold edgesY
    rw [fy.2, (sortI_perm _).mem_iff, mem_eY]
    exact ⟨fun ⟨r, hr, h⟩ => ⟨r, hr, by rw [(w_edge (hp r hr)).2] at h; exact h⟩, fun ⟨r, hr, h⟩ => ⟨r, hr, by rw [(w_edge (hp r hr)).2]; exact h⟩⟩
  refine ⟨fy.1, my, fun y hy => ?_, ?_⟩
  · obtain ⟨r, hr, e⟩ := (my y).1 hy
    have hw := hp r hr
    unfold W at hw
    rcases e with e | e <;> omega
  · have h1 := compact_le (sortI (eY p))
    have h2 := (sortI_perm (eY p)).length_eq
    rw [eY_len] at h2
    unfold edgesY
    omega
theorem edgesX_ok (p : List S25) (hp : ∀ r ∈ p, W r) : (edgesX p).Pairwise (· < ·) ∧ (∀ y, y ∈ edgesX p ↔ ∃ r ∈ p, y = r.f0 ∨ y = r.f0 + r.f2) ∧ (∀ y ∈ edgesX p, -100000 ≤ y ∧ y ≤ 100000) ∧ (edgesX p).length ≤ 2 * p.length := by
  have fy := compact_facts (sortI (eX p)) (sortI_sorted _)
  have my : ∀ y, y ∈ edgesX p ↔ ∃ r ∈ p, y = r.f0 ∨ y = r.f0 + r.f2 := fun y => by
    unfold edgesX
    rw [fy.2, (sortI_perm _).mem_iff, mem_eX]
    exact ⟨fun ⟨r, hr, h⟩ => ⟨r, hr, by rw [(w_edge (hp r hr)).1] at h; exact h⟩, fun ⟨r, hr, h⟩ => ⟨r, hr, by rw [(w_edge (hp r hr)).1]; exact h⟩⟩
  refine ⟨fy.1, my, fun y hy => ?_, ?_⟩
  · obtain ⟨r, hr, e⟩ := (my y).1 hy
    have hw := hp r hr
    unfold W at hw
    rcases e with e | e <;> omega
  · have h1 := compact_le (sortI (eX p))
    have h2 := (sortI_perm (eX p)).length_eq
    rw [eX_len] at h2
    unfold edgesX
    omega
theorem main2 (p q P : List S25) (h : Int → Int → Option Bool) (hp : ∀ r ∈ p, W r) (hq : ∀ r ∈ q, W r) (hP : ∀ r ∈ P, W r) (lp : p.length ≤ 100000) (lq : q.length ≤ 100000) (lP : P.length ≤ 100000)
    (hsub : ∀ r, r ∈ p ∨ r ∈ q → r ∈ P) (hh : ∀ x y, ∃ b, h x y = some b ∧ (b = true ↔ hasL p x y ∧ ¬ hasL q x y)) :
    ∃ o, T41 p q = some o ∧ G P h = some o ∧ o = Fin (rowAt p q) (edgesY (p ++ q)) ∧ o.length ≤ (2 * (p.length + q.length) + 1) * 200000 := by
  have hall : ∀ r ∈ p ++ q, W r := fun r hr => by
    rcases List.mem_append.1 hr with e | e
    · exact hp r e
    · exact hq r e
  have hl : (p ++ q).length ≤ 1000000 := by rw [List.length_append]; omega
  obtain ⟨y1, y2, y3, y4⟩ := edgesY_ok (p ++ q) hall
  obtain ⟨Y1, Y2, Y3, Y4⟩ := edgesY_ok P hP
  obtain ⟨X1, X2, X3, X4⟩ := edgesX_ok P hP
  rw [List.length_append] at y4
  have hR : ∀ y, Can (rowAt p q y) := fun y => by obtain ⟨_, _, _, _, _, h, _⟩ := rowAt_ok p q y hp hq (by omega) (by omega); exact h
  obtain ⟨e, e1, e2⟩ := edges_loop p q (p ++ q) hl
  obtain ⟨u, u1, u2⟩ := prog_ok p q (edgesY (p ++ q)) hp hq (by omega) (by omega) y3 (by omega)
  obtain ⟨v, v1, v2, v3, v4⟩ := ref_ok p q (edgesX P) (edgesY P) h hp hq (by omega) (by omega) Y3 (by omega) X3 (by omega) X1 (fun r hr => ⟨(X2 _).2 ⟨r, hsub r hr, .inl rfl⟩, (X2 _).2 ⟨r, hsub r hr, .inr rfl⟩⟩) hh
  have hmore : Fin (rowAt p q) (edgesY (p ++ q)) = Fin (rowAt p q) (edgesY P) := by
    have mem : ∀ r, r ∈ p ∨ r ∈ q → r.f1 ∈ edgesY (p ++ q) ∧ r.f1 + r.f3 ∈ edgesY (p ++ q) := fun r hr => ⟨(y2 _).2 ⟨r, List.mem_append.2 hr, .inl rfl⟩, (y2 _).2 ⟨r, List.mem_append.2 hr, .inr rfl⟩⟩
    have hw : ∀ r, r ∈ p ∨ r ∈ q → W r := fun r hr => hall r (List.mem_append.2 hr)
    refine fin_more _ _ _ y1 Y1 (fun y hy => ?_) (fun a b hab hE => ?_) (fun y hE => ?_) (fun y hE => ?_) (fun y hy => (Y3 y hy).1)
    · obtain ⟨r, hr, h1⟩ := (y2 y).1 hy
      exact (Y2 y).2 ⟨r, hsub r (List.mem_append.1 hr), h1⟩
    · refine row_same p q a b hp hq (by omega) (by omega) fun r hr x => ?_
      have h1 := hE _ (mem r hr).1
      have h2 := hE _ (mem r hr).2
      unfold has
      omega
    · refine row_none p q y hp hq (by omega) (by omega) fun r hr x hx => ?_
      have h1 := hE _ (mem r (.inl hr)).1
      unfold has at hx
      omega
    · refine row_none p q y hp hq (by omega) (by omega) fun r hr x hx => ?_
      have h1 := hE _ (mem r (.inl hr)).2
      unfold has at hx
      omega
  refine ⟨Fin (rowAt p q) (edgesY (p ++ q)), ?_, ?_, rfl, ?_⟩
  · unfold T41
    rw [both_ok p q (by omega) (by omega), Option.bind_some, e1, Option.bind_some, e2]
    unfold sortIO compIO
    rw [if_pos (by rw [eY_len]; omega), Option.bind_some, Option.bind_some]
    unfold edgesY at u1 u2
    rw [u1, Option.bind_some, u2]
    rfl
  · unfold G
    rw [xs_ok _ (by omega), Option.bind_some, ys_ok _ (by omega), Option.bind_some]
    have e1 : iter (G5 h) (Lib.compact (sortI (eX P)), Lib.compact (sortI (eY P)), [], [], 0) = some v := v1
    rw [e1, Option.bind_some, appO_big (by omega) (by omega), Option.bind_some, v2, hmore]
  · have := Fin_len (rowAt p q) (edgesY (p ++ q)) hR y3
    exact Nat.le_trans this (Nat.mul_le_mul_right _ (by omega))
end Go.Abs.TV

set_option linter.unusedVariables false
set_option linter.unusedSimpArgs false
set_option maxRecDepth 10000
namespace Go.Abs.TV
open Go.RowKit Go.Proofs Go.Abs
def inB (a b c : Int) : Bool := leI b a && leI a c
theorem t32 (a b c : Int) : T53 a b c = some (inB a b c) := by
  unfold T53 inB
  cases leI b a <;> cases leI a c <;> rfl
theorem t262 (r : S25) (x y : Int) (hw : W r) : ∃ b, T54 r x y = some b ∧ (b = true ↔ has r x y) := by
  have he := w_edge hw
  unfold W at hw
  unfold T54
  rw [he.1, he.2, subI_eq (by omega) (by omega), subI_eq (by omega) (by omega), t32, t32]
  simp only [Option.bind_some]
  unfold inB leI has
  cases h : (decide (r.f0 ≤ x) && decide (x ≤ r.f0 + r.f2 - 1)) with
  | true =>
    refine ⟨_, rfl, ?_⟩
    simp only [Bool.and_eq_true, decide_eq_true_eq] at h ⊢
    omega
  | false =>
    refine ⟨false, rfl, ?_⟩
    have : ¬ (r.f0 ≤ x ∧ x ≤ r.f0 + r.f2 - 1) := fun hh => by
      rw [decide_eq_true hh.1, decide_eq_true hh.2] at h
      cases h
    simp only [Bool.false_eq_true, false_iff]
    omega
end Go.Abs.TV

set_option linter.unusedVariables false
set_option linter.unusedSimpArgs false
set_option maxRecDepth 10000
namespace Go.Abs.TV
open Go.RowKit Go.Proofs Go.Abs
theorem t37 (a b c : Int) : T64 a b c = some (!inB a b c) := by
  unfold T64 inB ltI leI
  by_cases h1 : a < b
  · have : ¬ b ≤ a := by omega
    simp [h1, this]
  · have : b ≤ a := by omega
    by_cases h2 : c < a
    · have h3 : ¬ a ≤ c := by omega
      simp [h1, h2, this, h3]
    · have h3 : a ≤ c := by omega
      simp [h1, h2, this, h3]
def good (r : S25) : Bool := inB r.f0 (-100000) 100000 && inB r.f1 (-100000) 100000 && inB r.f2 1 (subI .i64 100000 r.f0) && inB r.f3 1 (subI .i64 100000 r.f1)
theorem t35 (r : S25) : T43 r = some (bif good r then 0 else 1) := by
  unfold T43 good
  simp only [t37, Option.bind_some]
  cases inB r.f0 (-100000) 100000 <;> cases inB r.f1 (-100000) 100000 <;> cases inB r.f2 1 (subI .i64 100000 r.f0) <;> cases inB r.f3 1 (subI .i64 100000 r.f1) <;> rfl
theorem t30 (r : S25) : T19 r = some (bif good r then 0 else 1) := by
  unfold T19 good
  simp only [t32, Option.bind_some]
  cases inB r.f0 (-100000) 100000 <;> cases inB r.f1 (-100000) 100000 <;> cases inB r.f2 1 (subI .i64 100000 r.f0) <;> cases inB r.f3 1 (subI .i64 100000 r.f1) <;> rfl
theorem neI_code (b : Bool) : neI (bif b then (0 : Int) else 1) 0 = !b := by cases b <;> rfl
theorem good_W {r : S25} (h : good r = true) : W r := by
  unfold good inB leI at h
  simp only [Bool.and_eq_true, decide_eq_true_eq] at h
  obtain ⟨⟨⟨⟨h1, h2⟩, h3, h4⟩, h5, h6⟩, h7, h8⟩ := h
  rw [subI_eq (by omega) (by omega)] at h6 h8
  unfold W
  omega
def side (a : Int) : Bool := inB a 1 20000
theorem t46 (a : Int) : T72 a = some (side a) := by
  unfold T72
  rw [t37, Option.bind_some, Bool.not_not]
  rfl
theorem t29 (a : Int) : T47 a = some (side a) := by
  unfold T47
  rw [t32, Option.bind_some]
  rfl
theorem t34 (a b : Int) : T51 [a, b] = some (bif side a && side b then 0 else 1) := by
  unfold T51
  have hlt2 : ltI 2 (lenL [a, b]) = false := rfl
  have n0 : addI .i64 0 1 = 1 := by decide
  have n1 : addI .i64 1 1 = 2 := by decide
  have a0 : listAt [a, b] 0 = some a := rfl
  have a1 : listAt [a, b] 1 = some b := rfl
  have h0 : L51_2 [a, b] 0 = bif side a then some (.inl 1) else some (.inr (.inr ())) := by
    simp only [L51_2, show ltI 0 (lenL [a, b]) = true from rfl, a0, cond_true, Option.bind_some, t46, n0]
    cases side a <;> rfl
  have h1 : L51_2 [a, b] 1 = bif side b then some (.inl 2) else some (.inr (.inr ())) := by
    simp only [L51_2, show ltI 1 (lenL [a, b]) = true from rfl, a1, cond_true, Option.bind_some, t46, n1]
    cases side b <;> rfl
  have h2 : L51_2 [a, b] 2 = some (.inr (.inl (2, false))) := by simp only [L51_2, hlt2, cond_false]
  cases ha : side a with
  | false => rw [ha] at h0; rw [iter_inr h0]; rfl
  | true =>
    rw [ha] at h0
    rw [iter_inl h0]
    cases hb : side b with
    | false => rw [hb] at h1; rw [iter_inr h1]; rfl
    | true => rw [hb] at h1; rw [iter_inl h1, iter_inr h2]; rfl
def ins (r : S25) (w h : Int) : Bool := leI 0 r.f0 && (leI 0 r.f1 && (leI (addI .i64 r.f0 r.f2) w && leI (addI .i64 r.f1 r.f3) h))
theorem t36 (r : S25) (w h : Int) : T52 r w h = some (ins r w h) := by
  unfold T52 ins
  cases leI 0 r.f0 <;> cases leI 0 r.f1 <;> cases leI (addI .i64 r.f0 r.f2) w <;> rfl
theorem t31 (r : S25) (w h : Int) : T48 r w h = some (ins r w h) := by
  unfold T48 ins
  cases leI 0 r.f0 <;> cases leI 0 r.f1 <;> cases leI (addI .i64 r.f0 r.f2) w <;> rfl
theorem eqB_self (a : ByteArray) : eqB a a = true := by
  show (a.data == a.data) = true
  exact beq_self_eq_true a.data
theorem neI_self (a : Int) : neI a a = false := by rw [neI_iff]; simp
theorem same_all {α : Type} {st : Int → Option (Int ⊕ ((Int × Bool) ⊕ Unit))} (l : List α) (hl : l.length ≤ 2000000000000)
    (h1 : ∀ (i : Nat) x, i < l.length → l[i]? = some x → st (i : Int) = some (.inl ((i + 1 : Nat) : Int))) (h2 : ∃ y, st (l.length : Int) = some (.inr (.inl y))) : ∃ y, iter st 0 = some (.inl y) := by
  obtain ⟨r, r1, r2⟩ : ∃ r, iter st 0 = some r ∧ r.isLeft = true := by
    refine iter_up (st := st) (fun (_ : Unit) i => (i : Int)) l.length (fun _ _ => True) (fun r => r.isLeft = true) ?_ ?_ () trivial
    · intro i _ hi _
      obtain ⟨x, hx⟩ : ∃ r, l[i]? = some r := ⟨_, List.getElem?_eq_getElem hi⟩
      exact ⟨(), h1 i x hi hx, trivial⟩
    · intro _ _
      obtain ⟨y, hy⟩ := h2
      exact ⟨_, hy, rfl⟩
  cases r with
  | inl y => exact ⟨y, r1⟩
  | inr y => cases r2
theorem t13 (a b : Int) : T17 [a, b] = some (if a = 0 then b else a) := by
  unfold T17
  have hlt2 : ltI 2 (lenL [a, b]) = false := rfl
  have n0 : addI .i64 0 1 = 1 := by decide
  have n1 : addI .i64 1 1 = 2 := by decide
  have a0 : listAt [a, b] 0 = some a := rfl
  have a1 : listAt [a, b] 1 = some b := rfl
  by_cases ha : a = 0
  · rw [if_pos ha]
    have e0 : neI a 0 = false := by rw [neI_iff, decide_eq_true ha]; rfl
    have h0 : L17_2 [a, b] 0 = some (.inl 1) := by simp only [L17_2, show ltI 0 (lenL [a, b]) = true from rfl, a0, cond_true, Option.bind_some, e0, cond_false, n0]
    rw [iter_inl h0]
    by_cases hb : b = 0
    · have e1 : neI b 0 = false := by rw [neI_iff, decide_eq_true hb]; rfl
      have h1 : L17_2 [a, b] 1 = some (.inl 2) := by simp only [L17_2, show ltI 1 (lenL [a, b]) = true from rfl, a1, cond_true, Option.bind_some, e1, cond_false, n1]
      have h2 : L17_2 [a, b] 2 = some (.inr (.inl (2, false))) := by simp only [L17_2, hlt2, cond_false]
      rw [iter_inl h1, iter_inr h2, hb]
      rfl
    · have e1 : neI b 0 = true := by rw [neI_iff, decide_eq_false hb]; rfl
      have h1 : L17_2 [a, b] 1 = some (.inr (.inr b)) := by simp only [L17_2, show ltI 1 (lenL [a, b]) = true from rfl, a1, cond_true, Option.bind_some, e1]
      rw [iter_inr h1]
      rfl
  · rw [if_neg ha]
    have e0 : neI a 0 = true := by rw [neI_iff, decide_eq_false ha]; rfl
    have h0 : L17_2 [a, b] 0 = some (.inr (.inr a)) := by simp only [L17_2, show ltI 0 (lenL [a, b]) = true from rfl, a0, cond_true, Option.bind_some, e0]
    rw [iter_inr h0]
    rfl
end Go.Abs.TV

set_option linter.unusedVariables false
set_option linter.unusedSimpArgs false
set_option maxRecDepth 10000
namespace Go.Abs.TV
open Go.RowKit Go.Proofs Go.Abs
def Prev {α : Type} (l : List α) (k : α → ByteArray) (i : Nat) (s : ByteArray) : Prop := (i = 0 ∧ s = ByteArray.mk #[]) ∨ ∃ x, 0 < i ∧ l[i - 1]? = some x ∧ s = k x
def screenF (w h : Int) (_ : Nat) (last : ByteArray) (z : S37) : ByteArray ⊕ Int :=
  bif !key z.f0 then .inr 5 else bif !good z.f1 then .inr 1 else bif !ins z.f1 w h then .inr 3 else bif leS z.f0 last then .inr 7 else .inl z.f0
theorem screenF_inl {w h : Int} {i : Nat} {u s : ByteArray} {z : S37} (hf : screenF w h i u z = .inl s) : key z.f0 = true ∧ good z.f1 = true ∧ s = z.f0 := by
  unfold screenF at hf
  cases h1 : key z.f0 <;> rw [h1] at hf
  · cases hf
  cases h2 : good z.f1 <;> rw [h2] at hf
  · cases hf
  cases h3 : ins z.f1 w h <;> rw [h3] at hf
  · cases hf
  cases h5 : leS z.f0 u <;> rw [h5] at hf
  · exact ⟨rfl, rfl, (Sum.inl.inj hf).symm⟩
  · cases hf
theorem screenF_inr {w h : Int} {i : Nat} {u : ByteArray} {z : S37} {r : Int} (hf : screenF w h i u z = .inr r) : r ≠ 0 := by
  unfold screenF at hf
  cases h1 : key z.f0 <;> rw [h1] at hf
  · cases hf; decide
  cases h2 : good z.f1 <;> rw [h2] at hf
  · cases hf; decide
  cases h3 : ins z.f1 w h <;> rw [h3] at hf
  · cases hf; decide
  cases h5 : leS z.f0 u <;> rw [h5] at hf
  · cases hf
  · cases hf; decide
theorem meet_same : T49 = T44 := rfl
theorem meet_some (p q : S25) : ∃ v, T44 p q = some v := by
  unfold T44
  cases leI (subI .i64 (minI (addI .i64 p.f0 p.f2) (addI .i64 q.f0 q.f2)) (maxI p.f0 q.f0)) 0
  · cases leI (subI .i64 (minI (addI .i64 p.f1 p.f3) (addI .i64 q.f1 q.f3)) (maxI p.f1 q.f1)) 0
    · exact ⟨_, rfl⟩
    · exact ⟨_, rfl⟩
  · exact ⟨_, rfl⟩
theorem over_same : L15_23 = L16_22 := rfl
theorem over_in (l : S23) (z1 : Int) (x9 : S37) (x10 : List S37) (hl : x10.length ≤ 1048576) : ∃ y, iter (L16_25 l z1 x9 x10) 0 = some y := by
  obtain ⟨r, h, _⟩ := iter_upx (st := L16_25 l z1 x9 x10) (fun (_ : Unit) i => (i : Int)) x10.length (fun _ _ => True) (fun _ => True) (fun i _ hi _ => by
    obtain ⟨z, hz⟩ : ∃ r, x10[i]? = some r := ⟨_, List.getElem?_eq_getElem hi⟩
    obtain ⟨v, hv⟩ := meet_some x9.f1 z.f1
    simp only [L16_25, ltL_true hi, listAt_some hz, cond_true, Option.bind_some, nextI (show i < 9223372036854775807 by omega), hv]
    cases v.2 with
    | true => exact .inr ⟨_, rfl, trivial⟩
    | false => exact .inl ⟨(), rfl, trivial⟩) (fun _ _ => by
    simp only [L16_25, ltL_false (Nat.le_refl _), cond_false]
    exact ⟨_, rfl, trivial⟩) 0 () (Nat.zero_le _) trivial
  exact ⟨r, h⟩
theorem cutL_take (l : List S37) (i : Nat) (h : i ≤ l.length) : ∃ m, cutL l none (some (i : Int)) = some m ∧ m.length ≤ l.length := by
  have h1 : (0 : Int) ≤ (i : Int) ∧ (i : Int) ≤ (l.length : Int) := by omega
  have e : cutL l none (some (i : Int)) = some ((l.take i).drop 0) := by
    unfold cutL cutB
    simp only [if_pos h1, Option.bind_some, Option.map_some, Int.toNat_natCast]
  refine ⟨_, e, ?_⟩
  rw [List.drop_zero, List.length_take]
  omega
theorem over_some (l : S23) (hl : l.f3.length ≤ 1048576) : ∃ y, iter (L16_22 l) 0 = some y := by
  obtain ⟨r, h, _⟩ := iter_upx (st := L16_22 l) (fun (_ : Unit) i => (i : Int)) l.f3.length (fun _ _ => True) (fun _ => True) (fun i _ hi _ => by
    obtain ⟨z, hz⟩ : ∃ r, l.f3[i]? = some r := ⟨_, List.getElem?_eq_getElem hi⟩
    obtain ⟨m, m1, m2⟩ := cutL_take l.f3 i (by omega)
    obtain ⟨v, hv⟩ := over_in l (i : Int) z m (by omega)
    simp only [L16_22, ltL_true hi, listAt_some hz, cond_true, Option.bind_some, nextI (show i < 9223372036854775807 by omega), m1, hv]
    cases v with
    | inr y => exact .inr ⟨_, rfl, trivial⟩
    | inl y => exact .inl ⟨(), rfl, trivial⟩) (fun _ _ => by
    simp only [L16_22, ltL_false (Nat.le_refl _), cond_false]
    exact ⟨_, rfl, trivial⟩) 0 () (Nat.zero_le _) trivial
  exact ⟨r, h⟩
noncomputable def overF (l : S23) : Int := Sum.elim (fun _ => 0) (fun _ => 13) ((iter (L16_22 l) 0).getD (.inl (0, false)))
noncomputable def faultW (l : S23) : Int := bif !key l.f0 then 5 else bif !(side l.f1 && side l.f2) then 1 else bif ltI 50 (lenL l.f3) then 2 else Sum.elim (fun _ => overF l) id (wp (screenF l.f1 l.f2) 0 (ByteArray.mk #[]) l.f3)
theorem T16_eq (l : S23) (hl : ok23 1048576 l) : T16 l = some (faultW l) := by
  obtain ⟨q1, q2, q3, q4, q5⟩ := hl
  have hi : iter (L16_9 l) ((0 : Nat) : Int) = some (Sum.elim (fun _ => .inl ((l.f3.length : Int), false)) (fun r => .inr r) (wp (screenF l.f1 l.f2) 0 (ByteArray.mk #[]) l.f3)) := by
    refine iter_wp (fun _ i => (i : Int)) _ _ l.f3 (screenF l.f1 l.f2) (Prev l.f3 S37.f0) (fun i u x hx hI => ?_) (fun u _ => ?_) _ (.inl ⟨rfl, rfl⟩)
    · have hlt : i < l.f3.length := (List.getElem?_eq_some_iff.1 hx).1
      obtain ⟨k1, _⟩ := q5 x (List.mem_of_getElem? hx)
      have h3 := T50_eq x.f0 k1
      refine ⟨?_, fun s' hf => ?_⟩
      · simp only [L16_9, ltL_true hlt, cond_true, listAt_some hx, Option.bind_some, h3, nextI (show i < 9223372036854775807 by omega), screenF, t35, t36, neI_code]
        cases hk : key x.f0 with
        | false => rfl
        | true =>
          simp only [Bool.not_true, cond_false]
          rcases hI with ⟨rfl, rfl⟩ | ⟨y, hi0, hy, hu⟩
          · have h4 : ltI 0 ((0 : Nat) : Int) = false := rfl
            rw [h4, leS_empty (key_pos hk)]
            simp only [cond_false]
            cases good x.f1 <;> cases ins x.f1 l.f1 l.f2 <;> rfl
          · have h4 : ltI 0 (i : Int) = true := by rw [ltI_iff]; simp; omega
            have h5 : subI .i64 (i : Int) 1 = ((i - 1 : Nat) : Int) := by rw [subI_eq (by omega) (by omega)]; omega
            rw [h4, h5, listAt_some hy, hu]
            simp only [cond_true, Option.bind_some, leS]
            cases good x.f1 <;> cases ins x.f1 l.f1 l.f2 <;> cases (ltS x.f0 y.f0 || eqS x.f0 y.f0) <;> rfl
      · exact .inr ⟨x, by omega, by simpa using hx, (screenF_inl hf).2.2⟩
    · simp only [L16_9, ltL_false (Nat.le_refl _), cond_false]
  obtain ⟨v, hv⟩ := over_some l q4
  unfold T16 faultW overF
  rw [T50_eq _ q1, Option.bind_some, t34, Option.bind_some, hv, show (0 : Int) = ((0 : Nat) : Int) from rfl, hi]
  cases key l.f0 <;> cases side l.f1 <;> cases side l.f2 <;> cases ltI 50 (lenL l.f3) <;> cases wp (screenF l.f1 l.f2) 0 (ByteArray.mk #[]) l.f3 <;> cases v <;> rfl
theorem T15_eq (l : S23) (hl : ok23 1048576 l) : T15 l = some (faultW l) := by
  obtain ⟨q1, q2, q3, q4, q5⟩ := hl
  have hi : iter (L15_9 l) (ByteArray.mk #[], ((0 : Nat) : Int)) = some (Sum.elim (fun s => .inl (s, (l.f3.length : Int), false)) (fun r => .inr r) (wp (screenF l.f1 l.f2) 0 (ByteArray.mk #[]) l.f3)) := by
    refine iter_wp (fun s i => (s, (i : Int))) _ _ l.f3 (screenF l.f1 l.f2) (fun _ _ => True) (fun i u x hx _ => ⟨?_, fun _ _ => trivial⟩) (fun u _ => ?_) _ trivial
    · have hlt : i < l.f3.length := (List.getElem?_eq_some_iff.1 hx).1
      obtain ⟨k1, _⟩ := q5 x (List.mem_of_getElem? hx)
      have h3 := T46_eq x.f0 k1
      simp only [L15_9, ltL_true hlt, cond_true, listAt_some hx, Option.bind_some, h3, nextI (show i < 9223372036854775807 by omega), screenF, t30, t31, neI_code, leS]
      cases key x.f0 <;> cases good x.f1 <;> cases ins x.f1 l.f1 l.f2 <;> cases (ltS x.f0 u || eqS x.f0 u) <;> rfl
    · simp only [L15_9, ltL_false (Nat.le_refl _), cond_false]
  obtain ⟨v, hv⟩ := over_some l q4
  unfold T15 faultW overF
  rw [T46_eq _ q1, Option.bind_some, t29, Option.bind_some, t29, Option.bind_some, over_same, hv, show (0 : Int) = ((0 : Nat) : Int) from rfl, hi]
  cases key l.f0 <;> cases side l.f1 <;> cases side l.f2 <;> cases ltI 50 (lenL l.f3) <;> cases wp (screenF l.f1 l.f2) 0 (ByteArray.mk #[]) l.f3 <;> cases v <;> rfl
theorem wp_screens (w h : Int) : ∀ (l : List S37) (i : Nat) (u : ByteArray), (∀ r, wp (screenF w h) i u l = .inr r → r ≠ 0) ∧ ∀ s, wp (screenF w h) i u l = .inl s → (∀ z ∈ l, good z.f1 = true)
  | [], i, u => ⟨fun r h => (by cases h), fun s _ => by simp⟩
  | z :: l, i, u => by
    unfold wp
    cases hf : screenF w h i u z with
    | inr r => exact ⟨fun r' h => (by cases h; exact screenF_inr hf), fun s h => (by cases h)⟩
    | inl v =>
      obtain ⟨h1, h2, h4⟩ := screenF_inl hf
      subst h4
      obtain ⟨g1, g2⟩ := wp_screens w h l (i + 1) z.f0
      refine ⟨fun r h => g1 r h, fun s h => ?_⟩
      have g3 := g2 s h
      intro y hy
      rcases List.mem_cons.1 hy with e | e
      · subst e
        exact h2
      · exact g3 y e
structure RightW (l : S23) : Prop where
  few : l.f3.length ≤ 50
  rects : ∀ z ∈ l.f3, W z.f1
  side : 1 ≤ l.f1 ∧ l.f1 ≤ 20000 ∧ 1 ≤ l.f2 ∧ l.f2 ≤ 20000
theorem right_w {l : S23} (h : faultW l = 0) : RightW l := by
  unfold faultW at h
  cases h1 : key l.f0 <;> rw [h1] at h
  · cases h
  simp only [Bool.not_true, cond_false] at h
  cases h2 : (side l.f1 && side l.f2) <;> rw [h2] at h
  · cases h
  simp only [Bool.not_true, cond_false] at h
  cases h3 : ltI 50 (lenL l.f3) <;> rw [h3] at h
  · simp only [cond_false] at h
    obtain ⟨g1, g2⟩ := wp_screens l.f1 l.f2 l.f3 0 (ByteArray.mk #[])
    cases h4 : wp (screenF l.f1 l.f2) 0 (ByteArray.mk #[]) l.f3 with
    | inr r =>
      rw [h4] at h
      exact absurd h (g1 r h4)
    | inl s =>
      have g3 := g2 s h4
      refine ⟨?_, fun z hz => good_W (g3 z hz), ?_⟩
      · rw [ltI_iff, lenL_eq] at h3
        have := of_decide_eq_false h3
        omega
      · unfold side inB leI at h2
        simp only [Bool.and_eq_true, decide_eq_true_eq] at h2
        omega
  · cases h
theorem rects_ok (l : S23) (hl : RightW l) : T42 l = some (l.f3.map (·.f1)) := by
  have hfew := hl.few
  · obtain ⟨u, u1, u2⟩ : ∃ r, iter (L42_3 l) ([], 0) = some r ∧ r.2.2 = l.f3.map (·.f1) := by
      refine iter_up (st := L42_3 l) (fun (s : List S25) i => (s, (i : Int))) l.f3.length (fun i s => s = (l.f3.take i).map (·.f1)) (fun r => r.2.2 = l.f3.map (·.f1)) ?_ ?_ [] rfl
      · intro i s hi hs
        obtain ⟨z, hz⟩ : ∃ r, l.f3[i]? = some r := ⟨_, List.getElem?_eq_getElem hi⟩
        have hlen : s.length ≤ 50 := by rw [hs, List.length_map, List.length_take]; omega
        simp only [L42_3, ltL_true hi, listAt_some hz, cond_true, Option.bind_some, nextI (show i < 9223372036854775807 by omega)]
        rw [appO_big (by omega) (by simp only [List.length_cons, List.length_nil]; omega)]
        refine ⟨_, rfl, ?_⟩
        rw [hs, take_next hz, List.map_append]
        rfl
      · intro s hs
        simp only [L42_3, ltL_false (Nat.le_refl _), cond_false]
        refine ⟨_, rfl, ?_⟩
        rw [hs, List.take_length]
    unfold T42
    rw [u1, Option.bind_some, u2]
end Go.Abs.TV

set_option linter.unusedVariables false
set_option linter.unusedSimpArgs false
set_option maxRecDepth 10000
namespace Go.Abs.TV
open Go.RowKit Go.Proofs Go.Abs
def zoneF (w h : Int) (_ : Nat) (last : ByteArray) (z : S64) : ByteArray ⊕ Int :=
  bif !key z.f0 then .inr 5 else bif !good z.f1 then .inr 1 else bif !ins z.f1 w h then .inr 3 else bif !inB z.f2 0 1000 then .inr 1 else bif leS z.f0 last then .inr 7 else .inl z.f0
theorem zoneF_inl {w h : Int} {i : Nat} {u s : ByteArray} {z : S64} (hf : zoneF w h i u z = .inl s) : key z.f0 = true ∧ good z.f1 = true ∧ leS z.f0 u = false ∧ s = z.f0 := by
  unfold zoneF at hf
  cases h1 : key z.f0 <;> rw [h1] at hf
  · cases hf
  cases h2 : good z.f1 <;> rw [h2] at hf
  · cases hf
  cases h3 : ins z.f1 w h <;> rw [h3] at hf
  · cases hf
  cases h4 : inB z.f2 0 1000 <;> rw [h4] at hf
  · cases hf
  cases h5 : leS z.f0 u <;> rw [h5] at hf
  · exact ⟨rfl, rfl, rfl, (Sum.inl.inj hf).symm⟩
  · cases hf
theorem zoneF_inr {w h : Int} {i : Nat} {u : ByteArray} {z : S64} {r : Int} (hf : zoneF w h i u z = .inr r) : r ≠ 0 := by
  unfold zoneF at hf
  cases h1 : key z.f0 <;> rw [h1] at hf
  · cases hf; decide
  cases h2 : good z.f1 <;> rw [h2] at hf
  · cases hf; decide
  cases h3 : ins z.f1 w h <;> rw [h3] at hf
  · cases hf; decide
  cases h4 : inB z.f2 0 1000 <;> rw [h4] at hf
  · cases hf; decide
  cases h5 : leS z.f0 u <;> rw [h5] at hf
  · cases hf
  · cases hf; decide
def faultL (l : S31) : Int := bif !key l.f0 then 5 else bif !(side l.f1 && side l.f2) then 1 else bif ltI 30 (lenL l.f3) then 2 else Sum.elim (fun _ => 0) id (wp (zoneF l.f1 l.f2) 0 (ByteArray.mk #[]) l.f3)
theorem T76_eq (l : S31) (hl : ok31 1048576 l) : T76 l = some (faultL l) := by
  obtain ⟨q1, q2, q3, q4, q5⟩ := hl
  have hi : iter (L76_9 l) ((0 : Nat) : Int) = some (Sum.elim (fun _ => .inl ((l.f3.length : Int), false)) (fun r => .inr r) (wp (zoneF l.f1 l.f2) 0 (ByteArray.mk #[]) l.f3)) := by
    refine iter_wp (fun _ i => (i : Int)) _ _ l.f3 (zoneF l.f1 l.f2) (Prev l.f3 S64.f0) (fun i u x hx hI => ?_) (fun u _ => ?_) _ (.inl ⟨rfl, rfl⟩)
    · have hlt : i < l.f3.length := (List.getElem?_eq_some_iff.1 hx).1
      obtain ⟨k1, _⟩ := q5 x (List.mem_of_getElem? hx)
      have h3 := T50_eq x.f0 k1
      refine ⟨?_, fun s' hf => ?_⟩
      · simp only [L76_9, ltL_true hlt, cond_true, listAt_some hx, Option.bind_some, h3, nextI (show i < 9223372036854775807 by omega), zoneF, t35, t36, t37, neI_code]
        cases hk : key x.f0 with
        | false => rfl
        | true =>
          simp only [Bool.not_true, cond_false]
          rcases hI with ⟨rfl, rfl⟩ | ⟨y, hi0, hy, hu⟩
          · have h4 : ltI 0 ((0 : Nat) : Int) = false := rfl
            rw [h4, leS_empty (key_pos hk)]
            simp only [cond_false]
            cases good x.f1 <;> cases ins x.f1 l.f1 l.f2 <;> cases inB x.f2 0 1000 <;> rfl
          · have h4 : ltI 0 (i : Int) = true := by rw [ltI_iff]; simp; omega
            have h5 : subI .i64 (i : Int) 1 = ((i - 1 : Nat) : Int) := by rw [subI_eq (by omega) (by omega)]; omega
            rw [h4, h5, listAt_some hy, hu]
            simp only [cond_true, Option.bind_some, leS]
            cases good x.f1 <;> cases ins x.f1 l.f1 l.f2 <;> cases inB x.f2 0 1000 <;> cases (ltS x.f0 y.f0 || eqS x.f0 y.f0) <;> rfl
      · exact .inr ⟨x, by omega, by simpa using hx, (zoneF_inl hf).2.2.2⟩
    · simp only [L76_9, ltL_false (Nat.le_refl _), cond_false]
  unfold T76 faultL
  rw [T50_eq _ q1, Option.bind_some, t34, Option.bind_some, show (0 : Int) = ((0 : Nat) : Int) from rfl, hi]
  cases key l.f0 <;> cases side l.f1 <;> cases side l.f2 <;> cases ltI 30 (lenL l.f3) <;> cases wp (zoneF l.f1 l.f2) 0 (ByteArray.mk #[]) l.f3 <;> rfl
theorem T31_eq (l : S31) (hl : ok31 1048576 l) : T31 l = some (faultL l) := by
  obtain ⟨q1, q2, q3, q4, q5⟩ := hl
  have hi : iter (L31_9 l) (ByteArray.mk #[], ((0 : Nat) : Int)) = some (Sum.elim (fun s => .inl (s, (l.f3.length : Int), false)) (fun r => .inr r) (wp (zoneF l.f1 l.f2) 0 (ByteArray.mk #[]) l.f3)) := by
    refine iter_wp (fun s i => (s, (i : Int))) _ _ l.f3 (zoneF l.f1 l.f2) (fun _ _ => True) (fun i u x hx _ => ⟨?_, fun _ _ => trivial⟩) (fun u _ => ?_) _ trivial
    · have hlt : i < l.f3.length := (List.getElem?_eq_some_iff.1 hx).1
      obtain ⟨k1, _⟩ := q5 x (List.mem_of_getElem? hx)
      have h3 := T46_eq x.f0 k1
      simp only [L31_9, ltL_true hlt, cond_true, listAt_some hx, Option.bind_some, h3, nextI (show i < 9223372036854775807 by omega), zoneF, t30, t31, t32, neI_code, leS]
      cases key x.f0 <;> cases good x.f1 <;> cases ins x.f1 l.f1 l.f2 <;> cases inB x.f2 0 1000 <;> cases (ltS x.f0 u || eqS x.f0 u) <;> rfl
    · simp only [L31_9, ltL_false (Nat.le_refl _), cond_false]
  unfold T31 faultL
  rw [T46_eq _ q1, Option.bind_some, t29, Option.bind_some, t29, Option.bind_some, show (0 : Int) = ((0 : Nat) : Int) from rfl, hi]
  cases key l.f0 <;> cases side l.f1 <;> cases side l.f2 <;> cases ltI 30 (lenL l.f3) <;> cases wp (zoneF l.f1 l.f2) 0 (ByteArray.mk #[]) l.f3 <;> rfl
theorem wp_zones (w h : Int) : ∀ (l : List S64) (i : Nat) (u : ByteArray), (∀ r, wp (zoneF w h) i u l = .inr r → r ≠ 0) ∧ ∀ s, wp (zoneF w h) i u l = .inl s → (∀ z ∈ l, key z.f0 = true ∧ good z.f1 = true ∧ ltS u z.f0 = true) ∧ l.Pairwise fun a b => ltS a.f0 b.f0 = true
  | [], i, u => ⟨fun r h => (by cases h), fun s _ => ⟨by simp, .nil⟩⟩
  | z :: l, i, u => by
    unfold wp
    cases hf : zoneF w h i u z with
    | inr r => exact ⟨fun r' h => (by cases h; exact zoneF_inr hf), fun s h => (by cases h)⟩
    | inl v =>
      obtain ⟨h1, h2, h3, h4⟩ := zoneF_inl hf
      subst h4
      obtain ⟨g1, g2⟩ := wp_zones w h l (i + 1) z.f0
      refine ⟨fun r h => g1 r h, fun s h => ?_⟩
      obtain ⟨g3, g4⟩ := g2 s h
      have hlt := leS_false.1 h3
      refine ⟨fun y hy => ?_, List.pairwise_cons.2 ⟨fun y hy => (g3 y hy).2.2, g4⟩⟩
      rcases List.mem_cons.1 hy with e | e
      · subst e
        exact ⟨h1, h2, hlt⟩
      · obtain ⟨k1, k2, k3⟩ := g3 y e
        exact ⟨k1, k2, ltS_trans hlt k3⟩
structure Right (l : S31) : Prop where
  few : l.f3.length ≤ 30
  keys : ∀ z ∈ l.f3, z.f0.size ≠ 0
  rects : ∀ z ∈ l.f3, W z.f1
  apart : ∀ (i j : Nat) (a b : S64), l.f3[i]? = some a → l.f3[j]? = some b → a.f0 = b.f0 → i = j
theorem right_of {l : S31} (h : faultL l = 0) : Right l := by
  unfold faultL at h
  cases h1 : key l.f0 <;> rw [h1] at h
  · cases h
  simp only [Bool.not_true, cond_false] at h
  cases h2 : (side l.f1 && side l.f2) <;> rw [h2] at h
  · cases h
  simp only [Bool.not_true, cond_false] at h
  cases h3 : ltI 30 (lenL l.f3) <;> rw [h3] at h
  · simp only [cond_false] at h
    obtain ⟨g1, g2⟩ := wp_zones l.f1 l.f2 l.f3 0 (ByteArray.mk #[])
    cases h4 : wp (zoneF l.f1 l.f2) 0 (ByteArray.mk #[]) l.f3 with
    | inr r =>
      rw [h4] at h
      exact absurd h (g1 r h4)
    | inl s =>
      obtain ⟨g3, g4⟩ := g2 s h4
      refine ⟨?_, fun z hz => key_pos (g3 z hz).1, fun z hz => good_W (g3 z hz).2.1, fun i j a b ha hb hab => ?_⟩
      · rw [ltI_iff, lenL_eq] at h3
        have := of_decide_eq_false h3
        omega
      · obtain ⟨hi, rfl⟩ := List.getElem?_eq_some_iff.1 ha
        obtain ⟨hj, rfl⟩ := List.getElem?_eq_some_iff.1 hb
        have hp := List.pairwise_iff_getElem.1 g4
        rcases Nat.lt_trichotomy i j with e | e | e
        · have := hp i j hi hj e
          rw [hab, ltS_irrefl] at this
          cases this
        · exact e
        · have := hp j i hj hi e
          rw [hab, ltS_irrefl] at this
          cases this
  · cases h
def Best (zs : List S64) (x y : Int) (i : Nat) (b : Int) : Prop :=
  (b = -1 ∧ ∀ (j : Nat) (z : S64), j < i → zs[j]? = some z → ¬ has z.f1 x y) ∨
  ∃ (j : Nat) (z : S64), b = (j : Int) ∧ j < i ∧ zs[j]? = some z ∧ has z.f1 x y ∧ ∀ (j' : Nat) (z' : S64), j' < i → zs[j']? = some z' → has z'.f1 x y → z'.f2 < z.f2 ∨ (z'.f2 = z.f2 ∧ j' ≤ j)
theorem best_unique {zs : List S64} {x y : Int} {i : Nat} {b c : Int} (h1 : Best zs x y i b) (h2 : Best zs x y i c) : b = c := by
  rcases h1 with ⟨rfl, h1⟩ | ⟨j, z, rfl, hj, hz, hh, h1⟩
  · rcases h2 with ⟨rfl, _⟩ | ⟨k, v, rfl, hk, hv, hhv, _⟩
    · rfl
    · exact absurd hhv (h1 k v hk hv)
  · rcases h2 with ⟨rfl, h2⟩ | ⟨k, v, rfl, hk, hv, hhv, h2⟩
    · exact absurd hh (h2 j z hj hz)
    · have a1 := h1 k v hk hv hhv
      have a2 := h2 j z hj hz hh
      omega
theorem best_skip {zs : List S64} {x y : Int} {i : Nat} {b : Int} {z : S64} (h : Best zs x y i b) (hz : zs[i]? = some z) (hn : ¬ has z.f1 x y) : Best zs x y (i + 1) b := by
  rcases h with ⟨rfl, h1⟩ | ⟨j, v, rfl, hj, hv, hh, h1⟩
  · refine .inl ⟨rfl, fun k u hk hu => ?_⟩
    by_cases e : k = i
    · subst e; rw [hz] at hu; cases hu; exact hn
    · exact h1 k u (by omega) hu
  · refine .inr ⟨j, v, rfl, by omega, hv, hh, fun k u hk hu hhu => ?_⟩
    by_cases e : k = i
    · subst e; rw [hz] at hu; cases hu; exact absurd hhu hn
    · exact h1 k u (by omega) hu hhu
theorem best_first {zs : List S64} {x y : Int} {i : Nat} {z : S64} (h : Best zs x y i (-1)) (hz : zs[i]? = some z) (hh : has z.f1 x y) : Best zs x y (i + 1) (i : Int) := by
  rcases h with ⟨_, h1⟩ | ⟨j, v, e, _⟩
  · refine .inr ⟨i, z, rfl, by omega, hz, hh, fun k u hk hu hhu => ?_⟩
    by_cases e : k = i
    · subst e; rw [hz] at hu; cases hu; exact .inr ⟨rfl, Nat.le_refl _⟩
    · exact absurd hhu (h1 k u (by omega) hu)
  · omega
theorem best_over {zs : List S64} {x y : Int} {i j : Nat} {z v : S64} (h : Best zs x y i (j : Int)) (hz : zs[i]? = some z) (hv : zs[j]? = some v) (hh : has z.f1 x y) (hle : v.f2 ≤ z.f2) : Best zs x y (i + 1) (i : Int) := by
  rcases h with ⟨e, _⟩ | ⟨j', v', e, hj, hv', _, h1⟩
  · omega
  · have e : j = j' := by omega
    subst e
    rw [hv] at hv'
    cases hv'
    refine .inr ⟨i, z, rfl, by omega, hz, hh, fun k u hk hu hhu => ?_⟩
    by_cases e : k = i
    · subst e; rw [hz] at hu; cases hu; exact .inr ⟨rfl, Nat.le_refl _⟩
    · have := h1 k u (by omega) hu hhu
      omega
theorem best_under {zs : List S64} {x y : Int} {i j : Nat} {z v : S64} (h : Best zs x y i (j : Int)) (hz : zs[i]? = some z) (hv : zs[j]? = some v) (hlt : z.f2 < v.f2) : Best zs x y (i + 1) (j : Int) := by
  rcases h with ⟨e, _⟩ | ⟨j', v', e, hj, hv', hh, h1⟩
  · omega
  · have e : j = j' := by omega
    subst e
    rw [hv] at hv'
    cases hv'
    refine .inr ⟨j, v, rfl, by omega, hv, hh, fun k u hk hu hhu => ?_⟩
    by_cases e : k = i
    · subst e; rw [hz] at hu; cases hu; exact .inl hlt
    · exact h1 k u (by omega) hu hhu
theorem best_lt {zs : List S64} {x y : Int} {i : Nat} {b : Int} (h : Best zs x y i b) : b = -1 ∨ ∃ (j : Nat) (v : S64), b = (j : Int) ∧ j < i ∧ zs[j]? = some v := by
  rcases h with ⟨rfl, _⟩ | ⟨j, v, rfl, hj, hv, _⟩
  · exact .inl rfl
  · exact .inr ⟨j, v, rfl, hj, hv⟩
def cov (zs : List S64) (i k : Nat) : Prop := ∃ (a b : S64), zs[i]? = some a ∧ zs[k]? = some b ∧ (b.f2 < a.f2 ∨ (a.f2 = b.f2 ∧ k < i))
theorem t25 {zs : List S64} {i k : Nat} {a b : S64} (ha : zs[i]? = some a) (hb : zs[k]? = some b) : ∃ c, T107 zs (i : Int) (k : Int) = some c ∧ (c = true ↔ b.f2 < a.f2 ∨ (a.f2 = b.f2 ∧ k < i)) := by
  unfold T107
  rw [listAt_some ha, listAt_some hb]
  simp only [Option.bind_some]
  by_cases c1 : b.f2 < a.f2
  · rw [show ltI b.f2 a.f2 = true from decide_eq_true c1]
    exact ⟨true, rfl, by simp [c1]⟩
  · rw [show ltI b.f2 a.f2 = false from decide_eq_false c1]
    by_cases c2 : a.f2 = b.f2
    · rw [show eqI a.f2 b.f2 = true by rw [eqI_iff]; exact decide_eq_true c2]
      refine ⟨_, rfl, ?_⟩
      rw [ltI_iff, decide_eq_true_eq]
      omega
    · rw [show eqI a.f2 b.f2 = false by rw [eqI_iff]; exact decide_eq_false c2]
      exact ⟨false, rfl, by simp only [Bool.false_eq_true, false_iff]; omega⟩
theorem best15 (l : S31) (hl : Right l) (x y : Int) : ∃ r, iter (L62_3 l x y) ((-1), 0) = some r ∧ Best l.f3 x y l.f3.length r.1 := by
  have hfew := hl.few
  refine iter_up (st := L62_3 l x y) (fun (b : Int) i => (b, (i : Int))) l.f3.length (fun i b => Best l.f3 x y i b) (fun r => Best l.f3 x y l.f3.length r.1) ?_ ?_ (-1) (.inl ⟨rfl, fun j z h => absurd h (Nat.not_lt_zero j)⟩)
  · intro i b hi h
    obtain ⟨z, hz⟩ : ∃ r, l.f3[i]? = some r := ⟨_, List.getElem?_eq_getElem hi⟩
    obtain ⟨c, c1, c2⟩ := t262 z.f1 x y (hl.rects z (List.mem_of_getElem? hz))
    simp only [L62_3, ltL_true hi, listAt_some hz, cond_true, Option.bind_some, nextI (show i < 9223372036854775807 by omega), c1]
    cases c with
    | false => exact ⟨b, rfl, best_skip h hz fun hh => by simpa using c2.2 hh⟩
    | true =>
      have hh := c2.1 rfl
      simp only [cond_true]
      rcases best_lt h with e | ⟨j, v, e, hj, hv⟩
      · subst e
        rw [show ltI (-1) 0 = true from rfl]
        exact ⟨(i : Int), rfl, best_first h hz hh⟩
      · subst e
        rw [show ltI (j : Int) 0 = false from decide_eq_false (by omega)]
        simp only [cond_false, listAt_some hv, Option.bind_some]
        by_cases hle : v.f2 ≤ z.f2
        · rw [show leI v.f2 z.f2 = true from decide_eq_true hle]
          exact ⟨(i : Int), rfl, best_over h hz hv hh hle⟩
        · rw [show leI v.f2 z.f2 = false from decide_eq_false hle]
          exact ⟨(j : Int), rfl, best_under h hz hv (by omega)⟩
  · intro b h
    simp only [L62_3, ltL_false (Nat.le_refl _), cond_false]
    exact ⟨_, rfl, h⟩
theorem zone_at (l : S31) (hl : Right l) (x y : Int) : ∃ (k : ByteArray) (ok : Bool), T62 l x y = some (k, ok) ∧
    ∀ (i : Nat) (z : S64), l.f3[i]? = some z → (k = z.f0 ↔ has z.f1 x y ∧ ¬ ∃ (j : Nat) (v : S64), l.f3[j]? = some v ∧ has v.f1 x y ∧ (z.f2 < v.f2 ∨ (v.f2 = z.f2 ∧ i < j))) := by
  obtain ⟨s, s1, s2⟩ := best15 l hl x y
  unfold T62
  rw [s1, Option.bind_some]
  rcases s2 with ⟨e1, h1⟩ | ⟨j, v, e1, hj, hv, hh, h1⟩
  · rw [e1, show ltI (-1) 0 = true from rfl]
    refine ⟨_, _, rfl, fun i z hz => ⟨fun h => ?_, fun h => ?_⟩⟩
    · exact absurd (by rw [← h]; rfl) (hl.keys z (List.mem_of_getElem? hz))
    · exact absurd h.1 (h1 i z (List.getElem?_eq_some_iff.1 hz).1 hz)
  · rw [e1, show ltI (j : Int) 0 = false from decide_eq_false (by omega), listAt_some hv]
    refine ⟨_, _, rfl, fun i z hz => ⟨fun h => ?_, fun h => ?_⟩⟩
    · have e := hl.apart _ _ _ _ hv hz h
      subst e
      rw [hv] at hz
      cases hz
      refine ⟨hh, ?_⟩
      rintro ⟨k, u, hu, hhu, hc⟩
      have := h1 k u (List.getElem?_eq_some_iff.1 hu).1 hu hhu
      omega
    · have a1 := h1 i z (List.getElem?_eq_some_iff.1 hz).1 hz h.1
      have a2 : ¬ (z.f2 < v.f2 ∨ (v.f2 = z.f2 ∧ i < j)) := fun hc => h.2 ⟨j, v, hv, hh, hc⟩
      have e : i = j := by omega
      subst e
      rw [hv] at hz
      cases hz
      rfl
end Go.Abs.TV

set_option linter.unusedVariables false
set_option linter.unusedSimpArgs false
set_option maxRecDepth 10000
namespace Go.Abs.TV
open Go.RowKit Go.Proofs Go.Abs
theorem above_ok (l : S31) (hl : Right l) (k : Nat) (zk : S64) (hk : l.f3[k]? = some zk) : ∃ r, iter (L92_3 l (k : Int)) ([], 0) = some r ∧ r.2.2.length ≤ 30 ∧ ∀ q, q ∈ r.2.2 ↔ ∃ (j : Nat) (v : S64), l.f3[j]? = some v ∧ (zk.f2 < v.f2 ∨ (v.f2 = zk.f2 ∧ k < j)) ∧ q = v.f1 := by
  have hfew := hl.few
  refine iter_up (st := L92_3 l (k : Int)) (fun (s : List S25) i => (s, (i : Int))) l.f3.length (fun i s => s.length ≤ i ∧ ∀ q, q ∈ s ↔ ∃ (j : Nat) (v : S64), j < i ∧ l.f3[j]? = some v ∧ (zk.f2 < v.f2 ∨ (v.f2 = zk.f2 ∧ k < j)) ∧ q = v.f1)
    (fun r => r.2.2.length ≤ 30 ∧ ∀ q, q ∈ r.2.2 ↔ ∃ (j : Nat) (v : S64), l.f3[j]? = some v ∧ (zk.f2 < v.f2 ∨ (v.f2 = zk.f2 ∧ k < j)) ∧ q = v.f1) ?_ ?_ [] ⟨Nat.le_refl _, fun q => ⟨fun h => by simp at h, fun ⟨j, v, h, _⟩ => absurd h (Nat.not_lt_zero j)⟩⟩
  · intro i s hi ⟨h1, h2⟩
    obtain ⟨z, hz⟩ : ∃ r, l.f3[i]? = some r := ⟨_, List.getElem?_eq_getElem hi⟩
    obtain ⟨c, c1, c2⟩ := t25 hz hk
    simp only [L92_3, ltL_true hi, listAt_some hz, cond_true, Option.bind_some, nextI (show i < 9223372036854775807 by omega), c1]
    cases c with
    | true =>
      simp only [cond_true]
      rw [appO_big (by omega) (by simp only [List.length_cons, List.length_nil]; omega)]
      refine ⟨_, rfl, by simp only [List.length_append, List.length_cons, List.length_nil]; omega, fun q => ?_⟩
      rw [List.mem_append, h2, List.mem_singleton]
      constructor
      · rintro (⟨j, v, h3, h4⟩ | e)
        · exact ⟨j, v, by omega, h4⟩
        · exact ⟨i, z, by omega, hz, c2.1 rfl, e⟩
      · rintro ⟨j, v, h3, h4, h5, h6⟩
        by_cases e : j = i
        · subst e
          rw [hz] at h4
          cases h4
          exact .inr h6
        · exact .inl ⟨j, v, by omega, h4, h5, h6⟩
    | false =>
      refine ⟨s, rfl, by omega, fun q => ?_⟩
      rw [h2]
      constructor
      · rintro ⟨j, v, h3, h4⟩
        exact ⟨j, v, by omega, h4⟩
      · rintro ⟨j, v, h3, h4, h5, h6⟩
        by_cases e : j = i
        · subst e
          rw [hz] at h4
          cases h4
          have := c2.2 h5
          cases this
        · exact ⟨j, v, by omega, h4, h5, h6⟩
  · intro s ⟨h1, h2⟩
    simp only [L92_3, ltL_false (Nat.le_refl _), cond_false]
    refine ⟨_, rfl, by simp only; omega, fun q => ?_⟩
    simp only
    rw [h2]
    exact ⟨fun ⟨j, v, _, h4⟩ => ⟨j, v, h4⟩, fun ⟨j, v, h4, h5⟩ => ⟨j, v, (List.getElem?_eq_some_iff.1 h4).1, h4, h5⟩⟩
theorem g40 (p : List S25) (c0 : ByteArray) (c1 c2 : Int) (c3 : List S64) (c4 : ByteArray) (c5 c6 c7 c8 c9 : Int) : T60 p c0 c1 c2 c3 c4 c5 c6 c7 c8 c9 = G p (fun x y => T61 x y c0 c1 c2 c3 c4 c5 c6 c7 c8 c9) := rfl
theorem piece_ok (l : S31) (hl : Right l) (k : Nat) (zk : S64) (hk : l.f3[k]? = some zk) :
    ∃ o, T92 l (k : Int) = some o ∧ T60 (l.f3.map (·.f1)) l.f0 l.f1 l.f2 l.f3 zk.f0 zk.f1.f0 zk.f1.f1 zk.f1.f2 zk.f1.f3 zk.f2 = some o ∧ o.length ≤ 12600000 ∧ ∃ q : List S25, o = Fin (rowAt [zk.f1] q) (edgesY ([zk.f1] ++ q)) ∧ q.length ≤ 30 ∧ (∀ r ∈ q, W r) ∧ ∀ r, r ∈ q ↔ ∃ (j : Nat) (v : S64), l.f3[j]? = some v ∧ (zk.f2 < v.f2 ∨ (v.f2 = zk.f2 ∧ k < j)) ∧ r = v.f1 := by
  have hfew := hl.few
  obtain ⟨r, r1, r2, r3⟩ := above_ok l hl k zk hk
  have hwk := hl.rects zk (List.mem_of_getElem? hk)
  obtain ⟨o, o1, o2, o4, o3⟩ := main2 [zk.f1] r.2.2 (l.f3.map (·.f1)) (fun x y => T61 x y l.f0 l.f1 l.f2 l.f3 zk.f0 zk.f1.f0 zk.f1.f1 zk.f1.f2 zk.f1.f3 zk.f2)
    (by simpa using hwk) (fun q hq => by obtain ⟨j, v, h1, _, rfl⟩ := (r3 q).1 hq; exact hl.rects v (List.mem_of_getElem? h1)) (fun q hq => by obtain ⟨v, h1, rfl⟩ := List.mem_map.1 hq; exact hl.rects v h1) (by simp) (by omega) (by rw [List.length_map]; omega)
    (by
      rintro q (hq | hq)
      · rw [List.mem_singleton] at hq
        subst hq
        exact List.mem_map.2 ⟨zk, List.mem_of_getElem? hk, rfl⟩
      · obtain ⟨j, v, h1, _, rfl⟩ := (r3 q).1 hq
        exact List.mem_map.2 ⟨v, List.mem_of_getElem? h1, rfl⟩)
    (fun x y => by
      obtain ⟨kk, ok, h1, h2⟩ := zone_at l hl x y
      refine ⟨eqS kk zk.f0, ?_, ?_⟩
      · unfold T61
        rw [show S31.mk l.f0 l.f1 l.f2 l.f3 = l from rfl, h1]
        rfl
      · rw [eqS_iff, decide_eq_true_eq, h2 k zk hk]
        unfold hasL
        constructor
        · rintro ⟨h3, h4⟩
          refine ⟨⟨zk.f1, by simp, h3⟩, ?_⟩
          rintro ⟨q, hq, h5⟩
          obtain ⟨j, v, h6, h7, rfl⟩ := (r3 q).1 hq
          exact h4 ⟨j, v, h6, h5, h7⟩
        · rintro ⟨⟨q, hq, h3⟩, h4⟩
          rw [List.mem_singleton] at hq
          subst hq
          refine ⟨h3, ?_⟩
          rintro ⟨j, v, h6, h5, h7⟩
          exact h4 ⟨v.f1, (r3 _).2 ⟨j, v, h6, h7, rfl⟩, h5⟩)
  refine ⟨o, ?_, ?_, ?_, r.2.2, o4, r2, fun q hq => (by obtain ⟨j, v, h1, _, rfl⟩ := (r3 q).1 hq; exact hl.rects v (List.mem_of_getElem? h1)), r3⟩
  · unfold T92
    rw [r1, Option.bind_some, listAt_some hk, Option.bind_some, o1]
    rfl
  · rw [g40]
    exact o2
  · refine Nat.le_trans o3 ?_
    have : (2 * ([zk.f1].length + r.2.2.length) + 1) ≤ 63 := by simp only [List.length_cons, List.length_nil]; omega
    exact Nat.mul_le_mul_right 200000 this
noncomputable def Rk (l : S31) (k : Nat) : List S25 := (T92 l (k : Int)).getD []
def keyAt (l : S31) (k : Nat) : ByteArray := (l.f3[k]?.map (·.f0)).getD (ByteArray.mk #[])
noncomputable def PC (l : S31) (n : Nat) : List S75 := (List.range n).flatMap fun k => (Rk l k).map (S75.mk (keyAt l k))
theorem keyAt_eq {l : S31} {k : Nat} {z : S64} (h : l.f3[k]? = some z) : keyAt l k = z.f0 := by
  unfold keyAt
  rw [h]
  rfl
theorem Rk_ok (l : S31) (hl : Right l) (k : Nat) (z : S64) (hk : l.f3[k]? = some z) : T92 l (k : Int) = some (Rk l k) ∧ T60 (l.f3.map (·.f1)) l.f0 l.f1 l.f2 l.f3 z.f0 z.f1.f0 z.f1.f1 z.f1.f2 z.f1.f3 z.f2 = some (Rk l k) ∧ (Rk l k).length ≤ 12600000 := by
  obtain ⟨o, o1, o2, o3, _⟩ := piece_ok l hl k z hk
  have : Rk l k = o := by unfold Rk; rw [o1, Option.getD_some]
  rw [this]
  exact ⟨o1, o2, o3⟩
theorem PC_succ (l : S31) (n : Nat) : PC l (n + 1) = PC l n ++ (Rk l n).map (S75.mk (keyAt l n)) := by
  unfold PC
  rw [List.range_succ, List.flatMap_append]
  simp
theorem PC_len (l : S31) (hl : Right l) : ∀ n, n ≤ l.f3.length → (PC l n).length ≤ n * 12600000 := by
  intro n
  induction n with
  | zero => intro _; simp [PC]
  | succ n ih =>
    intro hn
    obtain ⟨z, hz⟩ : ∃ r, l.f3[n]? = some r := ⟨_, List.getElem?_eq_getElem (by omega)⟩
    have h1 := (Rk_ok l hl n z hz).2.2
    have h2 := ih (by omega)
    rw [PC_succ, List.length_append, List.length_map, Nat.succ_mul]
    omega
theorem push_ok {st : ((List S75) × (List S25) × Int) → Option (((List S75) × (List S25) × Int) ⊕ (Int × Bool × (List S75) × (List S25)))} (x2 : List S25) (key : ByteArray) (out : List S75) (hout : out.length ≤ 1000000000) (hx : x2.length ≤ 12600000)
    (h1 : ∀ (s : List S75) (i : Nat) r, i < x2.length → x2[i]? = some r → st (s, x2, (i : Int)) = (appO 48 s [S75.mk key r]).bind fun x => some (.inl (x, x2, ((i + 1 : Nat) : Int)))) (h2 : ∀ s, st (s, x2, (x2.length : Int)) = some (.inr ((x2.length : Int), false, s, x2))) :
    ∃ r, iter st (out, x2, 0) = some r ∧ r.2.2 = (out ++ x2.map (S75.mk key), x2) := by
  refine iter_up (st := st) (fun (s : List S75) i => (s, x2, (i : Int))) x2.length (fun i s => s = out ++ (x2.take i).map (S75.mk key)) (fun r => r.2.2 = (out ++ x2.map (S75.mk key), x2)) ?_ ?_ out (by simp)
  · intro i s hi hs
    obtain ⟨a, ha⟩ : ∃ r, x2[i]? = some r := ⟨_, List.getElem?_eq_getElem hi⟩
    have hlen : s.length ≤ 1100000000 := by rw [hs, List.length_append, List.length_map, List.length_take]; omega
    refine ⟨s ++ [S75.mk key a], ?_, ?_⟩
    · rw [h1 s i a hi ha, appO_big (by omega) (by simp only [List.length_cons, List.length_nil]; omega)]
      rfl
    · rw [hs, take_next ha, List.map_append, List.append_assoc]
      rfl
  · intro s hs
    refine ⟨_, h2 s, ?_⟩
    rw [hs, List.take_length]
theorem seen_prog (l : S31) (hl : Right l) : ∃ r, iter (L77_3 l) ([], 0) = some r ∧ r.2.2 = PC l l.f3.length := by
  have hfew := hl.few
  refine iter_up (st := L77_3 l) (fun (s : List S75) i => (s, (i : Int))) l.f3.length (fun i s => s = PC l i) (fun r => r.2.2 = PC l l.f3.length) ?_ ?_ [] rfl
  · intro i s hi hs
    obtain ⟨z, hz⟩ : ∃ r, l.f3[i]? = some r := ⟨_, List.getElem?_eq_getElem hi⟩
    obtain ⟨k1, k2, k3⟩ := Rk_ok l hl i z hz
    have hlen : s.length ≤ 1000000000 := by
      rw [hs]
      refine Nat.le_trans (PC_len l hl i (by omega)) ?_
      have : i * 12600000 ≤ 30 * 12600000 := Nat.mul_le_mul_right _ (by omega)
      omega
    simp only [L77_3, ltL_true hi, listAt_some hz, cond_true, Option.bind_some, nextI (show i < 9223372036854775807 by omega), k1]
    obtain ⟨v, v1, v2⟩ := push_ok (st := L77_6 l (s, (i : Int)) z (Rk l i)) (Rk l i) z.f0 s hlen k3 (fun s' j r hj hr => by
      simp only [L77_6, ltL_true hj, idx_nat hj, getN_some hr, cond_true, Option.bind_some, nextI (show j < 9223372036854775807 by omega)]) (fun s' => by simp only [L77_6, ltL_false (Nat.le_refl _), cond_false])
    rw [v1, Option.bind_some, v2]
    refine ⟨_, rfl, ?_⟩
    rw [PC_succ, keyAt_eq hz, hs]
  · intro s hs
    simp only [L77_3, ltL_false (Nat.le_refl _), cond_false]
    exact ⟨_, rfl, hs⟩
theorem T33_eq (l : S31) (hl : Right l) : T33 l = some (PC l l.f3.length) := by
  have hfew := hl.few
  obtain ⟨u, u1, u2⟩ : ∃ r, iter (L33_3 l) ([], 0) = some r ∧ r.2.2 = l.f3.map (·.f1) := by
    refine iter_up (st := L33_3 l) (fun (s : List S25) i => (s, (i : Int))) l.f3.length (fun i s => s = (l.f3.take i).map (·.f1)) (fun r => r.2.2 = l.f3.map (·.f1)) ?_ ?_ [] rfl
    · intro i s hi hs
      obtain ⟨z, hz⟩ : ∃ r, l.f3[i]? = some r := ⟨_, List.getElem?_eq_getElem hi⟩
      have hlen : s.length ≤ 30 := by rw [hs, List.length_map, List.length_take]; omega
      simp only [L33_3, ltL_true hi, listAt_some hz, cond_true, Option.bind_some, nextI (show i < 9223372036854775807 by omega)]
      rw [appO_big (by omega) (by simp only [List.length_cons, List.length_nil]; omega)]
      refine ⟨_, rfl, ?_⟩
      rw [hs, take_next hz, List.map_append]
      rfl
    · intro s hs
      simp only [L33_3, ltL_false (Nat.le_refl _), cond_false]
      refine ⟨_, rfl, ?_⟩
      rw [hs, List.take_length]
  obtain ⟨r, r1, r2⟩ : ∃ r, iter (L33_9 l u) ([], 0) = some r ∧ r.2.2 = PC l l.f3.length := by
    refine iter_up (st := L33_9 l u) (fun (s : List S75) i => (s, (i : Int))) l.f3.length (fun i s => s = PC l i) (fun r => r.2.2 = PC l l.f3.length) ?_ ?_ [] rfl
    · intro i s hi hs
      obtain ⟨z, hz⟩ : ∃ r, l.f3[i]? = some r := ⟨_, List.getElem?_eq_getElem hi⟩
      obtain ⟨k1, k2, k3⟩ := Rk_ok l hl i z hz
      have hlen : s.length ≤ 1000000000 := by
        rw [hs]
        refine Nat.le_trans (PC_len l hl i (by omega)) ?_
        have : i * 12600000 ≤ 30 * 12600000 := Nat.mul_le_mul_right _ (by omega)
        omega
      simp only [L33_9, ltL_true hi, listAt_some hz, cond_true, Option.bind_some, nextI (show i < 9223372036854775807 by omega), u2, k2]
      obtain ⟨v, v1, v2⟩ := push_ok (st := L33_12 l u (s, (i : Int)) z (Rk l i)) (Rk l i) z.f0 s hlen k3 (fun s' j r hj hr => by
        simp only [L33_12, ltL_true hj, idx_nat hj, getN_some hr, cond_true, Option.bind_some, nextI (show j < 9223372036854775807 by omega)]) (fun s' => by simp only [L33_12, ltL_false (Nat.le_refl _), cond_false])
      rw [v1, Option.bind_some, v2]
      refine ⟨_, rfl, ?_⟩
      rw [PC_succ, keyAt_eq hz, hs]
    · intro s hs
      simp only [L33_9, ltL_false (Nat.le_refl _), cond_false]
      exact ⟨_, rfl, hs⟩
  unfold T33
  rw [u1, Option.bind_some, r1, Option.bind_some, r2]
end Go.Abs.TV

set_option linter.unusedVariables false
set_option linter.unusedSimpArgs false
set_option maxRecDepth 10000
namespace Go.Abs.TV
open Go.RowKit Go.Proofs Go.Abs
theorem countP_or {α : Type} (p q : α → Bool) : ∀ (l : List α), (∀ x ∈ l, ¬ (p x = true ∧ q x = true)) → l.countP (fun x => p x || q x) = l.countP p + l.countP q
  | [], _ => rfl
  | a :: l, h => by
    have ih := countP_or p q l fun x hx => h x (by simp [hx])
    have ha := h a (by simp)
    rw [List.countP_cons, List.countP_cons, List.countP_cons, ih]
    cases hp : p a <;> cases hq : q a <;> simp_all <;> omega
theorem count_upto (u v : Nat) : ∀ n, (List.range n).countP (fun i => decide (u ≤ i ∧ i < v)) = min v n - min u n
  | 0 => by simp
  | n + 1 => by
    rw [List.range_succ, List.countP_append, count_upto u v n, List.countP_singleton]
    by_cases h : u ≤ n ∧ n < v
    · rw [decide_eq_true h]
      simp only [if_true]
      omega
    · rw [decide_eq_false h]
      simp only [Bool.false_eq_true, if_false]
      omega
open Classical in
noncomputable def cnt1 (P : Int → Prop) : Nat := (List.range 200001).countP fun i : Nat => decide (P ((i : Int) - 100000))
noncomputable def cnt (P : Int → Int → Prop) : Nat := ((List.range 200001).map fun j : Nat => cnt1 fun x => P x ((j : Int) - 100000)).sum
theorem cnt1_ext {P Q : Int → Prop} (h : ∀ x, P x ↔ Q x) : cnt1 P = cnt1 Q := by
  have : P = Q := funext fun x => propext (h x)
  rw [this]
theorem cnt_ext {P Q : Int → Int → Prop} (h : ∀ x y, P x y ↔ Q x y) : cnt P = cnt Q := by
  have : P = Q := funext fun x => funext fun y => propext (h x y)
  rw [this]
theorem cnt1_or {P Q : Int → Prop} (h : ∀ x, ¬ (P x ∧ Q x)) : cnt1 (fun x => P x ∨ Q x) = cnt1 P + cnt1 Q := by
  unfold cnt1
  rw [← countP_or _ _ _ fun i _ => by simpa using h _]
  congr 1
  funext i
  rw [Bool.eq_iff_iff]
  simp
theorem sum_add {α : Type} (f g : α → Nat) : ∀ l : List α, (l.map fun x => f x + g x).sum = (l.map f).sum + (l.map g).sum
  | [] => rfl
  | a :: l => by simp only [List.map_cons, List.sum_cons, sum_add f g l]; omega
theorem cnt_or {P Q : Int → Int → Prop} (h : ∀ x y, ¬ (P x y ∧ Q x y)) : cnt (fun x y => P x y ∨ Q x y) = cnt P + cnt Q := by
  unfold cnt
  generalize List.range 200001 = L
  rw [← sum_add]
  have e : ∀ j : Nat, cnt1 (fun x => P x ((j : Int) - 100000) ∨ Q x ((j : Int) - 100000)) = cnt1 (fun x => P x ((j : Int) - 100000)) + cnt1 (fun x => Q x ((j : Int) - 100000)) := fun j => cnt1_or fun x => h x _
  simp only [e]
theorem cnt1_none {P : Int → Prop} (h : ∀ x, ¬ P x) : cnt1 P = 0 := by
  unfold cnt1
  rw [List.countP_eq_zero]
  intro i _
  simp [h]
theorem sum_const {α : Type} (f : α → Nat) (p : α → Bool) (c : Nat) : ∀ l : List α, (∀ x ∈ l, f x = if p x = true then c else 0) → (l.map f).sum = c * l.countP p
  | [], _ => by simp
  | a :: l, h => by
    rw [List.map_cons, List.sum_cons, sum_const f p c l fun x hx => h x (by simp [hx]), h a (by simp), List.countP_cons]
    cases p a <;> simp [Nat.mul_add] <;> omega
theorem cnt_none : cnt (fun _ _ => False) = 0 := by
  unfold cnt
  rw [sum_const _ (fun _ => false) 0 _ fun x _ => by simp [cnt1_none]]
  simp
open Classical in
theorem cnt_has {r : S25} (h : W r) : (cnt (has r) : Int) = r.f2 * r.f3 := by
  unfold W at h
  have hx : ∀ y, (r.f1 ≤ y ∧ y < r.f1 + r.f3) → cnt1 (fun x => has r x y) = r.f2.toNat := by
    intro y hy
    unfold cnt1
    rw [List.countP_congr (q := fun i : Nat => decide ((r.f0 + 100000).toNat ≤ i ∧ i < (r.f0 + r.f2 + 100000).toNat)) fun i _ => by
      constructor
      · intro h0
        have h1 := of_decide_eq_true h0
        refine decide_eq_true ?_
        unfold has at h1
        omega
      · intro h0
        have h1 := of_decide_eq_true h0
        refine decide_eq_true ?_
        unfold has
        omega, count_upto]
    omega
  have hx0 : ∀ y, ¬ (r.f1 ≤ y ∧ y < r.f1 + r.f3) → cnt1 (fun x => has r x y) = 0 := fun y hy => cnt1_none fun x hh => by unfold has at hh; omega
  unfold cnt
  rw [sum_const _ (fun j : Nat => decide ((r.f1 + 100000).toNat ≤ j ∧ j < (r.f1 + r.f3 + 100000).toNat)) r.f2.toNat _ fun j _ => by
    by_cases hj : r.f1 ≤ (j : Int) - 100000 ∧ (j : Int) - 100000 < r.f1 + r.f3
    · rw [hx _ hj, decide_eq_true (show (r.f1 + 100000).toNat ≤ j ∧ j < (r.f1 + r.f3 + 100000).toNat by omega)]
      rfl
    · rw [hx0 _ hj, decide_eq_false (show ¬ ((r.f1 + 100000).toNat ≤ j ∧ j < (r.f1 + r.f3 + 100000).toNat) by omega)]
      rfl, count_upto]
  have e : min (r.f1 + r.f3 + 100000).toNat 200001 - min (r.f1 + 100000).toNat 200001 = r.f3.toNat := by omega
  rw [e, Int.natCast_mul]
  congr 1 <;> omega
def disj (r s : S25) : Prop := ∀ x y, ¬ (has r x y ∧ has s x y)
def areaL (l : List S25) : Int := (l.map fun r => r.f2 * r.f3).sum
theorem hasL_cons (r : S25) (l : List S25) (x y : Int) : hasL (r :: l) x y ↔ has r x y ∨ hasL l x y := by
  unfold hasL
  constructor
  · rintro ⟨s, hs, h⟩
    rcases List.mem_cons.1 hs with e | e
    · subst e; exact .inl h
    · exact .inr ⟨s, e, h⟩
  · rintro (h | ⟨s, hs, h⟩)
    · exact ⟨r, by simp, h⟩
    · exact ⟨s, by simp [hs], h⟩
theorem hasL_app (l m : List S25) (x y : Int) : hasL (l ++ m) x y ↔ hasL l x y ∨ hasL m x y := by
  unfold hasL
  constructor
  · rintro ⟨s, hs, h⟩
    rcases List.mem_append.1 hs with e | e
    · exact .inl ⟨s, e, h⟩
    · exact .inr ⟨s, e, h⟩
  · rintro (⟨s, hs, h⟩ | ⟨s, hs, h⟩)
    · exact ⟨s, by simp [hs], h⟩
    · exact ⟨s, by simp [hs], h⟩
theorem cnt_list : ∀ (l : List S25), (∀ r ∈ l, W r) → l.Pairwise disj → (cnt (hasL l) : Int) = areaL l
  | [], _, _ => by
    have : cnt (hasL []) = 0 := by
      rw [← cnt_none]
      exact cnt_ext fun x y => ⟨fun ⟨r, hr, _⟩ => by simp at hr, False.elim⟩
    rw [this]
    rfl
  | r :: l, hW, hd => by
    obtain ⟨h1, h2⟩ := List.pairwise_cons.1 hd
    have ih := cnt_list l (fun s hs => hW s (by simp [hs])) h2
    have e : cnt (hasL (r :: l)) = cnt (has r) + cnt (hasL l) := by
      rw [← cnt_or (P := has r) (Q := hasL l) fun x y ⟨a, s, hs, b⟩ => h1 s hs x y ⟨a, b⟩]
      exact cnt_ext fun x y => hasL_cons r l x y
    rw [e, Int.natCast_add, ih, cnt_has (hW r (by simp))]
    simp [areaL]
theorem hasL_cells (c : List S110) (f h x v : Int) : hasL (c.map (cell f h)) x v ↔ inn c x ∧ f ≤ v ∧ v < f + h := by
  unfold hasL inn
  constructor
  · rintro ⟨r, hr, h1⟩
    obtain ⟨a, ha, rfl⟩ := List.mem_map.1 hr
    unfold has cell at h1
    simp only at h1
    exact ⟨⟨a, ha, by omega⟩, by omega⟩
  · rintro ⟨⟨a, ha, h1⟩, h2⟩
    refine ⟨cell f h a, List.mem_map.2 ⟨a, ha, rfl⟩, ?_⟩
    unfold has cell
    simp only
    omega
theorem cells_disj {c : List S110} (hc : Can c) (f h : Int) : (c.map (cell f h)).Pairwise disj := by
  rw [List.pairwise_map]
  refine hc.2.imp fun {a b} hab => ?_
  rintro x y ⟨h1, h2⟩
  unfold has cell at h1 h2
  simp only at h1 h2
  omega
structure Passed (R : Int → List S110) (ys : List Int) (k : Nat) (y : Int) (S : List S25 × List S110 × Int) : Prop where
  from_lt : (S.2.1 = [] ∧ S.1 = []) ∨ (-100000 ≤ S.2.2 ∧ S.2.2 < y)
  ends : ∀ r ∈ S.1, r.f1 + r.f3 ≤ S.2.2
  wf : ∀ r ∈ S.1, W r
  apart : S.1.Pairwise disj
  pix : ∀ x v, v < y → (hasL (S.1 ++ S.2.1.map (cell S.2.2 (y - S.2.2))) x v ↔ inn (R v) x)
theorem passed_all {R : Int → List S110} {ys : List Int} {k : Nat} {y : Int} {S : List S25 × List S110 × Int} (h : Passed R ys k y S) (hc : Can S.2.1) (hy : y ≤ 100000) :
    (∀ r ∈ S.1 ++ S.2.1.map (cell S.2.2 (y - S.2.2)), W r ∧ r.f1 + r.f3 ≤ y) ∧ (S.1 ++ S.2.1.map (cell S.2.2 (y - S.2.2))).Pairwise disj := by
  have hcell : ∀ a ∈ S.2.1, W (cell S.2.2 (y - S.2.2) a) ∧ (cell S.2.2 (y - S.2.2) a).f1 + (cell S.2.2 (y - S.2.2) a).f3 ≤ y := by
    intro a ha
    have hB := hc.1 a ha
    unfold B at hB
    rcases h.from_lt with ⟨h1, _⟩ | h1
    · rw [h1] at ha; simp at ha
    · unfold W cell
      simp only
      omega
  constructor
  · intro r hr
    rcases List.mem_append.1 hr with e | e
    · refine ⟨h.wf r e, ?_⟩
      have h1 := h.ends r e
      rcases h.from_lt with ⟨_, h2⟩ | h2
      · rw [h2] at e; simp at e
      · omega
    · obtain ⟨a, ha, rfl⟩ := List.mem_map.1 e
      exact hcell a ha
  · refine List.pairwise_append.2 ⟨h.apart, cells_disj hc _ _, fun r hr s hs => ?_⟩
    obtain ⟨a, ha, rfl⟩ := List.mem_map.1 hs
    have h1 := h.ends r hr
    rintro x v ⟨h2, h3⟩
    simp only [has, cell] at h2 h3
    omega
theorem passed (R : Int → List S110) (ys : List Int) (hR : ∀ y, Can (R y)) (hord : ys.Pairwise (· < ·)) (hys : ∀ y ∈ ys, -100000 ≤ y ∧ y ≤ 100000) (hK : ∀ a b, a ≤ b → (∀ e ∈ ys, ¬ (a < e ∧ e ≤ b)) → R a = R b) (hlo : ∀ y, (∀ e ∈ ys, y < e) → R y = []) :
    ∀ k y, ys[k]? = some y → Passed R ys k y (St R ys k) := by
  intro k
  induction k with
  | zero =>
    intro y hy
    refine ⟨.inl ⟨rfl, rfl⟩, by simp [St], by simp [St], by simp [St], fun x v hv => ?_⟩
    have : R v = [] := hlo v fun e he => by
      obtain ⟨j, hj⟩ := List.getElem?_of_mem he
      by_cases e0 : j = 0
      · subst e0; rw [hy] at hj; cases hj; exact hv
      · have := List.pairwise_iff_getElem.1 hord 0 j (List.getElem?_eq_some_iff.1 hy).1 (List.getElem?_eq_some_iff.1 hj).1 (by omega)
        rw [(List.getElem?_eq_some_iff.1 hy).2, (List.getElem?_eq_some_iff.1 hj).2] at this
        omega
    rw [this]
    simp only [St, List.map_nil, List.append_nil]
    exact ⟨fun ⟨r, hr, _⟩ => by simp at hr, fun h => absurd h (inn_nil x)⟩
  | succ k ih =>
    intro y' hy'
    have hlt := (List.getElem?_eq_some_iff.1 hy').1
    obtain ⟨y, hy⟩ : ∃ r, ys[k]? = some r := ⟨_, List.getElem?_eq_getElem (by omega)⟩
    have P := ih y hy
    have hyy : y < y' := by
      have := List.pairwise_iff_getElem.1 hord k (k + 1) (by omega) hlt (by omega)
      rw [(List.getElem?_eq_some_iff.1 hy).2, (List.getElem?_eq_some_iff.1 hy').2] at this
      exact this
    have hb := hys y (List.mem_of_getElem? hy)
    obtain ⟨_, hcan, _⟩ := St_ok R ys hR hys k (by omega)
    obtain ⟨A1, A2⟩ := passed_all P hcan hb.2
    have hconst : ∀ v, y ≤ v → v < y' → R y = R v := fun v h1 h2 => hK y v h1 fun e he hh => by
      rcases next_to hord hy hy' he with h | h <;> omega
    have hnone : ∀ x v, y ≤ v → ¬ hasL ((St R ys k).1 ++ (St R ys k).2.1.map (cell (St R ys k).2.2 (y - (St R ys k).2.2))) x v := by
      rintro x v hv ⟨r, hr, hh⟩
      have := (A1 r hr).2
      unfold has at hh
      omega
    by_cases c : (St R ys k).2.1 = R y
    · rw [St_same hy c]
      refine ⟨?_, P.ends, P.wf, P.apart, fun x v hv => ?_⟩
      · rcases P.from_lt with h | h
        · exact .inl h
        · exact .inr (by omega)
      · rw [hasL_app, hasL_cells]
        have h0 := P.pix x v
        rw [hasL_app, hasL_cells] at h0
        have hends : ∀ v, (St R ys k).2.2 ≤ v → ¬ hasL (St R ys k).1 x v := by
          rintro v hv ⟨r, hr, hh⟩
          have := P.ends r hr
          unfold has at hh
          omega
        by_cases hvy : v < y
        · rw [← h0 hvy]
          constructor
          · rintro (h | h)
            · exact .inl h
            · exact .inr ⟨h.1, h.2.1, by omega⟩
          · rintro (h | h)
            · exact .inl h
            · exact .inr ⟨h.1, h.2.1, by omega⟩
        · rw [← hconst v (by omega) hv, ← c]
          rcases P.from_lt with ⟨g1, g2⟩ | g
          · rw [g1, g2]
            exact ⟨fun h => h.elim (fun ⟨r, hr, _⟩ => by simp at hr) fun h => h.1, fun h => absurd h (inn_nil x)⟩
          · constructor
            · rintro (h | h)
              · exact absurd h (hends v (by omega))
              · exact h.1
            · intro h
              exact .inr ⟨h, by omega, by omega⟩
    · rw [St_new hy c]
      refine ⟨.inr ⟨hb.1, hyy⟩, fun r hr => (A1 r hr).2, fun r hr => (A1 r hr).1, A2, fun x v hv => ?_⟩
      simp only
      rw [hasL_app, hasL_cells]
      by_cases hvy : v < y
      · rw [P.pix x v hvy]
        exact ⟨fun h => h.elim id fun h => by omega, .inl⟩
      · rw [← hconst v (by omega) hv]
        constructor
        · rintro (h | h)
          · exact absurd h (hnone x v (by omega))
          · exact h.1
        · intro h
          exact .inr ⟨h, by omega, by omega⟩
theorem fin_pix (p q : List S25) (hp : ∀ r ∈ p, W r) (hq : ∀ r ∈ q, W r) (lp : p.length ≤ 1000000) (lq : q.length ≤ 1000000) :
    (∀ r ∈ Fin (rowAt p q) (edgesY (p ++ q)), W r) ∧ (Fin (rowAt p q) (edgesY (p ++ q))).Pairwise disj ∧ ∀ x y, hasL (Fin (rowAt p q) (edgesY (p ++ q))) x y ↔ hasL p x y ∧ ¬ hasL q x y := by
  have hall : ∀ r ∈ p ++ q, W r := fun r hr => by
    rcases List.mem_append.1 hr with e | e
    · exact hp r e
    · exact hq r e
  obtain ⟨y1, y2, y3, y4⟩ := edgesY_ok (p ++ q) hall
  have hR : ∀ y, Can (rowAt p q y) := fun y => by obtain ⟨_, _, _, _, _, h, _⟩ := rowAt_ok p q y hp hq lp lq; exact h
  have hRx : ∀ y x, inn (rowAt p q y) x ↔ hasL p x y ∧ ¬ hasL q x y := fun y => by obtain ⟨_, _, _, _, _, _, h⟩ := rowAt_ok p q y hp hq lp lq; exact h
  have mem : ∀ r, r ∈ p ∨ r ∈ q → r.f1 ∈ edgesY (p ++ q) ∧ r.f1 + r.f3 ∈ edgesY (p ++ q) := fun r hr => ⟨(y2 _).2 ⟨r, List.mem_append.2 hr, .inl rfl⟩, (y2 _).2 ⟨r, List.mem_append.2 hr, .inr rfl⟩⟩
  have hK : ∀ a b, a ≤ b → (∀ e ∈ edgesY (p ++ q), ¬ (a < e ∧ e ≤ b)) → rowAt p q a = rowAt p q b := fun a b hab hE => by
    refine row_same p q a b hp hq lp lq fun r hr x => ?_
    have h1 := hE _ (mem r hr).1
    have h2 := hE _ (mem r hr).2
    unfold has
    omega
  have hlo : ∀ y, (∀ e ∈ edgesY (p ++ q), y < e) → rowAt p q y = [] := fun y hE => by
    refine row_none p q y hp hq lp lq fun r hr x hx => ?_
    have h1 := hE _ (mem r (.inl hr)).1
    unfold has at hx
    omega
  have hP := passed (rowAt p q) (edgesY (p ++ q)) hR y1 y3 hK hlo
  have hSt := St_ok (rowAt p q) (edgesY (p ++ q)) hR y3
  generalize hys : edgesY (p ++ q) = ys at *
  cases hn : ys.length with
  | zero =>
    have h0 : ys = [] := List.eq_nil_of_length_eq_zero hn
    subst h0
    have hnone : ∀ r, ¬ (r ∈ p ∨ r ∈ q) := fun r hr => by have := (mem r hr).1; simp at this
    refine ⟨by simp [Fin, St], by simp [Fin, St], fun x y => ?_⟩
    constructor
    · rintro ⟨r, hr, _⟩
      simp [Fin, St] at hr
    · rintro ⟨⟨r, hr, _⟩, _⟩
      exact absurd (.inl hr) (hnone r)
  | succ n =>
    obtain ⟨y, hy⟩ : ∃ r, ys[n]? = some r := ⟨_, List.getElem?_eq_getElem (by omega)⟩
    have P := hP n y hy
    have hb := y3 y (List.mem_of_getElem? hy)
    obtain ⟨_, hcan, _⟩ := hSt n (by omega)
    obtain ⟨A1, A2⟩ := passed_all P hcan hb.2
    have e : Fin (rowAt p q) ys = (St (rowAt p q) ys n).1 ++ (St (rowAt p q) ys n).2.1.map (cell (St (rowAt p q) ys n).2.2 (y - (St (rowAt p q) ys n).2.2)) := by
      unfold Fin
      rw [hn, Nat.add_sub_cancel, List.getD_eq_getElem?_getD, hy, Option.getD_some]
    rw [e]
    refine ⟨fun r hr => (A1 r hr).1, A2, fun x v => ?_⟩
    by_cases hv : v < y
    · rw [P.pix x v hv, hRx]
    · constructor
      · rintro ⟨r, hr, hh⟩
        have := (A1 r hr).2
        unfold has at hh
        omega
      · rintro ⟨⟨r, hr, hh⟩, _⟩
        have hmem := (mem r (.inl hr)).2
        obtain ⟨j, hj⟩ := List.getElem?_of_mem hmem
        have hjl := (List.getElem?_eq_some_iff.1 hj).1
        have hle : r.f1 + r.f3 ≤ y := by
          by_cases e0 : j = n
          · subst e0; rw [hy] at hj; cases hj; exact Int.le_refl _
          · have := List.pairwise_iff_getElem.1 y1 j n hjl (by omega) (by omega)
            rw [(List.getElem?_eq_some_iff.1 hj).2, (List.getElem?_eq_some_iff.1 hy).2] at this
            omega
        unfold has at hh
        omega
theorem area_less (p q I : List S25) (hp : ∀ r ∈ p, W r) (hq : ∀ r ∈ q, W r) (hI : ∀ r ∈ I, W r) (lp : p.length ≤ 1000000) (lq : q.length ≤ 1000000) (dp : p.Pairwise disj) (dI : I.Pairwise disj) (hIx : ∀ x y, hasL I x y ↔ hasL p x y ∧ hasL q x y) :
    areaL (Fin (rowAt p q) (edgesY (p ++ q))) = areaL p - areaL I := by
  obtain ⟨f1, f2, f3⟩ := fin_pix p q hp hq lp lq
  rw [← cnt_list _ f1 f2, ← cnt_list p hp dp, ← cnt_list I hI dI]
  have : cnt (hasL p) = cnt (hasL (Fin (rowAt p q) (edgesY (p ++ q)))) + cnt (hasL I) := by
    rw [← cnt_or (P := hasL (Fin (rowAt p q) (edgesY (p ++ q)))) (Q := hasL I) fun x y ⟨a, b⟩ => ((f3 x y).1 a).2 ((hIx x y).1 b).2]
    refine cnt_ext fun x y => ?_
    rw [f3, hIx]
    constructor
    · intro h
      by_cases hq' : hasL q x y
      · exact .inr ⟨h, hq'⟩
      · exact .inl ⟨h, hq'⟩
    · rintro (h | h) <;> exact h.1
  omega
end Go.Abs.TV

set_option linter.unusedVariables false
set_option linter.unusedSimpArgs false
set_option maxRecDepth 10000
namespace Go.Abs.TV
open Go.RowKit Go.Proofs Go.Abs
def inside (r : S25) (w h : Int) : Prop := 0 ≤ r.f0 ∧ 0 ≤ r.f1 ∧ r.f0 + r.f2 ≤ w ∧ r.f1 + r.f3 ≤ h
theorem ins_inside {r : S25} {w h : Int} (hw : W r) (hi : ins r w h = true) : inside r w h := by
  have he := w_edge hw
  unfold ins leI at hi
  rw [he.1, he.2] at hi
  simp only [Bool.and_eq_true, decide_eq_true_eq] at hi
  unfold inside
  omega
theorem disj_apart {r s : S25} (hr : W r) (hs : W s) (h : disj r s) : r.f0 + r.f2 ≤ s.f0 ∨ s.f0 + s.f2 ≤ r.f0 ∨ r.f1 + r.f3 ≤ s.f1 ∨ s.f1 + s.f3 ≤ r.f1 := by
  have h1 := h (max r.f0 s.f0) (max r.f1 s.f1)
  unfold W at hr hs
  unfold has at h1
  omega
theorem meet_ok (p q : S25) (hp : W p) (hq : W q) : ∃ v, T44 p q = some v ∧ (v.2 = true → W v.1 ∧ ∀ x y, has v.1 x y ↔ has p x y ∧ has q x y) ∧ (v.2 = false → disj p q) := by
  have e1 := w_edge hp
  have e2 := w_edge hq
  unfold W at hp hq
  unfold T44
  rw [e1.1, e1.2, e2.1, e2.2, minI_eq, minI_eq, maxI_eq, maxI_eq, subI_eq (by omega) (by omega), subI_eq (by omega) (by omega)]
  by_cases c1 : min (p.f0 + p.f2) (q.f0 + q.f2) - max p.f0 q.f0 ≤ 0
  · rw [show leI (min (p.f0 + p.f2) (q.f0 + q.f2) - max p.f0 q.f0) 0 = true from decide_eq_true c1]
    refine ⟨_, rfl, fun h => (by cases h), fun _ x y h => ?_⟩
    unfold has at h
    omega
  · rw [show leI (min (p.f0 + p.f2) (q.f0 + q.f2) - max p.f0 q.f0) 0 = false from decide_eq_false c1]
    by_cases c2 : min (p.f1 + p.f3) (q.f1 + q.f3) - max p.f1 q.f1 ≤ 0
    · rw [show leI (min (p.f1 + p.f3) (q.f1 + q.f3) - max p.f1 q.f1) 0 = true from decide_eq_true c2]
      refine ⟨_, rfl, fun h => (by cases h), fun _ x y h => ?_⟩
      unfold has at h
      omega
    · rw [show leI (min (p.f1 + p.f3) (q.f1 + q.f3) - max p.f1 q.f1) 0 = false from decide_eq_false c2]
      refine ⟨_, rfl, fun _ => ⟨?_, fun x y => ?_⟩, fun h => (by cases h)⟩
      · unfold W
        simp only
        omega
      · unfold has
        simp only
        omega
theorem meet_none (p : S25) (hp : W p) (h0 : 0 ≤ p.f0) : ∃ v, T44 p (S25.mk 0 0 0 0) = some v ∧ v.2 = false := by
  have e1 := w_edge hp
  unfold W at hp
  unfold T44
  rw [e1.1, e1.2, minI_eq, maxI_eq, show addI .i64 (S25.mk 0 0 0 0).f0 (S25.mk 0 0 0 0).f2 = 0 from rfl, show (S25.mk 0 0 0 0).f0 = 0 from rfl, subI_eq (by omega) (by omega),
    show leI (min (p.f0 + p.f2) 0 - max p.f0 0) 0 = true from decide_eq_true (by omega)]
  exact ⟨_, rfl, rfl⟩
theorem scale_same : T63 = T78 := rfl
theorem quo_pos {a b : Int} (ha : 0 ≤ a) (hb : 1 ≤ b) (hm : a ≤ 9000000000) : quoO .i64 a b = some (a / b) := by
  unfold quoO
  rw [if_neg (by omega)]
  have h1 : a.tdiv b = a / b := Int.tdiv_eq_ediv_of_nonneg ha
  have h2 : 0 ≤ a / b := Int.ediv_nonneg ha (by omega)
  have h3 : a / b ≤ a := Int.ediv_le_self b ha
  rw [h1]
  exact congrArg some (IntWalk.i64_in _ ⟨by omega, by omega⟩)
theorem mul_small {a b : Int} (ha : 0 ≤ a) (hb : 0 ≤ b) (h1 : a ≤ 20000) (h2 : b ≤ 20000) : 0 ≤ a * b ∧ a * b ≤ 400000000 := by
  refine ⟨Int.mul_nonneg ha hb, ?_⟩
  have := Int.mul_le_mul h1 h2 hb (by omega : (0 : Int) ≤ 20000)
  omega
def sx (a w t : Int) : Int := a * t / w
theorem sx_mono {a b w t : Int} (hw : 1 ≤ w) (ht : 0 ≤ t) (h : a ≤ b) : sx a w t ≤ sx b w t := by
  unfold sx
  exact Int.ediv_le_ediv (by omega) (Int.mul_le_mul_of_nonneg_right h ht)
theorem sx_hi {a w t : Int} (hw : 1 ≤ w) (ht : 0 ≤ t) (h : a ≤ w) : sx a w t ≤ t := by
  unfold sx
  have h1 : a * t ≤ t * w := by rw [Int.mul_comm t w]; exact Int.mul_le_mul_of_nonneg_right h ht
  exact Int.ediv_le_of_le_mul (by omega) h1
theorem sx_lo {a w t : Int} (hw : 1 ≤ w) (ht : 0 ≤ t) (h : 0 ≤ a) : 0 ≤ sx a w t := by
  unfold sx
  exact Int.ediv_nonneg (Int.mul_nonneg h ht) (by omega)
structure Sides (w h t u : Int) : Prop where
  a : 1 ≤ w ∧ w ≤ 20000
  b : 1 ≤ h ∧ h ≤ 20000
  c : 1 ≤ t ∧ t ≤ 20000
  d : 1 ≤ u ∧ u ≤ 20000
def scR (r : S25) (w h t u : Int) : S25 := ⟨sx r.f0 w t, sx r.f1 h u, sx (r.f0 + r.f2) w t - sx r.f0 w t, sx (r.f1 + r.f3) h u - sx r.f1 h u⟩
theorem scale_ok (r : S25) (w h t u : Int) (hs : Sides w h t u) (hr : W r) (hi : inside r w h) :
    ∃ v, T78 r w h t u = some v ∧ ((v = S25.mk 0 0 0 0 ∧ ∀ x y, ¬ has (scR r w h t u) x y) ∨ (v = scR r w h t u ∧ 0 < v.f2 ∧ W v)) := by
  obtain ⟨⟨a1, a2⟩, ⟨b1, b2⟩, ⟨c1, c2⟩, ⟨d1, d2⟩⟩ := hs
  have he := w_edge hr
  unfold W at hr
  unfold inside at hi
  have m1 := mul_small (a := r.f0) (b := t) (by omega) (by omega) (by omega) (by omega)
  have m2 := mul_small (a := r.f1) (b := u) (by omega) (by omega) (by omega) (by omega)
  have m3 := mul_small (a := r.f0 + r.f2) (b := t) (by omega) (by omega) (by omega) (by omega)
  have m4 := mul_small (a := r.f1 + r.f3) (b := u) (by omega) (by omega) (by omega) (by omega)
  have x1 := sx_lo (a := r.f0) (w := w) (t := t) (by omega) (by omega) (by omega)
  have x2 := sx_mono (a := r.f0) (b := r.f0 + r.f2) (w := w) (t := t) (by omega) (by omega) (by omega)
  have x3 := sx_hi (a := r.f0 + r.f2) (w := w) (t := t) (by omega) (by omega) (by omega)
  have y1 := sx_lo (a := r.f1) (w := h) (t := u) (by omega) (by omega) (by omega)
  have y2 := sx_mono (a := r.f1) (b := r.f1 + r.f3) (w := h) (t := u) (by omega) (by omega) (by omega)
  have y3 := sx_hi (a := r.f1 + r.f3) (w := h) (t := u) (by omega) (by omega) (by omega)
  unfold T78
  rw [he.1, he.2, mulI_eq (by omega) (by omega), mulI_eq (by omega) (by omega), mulI_eq (by omega) (by omega), mulI_eq (by omega) (by omega), quo_pos m1.1 (by omega) (by omega), quo_pos m2.1 (by omega) (by omega), quo_pos m3.1 (by omega) (by omega), quo_pos m4.1 (by omega) (by omega)]
  simp only [Option.bind_some]
  rw [show r.f0 * t / w = sx r.f0 w t from rfl, show r.f1 * u / h = sx r.f1 h u from rfl, show (r.f0 + r.f2) * t / w = sx (r.f0 + r.f2) w t from rfl, show (r.f1 + r.f3) * u / h = sx (r.f1 + r.f3) h u from rfl, subI_eq (by omega) (by omega), subI_eq (by omega) (by omega)]
  by_cases g1 : sx (r.f0 + r.f2) w t - sx r.f0 w t = 0
  · rw [show eqI (sx (r.f0 + r.f2) w t - sx r.f0 w t) 0 = true by rw [eqI_iff]; exact decide_eq_true g1]
    refine ⟨_, rfl, .inl ⟨rfl, fun x y hh => ?_⟩⟩
    unfold has scR at hh
    simp only at hh
    omega
  · rw [show eqI (sx (r.f0 + r.f2) w t - sx r.f0 w t) 0 = false by rw [eqI_iff]; exact decide_eq_false g1]
    by_cases g2 : sx (r.f1 + r.f3) h u - sx r.f1 h u = 0
    · rw [show eqI (sx (r.f1 + r.f3) h u - sx r.f1 h u) 0 = true by rw [eqI_iff]; exact decide_eq_true g2]
      refine ⟨_, rfl, .inl ⟨rfl, fun x y hh => ?_⟩⟩
      unfold has scR at hh
      simp only at hh
      omega
    · rw [show eqI (sx (r.f1 + r.f3) h u - sx r.f1 h u) 0 = false by rw [eqI_iff]; exact decide_eq_false g2]
      refine ⟨_, rfl, .inr ⟨rfl, ?_, ?_⟩⟩
      · simp only
        omega
      · unfold W
        simp only
        omega
theorem scR_disj (r s : S25) (w h t u : Int) (hs : Sides w h t u) (hr : W r) (hs' : W s) (hd : disj r s) : disj (scR r w h t u) (scR s w h t u) := by
  obtain ⟨⟨a1, a2⟩, ⟨b1, b2⟩, ⟨c1, c2⟩, ⟨d1, d2⟩⟩ := hs
  rintro x y ⟨h1, h2⟩
  unfold has scR at h1 h2
  simp only at h1 h2
  rcases disj_apart hr hs' hd with g | g | g | g
  · have := sx_mono (w := w) (t := t) (by omega) (by omega) g
    omega
  · have := sx_mono (w := w) (t := t) (by omega) (by omega) g
    omega
  · have := sx_mono (w := h) (t := u) (by omega) (by omega) g
    omega
  · have := sx_mono (w := h) (t := u) (by omega) (by omega) g
    omega
theorem wp_zones2 (w h : Int) : ∀ (l : List S64) (i : Nat) (u : ByteArray) s, wp (zoneF w h) i u l = .inl s → ∀ z ∈ l, ins z.f1 w h = true
  | [], i, u, s, _ => by simp
  | z :: l, i, u, s, hh => by
    unfold wp at hh
    cases hf : zoneF w h i u z with
    | inr r => rw [hf] at hh; cases hh
    | inl v =>
      rw [hf] at hh
      have g := wp_zones2 w h l (i + 1) v s hh
      intro y hy
      rcases List.mem_cons.1 hy with e | e
      · subst e
        have hg := zoneF_inl hf
        unfold zoneF at hf
        cases h3 : ins y.f1 w h with
        | true => rfl
        | false =>
          rw [hg.1, hg.2.1, h3] at hf
          cases hf
      · exact g y e
theorem wp_screens2 (w h : Int) : ∀ (l : List S37) (i : Nat) (u : ByteArray) s, wp (screenF w h) i u l = .inl s → ∀ z ∈ l, ins z.f1 w h = true
  | [], i, u, s, _ => by simp
  | z :: l, i, u, s, hh => by
    unfold wp at hh
    cases hf : screenF w h i u z with
    | inr r => rw [hf] at hh; cases hh
    | inl v =>
      rw [hf] at hh
      have g := wp_screens2 w h l (i + 1) v s hh
      intro y hy
      rcases List.mem_cons.1 hy with e | e
      · subst e
        have hg := screenF_inl hf
        unfold screenF at hf
        cases h3 : ins y.f1 w h with
        | true => rfl
        | false =>
          rw [hg.1, hg.2.1, h3] at hf
          cases hf
      · exact g y e
theorem zones_inside {l : S31} (h : faultL l = 0) : (∀ z ∈ l.f3, inside z.f1 l.f1 l.f2) ∧ 1 ≤ l.f1 ∧ l.f1 ≤ 20000 ∧ 1 ≤ l.f2 ∧ l.f2 ≤ 20000 := by
  have hr := right_of h
  unfold faultL at h
  cases h1 : key l.f0 <;> rw [h1] at h
  · cases h
  simp only [Bool.not_true, cond_false] at h
  cases h2 : (side l.f1 && side l.f2) <;> rw [h2] at h
  · cases h
  simp only [Bool.not_true, cond_false] at h
  cases h3 : ltI 30 (lenL l.f3) <;> rw [h3] at h
  · simp only [cond_false] at h
    obtain ⟨g1, g2⟩ := wp_zones l.f1 l.f2 l.f3 0 (ByteArray.mk #[])
    cases h4 : wp (zoneF l.f1 l.f2) 0 (ByteArray.mk #[]) l.f3 with
    | inr r =>
      rw [h4] at h
      exact absurd h (g1 r h4)
    | inl s =>
      refine ⟨fun z hz => ins_inside (hr.rects z hz) (wp_zones2 _ _ _ _ _ s h4 z hz), ?_⟩
      unfold side inB leI at h2
      simp only [Bool.and_eq_true, decide_eq_true_eq] at h2
      omega
  · cases h
theorem cutL_eq (l : List S37) (i : Nat) (h : i ≤ l.length) : cutL l none (some (i : Int)) = some (l.take i) := by
  have h1 : (0 : Int) ≤ (i : Int) ∧ (i : Int) ≤ (l.length : Int) := by omega
  unfold cutL cutB
  simp only [if_pos h1, Option.bind_some, Option.map_some, Int.toNat_natCast, List.drop_zero]
theorem over_in2 (l : S23) (z1 : Int) (x9 : S37) (x10 : List S37) (hl : x10.length ≤ 1048576) : ∃ y, iter (L16_25 l z1 x9 x10) 0 = some y ∧ (y.isLeft = true → ∀ z ∈ x10, ∃ v, T44 x9.f1 z.f1 = some v ∧ v.2 = false) := by
  refine iter_upx (st := L16_25 l z1 x9 x10) (fun (_ : Unit) i => (i : Int)) x10.length (fun i _ => ∀ j z, j < i → x10[j]? = some z → ∃ v, T44 x9.f1 z.f1 = some v ∧ v.2 = false) (fun y => y.isLeft = true → ∀ z ∈ x10, ∃ v, T44 x9.f1 z.f1 = some v ∧ v.2 = false) ?_ ?_ 0 () (Nat.zero_le _) (fun j z h => absurd h (Nat.not_lt_zero j))
  · intro i _ hi hinv
    obtain ⟨z, hz⟩ : ∃ r, x10[i]? = some r := ⟨_, List.getElem?_eq_getElem hi⟩
    obtain ⟨v, hv⟩ := meet_some x9.f1 z.f1
    simp only [L16_25, ltL_true hi, listAt_some hz, cond_true, Option.bind_some, nextI (show i < 9223372036854775807 by omega), hv]
    cases hv2 : v.2 with
    | true => exact .inr ⟨_, rfl, fun h => by cases h⟩
    | false =>
      refine .inl ⟨(), rfl, fun j z' hj hz' => ?_⟩
      by_cases e : j = i
      · subst e
        rw [hz] at hz'
        cases hz'
        exact ⟨v, hv, hv2⟩
      · exact hinv j z' (by omega) hz'
  · intro _ hinv
    simp only [L16_25, ltL_false (Nat.le_refl _), cond_false]
    refine ⟨_, rfl, fun _ z hz => ?_⟩
    obtain ⟨j, hj⟩ := List.getElem?_of_mem hz
    exact hinv j z (List.getElem?_eq_some_iff.1 hj).1 hj
theorem over_all (l : S23) (hl : l.f3.length ≤ 1048576) : ∃ y, iter (L16_22 l) 0 = some y ∧ (y.isLeft = true → ∀ (i j : Nat) (a b : S37), j < i → l.f3[i]? = some a → l.f3[j]? = some b → ∃ v, T44 a.f1 b.f1 = some v ∧ v.2 = false) := by
  refine iter_upx (st := L16_22 l) (fun (_ : Unit) i => (i : Int)) l.f3.length (fun k _ => ∀ (i j : Nat) (a b : S37), i < k → j < i → l.f3[i]? = some a → l.f3[j]? = some b → ∃ v, T44 a.f1 b.f1 = some v ∧ v.2 = false) (fun y => y.isLeft = true → ∀ (i j : Nat) (a b : S37), j < i → l.f3[i]? = some a → l.f3[j]? = some b → ∃ v, T44 a.f1 b.f1 = some v ∧ v.2 = false) ?_ ?_ 0 () (Nat.zero_le _) (fun i j a b h => absurd h (Nat.not_lt_zero i))
  · intro i _ hi hinv
    obtain ⟨z, hz⟩ : ∃ r, l.f3[i]? = some r := ⟨_, List.getElem?_eq_getElem hi⟩
    obtain ⟨y, hy, hy2⟩ := over_in2 l (i : Int) z (l.f3.take i) (by rw [List.length_take]; omega)
    simp only [L16_22, ltL_true hi, listAt_some hz, cond_true, Option.bind_some, nextI (show i < 9223372036854775807 by omega), cutL_eq l.f3 i (by omega), hy]
    cases y with
    | inr y => exact .inr ⟨_, rfl, fun h => by cases h⟩
    | inl y =>
      refine .inl ⟨(), rfl, fun i' j a b hi' hj ha hb => ?_⟩
      by_cases e : i' = i
      · subst e
        rw [hz] at ha
        cases ha
        refine hy2 rfl b ?_
        have : (l.f3.take i')[j]? = some b := by rw [List.getElem?_take, if_pos hj]; exact hb
        exact List.mem_of_getElem? this
      · exact hinv i' j a b (by omega) hj ha hb
  · intro _ hinv
    simp only [L16_22, ltL_false (Nat.le_refl _), cond_false]
    exact ⟨_, rfl, fun _ i j a b hj ha hb => hinv i j a b (List.getElem?_eq_some_iff.1 ha).1 hj ha hb⟩
theorem screens_apart {l : S23} (h : faultW l = 0) : (∀ z ∈ l.f3, inside z.f1 l.f1 l.f2) ∧ l.f3.Pairwise fun a b => disj a.f1 b.f1 := by
  have hr := right_w h
  unfold faultW at h
  cases h1 : key l.f0 <;> rw [h1] at h
  · cases h
  simp only [Bool.not_true, cond_false] at h
  cases h2 : (side l.f1 && side l.f2) <;> rw [h2] at h
  · cases h
  simp only [Bool.not_true, cond_false] at h
  cases h3 : ltI 50 (lenL l.f3) <;> rw [h3] at h
  · simp only [cond_false] at h
    obtain ⟨g1, g2⟩ := wp_screens l.f1 l.f2 l.f3 0 (ByteArray.mk #[])
    cases h4 : wp (screenF l.f1 l.f2) 0 (ByteArray.mk #[]) l.f3 with
    | inr r =>
      rw [h4] at h
      exact absurd h (g1 r h4)
    | inl s =>
      rw [h4] at h
      have hov : overF l = 0 := h
      have hfew := hr.few
      obtain ⟨y, hy, hy2⟩ := over_all l (by omega)
      unfold overF at hov
      rw [hy] at hov
      have hleft : y.isLeft = true := by
        cases y with
        | inl y => rfl
        | inr y => cases hov
      refine ⟨fun z hz => ins_inside (hr.rects z hz) (wp_screens2 _ _ _ _ _ s h4 z hz), ?_⟩
      rw [List.pairwise_iff_getElem]
      intro i j hi hj hij
      obtain ⟨v, v1, v2⟩ := hy2 hleft j i _ _ hij (List.getElem?_eq_getElem hj) (List.getElem?_eq_getElem hi)
      obtain ⟨u, u1, _, u3⟩ := meet_ok l.f3[j].f1 l.f3[i].f1 (hr.rects _ (List.getElem_mem _)) (hr.rects _ (List.getElem_mem _))
      rw [v1] at u1
      cases u1
      have := u3 v2
      exact fun x y ⟨a, b⟩ => this x y ⟨b, a⟩
  · cases h
theorem Rk_pix (l : S31) (hl : Right l) (k : Nat) (z : S64) (hk : l.f3[k]? = some z) : (∀ r ∈ Rk l k, W r) ∧ (Rk l k).Pairwise disj ∧ ∀ x y, hasL (Rk l k) x y → has z.f1 x y ∧ ∃ ok, T62 l x y = some (z.f0, ok) := by
  obtain ⟨o, o1, o2, o3, q, q1, q2, q3, q4⟩ := piece_ok l hl k z hk
  have e : Rk l k = o := by unfold Rk; rw [o1, Option.getD_some]
  obtain ⟨f1, f2, f3⟩ := fin_pix [z.f1] q (by simpa using hl.rects z (List.mem_of_getElem? hk)) q3 (by simp) (by omega)
  rw [e, q1]
  refine ⟨f1, f2, fun x y hh => ?_⟩
  obtain ⟨⟨r, hr, h1⟩, h2⟩ := (f3 x y).1 hh
  rw [List.mem_singleton] at hr
  subst hr
  refine ⟨h1, ?_⟩
  obtain ⟨kk, ok, k1, k2⟩ := zone_at l hl x y
  have : kk = z.f0 := (k2 k z hk).2 ⟨h1, fun ⟨j, v, hv, hh2, hc⟩ => h2 ⟨v.f1, (q4 _).2 ⟨j, v, hv, hc, rfl⟩, hh2⟩⟩
  rw [this] at k1
  exact ⟨ok, k1⟩
theorem rect_in {r s : S25} (hr : W r) (h : ∀ x y, has r x y → has s x y) {w u : Int} (hi : inside s w u) : inside r w u := by
  have h1 := h r.f0 r.f1
  have h2 := h (r.f0 + r.f2 - 1) (r.f1 + r.f3 - 1)
  unfold W at hr
  unfold has at h1 h2
  unfold inside at hi ⊢
  omega
theorem PC_ok (l : S31) (hl : faultL l = 0) : (∀ p ∈ PC l l.f3.length, W p.f1 ∧ inside p.f1 l.f1 l.f2) ∧ (PC l l.f3.length).Pairwise fun a b => disj a.f1 b.f1 := by
  have hr := right_of hl
  obtain ⟨hin, _⟩ := zones_inside hl
  have hz : ∀ k, k < l.f3.length → ∃ z, l.f3[k]? = some z := fun k hk => ⟨_, List.getElem?_eq_getElem hk⟩
  unfold PC
  constructor
  · intro p hp
    obtain ⟨k, hk, h1⟩ := List.mem_flatMap.1 hp
    obtain ⟨r, hr1, rfl⟩ := List.mem_map.1 h1
    obtain ⟨z, hz⟩ := hz k (List.mem_range.1 hk)
    obtain ⟨a1, a2, a3⟩ := Rk_pix l hr k z hz
    exact ⟨a1 r hr1, rect_in (a1 r hr1) (fun x y hh => (a3 x y ⟨r, hr1, hh⟩).1) (hin z (List.mem_of_getElem? hz))⟩
  · rw [List.pairwise_flatMap]
    constructor
    · intro k hk
      obtain ⟨z, hz⟩ := hz k (List.mem_range.1 hk)
      rw [List.pairwise_map]
      exact (Rk_pix l hr k z hz).2.1
    · refine List.pairwise_lt_range.imp_of_mem fun {a b} ha hb hab => ?_
      intro p hp q hq
      obtain ⟨r, hr1, rfl⟩ := List.mem_map.1 hp
      obtain ⟨s, hs1, rfl⟩ := List.mem_map.1 hq
      obtain ⟨z, hz1⟩ := hz a (List.mem_range.1 ha)
      obtain ⟨v, hv1⟩ := hz b (List.mem_range.1 hb)
      rintro x y ⟨h1, h2⟩
      obtain ⟨_, ok, k1⟩ := (Rk_pix l hr a z hz1).2.2 x y ⟨r, hr1, h1⟩
      obtain ⟨_, ok', k2⟩ := (Rk_pix l hr b v hv1).2.2 x y ⟨s, hs1, h2⟩
      rw [k1] at k2
      have e : z.f0 = v.f0 := by
        have := Option.some.inj k2
        exact congrArg Prod.fst this
      have := hr.apart _ _ _ _ hz1 hv1 e
      omega
end Go.Abs.TV

set_option linter.unusedVariables false
set_option linter.unusedSimpArgs false
set_option maxRecDepth 10000
namespace Go.Abs.TV
open Go.RowKit Go.Proofs Go.Abs
attribute [local irreducible] PC Rk Fin
theorem flat_len {α β : Type} (g : α → List β) (c : Nat) : ∀ (l : List α), (∀ x ∈ l, (g x).length ≤ c) → (l.flatMap g).length ≤ l.length * c
  | [], _ => by simp
  | a :: l, h => by
    have h1 := h a (by simp)
    have h2 := flat_len g c l fun x hx => h x (by simp [hx])
    rw [List.flatMap_cons, List.length_append, List.length_cons, Nat.succ_mul]
    omega
theorem collect {Z R α β : Type} {st : Z → Option (Z ⊕ R)} (enc : List β → Nat → Z) (fin : List β → R) (l : List α) (g : α → List β) (out : List β) (c N : Nat) (hg : ∀ x ∈ l, (g x).length ≤ c) (hN : out.length + l.length * c ≤ N)
    (h1 : ∀ (s : List β) (i : Nat) (x : α), i < l.length → l[i]? = some x → s.length ≤ N → st (enc s i) = some (.inl (enc (s ++ g x) (i + 1)))) (h2 : ∀ s, st (enc s l.length) = some (.inr (fin s))) :
    iter st (enc out 0) = some (fin (out ++ l.flatMap g)) := by
  obtain ⟨r, r1, r2⟩ : ∃ r, iter st (enc out 0) = some r ∧ r = fin (out ++ l.flatMap g) := by
    refine iter_up (st := st) enc l.length (fun i s => s = out ++ (l.take i).flatMap g) (fun r => r = fin (out ++ l.flatMap g)) ?_ ?_ out (by simp)
    · intro i s hi hs
      obtain ⟨x, hx⟩ : ∃ r, l[i]? = some r := ⟨_, List.getElem?_eq_getElem hi⟩
      have hlen : s.length ≤ N := by
        have := flat_len g c (l.take i) fun x hx => hg x (List.mem_of_mem_take hx)
        have h3 : (l.take i).length * c ≤ l.length * c := Nat.mul_le_mul_right _ (by rw [List.length_take]; omega)
        rw [hs, List.length_append]
        omega
      refine ⟨s ++ g x, h1 s i x hi hx hlen, ?_⟩
      rw [hs, take_next hx, List.flatMap_append, List.append_assoc]
      simp
    · intro s hs
      refine ⟨_, h2 s, ?_⟩
      rw [hs, List.take_length]
  rw [r1, r2]
theorem wr_add (a b : Int) : addI .i64 (IntKind.i64.wrap a) (IntKind.i64.wrap b) = IntKind.i64.wrap (a + b) := by
  simp only [addI, IntKind.wrap_i64]
  omega
theorem wr_sub (a b : Int) : subI .i64 (IntKind.i64.wrap a) (IntKind.i64.wrap b) = IntKind.i64.wrap (a - b) := by
  simp only [subI, IntKind.wrap_i64]
  omega
theorem wr_mul (a b : Int) : mulI .i64 a b = IntKind.i64.wrap (a * b) := rfl
theorem wr_zero : IntKind.i64.wrap 0 = 0 := by decide
theorem sum_take {α : Type} (f : α → Int) {l : List α} {i : Nat} {x : α} (h : l[i]? = some x) : ((l.take (i + 1)).map f).sum = ((l.take i).map f).sum + f x := by
  rw [take_next h, List.map_append, List.sum_append]
  simp
theorem sums {Z R α : Type} {st : Z → Option (Z ⊕ R)} (enc : Int → Nat → Z) (fin : Int → R) (l : List α) (f : α → Int) (a : Int)
    (h1 : ∀ (s : Int) (i : Nat) (x : α), i < l.length → l[i]? = some x → st (enc (IntKind.i64.wrap s) i) = some (.inl (enc (IntKind.i64.wrap (s + f x)) (i + 1)))) (h2 : ∀ s, st (enc s l.length) = some (.inr (fin s))) :
    iter st (enc (IntKind.i64.wrap a) 0) = some (fin (IntKind.i64.wrap (a + (l.map f).sum))) := by
  obtain ⟨r, r1, r2⟩ : ∃ r, iter st (enc (IntKind.i64.wrap a) 0) = some r ∧ r = fin (IntKind.i64.wrap (a + (l.map f).sum)) := by
    refine iter_up (st := st) (fun (_ : Unit) i => enc (IntKind.i64.wrap (a + ((l.take i).map f).sum)) i) l.length (fun _ _ => True) (fun r => r = fin (IntKind.i64.wrap (a + (l.map f).sum))) ?_ ?_ () trivial |> fun h => by simpa using h
    · intro i _ hi _
      obtain ⟨x, hx⟩ : ∃ r, l[i]? = some r := ⟨_, List.getElem?_eq_getElem hi⟩
      refine ⟨(), ?_, trivial⟩
      rw [h1 _ i x hi hx, sum_take f hx, Int.add_assoc]
    · intro _ _
      refine ⟨_, h2 _, ?_⟩
      rw [List.take_length]
  rw [r1, r2]
theorem T59_eq (l : List S25) (hl : l.length ≤ 2000000000000) : T59 l = some (IntKind.i64.wrap (areaL l)) := by
  have h := sums (st := L59_3 l) (fun s i => (s, (i : Int))) (fun s => (s, (l.length : Int), false)) l (fun r => r.f2 * r.f3) 0 (fun s i x hi hx => by
    simp only [L59_3, ltL_true hi, listAt_some hx, cond_true, Option.bind_some, nextI (show i < 9223372036854775807 by omega), wr_mul, wr_add]) (fun s => by
    simp only [L59_3, ltL_false (Nat.le_refl _), cond_false])
  rw [wr_zero, Int.zero_add] at h
  unfold T59
  rw [show ((0 : Int), (0 : Int)) = ((0 : Int), ((0 : Nat) : Int)) from rfl, h]
  rfl
noncomputable def SC (w : S23) (l : S31) (r : S25) : S25 := (T78 r l.f1 l.f2 w.f1 w.f2).getD (S25.mk 0 0 0 0)
noncomputable def MT (s r : S25) : S25 × Bool := (T44 s r).getD (S25.mk 0 0 0 0, false)
theorem MT_eq (s r : S25) : T44 s r = some (MT s r) := by
  obtain ⟨v, hv⟩ := meet_some s r
  unfold MT
  rw [hv, Option.getD_some]
noncomputable def AL (w : S23) (l : S31) (L : List S75) : List S75 := L.flatMap fun p => bif ltI 0 (SC w l p.f1).f2 then [S75.mk p.f0 (SC w l p.f1)] else []
noncomputable def VP (s : S37) (p : S75) : List S79 := bif (MT s.f1 p.f1).2 then [S79.mk s.f0 p.f0 (S25.mk (subI .i64 (MT s.f1 p.f1).1.f0 s.f1.f0) (subI .i64 (MT s.f1 p.f1).1.f1 s.f1.f1) (MT s.f1 p.f1).1.f2 (MT s.f1 p.f1).1.f3)] else []
structure Good (w : S23) (l : S31) : Prop where
  w0 : faultW w = 0
  l0 : faultL l = 0
  few : (PC l l.f3.length).length ≤ 2000
theorem sides_of {w : S23} {l : S31} (h : Good w l) : Sides l.f1 l.f2 w.f1 w.f2 := by
  have h1 := (zones_inside h.l0).2
  have h2 := (right_w h.w0).side
  exact ⟨⟨h1.1, h1.2.1⟩, h1.2.2, ⟨h2.1, h2.2.1⟩, h2.2.2⟩
theorem SC_ok {w : S23} {l : S31} (h : Good w l) {p : S75} (hp : p ∈ PC l l.f3.length) : T78 p.f1 l.f1 l.f2 w.f1 w.f2 = some (SC w l p.f1) ∧ ((SC w l p.f1 = S25.mk 0 0 0 0) ∨ (SC w l p.f1 = scR p.f1 l.f1 l.f2 w.f1 w.f2 ∧ 0 < (SC w l p.f1).f2 ∧ W (SC w l p.f1))) := by
  obtain ⟨h1, h2⟩ := (PC_ok l h.l0).1 p hp
  obtain ⟨v, v1, v2⟩ := scale_ok p.f1 _ _ _ _ (sides_of h) h1 h2
  have e : SC w l p.f1 = v := by unfold SC; rw [v1, Option.getD_some]
  rw [e]
  refine ⟨v1, ?_⟩
  rcases v2 with ⟨g, _⟩ | g
  · exact .inl g
  · exact .inr g
theorem AL_len (w : S23) (l : S31) (L : List S75) : (AL w l L).length ≤ L.length := by
  have := flat_len (fun p => bif ltI 0 (SC w l p.f1).f2 then [S75.mk p.f0 (SC w l p.f1)] else []) 1 L fun x _ => by cases ltI 0 (SC w l x.f1).f2 <;> simp
  rw [Nat.mul_one] at this
  exact this
theorem VP_len (s : S37) (p : S75) : (VP s p).length ≤ 1 := by
  unfold VP
  cases (MT s.f1 p.f1).2 <;> simp
theorem scaled_loop (w : S23) (l : S31) (h : Good w l) : iter (L58_12 w l (PC l l.f3.length, 0)) ([], PC l l.f3.length, 0) = some (((PC l l.f3.length).length : Int), false, AL w l (PC l l.f3.length), PC l l.f3.length) := by
  have hfew := h.few
  have := collect (st := L58_12 w l (PC l l.f3.length, 0)) (fun s i => (s, PC l l.f3.length, (i : Int))) (fun s => (((PC l l.f3.length).length : Int), false, s, PC l l.f3.length)) (PC l l.f3.length) (fun p => bif ltI 0 (SC w l p.f1).f2 then [S75.mk p.f0 (SC w l p.f1)] else []) [] 1 2000
    (fun x _ => by cases ltI 0 (SC w l x.f1).f2 <;> simp) (by simp; omega) (fun s i x hi hx hs => by
      have h1 := (SC_ok h (List.mem_of_getElem? hx)).1
      simp only [L58_12, ltL_true hi, idx_nat hi, getN_some hx, cond_true, Option.bind_some, nextI (show i < 9223372036854775807 by omega), h1]
      cases ltI 0 (SC w l x.f1).f2 with
      | true =>
        simp only [cond_true]
        rw [appO_big (by omega) (by simp only [List.length_cons, List.length_nil]; omega)]
        rfl
      | false => simp only [cond_false, List.append_nil]) (fun s => by simp only [L58_12, ltL_false (Nat.le_refl _), cond_false])
  rw [List.nil_append] at this
  exact this
theorem views_in (w : S23) (A : List S75) (hA : A.length ≤ 2000) (z0 : (List S75) × (List S79) × Int) (hz : z0.1 = A) (s : S37) (out : List S79) (ho : out.length ≤ 1000000) :
    iter (L29_9 w z0 s) (A, out, 0) = some ((A.length : Int), false, A, out ++ A.flatMap (VP s)) := by
  refine collect (st := L29_9 w z0 s) (fun o i => (A, o, (i : Int))) (fun o => ((A.length : Int), false, A, o)) A (VP s) out 1 1002000 (fun x _ => VP_len s x) (by omega) (fun o i x hi hx hs => ?_) (fun o => ?_)
  · simp only [L29_9, hz, ltL_true hi, idx_nat hi, getN_some hx, cond_true, Option.bind_some, nextI (show i < 9223372036854775807 by omega), MT_eq, T45, VP]
    cases (MT s.f1 x.f1).2 with
    | true =>
      simp only [cond_true, Option.bind_some]
      rw [appO_big (by omega) (by simp only [List.length_cons, List.length_nil]; omega)]
      rfl
    | false => simp only [cond_false, List.append_nil]
  · simp only [L29_9, hz, ltL_false (Nat.le_refl _), cond_false]
theorem views_prog (w : S23) (hw : w.f3.length ≤ 50) (A : List S75) (hA : A.length ≤ 2000) :
    iter (L29_6 w) (A, [], 0) = some ((w.f3.length : Int), false, A, w.f3.flatMap fun s => A.flatMap (VP s)) := by
  have hflat : ∀ s : S37, (A.flatMap (VP s)).length ≤ 2000 := fun s => by
    have := flat_len (VP s) 1 A fun x _ => VP_len s x
    omega
  have := collect (st := L29_6 w) (fun o i => (A, o, (i : Int))) (fun o => ((w.f3.length : Int), false, A, o)) w.f3 (fun s => A.flatMap (VP s)) [] 2000 100000 (fun s _ => hflat s) (by simp; omega) (fun o i x hi hx hs => by
      simp only [L29_6, ltL_true hi, listAt_some hx, cond_true, Option.bind_some, nextI (show i < 9223372036854775807 by omega)]
      rw [views_in w A hA (A, o, (i : Int)) rfl x o (by omega)]
      rfl) (fun o => by simp only [L29_6, ltL_false (Nat.le_refl _), cond_false])
  rw [List.nil_append] at this
  exact this
theorem views_ref_in (w : S23) (l : S31) (h : Good w l) (z0 : (List S79) × Int) (s : S37) (out : List S79) (ho : out.length ≤ 1000000) :
    iter (L35_6 w l z0 s (PC l l.f3.length)) (out, PC l l.f3.length, 0) = some (((PC l l.f3.length).length : Int), false, out ++ (PC l l.f3.length).flatMap (fun p => VP s (S75.mk p.f0 (SC w l p.f1))), PC l l.f3.length) := by
  have hfew := h.few
  refine collect (st := L35_6 w l z0 s (PC l l.f3.length)) (fun o i => (o, PC l l.f3.length, (i : Int))) (fun o => (((PC l l.f3.length).length : Int), false, o, PC l l.f3.length)) (PC l l.f3.length) (fun p => VP s (S75.mk p.f0 (SC w l p.f1))) out 1 1002000 (fun x _ => VP_len s _) (by omega) (fun o i x hi hx hs => ?_) (fun o => ?_)
  · have h1 := (SC_ok h (List.mem_of_getElem? hx)).1
    simp only [L35_6, ltL_true hi, idx_nat hi, getN_some hx, cond_true, Option.bind_some, nextI (show i < 9223372036854775807 by omega), scale_same, meet_same, h1, MT_eq, VP]
    cases (MT s.f1 (SC w l x.f1)).2 with
    | true =>
      simp only [cond_true, Option.bind_some]
      rw [appO_big (by omega) (by simp only [List.length_cons, List.length_nil]; omega)]
      rfl
    | false => simp only [cond_false, List.append_nil]
  · simp only [L35_6, ltL_false (Nat.le_refl _), cond_false]
theorem T35_eq (w : S23) (l : S31) (h : Good w l) : T35 w l = some (w.f3.flatMap fun s => (PC l l.f3.length).flatMap (fun p => VP s (S75.mk p.f0 (SC w l p.f1)))) := by
  have hfew := h.few
  have hw := (right_w h.w0).few
  have h33 := T33_eq l (right_of h.l0)
  have hin := views_ref_in w l h
  generalize PC l l.f3.length = P at hfew h33 hin ⊢
  have hflat : ∀ s : S37, (P.flatMap (fun p => VP s (S75.mk p.f0 (SC w l p.f1)))).length ≤ 2000 := fun s => by
    have := flat_len (fun p => VP s (S75.mk p.f0 (SC w l p.f1))) 1 P fun x _ => VP_len s _
    omega
  generalize hg : (fun (s : S37) => P.flatMap (fun p => VP s (S75.mk p.f0 (SC w l p.f1)))) = g
  have hg1 : ∀ s, P.flatMap (fun p => VP s (S75.mk p.f0 (SC w l p.f1))) = g s := fun s => by rw [← hg]
  simp only [hg1] at hflat hin
  have := collect (st := L35_3 w l) (fun o i => (o, (i : Int))) (fun o => ((w.f3.length : Int), false, o)) w.f3 g [] 2000 100000 (fun s _ => hflat s) (by rw [List.length_nil]; omega) (fun o i x hi hx hs => by
      simp only [L35_3, ltL_true hi, listAt_some hx, cond_true, Option.bind_some, nextI (show i < 9223372036854775807 by omega), h33]
      rw [hin (o, (i : Int)) x o (by omega), Option.bind_some]) (fun o => by simp only [L35_3, ltL_false (Nat.le_refl _), cond_false])
  rw [List.nil_append] at this
  unfold T35
  have e : iter (L35_3 w l) ([], 0) = _ := this
  rw [e, Option.bind_some]
theorem flat_flat {α β γ : Type} (f : α → List β) (g : β → List γ) : ∀ l : List α, (l.flatMap f).flatMap g = l.flatMap fun x => (f x).flatMap g
  | [] => rfl
  | a :: l => by rw [List.flatMap_cons, List.flatMap_append, flat_flat f g l, List.flatMap_cons]
theorem flat_congr {α β : Type} {f g : α → List β} : ∀ {l : List α}, (∀ x ∈ l, f x = g x) → l.flatMap f = l.flatMap g
  | [], _ => rfl
  | a :: l, h => by rw [List.flatMap_cons, List.flatMap_cons, h a (by simp), flat_congr fun x hx => h x (by simp [hx])]
theorem views_same (w : S23) (l : S31) (h : Good w l) : (w.f3.flatMap fun s => (AL w l (PC l l.f3.length)).flatMap (VP s)) = w.f3.flatMap fun s => (PC l l.f3.length).flatMap (fun p => VP s (S75.mk p.f0 (SC w l p.f1))) := by
  refine flat_congr fun s hs => ?_
  unfold AL
  rw [flat_flat]
  refine flat_congr fun p hp => ?_
  have hw := (right_w h.w0).rects s hs
  have hin := (screens_apart h.w0).1 s hs
  rcases (SC_ok h hp).2 with e | ⟨_, e, _⟩
  · rw [e, show ltI 0 (S25.mk 0 0 0 0).f2 = false from rfl]
    simp only [cond_false, List.flatMap_nil]
    obtain ⟨v, v1, v2⟩ := meet_none s.f1 hw hin.1
    have : (MT s.f1 (S25.mk 0 0 0 0)).2 = false := by
      have := MT_eq s.f1 (S25.mk 0 0 0 0)
      rw [v1] at this
      cases this
      exact v2
    unfold VP
    rw [this]
    rfl
  · rw [show ltI 0 (SC w l p.f1).f2 = true from decide_eq_true e]
    simp only [cond_true, List.flatMap_cons, List.flatMap_nil, List.append_nil]
end Go.Abs.TV

set_option linter.unusedVariables false
set_option linter.unusedSimpArgs false
set_option maxRecDepth 10000
namespace Go.Abs.TV
open Go.RowKit Go.Proofs Go.Abs
attribute [local irreducible] PC Rk Fin
noncomputable def MI (s : S37) (p : S75) : List S25 := bif (MT s.f1 p.f1).2 then [(MT s.f1 p.f1).1] else []
noncomputable def II (w : S23) (A : List S75) : List S25 := w.f3.flatMap fun s => A.flatMap (MI s)
theorem mem_AL {w : S23} {l : S31} (h : Good w l) {q : S75} (hq : q ∈ AL w l (PC l l.f3.length)) : W q.f1 := by
  unfold AL at hq
  obtain ⟨p, hp, h1⟩ := List.mem_flatMap.1 hq
  rcases (SC_ok h hp).2 with e | ⟨_, e, e2⟩
  · rw [e, show ltI 0 (S25.mk 0 0 0 0).f2 = false from rfl] at h1
    simp at h1
  · rw [show ltI 0 (SC w l p.f1).f2 = true from decide_eq_true e] at h1
    simp only [cond_true, List.mem_singleton] at h1
    rw [h1]
    exact e2
theorem AL_disj {w : S23} {l : S31} (h : Good w l) : (AL w l (PC l l.f3.length)).Pairwise fun a b => disj a.f1 b.f1 := by
  obtain ⟨g1, g2⟩ := PC_ok l h.l0
  have hs := sides_of h
  have hsc := fun p hp => (SC_ok (p := p) h hp).2
  unfold AL
  rw [List.pairwise_flatMap]
  constructor
  · intro p hp
    cases ltI 0 (SC w l p.f1).f2 <;> simp
  · refine g2.imp_of_mem fun {a b} ha hb hab => ?_
    intro x hx y hy
    rcases hsc a ha with e | ⟨ea, e, _⟩
    · rw [e, show ltI 0 (S25.mk 0 0 0 0).f2 = false from rfl] at hx
      simp at hx
    · rcases hsc b hb with e' | ⟨eb, e', _⟩
      · rw [e', show ltI 0 (S25.mk 0 0 0 0).f2 = false from rfl] at hy
        simp at hy
      · rw [show ltI 0 (SC w l a.f1).f2 = true from decide_eq_true e] at hx
        rw [show ltI 0 (SC w l b.f1).f2 = true from decide_eq_true e'] at hy
        simp only [cond_true, List.mem_singleton] at hx hy
        rw [hx, hy]
        show disj (SC w l a.f1) (SC w l b.f1)
        rw [ea, eb]
        exact scR_disj _ _ _ _ _ _ hs (g1 a ha).1 (g1 b hb).1 hab
theorem MI_ok {s : S37} {p : S75} (hs : W s.f1) (hp : W p.f1) : (∀ r ∈ MI s p, W r ∧ ∀ x y, has r x y ↔ has s.f1 x y ∧ has p.f1 x y) ∧ ((MI s p = [] ∧ disj s.f1 p.f1) ∨ ∃ r, MI s p = [r]) := by
  obtain ⟨v, v1, v2, v3⟩ := meet_ok s.f1 p.f1 hs hp
  have e : MT s.f1 p.f1 = v := by
    have := MT_eq s.f1 p.f1
    rw [v1] at this
    exact (Option.some.inj this).symm
  unfold MI
  rw [e]
  cases hv : v.2 with
  | true =>
    refine ⟨fun r hr => ?_, .inr ⟨_, rfl⟩⟩
    simp only [cond_true, List.mem_singleton] at hr
    rw [hr]
    exact v2 hv
  | false => exact ⟨fun r hr => by simp at hr, .inl ⟨rfl, v3 hv⟩⟩
theorem II_ok (w : S23) (hw : RightW w) (hd : w.f3.Pairwise fun a b => disj a.f1 b.f1) (A : List S75) (hA : ∀ p ∈ A, W p.f1) (dA : A.Pairwise fun a b => disj a.f1 b.f1) :
    (∀ r ∈ II w A, W r) ∧ (II w A).Pairwise disj ∧ ∀ x y, hasL (II w A) x y ↔ hasL (A.map (·.f1)) x y ∧ hasL (w.f3.map (·.f1)) x y := by
  have hmem : ∀ s ∈ w.f3, ∀ p ∈ A, ∀ r ∈ MI s p, W r ∧ ∀ x y, has r x y ↔ has s.f1 x y ∧ has p.f1 x y := fun s hs p hp => (MI_ok (hw.rects s hs) (hA p hp)).1
  unfold II
  refine ⟨fun r hr => ?_, ?_, fun x y => ⟨?_, ?_⟩⟩
  · obtain ⟨s, hs, h1⟩ := List.mem_flatMap.1 hr
    obtain ⟨p, hp, h2⟩ := List.mem_flatMap.1 h1
    exact (hmem s hs p hp r h2).1
  · rw [List.pairwise_flatMap]
    constructor
    · intro s hs
      rw [List.pairwise_flatMap]
      constructor
      · intro p hp
        rcases (MI_ok (hw.rects s hs) (hA p hp)).2 with ⟨e, _⟩ | ⟨r, e⟩ <;> rw [e] <;> simp
      · refine dA.imp_of_mem fun {a b} ha hb hab => ?_
        intro r hr t ht x y ⟨h1, h2⟩
        exact hab x y ⟨(((hmem s hs a ha r hr).2 x y).1 h1).2, (((hmem s hs b hb t ht).2 x y).1 h2).2⟩
    · refine hd.imp_of_mem fun {a b} ha hb hab => ?_
      intro r hr t ht x y ⟨h1, h2⟩
      obtain ⟨p, hp, hr⟩ := List.mem_flatMap.1 hr
      obtain ⟨q, hq, ht⟩ := List.mem_flatMap.1 ht
      exact hab x y ⟨(((hmem a ha p hp r hr).2 x y).1 h1).1, (((hmem b hb q hq t ht).2 x y).1 h2).1⟩
  · rintro ⟨r, hr, hh⟩
    obtain ⟨s, hs, h1⟩ := List.mem_flatMap.1 hr
    obtain ⟨p, hp, h2⟩ := List.mem_flatMap.1 h1
    obtain ⟨g1, g2⟩ := ((hmem s hs p hp r h2).2 x y).1 hh
    exact ⟨⟨p.f1, List.mem_map.2 ⟨p, hp, rfl⟩, g2⟩, ⟨s.f1, List.mem_map.2 ⟨s, hs, rfl⟩, g1⟩⟩
  · rintro ⟨⟨a, ha, h1⟩, ⟨b, hb, h2⟩⟩
    obtain ⟨p, hp, rfl⟩ := List.mem_map.1 ha
    obtain ⟨s, hs, rfl⟩ := List.mem_map.1 hb
    rcases (MI_ok (hw.rects s hs) (hA p hp)).2 with ⟨_, e⟩ | ⟨r, e⟩
    · exact absurd ⟨h2, h1⟩ (e x y)
    · have hr : r ∈ MI s p := by rw [e]; simp
      exact ⟨r, List.mem_flatMap.2 ⟨s, hs, List.mem_flatMap.2 ⟨p, hp, hr⟩⟩, ((hmem s hs p hp r hr).2 x y).2 ⟨h2, h1⟩⟩
theorem map_flat {α β γ : Type} (f : β → γ) (g : α → List β) : ∀ l : List α, (l.flatMap g).map f = l.flatMap fun x => (g x).map f
  | [] => rfl
  | a :: l => by rw [List.flatMap_cons, List.map_append, map_flat f g l, List.flatMap_cons]
theorem views_area (w : S23) (A : List S75) : ((w.f3.flatMap fun s => A.flatMap (VP s)).map fun v => v.f2.f2 * v.f2.f3).sum = areaL (II w A) := by
  unfold areaL II
  rw [map_flat, map_flat]
  congr 1
  refine flat_congr fun s _ => ?_
  rw [map_flat, map_flat]
  refine flat_congr fun p _ => ?_
  unfold VP MI
  cases (MT s.f1 p.f1).2 <;> rfl
theorem sum_flat (f : S75 → Int) (g : S75 → List S75) (h : S75 → Int) : ∀ l : List S75, (∀ p ∈ l, ((g p).map f).sum = h p) → ((l.flatMap g).map f).sum = (l.map h).sum
  | [], _ => rfl
  | a :: l, hh => by
    rw [List.flatMap_cons, List.map_append, List.sum_append, sum_flat f g h l fun p hp => hh p (by simp [hp]), hh a (by simp), List.map_cons, List.sum_cons]
theorem pieces_area (w : S23) (l : S31) (h : Good w l) : areaL ((AL w l (PC l l.f3.length)).map (·.f1)) = ((PC l l.f3.length).map fun p => (SC w l p.f1).f2 * (SC w l p.f1).f3).sum := by
  have hsc := fun p hp => (SC_ok (p := p) h hp).2
  unfold areaL
  rw [List.map_map]
  unfold AL
  refine sum_flat _ _ _ _ fun p hp => ?_
  rcases hsc p hp with e | ⟨_, e, _⟩
  · rw [e]
    rfl
  · rw [show ltI 0 (SC w l p.f1).f2 = true from decide_eq_true e]
    simp
theorem lost_area (w : S23) (l : S31) (h : Good w l) (o : List S25) (ho : o = Fin (rowAt ((AL w l (PC l l.f3.length)).map (·.f1)) (w.f3.map (·.f1))) (edgesY ((AL w l (PC l l.f3.length)).map (·.f1) ++ w.f3.map (·.f1)))) :
    areaL o = ((PC l l.f3.length).map fun p => (SC w l p.f1).f2 * (SC w l p.f1).f3).sum - areaL (II w (AL w l (PC l l.f3.length))) := by
  have hfew := h.few
  have hAl := AL_len w l (PC l l.f3.length)
  have hmA := fun q hq => mem_AL (q := q) h hq
  have hdA := AL_disj h
  have hwl := (right_w h.w0).few
  rw [← pieces_area w l h]
  generalize AL w l (PC l l.f3.length) = A at *
  obtain ⟨i1, i2, i3⟩ := II_ok w (right_w h.w0) (screens_apart h.w0).2 A hmA hdA
  rw [ho]
  refine area_less _ _ _ (fun r hr => by obtain ⟨p, hp, rfl⟩ := List.mem_map.1 hr; exact hmA p hp) (fun r hr => by obtain ⟨p, hp, rfl⟩ := List.mem_map.1 hr; exact (right_w h.w0).rects p hp) i1 (by rw [List.length_map]; omega) (by rw [List.length_map]; omega) ?_ i2 i3
  rw [List.pairwise_map]
  exact hdA
theorem T36_eq (w : S23) (l : S31) (h : Good w l) : T36 w l = some (IntKind.i64.wrap (((PC l l.f3.length).map fun p => (SC w l p.f1).f2 * (SC w l p.f1).f3).sum - areaL (II w (AL w l (PC l l.f3.length))))) := by
  have hfew := h.few
  have hwl := (right_w h.w0).few
  have h33 := T33_eq l (right_of h.l0)
  have h35 := T35_eq w l h
  have hvs := views_same w l h
  have hsc := fun p hp => (SC_ok (p := p) h hp).1
  have hA := views_area w (AL w l (PC l l.f3.length))
  have hAl := AL_len w l (PC l l.f3.length)
  rw [hvs] at hA
  have hVl : (w.f3.flatMap fun s => (PC l l.f3.length).flatMap (fun p => VP s (S75.mk p.f0 (SC w l p.f1)))).length ≤ 100000 := by
    have h1 := flat_len (fun s => (PC l l.f3.length).flatMap (fun p => VP s (S75.mk p.f0 (SC w l p.f1)))) 2000 w.f3 fun s _ => by
      have := flat_len (fun p => VP s (S75.mk p.f0 (SC w l p.f1))) 1 (PC l l.f3.length) fun x _ => VP_len s _
      omega
    omega
  generalize (w.f3.flatMap fun s => (PC l l.f3.length).flatMap (fun p => VP s (S75.mk p.f0 (SC w l p.f1)))) = V at *
  generalize areaL (II w (AL w l (PC l l.f3.length))) = a at *
  clear hvs hAl
  generalize PC l l.f3.length = P at *
  have s1 := sums (st := L36_3 w l P) (fun s i => (s, P, (i : Int))) (fun s => (s, (P.length : Int), false, P)) P (fun p => (SC w l p.f1).f2 * (SC w l p.f1).f3) 0 (fun s i x hi hx => by
    have := hsc x (List.mem_of_getElem? hx)
    simp only [L36_3, ltL_true hi, idx_nat hi, getN_some hx, cond_true, Option.bind_some, nextI (show i < 9223372036854775807 by omega), scale_same, this, wr_mul, wr_add]) (fun s => by
    simp only [L36_3, ltL_false (Nat.le_refl _), cond_false])
  have s2 := sums (st := L36_9 V) (fun s i => (s, V, (i : Int))) (fun s => (s, (V.length : Int), false, V)) V (fun v => -(v.f2.f2 * v.f2.f3)) (0 + (P.map fun p => (SC w l p.f1).f2 * (SC w l p.f1).f3).sum) (fun s i x hi hx => by
    simp only [L36_9, ltL_true hi, idx_nat hi, getN_some hx, cond_true, Option.bind_some, nextI (show i < 9223372036854775807 by omega), wr_mul, wr_sub, Int.sub_eq_add_neg]) (fun s => by
    simp only [L36_9, ltL_false (Nat.le_refl _), cond_false])
  rw [wr_zero] at s1
  have hneg : ∀ m : List S79, (m.map fun v => -(v.f2.f2 * v.f2.f3)).sum = -(m.map fun v => v.f2.f2 * v.f2.f3).sum := by
    intro m
    induction m with
    | nil => rfl
    | cons v m ih => rw [List.map_cons, List.sum_cons, ih, List.map_cons, List.sum_cons]; omega
  unfold T36
  have e1 : iter (L36_3 w l P) (0, P, 0) = _ := s1
  rw [h33, Option.bind_some, e1, Option.bind_some, h35, Option.bind_some]
  have e2 : iter (L36_9 V) (IntKind.i64.wrap (0 + (P.map fun p => (SC w l p.f1).f2 * (SC w l p.f1).f3).sum), V, 0) = _ := s2
  rw [e2, Option.bind_some, hneg, hA, Int.zero_add, ← Int.sub_eq_add_neg]
end Go.Abs.TV

set_option linter.unusedVariables false
set_option linter.unusedSimpArgs false
set_option maxRecDepth 10000
namespace Go.Abs.TV
open Go.RowKit Go.Proofs Go.Abs
theorem lit_sort1 (x : S110) : sortO (fun x y => T88 x y) [x] = some [x] := by
  obtain ⟨l', h1, h2, _⟩ := sortO_le (fun x y => T88 x y) (fun _ _ => True) (fun _ _ => .inl trivial) (fun _ _ _ _ _ => trivial) [x] (by simp) (by
    intro a ha b hb
    simp only [List.mem_singleton] at ha hb
    subst ha; subst hb
    refine ⟨_, rfl, ?_⟩
    have : subI .i64 b.f0 b.f0 = 0 := by unfold subI; rw [Int.sub_self]; rfl
    simp [this])
  rw [h1, List.perm_singleton.1 h2]
theorem lit_sort2 : sortO (fun x y => T88 x y) [⟨0, 2⟩, ⟨1, 3⟩] = some [⟨0, 2⟩, ⟨1, 3⟩] := by
  obtain ⟨l', h1, h2, h3⟩ := sortO_key (fun x y => T88 x y) (·.f0) [⟨0, 2⟩, ⟨1, 3⟩] (by simp) (by
    intro a ha b hb
    simp only [List.mem_cons, List.not_mem_nil, or_false] at ha hb
    rcases ha with rfl | rfl <;> rcases hb with rfl | rfl <;> exact ⟨_, rfl, by decide⟩)
  rw [h1]
  congr 1
  match l', h2.length_eq with
  | [a, b], _ =>
    have ha : a ∈ [(⟨0, 2⟩ : S110), ⟨1, 3⟩] := h2.mem_iff.1 (by simp)
    have hb : b ∈ [(⟨0, 2⟩ : S110), ⟨1, 3⟩] := h2.mem_iff.1 (by simp)
    have hp := h2.countP_eq (fun x : S110 => x.f0 == 0)
    simp only [List.mem_cons, List.not_mem_nil, or_false] at ha hb
    simp only [List.pairwise_cons, List.mem_singleton, forall_eq] at h3
    rcases ha with rfl | rfl <;> rcases hb with rfl | rfl
    · simp at hp
    · rfl
    · have := h3.1
      simp at this
    · simp at hp
abbrev r0 : S25 := S25.mk 0 0 2 2
abbrev r1 : S25 := S25.mk 1 1 2 2
theorem runs_nil (y : Int) : T69 [] y = some [] := by
  unfold T69
  rw [iter_run (r := (0, false, [])) 1 (by kernel_rfl)]
  simp only [Option.bind_some]
  rw [show sortO (fun x y => T88 x y) ([] : List S110) = some [] from by simp [sortO], Option.bind_some, iter_run (r := (0, false, [], [])) 1 (by kernel_rfl)]
  rfl
theorem runs0 : T69 [r0, r1] 0 = some [⟨0, 2⟩] := by
  unfold T69
  rw [iter_run (r := (2, false, [⟨0, 2⟩])) 3 (by kernel_rfl)]
  simp only [Option.bind_some]
  rw [lit_sort1, Option.bind_some, iter_run (r := (1, false, [⟨0, 2⟩], [⟨0, 2⟩])) 2 (by kernel_rfl)]
  rfl
theorem runs1 : T69 [r0, r1] 1 = some [⟨0, 3⟩] := by
  unfold T69
  rw [iter_run (r := (2, false, [⟨0, 2⟩, ⟨1, 3⟩])) 3 (by kernel_rfl)]
  simp only [Option.bind_some]
  rw [lit_sort2, Option.bind_some, iter_run (r := (2, false, [⟨0, 3⟩], [⟨0, 2⟩, ⟨1, 3⟩])) 3 (by kernel_rfl)]
  rfl
theorem runs2 : T69 [r0, r1] 2 = some [⟨1, 3⟩] := by
  unfold T69
  rw [iter_run (r := (2, false, [⟨1, 3⟩])) 3 (by kernel_rfl)]
  simp only [Option.bind_some]
  rw [lit_sort1, Option.bind_some, iter_run (r := (1, false, [⟨1, 3⟩], [⟨1, 3⟩])) 2 (by kernel_rfl)]
  rfl
theorem less_nil (x : S110) (hx : ltI x.f0 x.f1 = true) : T68 [x] [] = some [x] := by
  have h : L68_4 [x] [] ([], 0, 0) = some (.inl ([x], 0, 1)) := by
    unfold L68_4
    have e1 : ltI ((([], 0, 0) : List S110 × Int × Int).2.2) (lenL [x]) = true := rfl
    have e2 : listAt [x] ((([], 0, 0) : List S110 × Int × Int).2.2) = some x := rfl
    rw [e1, e2]
    simp only [cond_true, Option.bind_some]
    rw [iter_run (r := (0, false)) 1 (by kernel_rfl), Option.bind_some, iter_run (r := (0, false, [], x.f0)) 1 (by kernel_rfl)]
    simp only [Option.bind_some, hx, cond_true]
    rfl
  unfold T68
  rw [iter_inl h, iter_inr (r := (0, 1, false, [x])) (by kernel_rfl)]
  rfl
theorem same_no (a b : S110) (h : allB [eqI a.f0 b.f0, eqI a.f1 b.f1] = false) : T70 [a] [b] = some false := by
  unfold T70
  rw [iter_inr (r := .inr ()) (by
    unfold L70_4
    have e1 : ltI 0 (lenL [a]) = true := rfl
    have e2 : listAt [a] 0 = some a := rfl
    have e3 : listAt [b] 0 = some b := rfl
    rw [e1, e2, e3]
    simp only [cond_true, Option.bind_some, h, Bool.not_false])]
  rfl
theorem lit_region : T41 [r0, r1] [] = some [⟨0, 0, 2, 1⟩, ⟨0, 1, 3, 1⟩, ⟨1, 2, 2, 1⟩] := by
  unfold T41 T65
  rw [iter_run (r := (2, 2, false)) 3 (by kernel_rfl)]
  simp only [Option.bind_some]
  rw [show growO S25 32 2 = some [] by unfold growO; rw [if_pos (by decide)], Option.bind_some, iter_run (r := (2, false, [r0, r1])) 3 (by kernel_rfl)]
  simp only [Option.bind_some]
  rw [iter_run (r := (2, false, [0, 2, 1, 3], [r0, r1])) 3 (by kernel_rfl)]
  simp only [Option.bind_some]
  rw [show sortIO [0, 2, 1, 3] = some [0, 1, 2, 3] by
    unfold sortIO
    rw [if_pos (by simp), sortI_of (l' := [0, 1, 2, 3]) (by decide) (by decide)]]
  simp only [Option.bind_some]
  rw [show compIO [0, 1, 2, 3] = some [0, 1, 2, 3] by decide]
  simp only [Option.bind_some]
  have s0 : L41_13 [r0, r1] [] [0, 1, 2, 3] ([0, 1, 2, 3], [], [], 0, 0) = some (.inl ([0, 1, 2, 3], [], [⟨0, 2⟩], 0, 1)) := by
    unfold L41_13
    rw [show ltI ((([0, 1, 2, 3], [], [], 0, 0) : List Int × List S25 × List S110 × Int × Int).2.2.2.2) (lenL ([0, 1, 2, 3] : List Int)) = true by decide]
    simp only [cond_true]
    rw [show idxO (List.length ([0, 1, 2, 3] : List Int)) 0 = some 0 by decide]
    simp only [Option.bind_some]
    rw [show getN ([0, 1, 2, 3] : List Int) 0 = some 0 by decide]
    simp only [Option.bind_some]
    rw [show ltI (addI .i64 0 1) (lenL ([0, 1, 2, 3] : List Int)) = true by decide]
    simp only [cond_true]
    rw [runs0, runs_nil]
    simp only [Option.bind_some]
    rw [less_nil ⟨0, 2⟩ (by decide)]
    simp only [Option.bind_some]
    rw [show T70 [] [⟨0, 2⟩] = some false by unfold T70; rfl]
    simp only [Option.bind_some, cond_false]
    rw [iter_run (r := (0, false, [0, 1, 2, 3], [])) 1 (by kernel_rfl)]
    rfl
  have s1 : L41_13 [r0, r1] [] [0, 1, 2, 3] ([0, 1, 2, 3], [], [⟨0, 2⟩], 0, 1) = some (.inl ([0, 1, 2, 3], [⟨0, 0, 2, 1⟩], [⟨0, 3⟩], 1, 2)) := by
    unfold L41_13
    rw [show ltI ((([0, 1, 2, 3], [], [⟨0, 2⟩], 0, 1) : List Int × List S25 × List S110 × Int × Int).2.2.2.2) (lenL ([0, 1, 2, 3] : List Int)) = true by decide]
    simp only [cond_true]
    rw [show idxO (List.length ([0, 1, 2, 3] : List Int)) 1 = some 1 by decide]
    simp only [Option.bind_some]
    rw [show getN ([0, 1, 2, 3] : List Int) 1 = some 1 by decide]
    simp only [Option.bind_some]
    rw [show ltI (addI .i64 1 1) (lenL ([0, 1, 2, 3] : List Int)) = true by decide]
    simp only [cond_true]
    rw [runs1, runs_nil]
    simp only [Option.bind_some]
    rw [less_nil ⟨0, 3⟩ (by decide)]
    simp only [Option.bind_some]
    rw [same_no _ _ (by decide)]
    simp only [Option.bind_some, cond_false]
    rw [iter_run (r := (1, false, [0, 1, 2, 3], [⟨0, 0, 2, 1⟩])) 2 (by kernel_rfl)]
    rfl
  have s2 : L41_13 [r0, r1] [] [0, 1, 2, 3] ([0, 1, 2, 3], [⟨0, 0, 2, 1⟩], [⟨0, 3⟩], 1, 2) = some (.inl ([0, 1, 2, 3], [⟨0, 0, 2, 1⟩, ⟨0, 1, 3, 1⟩], [⟨1, 3⟩], 2, 3)) := by
    unfold L41_13
    rw [show ltI ((([0, 1, 2, 3], [⟨0, 0, 2, 1⟩], [⟨0, 3⟩], 1, 2) : List Int × List S25 × List S110 × Int × Int).2.2.2.2) (lenL ([0, 1, 2, 3] : List Int)) = true by decide]
    simp only [cond_true]
    rw [show idxO (List.length ([0, 1, 2, 3] : List Int)) 2 = some 2 by decide]
    simp only [Option.bind_some]
    rw [show getN ([0, 1, 2, 3] : List Int) 2 = some 2 by decide]
    simp only [Option.bind_some]
    rw [show ltI (addI .i64 2 1) (lenL ([0, 1, 2, 3] : List Int)) = true by decide]
    simp only [cond_true]
    rw [runs2, runs_nil]
    simp only [Option.bind_some]
    rw [less_nil ⟨1, 3⟩ (by decide)]
    simp only [Option.bind_some]
    rw [same_no _ _ (by decide)]
    simp only [Option.bind_some, cond_false]
    rw [iter_run (r := (1, false, [0, 1, 2, 3], [⟨0, 0, 2, 1⟩, ⟨0, 1, 3, 1⟩])) 2 (by kernel_rfl)]
    rfl
  have s3 : L41_13 [r0, r1] [] [0, 1, 2, 3] ([0, 1, 2, 3], [⟨0, 0, 2, 1⟩, ⟨0, 1, 3, 1⟩], [⟨1, 3⟩], 2, 3) = some (.inl ([0, 1, 2, 3], [⟨0, 0, 2, 1⟩, ⟨0, 1, 3, 1⟩, ⟨1, 2, 2, 1⟩], [], 3, 4)) := by
    unfold L41_13
    rw [show ltI ((([0, 1, 2, 3], [⟨0, 0, 2, 1⟩, ⟨0, 1, 3, 1⟩], [⟨1, 3⟩], 2, 3) : List Int × List S25 × List S110 × Int × Int).2.2.2.2) (lenL ([0, 1, 2, 3] : List Int)) = true by decide]
    simp only [cond_true]
    rw [show idxO (List.length ([0, 1, 2, 3] : List Int)) 3 = some 3 by decide]
    simp only [Option.bind_some]
    rw [show getN ([0, 1, 2, 3] : List Int) 3 = some 3 by decide]
    simp only [Option.bind_some]
    rw [show ltI (addI .i64 3 1) (lenL ([0, 1, 2, 3] : List Int)) = false by decide]
    simp only [cond_false]
    rw [show T70 [⟨1, 3⟩] [] = some false by unfold T70; rfl]
    simp only [Option.bind_some, cond_false]
    rw [iter_run (r := (1, false, [0, 1, 2, 3], [⟨0, 0, 2, 1⟩, ⟨0, 1, 3, 1⟩, ⟨1, 2, 2, 1⟩])) 2 (by kernel_rfl)]
    rfl
  rw [iter_inl s0, iter_inl s1, iter_inl s2, iter_inl s3, iter_inr (r := ([], 3, 4, false, [0, 1, 2, 3], [⟨0, 0, 2, 1⟩, ⟨0, 1, 3, 1⟩, ⟨1, 2, 2, 1⟩])) (by kernel_rfl)]
  rfl
theorem lit_ok : T26 = some true := by
  unfold T26 T57 T75 T59
  rw [iter_run (r := .inl (2, false)) 3 (by kernel_rfl)]
  rw [show (bif ltI 2000 (lenL ([r0, r1] : List S25)) then (some 2 : Option Int) else (some (Sum.inl (2, false) : (Int × Bool) ⊕ Int)).bind fun y3 => (Sum.elim (fun y3a => some 0) (fun y3b => some y3b) y3)) = some 0 by decide]
  simp only [Option.bind_some]
  rw [show neI 0 0 = false by decide]
  simp only [cond_false]
  rw [lit_region]
  simp only [Option.bind_some]
  rw [iter_run (r := (7, 3, false)) 4 (by kernel_rfl)]
  rfl
end Go.Abs.TV

set_option linter.unusedVariables false
set_option linter.unusedSimpArgs false
set_option maxRecDepth 10000
namespace Go.Abs.TV
open Go.RowKit Go.Proofs Go.Abs
attribute [local irreducible] PC Rk Fin
theorem T34_self (l : List S79) (hl : l.length ≤ 2000000000000) : T34 l l = some true := by
  unfold T34
  rw [neI_self]
  simp only [cond_false]
  obtain ⟨y, hy⟩ := same_all (st := L34_4 l l) l hl (fun i x hi hx => by
    simp only [L34_4, ltL_true hi, listAt_some hx, cond_true, Option.bind_some, nextI (show i < 9223372036854775807 by omega), eqI_self, eqB_self, allB, Bool.and_true, Bool.not_true, cond_false]) ⟨_, by simp only [L34_4, ltL_false (Nat.le_refl _), cond_false]; rfl⟩
  rw [hy]
  rfl
theorem T27_self (l : List S37) (hl : l.length ≤ 2000000000000) : T27 l l = some true := by
  unfold T27
  rw [neI_self]
  simp only [cond_false]
  obtain ⟨y, hy⟩ := same_all (st := L27_4 l l) l hl (fun i x hi hx => by
    simp only [L27_4, ltL_true hi, listAt_some hx, cond_true, Option.bind_some, nextI (show i < 9223372036854775807 by omega), eqI_self, eqB_self, allB, Bool.and_true, Bool.not_true, cond_false]) ⟨_, by simp only [L27_4, ltL_false (Nat.le_refl _), cond_false]; rfl⟩
  rw [hy]
  rfl
theorem T37_self (l : List S64) (hl : l.length ≤ 2000000000000) : T37 l l = some true := by
  unfold T37
  rw [neI_self]
  simp only [cond_false]
  obtain ⟨y, hy⟩ := same_all (st := L37_4 l l) l hl (fun i x hi hx => by
    simp only [L37_4, ltL_true hi, listAt_some hx, cond_true, Option.bind_some, nextI (show i < 9223372036854775807 by omega), eqI_self, eqB_self, allB, Bool.and_true, Bool.not_true, cond_false]) ⟨_, by simp only [L37_4, ltL_false (Nat.le_refl _), cond_false]; rfl⟩
  rw [hy]
  rfl
def or2 (c d : Int) : Int := if c = 0 then d else c
theorem PC_small (l : S31) (h : faultL l = 0) : (PC l l.f3.length).length ≤ 1000000000 := by
  refine Nat.le_trans (PC_len l (right_of h) _ (Nat.le_refl _)) ?_
  have := (right_of h).few
  have : l.f3.length * 12600000 ≤ 30 * 12600000 := Nat.mul_le_mul_right _ (by omega)
  omega
noncomputable def big (l : S31) : Int := bif ltI 2000 (lenL (PC l l.f3.length)) then 2 else 0
noncomputable def codeV (w : S23) (l : S31) : Int := or2 (or2 (faultW w) (faultL l)) (big l)
theorem T77_eq (l : S31) (h : faultL l = 0) : T77 l = some (bif ltI 2000 (lenL (PC l l.f3.length)) then ([], 2) else (PC l l.f3.length, 0)) := by
  obtain ⟨r, r1, r2⟩ := seen_prog l (right_of h)
  unfold T77
  rw [r1, Option.bind_some, r2]
  cases ltI 2000 (lenL (PC l l.f3.length)) <;> rfl
theorem T32_eq (L : List S75) : T32 L = some (bif ltI 2000 (lenL L) then ([], 2) else (L, 0)) := by
  unfold T32
  cases ltI 2000 (lenL L) <;> rfl
theorem good_of {w : S23} {l : S31} (h : codeV w l = 0) : Good w l := by
  unfold codeV or2 at h
  by_cases h1 : faultW w = 0
  · rw [if_pos h1] at h
    by_cases h2 : faultL l = 0
    · rw [if_pos h2] at h
      refine ⟨h1, h2, ?_⟩
      unfold big at h
      cases h3 : ltI 2000 (lenL (PC l l.f3.length)) with
      | true => rw [h3] at h; cases h
      | false =>
        rw [ltI_iff, lenL_eq] at h3
        have := of_decide_eq_false h3
        omega
    · rw [if_neg h2] at h
      exact absurd h h2
  · rw [if_neg h1, if_neg h1] at h
    exact absurd h h1
theorem code_good {w : S23} {l : S31} (h : Good w l) : codeV w l = 0 := by
  have hb : big l = 0 := by
    unfold big
    have hf := h.few
    rw [show ltI 2000 (lenL (PC l l.f3.length)) = false from decide_eq_false (by rw [lenL_eq]; omega)]
    rfl
  unfold codeV or2
  rw [if_pos h.w0, if_pos h.l0, hb]
theorem T58_eq (w : S23) (l : S31) (hw : ok23 1048576 w) (hl : ok31 1048576 l) : ∃ A : List S75, T58 w l = some (A, codeV w l) ∧ (codeV w l = 0 → A = AL w l (PC l l.f3.length)) := by
  unfold T58
  rw [T16_eq w hw, T76_eq l hl]
  simp only [Option.bind_some]
  by_cases h1 : faultW w = 0
  · have e1 : neI (faultW w) 0 = false := by rw [neI_iff, decide_eq_true h1]; rfl
    rw [e1]
    simp only [cond_false]
    by_cases h2 : faultL l = 0
    · have e2 : neI (faultL l) 0 = false := by rw [neI_iff, decide_eq_true h2]; rfl
      rw [e2, T77_eq l h2]
      simp only [cond_false, Option.bind_some]
      cases h3 : ltI 2000 (lenL (PC l l.f3.length)) with
      | true =>
        have hc : codeV w l = 2 := by
          unfold codeV or2 big
          rw [if_pos h1, if_pos h2, h3]
          rfl
        rw [hc]
        exact ⟨_, rfl, fun h => by cases h⟩
      | false =>
        have hg : Good w l := by
          refine ⟨h1, h2, ?_⟩
          rw [ltI_iff, lenL_eq] at h3
          have := of_decide_eq_false h3
          omega
        rw [code_good hg]
        simp only [cond_false, show neI (0 : Int) 0 = false from rfl]
        rw [scaled_loop w l hg]
        exact ⟨_, rfl, fun _ => rfl⟩
    · have e2 : neI (faultL l) 0 = true := by rw [neI_iff, decide_eq_false h2]; rfl
      have hc : codeV w l = faultL l := by
        unfold codeV or2
        rw [if_pos h1, if_neg h2]
      rw [e2, hc]
      exact ⟨_, rfl, fun h => absurd h h2⟩
  · have e1 : neI (faultW w) 0 = true := by rw [neI_iff, decide_eq_false h1]; rfl
    have hc : codeV w l = faultW w := by
      unfold codeV or2
      rw [if_neg h1, if_neg h1]
    rw [e1, hc]
    exact ⟨_, rfl, fun h => absurd h h1⟩
theorem T29_eq (w : S23) (l : S31) (hw : ok23 1048576 w) (hl : ok31 1048576 l) : ∃ V : List S79, T29 w l = some (V, codeV w l) ∧ V.length ≤ 2000000000000 ∧ ((codeV w l = 0 ∧ T35 w l = some V) ∨ (codeV w l ≠ 0 ∧ V = [])) := by
  obtain ⟨A, a1, a2⟩ := T58_eq w l hw hl
  unfold T29
  rw [a1, Option.bind_some]
  by_cases h : codeV w l = 0
  · have hg := good_of h
    have hA := a2 h
    have hfew := hg.few
    have hwl := (right_w hg.w0).few
    have hAl : A.length ≤ 2000 := by rw [hA]; exact Nat.le_trans (AL_len w l _) hfew
    have e1 : neI (codeV w l) 0 = false := by rw [neI_iff, decide_eq_true h]; rfl
    simp only [e1, cond_false]
    have e2 : iter (L29_6 w) (A, [], 0) = _ := views_prog w hwl A hAl
    rw [e2, Option.bind_some]
    refine ⟨_, rfl.trans (by rw [h]), ?_, .inl ⟨h, ?_⟩⟩
    · have h1 := flat_len (fun s => A.flatMap (VP s)) 2000 w.f3 fun s _ => by
        have := flat_len (VP s) 1 A fun x _ => VP_len s x
        omega
      simp only
      omega
    · rw [T35_eq w l hg, ← views_same w l hg, hA]
  · have e1 : neI (codeV w l) 0 = true := by rw [neI_iff, decide_eq_false h]; rfl
    simp only [e1, cond_true]
    exact ⟨_, rfl, by simp, .inr ⟨h, rfl⟩⟩
theorem rects_loop (w : S23) (c : Int) (A : List S75) (hA : A.length ≤ 2000) : iter (L30_6 w (A, c)) ([], A, 0) = some ((A.length : Int), false, A.map (·.f1), A) := by
  have := collect (st := L30_6 w (A, c)) (fun s i => (s, A, (i : Int))) (fun s => ((A.length : Int), false, s, A)) A (fun p => [p.f1]) [] 1 2000 (fun x _ => by simp) (by rw [List.length_nil]; omega) (fun s i x hi hx hs => by
    simp only [L30_6, ltL_true hi, idx_nat hi, getN_some hx, cond_true, Option.bind_some, nextI (show i < 9223372036854775807 by omega)]
    rw [appO_big (by omega) (by simp only [List.length_cons, List.length_nil]; omega)]
    rfl) (fun s => by simp only [L30_6, ltL_false (Nat.le_refl _), cond_false])
  rw [List.nil_append] at this
  have e : ∀ m : List S75, m.flatMap (fun p => [p.f1]) = m.map (·.f1) := by
    intro m
    induction m with
    | nil => rfl
    | cons a m ih => rw [List.flatMap_cons, ih]; rfl
  rw [e] at this
  exact this
open Classical in
theorem T30_eq (w : S23) (l : S31) (hw : ok23 1048576 w) (hl : ok31 1048576 l) : ∃ n : Int, T30 w l = some (n, codeV w l) ∧ ((codeV w l = 0 ∧ T36 w l = some n) ∨ (codeV w l ≠ 0 ∧ n = 0)) := by
  obtain ⟨A, a1, a2⟩ := T58_eq w l hw hl
  unfold T30
  rw [a1, Option.bind_some]
  by_cases h : codeV w l = 0
  · have hg := good_of h
    have hA := a2 h
    have hfew := hg.few
    have hwl := (right_w hg.w0).few
    have hAl : A.length ≤ 2000 := by rw [hA]; exact Nat.le_trans (AL_len w l _) hfew
    have e1 : neI (codeV w l) 0 = false := by rw [neI_iff, decide_eq_true h]; rfl
    simp only [e1, cond_false]
    have hp : ∀ r ∈ A.map (·.f1), W r := fun r hr => by
      obtain ⟨p, hp, rfl⟩ := List.mem_map.1 hr
      rw [hA] at hp
      exact mem_AL hg hp
    have hq : ∀ r ∈ w.f3.map (·.f1), W r := fun r hr => by
      obtain ⟨p, hp, rfl⟩ := List.mem_map.1 hr
      exact (right_w hg.w0).rects p hp
    have l1 : (A.map (·.f1)).length ≤ 2000 := by rw [List.length_map]; exact hAl
    have l2 : (w.f3.map (·.f1)).length ≤ 50 := by rw [List.length_map]; exact hwl
    have harea := lost_area w l hg
    rw [← hA] at harea
    have h36 := T36_eq w l hg
    rw [← hA] at h36
    rw [rects_loop w (codeV w l) A hAl, Option.bind_some, rects_ok w (right_w hg.w0), Option.bind_some]
    generalize hP : A.map (·.f1) = P at hp l1 harea ⊢
    generalize hQ : w.f3.map (·.f1) = Q at hq l2 harea ⊢
    obtain ⟨o, o1, _, o2, o3⟩ := main2 P Q (P ++ Q) (fun x y => some (decide (hasL P x y ∧ ¬ hasL Q x y))) hp hq (fun r hr => (List.mem_append.1 hr).elim (hp r) (hq r)) (by omega) (by omega) (by rw [List.length_append]; omega) (fun r hr => List.mem_append.2 hr)
      (fun x y => ⟨_, rfl, by rw [decide_eq_true_eq]⟩)
    rw [o1, Option.bind_some, T59_eq o (by omega), Option.bind_some, harea o o2]
    exact ⟨_, by rw [h], .inl ⟨h, h36⟩⟩
  · have e1 : neI (codeV w l) 0 = true := by rw [neI_iff, decide_eq_false h]; rfl
    simp only [e1, cond_true]
    exact ⟨_, rfl, .inr ⟨h, rfl⟩⟩
theorem t9 (w : S23) (l : S31) (hw : ok23 1048576 w) (hl : ok31 1048576 l) : T9 w l = some true := by
  obtain ⟨V, v1, v2, v3⟩ := T29_eq w l hw hl
  obtain ⟨n, n1, n2⟩ := T30_eq w l hw hl
  unfold T9
  rw [v1, n1, T15_eq w hw, T31_eq l hl]
  simp only [Option.bind_some, t13]
  have hz : ∀ a : Int, a ≠ 0 → eqI a 0 = false := fun a h => by rw [eqI_iff]; exact decide_eq_false h
  have hnz : ∀ a : Int, a ≠ 0 → neI a 0 = true := fun a h => by rw [neI_iff, decide_eq_false h]; rfl
  have hlen0 : ∀ {α : Type}, eqI (lenL ([] : List α)) 0 = true := rfl
  have he0 : eqI 0 0 = true := rfl
  show (bif eqI (or2 (faultW w) (faultL l)) 0 then _ else _) = _
  by_cases h : or2 (faultW w) (faultL l) = 0
  · have hfl : faultW w = 0 ∧ faultL l = 0 := by
      unfold or2 at h
      by_cases h1 : faultW w = 0
      · rw [if_pos h1] at h; exact ⟨h1, h⟩
      · rw [if_neg h1] at h; exact absurd h h1
    have hc : codeV w l = big l := by
      unfold codeV
      rw [h]
      unfold or2
      rw [if_pos rfl]
    rw [h, he0]
    simp only [cond_true]
    rw [T33_eq l (right_of hfl.2), Option.bind_some, T32_eq, Option.bind_some]
    rw [hc] at v3 n2 ⊢
    unfold big at v3 n2 ⊢
    cases hb : ltI 2000 (lenL (PC l l.f3.length)) with
    | true =>
      rw [hb] at v3 n2
      simp only [cond_true] at v3 n2 ⊢
      rcases v3 with ⟨g, _⟩ | ⟨_, g⟩
      · cases g
      rcases n2 with ⟨g', _⟩ | ⟨_, g'⟩
      · cases g'
      rw [g, g']
      simp only [show neI (2 : Int) 0 = true from rfl, cond_true, eqI_self, hlen0, lit_ok, Option.bind_some]
    | false =>
      rw [hb] at v3 n2
      simp only [cond_false] at v3 n2 ⊢
      rcases v3 with ⟨_, g⟩ | ⟨g, _⟩
      · rcases n2 with ⟨_, g'⟩ | ⟨g', _⟩
        · simp only [show neI (0 : Int) 0 = false from rfl, cond_false, he0, cond_true, g, g', Option.bind_some, T34_self V v2, eqI_self, lit_ok]
        · exact absurd rfl g'
      · exact absurd rfl g
  · have hc : codeV w l = or2 (faultW w) (faultL l) := by
      unfold codeV
      generalize or2 (faultW w) (faultL l) = e at h
      unfold or2
      rw [if_neg h]
    rw [hc] at v3 n2 ⊢
    rcases v3 with ⟨g, _⟩ | ⟨_, g⟩
    · exact absurd g h
    rcases n2 with ⟨g', _⟩ | ⟨_, g'⟩
    · exact absurd g' h
    rw [g, g', hz _ h]
    show (bif neI (or2 (faultW w) (faultL l)) 0 then _ else _) = _
    rw [hnz _ h]
    show (bif eqI (or2 (faultW w) (faultL l)) (or2 (faultW w) (faultL l)) then _ else _) = _
    rw [eqI_self]
    simp only [cond_true]
    show (bif eqI (or2 (faultW w) (faultL l)) (or2 (faultW w) (faultL l)) then _ else _) = _
    rw [eqI_self]
    simp only [cond_true, hlen0, he0, lit_ok, Option.bind_some]
theorem plain (p0 : S23) (p1 : S31) (h0 : ok23 1048576 p0) (h1 : ok31 1048576 p1) : T4 p0 p1 = some true := by
  have hlen : p0.f3.length ≤ 1048576 := h0.2.2.2.1
  have hlen1 : p1.f3.length ≤ 1048576 := h1.2.2.2.1
  unfold T4 T5 T8 T7 T10
  rw [appO_big (by omega) (by simp only [List.length_nil]; omega), Option.bind_some, List.nil_append, Option.bind_some, appO_big (by omega) (by simp only [List.length_nil]; omega), Option.bind_some, List.nil_append, Option.bind_some, t9 p0 p1 h0 h1]
  simp only [Option.bind_some, cond_true, eqS_self, eqI_self]
  rw [T27_self p0.f3 (by omega), T37_self p1.f3 (by omega)]
  rfl
end Go.Abs.TV
