import Derived.Test.YtnaibaifmnjpnaaRTRPl3
import Derived.Test.YtnaibaifmnjpnaaRTRLit
set_option linter.unusedVariables false
set_option linter.unusedSimpArgs false
set_option maxRecDepth 10000
namespace Go.Abs.TR
open Go.RowKit Go.Proofs Go.Abs
/-! Faults. -/
def inB (a b c : Int) : Bool := leI b a && leI a c
theorem t132 (a b c : Int) : T132 a b c = some (inB a b c) := by
  unfold T132 inB
  cases leI b a <;> cases leI a c <;> rfl
theorem t126 (a b c : Int) : T126 a b c = some (!inB a b c) := by
  unfold T126 inB ltI leI
  by_cases h1 : a < b
  · have : ¬ b ≤ a := by omega
    simp [h1, this]
  · have : b ≤ a := by omega
    by_cases h2 : c < a
    · have h3 : ¬ a ≤ c := by omega
      simp [h1, h2, this, h3]
    · have h3 : a ≤ c := by omega
      simp [h1, h2, this, h3]
def good (r : S63) : Bool := inB r.f0 (-100000) 100000 && inB r.f1 (-100000) 100000 && inB r.f2 1 (subI .i64 100000 r.f0) && inB r.f3 1 (subI .i64 100000 r.f1)
theorem t117 (r : S63) : T117 r = some (bif good r then 0 else 1) := by
  unfold T117 good
  simp only [t126, Option.bind_some]
  cases inB r.f0 (-100000) 100000 <;> cases inB r.f1 (-100000) 100000 <;> cases inB r.f2 1 (subI .i64 100000 r.f0) <;> cases inB r.f3 1 (subI .i64 100000 r.f1) <;> rfl
theorem t118 (r : S63) : T118 r = some (bif good r then 0 else 1) := by
  unfold T118 good
  simp only [t132, Option.bind_some]
  cases inB r.f0 (-100000) 100000 <;> cases inB r.f1 (-100000) 100000 <;> cases inB r.f2 1 (subI .i64 100000 r.f0) <;> cases inB r.f3 1 (subI .i64 100000 r.f1) <;> rfl
theorem neI_code (b : Bool) : neI (bif b then (0 : Int) else 1) 0 = !b := by cases b <;> rfl
theorem good_W {r : S63} (h : good r = true) : W r := by
  unfold good inB leI at h
  simp only [Bool.and_eq_true, decide_eq_true_eq] at h
  obtain ⟨⟨⟨⟨h1, h2⟩, h3, h4⟩, h5, h6⟩, h7, h8⟩ := h
  rw [subI_eq (by omega) (by omega)] at h6 h8
  unfold W
  omega
theorem t118_117 : T118 = T117 := by
  funext r
  rw [t117, t118]
def code (p : List S63) : Int := if 2000 < p.length then 2 else if p.all good = true then 0 else 1
theorem t211 (p : List S63) (hl : p.length ≤ 1048576) : T211 p = some (code p) := by
  unfold T211 code
  by_cases h : 2000 < p.length
  · rw [if_pos h, show ltI 2000 (lenL p) = true from decide_eq_true (by rw [lenL_eq]; omega)]
    rfl
  · rw [if_neg h, show ltI 2000 (lenL p) = false from decide_eq_false (by rw [lenL_eq]; omega)]
    simp only [cond_false]
    obtain ⟨r, h1, h2⟩ : ∃ r, iter (L211_4 p) 0 = some r ∧ ((r.isLeft = true ∧ p.all good = true) ∨ (r = .inr 1 ∧ ¬ p.all good = true)) := by
      refine iter_upx (st := L211_4 p) (fun (_ : Unit) i => (i : Int)) p.length (fun i _ => ∀ j x, j < i → p[j]? = some x → good x = true) (fun r => (r.isLeft = true ∧ p.all good = true) ∨ (r = .inr 1 ∧ ¬ p.all good = true)) ?_ ?_ 0 () (Nat.zero_le _) (fun j _ h => absurd h (Nat.not_lt_zero j))
      · intro i _ hi hinv
        obtain ⟨r, hr⟩ : ∃ r, p[i]? = some r := ⟨_, List.getElem?_eq_getElem hi⟩
        simp only [L211_4, ltL_true hi, listAt_some hr, cond_true, Option.bind_some, nextI (show i < 9223372036854775807 by omega), t117, neI_code]
        cases hg : good r with
        | true =>
          refine .inl ⟨(), rfl, fun j x hj hx => ?_⟩
          by_cases e : j = i
          · subst e
            rw [hr] at hx
            cases hx
            exact hg
          · exact hinv j x (by omega) hx
        | false =>
          refine .inr ⟨_, rfl, .inr ⟨rfl, fun h => ?_⟩⟩
          have := List.all_eq_true.1 h r (List.mem_of_getElem? hr)
          rw [hg] at this
          cases this
      · intro _ hinv
        simp only [L211_4, ltL_false (Nat.le_refl _), cond_false]
        refine ⟨_, rfl, .inl ⟨rfl, List.all_eq_true.2 fun x hx => ?_⟩⟩
        obtain ⟨j, hj⟩ := List.getElem?_of_mem hx
        exact hinv j x (List.getElem?_eq_some_iff.1 hj).1 hj
    rw [h1, Option.bind_some]
    rcases h2 with ⟨h2, h3⟩ | ⟨h2, h3⟩
    · rw [if_pos h3]
      cases r with
      | inl y => rfl
      | inr y => cases h2
    · rw [if_neg h3, h2]
      rfl
theorem t119 (p : List S63) (hl : p.length ≤ 1048576) : T119 p = some (code p) := by
  have e : L119_4 = L211_4 := by
    funext p z
    unfold L119_4 L211_4
    rw [t118_117]
  have : T119 p = T211 p := by
    unfold T119 T211
    rw [e]
  rw [this, t211 p hl]
theorem code_zero {p : List S63} (h : code p = 0) : p.length ≤ 2000 ∧ ∀ r ∈ p, W r := by
  unfold code at h
  split at h
  · cases h
  · split at h
    · rename_i h1 h2
      exact ⟨by omega, fun r hr => good_W (List.all_eq_true.1 h2 r hr)⟩
    · cases h
theorem t49 (a b : Int) : T49 [a, b] = some (if a = 0 then b else a) := by
  unfold T49
  have hlt0 : ltI 0 (lenL [a, b]) = true := rfl
  have hlt1 : ltI 1 (lenL [a, b]) = true := rfl
  have hlt2 : ltI 2 (lenL [a, b]) = false := rfl
  have n0 : addI .i64 0 1 = 1 := by decide
  have n1 : addI .i64 1 1 = 2 := by decide
  have a0 : listAt [a, b] 0 = some a := rfl
  have a1 : listAt [a, b] 1 = some b := rfl
  by_cases ha : a = 0
  · rw [if_pos ha]
    have e0 : neI a 0 = false := by rw [neI_iff, decide_eq_true ha]; rfl
    have h0 : L49_2 [a, b] 0 = some (.inl 1) := by simp only [L49_2, hlt0, a0, cond_true, Option.bind_some, e0, cond_false, n0]
    rw [iter_inl h0]
    by_cases hb : b = 0
    · have e1 : neI b 0 = false := by rw [neI_iff, decide_eq_true hb]; rfl
      have h1 : L49_2 [a, b] 1 = some (.inl 2) := by simp only [L49_2, hlt1, a1, cond_true, Option.bind_some, e1, cond_false, n1]
      have h2 : L49_2 [a, b] 2 = some (.inr (.inl (2, false))) := by simp only [L49_2, hlt2, cond_false]
      rw [iter_inl h1, iter_inr h2, hb]
      rfl
    · have e1 : neI b 0 = true := by rw [neI_iff, decide_eq_false hb]; rfl
      have h1 : L49_2 [a, b] 1 = some (.inr (.inr b)) := by simp only [L49_2, hlt1, a1, cond_true, Option.bind_some, e1]
      rw [iter_inr h1]
      rfl
  · rw [if_neg ha]
    have e0 : neI a 0 = true := by rw [neI_iff, decide_eq_false ha]; rfl
    have h0 : L49_2 [a, b] 0 = some (.inr (.inr a)) := by simp only [L49_2, hlt0, a0, cond_true, Option.bind_some, e0]
    rw [iter_inr h0]
    rfl
theorem t113 (p0 p1 : S63) : T113 p0 p1 = bif good p0 && good p1 then (T120 p0 p1).bind fun v => some (v.1, v.2, 0) else some (S63.mk 0 0 0 0, false, 1) := by
  unfold T113
  have hlt2 : ltI 2 2 = false := rfl
  have n0 : addI .i64 0 1 = 1 := by decide
  have n1 : addI .i64 1 1 = 2 := by decide
  have a0 : listAt [p0, p1] 0 = some p0 := rfl
  have a1 : listAt [p0, p1] 1 = some p1 := rfl
  have h0 : L113_2 p0 p1 0 = bif good p0 then some (.inl 1) else some (.inr (.inr 1)) := by
    simp only [L113_2, show ltI 0 2 = true from rfl, a0, cond_true, Option.bind_some, t117, neI_code, n0]
    cases good p0 <;> rfl
  have h1 : L113_2 p0 p1 1 = bif good p1 then some (.inl 2) else some (.inr (.inr 1)) := by
    simp only [L113_2, show ltI 1 2 = true from rfl, a1, cond_true, Option.bind_some, t117, neI_code, n1]
    cases good p1 <;> rfl
  have h2 : L113_2 p0 p1 2 = some (.inr (.inl (2, false))) := by simp only [L113_2, hlt2, cond_false]
  cases hg : good p0 with
  | false =>
    rw [hg] at h0
    rw [iter_inr h0]
    rfl
  | true =>
    rw [hg] at h0
    rw [iter_inl h0]
    cases hg1 : good p1 with
    | false =>
      rw [hg1] at h1
      rw [iter_inr h1]
      rfl
    | true =>
      rw [hg1] at h1
      rw [iter_inl h1, iter_inr h2]
      rfl
theorem t115 (p q : List S63) (hp : p.length ≤ 1048576) (hq : q.length ≤ 1048576) : T115 p q = if code p = 0 then (if code q = 0 then (T213 p q).bind fun x => (T212 x).bind fun v => some (v.1, v.2) else some ([], code q)) else some ([], code p) := by
  unfold T115
  have hlt2 : ltI 2 2 = false := rfl
  have n0 : addI .i64 0 1 = 1 := by decide
  have n1 : addI .i64 1 1 = 2 := by decide
  have a0 : listAt [p, q] 0 = some p := rfl
  have a1 : listAt [p, q] 1 = some q := rfl
  have h2 : L115_2 p q 2 = some (.inr (.inl (2, false))) := by simp only [L115_2, hlt2, cond_false]
  by_cases h : code p = 0
  · rw [if_pos h]
    have e0 : neI (code p) 0 = false := by rw [neI_iff, decide_eq_true h]; rfl
    have h0 : L115_2 p q 0 = some (.inl 1) := by
      simp only [L115_2, show ltI 0 2 = true from rfl, a0, cond_true, Option.bind_some, t211 p hp, e0, cond_false, n0]
    rw [iter_inl h0]
    by_cases h' : code q = 0
    · rw [if_pos h']
      have e1 : neI (code q) 0 = false := by rw [neI_iff, decide_eq_true h']; rfl
      have h1 : L115_2 p q 1 = some (.inl 2) := by
        simp only [L115_2, show ltI 1 2 = true from rfl, a1, cond_true, Option.bind_some, t211 q hq, e1, cond_false, n1]
      rw [iter_inl h1, iter_inr h2]
      rfl
    · rw [if_neg h']
      have e1 : neI (code q) 0 = true := by rw [neI_iff, decide_eq_false h']; rfl
      have h1 : L115_2 p q 1 = some (.inr (.inr (code q))) := by
        simp only [L115_2, show ltI 1 2 = true from rfl, a1, cond_true, Option.bind_some, t211 q hq, e1]
      rw [iter_inr h1]
      rfl
  · rw [if_neg h]
    have e0 : neI (code p) 0 = true := by rw [neI_iff, decide_eq_false h]; rfl
    have h0 : L115_2 p q 0 = some (.inr (.inr (code p))) := by
      simp only [L115_2, show ltI 0 2 = true from rfl, a0, cond_true, Option.bind_some, t211 p hp, e0]
    rw [iter_inr h0]
    rfl
/-! Which rectangle holds a place. -/
theorem t262 (r : S63) (x y : Int) (hw : W r) : ∃ b, T262 r x y = some b ∧ (b = true ↔ has r x y) := by
  have he := w_edge hw
  unfold W at hw
  unfold T262
  rw [he.1, he.2, subI_eq (by omega) (by omega), subI_eq (by omega) (by omega), t132, t132]
  simp only [Option.bind_some]
  unfold inB leI has
  cases h : (decide (r.f0 ≤ x) && decide (x ≤ r.f0 + r.f2 - 1)) with
  | true =>
    refine ⟨_, rfl, ?_⟩
    simp only [Bool.and_eq_true, decide_eq_true_eq] at h ⊢
    omega
  | false =>
    refine ⟨false, rfl, ?_⟩
    have : ¬ (r.f0 ≤ x ∧ x ≤ r.f0 + r.f2 - 1) := fun hh => by
      rw [decide_eq_true hh.1, decide_eq_true hh.2] at h
      cases h
    simp only [Bool.false_eq_true, false_iff]
    omega
theorem t217 (l : List S63) (x y : Int) (hw : ∀ r ∈ l, W r) (hl : l.length ≤ 1000000) : ∃ b, T217 l x y = some b ∧ (b = true ↔ hasL l x y) := by
  obtain ⟨r, h1, h2⟩ : ∃ r, iter (L290_2 l x y) 0 = some r ∧ ((r.isLeft = true ∧ ¬ hasL l x y) ∨ ((∃ i : Nat, r = .inr (i : Int)) ∧ hasL l x y)) := by
    refine iter_upx (st := L290_2 l x y) (fun (_ : Unit) i => (i : Int)) l.length (fun i _ => ¬ upto l i fun r => has r x y) (fun r => (r.isLeft = true ∧ ¬ hasL l x y) ∨ ((∃ i : Nat, r = .inr (i : Int)) ∧ hasL l x y)) ?_ ?_ 0 () (Nat.zero_le _) (upto_zero _ _)
    · intro i _ hi hinv
      obtain ⟨r, hr⟩ : ∃ r, l[i]? = some r := ⟨_, List.getElem?_eq_getElem hi⟩
      obtain ⟨b, b1, b2⟩ := t262 r x y (hw r (List.mem_of_getElem? hr))
      simp only [L290_2, T261, ltL_true hi, listAt_some hr, cond_true, Option.bind_some, nextI (show i < 9223372036854775807 by omega), b1]
      cases b with
      | true => exact .inr ⟨_, rfl, .inr ⟨⟨i, rfl⟩, r, List.mem_of_getElem? hr, b2.1 rfl⟩⟩
      | false =>
        refine .inl ⟨(), rfl, fun h => ?_⟩
        rcases (upto_succ _ hr).1 h with h | h
        · exact hinv h
        · have := b2.2 h
          cases this
    · intro _ hinv
      simp only [L290_2, ltL_false (Nat.le_refl _), cond_false]
      exact ⟨_, rfl, .inl ⟨rfl, fun h => hinv ((upto_len _).2 h)⟩⟩
  unfold T217 T260 T290
  rw [h1, Option.bind_some]
  rcases h2 with ⟨h2, h3⟩ | ⟨⟨i, h2⟩, h3⟩
  · cases r with
    | inl z => exact ⟨false, rfl, by simp [h3]⟩
    | inr z => cases h2
  · subst h2
    refine ⟨leI 0 (i : Int), rfl, ?_⟩
    rw [leI_iff, decide_eq_true (show (0 : Int) ≤ i by omega)]
    simp [h3]
theorem h216 (p : List S63) (hw : ∀ r ∈ p, W r) (hl : p.length ≤ 2000) (x y : Int) : ∃ b, T216 x y p = some b ∧ (b = true ↔ hasL p x y ∧ ¬ hasL [] x y) := by
  obtain ⟨b, h1, h2⟩ := t217 p x y hw (by omega)
  refine ⟨b, ?_, ?_⟩
  · unfold T216
    rw [h1]
    rfl
  · rw [h2]
    exact ⟨fun h => ⟨h, fun ⟨r, hr, _⟩ => by simp at hr⟩, fun h => h.1⟩
theorem h219 (p q : List S63) (hp : ∀ r ∈ p, W r) (hq : ∀ r ∈ q, W r) (lp : p.length ≤ 2000) (lq : q.length ≤ 2000) (x y : Int) : ∃ b, T219 x y p q = some b ∧ (b = true ↔ hasL p x y ∧ ¬ hasL q x y) := by
  obtain ⟨b, h1, h2⟩ := t217 p x y hp (by omega)
  obtain ⟨c, h3, h4⟩ := t217 q x y hq (by omega)
  unfold T219
  rw [h1, Option.bind_some, h3, Option.bind_some, ← h2, ← h4]
  cases b <;> cases c <;> exact ⟨_, rfl, by simp⟩
/-! Sums; lists beside themselves. -/
theorem sum_same (l : List S63) (hl : l.length ≤ 2000000000000) : ∃ s, T214 l = some s ∧ ∃ y, iter (L121_3 l) (0, l, 0) = some y ∧ y.1 = s := by
  let f : Nat → Int := fun i => (l.take i).foldl (fun s r => addI .i64 s (mulI .i64 r.f2 r.f3)) 0
  have hf : ∀ i r, l[i]? = some r → f (i + 1) = addI .i64 (f i) (mulI .i64 r.f2 r.f3) := by
    intro i r hr
    show List.foldl _ _ _ = _
    rw [take_next hr, List.foldl_append]
    rfl
  refine ⟨f l.length, ?_, ?_⟩
  · obtain ⟨r, h1, h2⟩ : ∃ r, iter (L214_3 l) (0, 0) = some r ∧ r.1 = f l.length := by
      refine iter_up (st := L214_3 l) (fun (_ : Unit) i => (f i, (i : Int))) l.length (fun _ _ => True) (fun r => r.1 = f l.length) ?_ ?_ () trivial
      · intro i _ hi _
        obtain ⟨r, hr⟩ : ∃ r, l[i]? = some r := ⟨_, List.getElem?_eq_getElem hi⟩
        simp only [L214_3, ltL_true hi, listAt_some hr, cond_true, Option.bind_some, nextI (show i < 9223372036854775807 by omega), hf i r hr]
        exact ⟨(), by first | rfl | trivial, trivial⟩
      · intro _ _
        simp only [L214_3, ltL_false (Nat.le_refl _), cond_false]
        exact ⟨_, rfl, rfl⟩
    unfold T214
    rw [h1, Option.bind_some, h2]
  · refine iter_up (st := L121_3 l) (fun (_ : Unit) i => (f i, l, (i : Int))) l.length (fun _ _ => True) (fun r => r.1 = f l.length) ?_ ?_ () trivial
    · intro i _ hi _
      obtain ⟨r, hr⟩ : ∃ r, l[i]? = some r := ⟨_, List.getElem?_eq_getElem hi⟩
      simp only [L121_3, ltL_true hi, idx_nat hi, getN_some hr, cond_true, Option.bind_some, nextI (show i < 9223372036854775807 by omega), hf i r hr]
      exact ⟨(), by first | rfl | trivial, trivial⟩
    · intro _ _
      simp only [L121_3, ltL_false (Nat.le_refl _), cond_false]
      exact ⟨_, rfl, rfl⟩
theorem t36_self (l : List S63) (hl : l.length ≤ 2000000000000) : T36 l l = some true := by
  unfold T36
  have e : neI (lenL l) (lenL l) = false := by rw [neI_iff]; simp
  rw [e]
  simp only [cond_false]
  obtain ⟨r, h1, h2⟩ : ∃ r, iter (L36_4 l l) 0 = some r ∧ r.isLeft = true := by
    refine iter_up (st := L36_4 l l) (fun (_ : Unit) i => (i : Int)) l.length (fun _ _ => True) (fun r => r.isLeft = true) ?_ ?_ () trivial
    · intro i _ hi _
      obtain ⟨r, hr⟩ : ∃ r, l[i]? = some r := ⟨_, List.getElem?_eq_getElem hi⟩
      simp only [L36_4, ltL_true hi, listAt_some hr, cond_true, Option.bind_some, nextI (show i < 9223372036854775807 by omega), eqI_self, allB, Bool.and_true, Bool.not_true, cond_false]
      exact ⟨(), by first | rfl | trivial, trivial⟩
    · intro _ _
      simp only [L36_4, ltL_false (Nat.le_refl _), cond_false]
      exact ⟨_, rfl, rfl⟩
  rw [h1, Option.bind_some]
  cases r with
  | inl y => rfl
  | inr y => cases h2
theorem t120_some (p q : S63) : ∃ v, T120 p q = some v := by
  unfold T120
  cases leI (subI .i64 (minI (addI .i64 p.f0 p.f2) (addI .i64 q.f0 q.f2)) (maxI p.f0 q.f0)) 0
  · cases leI (subI .i64 (minI (addI .i64 p.f1 p.f3) (addI .i64 q.f1 q.f3)) (maxI p.f1 q.f1)) 0
    · exact ⟨_, rfl⟩
    · exact ⟨_, rfl⟩
  · exact ⟨_, rfl⟩
theorem t212_some (o : List S63) (h : o.length ≤ 1000001000000) : ∃ v : List S63 × Int, T212 o = some v ∧ v.1.length ≤ 2000000000000 := by
  unfold T212
  cases ltI 2000 (lenL o)
  · exact ⟨_, rfl, by simp only; omega⟩
  · exact ⟨_, rfl, by simp⟩
theorem t122 : T122 = T212 := rfl
/-- The two ways, whatever the faults are. -/
theorem region_same (p : List S63) (hp : p.length ≤ 1048576) :
    ∃ (v : List S63 × Int) (s : Int), T114 p = some v ∧ T116 p = some (s, code p) ∧ v.1.length ≤ 2000000000000 ∧
      ((code p = 0 ∧ ∃ o, T123 p = some o ∧ T122 o = some v ∧ T121 p = some s) ∨ (code p ≠ 0 ∧ v = ([], code p) ∧ s = 0)) := by
  unfold T114 T116
  rw [t211 p hp]
  simp only [Option.bind_some]
  by_cases h : code p = 0
  · obtain ⟨hl, hw⟩ := code_zero h
    obtain ⟨o, o1, o2, o3⟩ := main p [] (fun x y => T216 x y p) hw (by simp) hl (by simp) (h216 p hw hl)
    obtain ⟨v, v1, v2⟩ := t212_some o o3
    obtain ⟨s, s1, y, s2, s3⟩ := sum_same o (by omega)
    rw [List.append_nil, ← g215] at o2
    have e0 : neI (code p) 0 = false := by rw [neI_iff, decide_eq_true h]; rfl
    rw [e0]
    simp only [cond_false]
    rw [o1, Option.bind_some, v1, Option.bind_some, Option.bind_some, s1, Option.bind_some]
    have h123 : T123 p = some o := by
      unfold T123
      rw [o2]
      rfl
    refine ⟨v, s, rfl, by rw [h], v2, .inl ⟨h, o, h123, v1, ?_⟩⟩
    unfold T121
    rw [h123, Option.bind_some, s2, Option.bind_some, s3]
  · have e0 : neI (code p) 0 = true := by rw [neI_iff, decide_eq_false h]; rfl
    rw [e0]
    simp only [cond_true]
    exact ⟨_, _, rfl, rfl, by simp, .inr ⟨h, rfl, rfl⟩⟩
theorem without_same (p q : List S63) (hp : p.length ≤ 1048576) (hq : q.length ≤ 1048576) :
    ∃ (v : List S63 × Int) (c : Int), T115 p q = some v ∧ v.1.length ≤ 2000000000000 ∧ T49 [code p, code q] = some c ∧ ((c = 0 ∧ ∃ o, T124 p q = some o ∧ T122 o = some v) ∨ (c ≠ 0 ∧ v = ([], c))) := by
  rw [t115 p q hp hq, t49]
  by_cases h : code p = 0
  · rw [if_pos h, if_pos h]
    by_cases h' : code q = 0
    · rw [if_pos h']
      obtain ⟨lp, wp⟩ := code_zero h
      obtain ⟨lq, wq⟩ := code_zero h'
      obtain ⟨o, o1, o2, o3⟩ := main p q (fun x y => T219 x y p q) wp wq lp lq (h219 p q wp wq lp lq)
      obtain ⟨v, v1, v2⟩ := t212_some o o3
      rw [← g215_1] at o2
      rw [o1, Option.bind_some, v1, Option.bind_some]
      refine ⟨v, _, rfl, v2, rfl, .inl ⟨h', o, ?_, v1⟩⟩
      unfold T124
      rw [both_ok p q (by omega) (by omega), Option.bind_some, o2]
      rfl
    · rw [if_neg h']
      exact ⟨_, _, rfl, by simp, rfl, .inr ⟨h', rfl⟩⟩
  · rw [if_neg h, if_neg h]
    exact ⟨_, _, rfl, by simp, rfl, .inr ⟨h, rfl⟩⟩
theorem t35 (p0 p1 : S63) (p2 p3 : List S63) (h2 : p2.length ≤ 1048576) (h3 : p3.length ≤ 1048576) : T35 p0 p1 p2 p3 = some true := by
  obtain ⟨v, s, a1, a2, a3, a4⟩ := region_same p2 h2
  obtain ⟨w, c, b1, b2, b3, b4⟩ := without_same p2 p3 h2 h3
  obtain ⟨m, m1⟩ := t120_some p0 p1
  unfold T35
  rw [t113, a1, b1, a2, t117, t118, t118, t119 p2 h2, t119 p3 h3, m1]
  have hneq : ∀ a : Int, neI a a = false := fun a => by rw [neI_iff]; simp
  have hv := t36_self v.1 a3
  have hw := t36_self w.1 b2
  have hnil : T36 [] [] = some true := t36_self [] (by simp)
  have he0 : eqI 0 0 = true := rfl
  have he1 : eqI 1 0 = false := rfl
  have hz : ∀ a : Int, a ≠ 0 → eqI a 0 = false := fun a h => by rw [eqI_iff]; exact decide_eq_false h
  simp only [Option.bind_some, t49, b3, hneq, cond_false]
  rw [t49] at b3
  simp only [Option.some.injEq] at b3
  rw [b3]
  rcases a4 with ⟨z1, o, o1, o2, o3⟩ | ⟨z1, z2, z3⟩
  · rcases b4 with ⟨y1, q, q1, q2⟩ | ⟨y1, y2⟩
    · cases good p0 <;> cases good p1 <;> simp [z1, y1, o1, o2, o3, q1, q2, he0, he1, eqI_self, allB, hv, hw, hnil, lit_ok]
    · cases good p0 <;> cases good p1 <;> simp [z1, y2, o1, o2, o3, hz c y1, he0, he1, eqI_self, allB, hv, hw, hnil, lit_ok]
  · rcases b4 with ⟨y1, q, q1, q2⟩ | ⟨y1, y2⟩
    · cases good p0 <;> cases good p1 <;> simp [hz _ z1, z2, z3, y1, q1, q2, he0, he1, eqI_self, allB, hv, hw, hnil, lit_ok]
    · cases good p0 <;> cases good p1 <;> simp [hz _ z1, z2, z3, y2, hz c y1, he0, he1, eqI_self, allB, hv, hw, hnil, lit_ok]
theorem plain (p0 p1 : S63) (p2 p3 : List S63) (h0 : ok63 1048576 p0) (h1 : ok63 1048576 p1) (h2 : p2.length ≤ 1048576 ∧ ∀ x ∈ p2, ok63 1048576 x) (h3 : p3.length ≤ 1048576 ∧ ∀ x ∈ p3, ok63 1048576 x) : T10 p0 p1 p2 p3 = some true := by
  unfold T10
  rw [appO_big (by omega) (by simp only [List.length_nil]; omega), appO_big (by omega) (by simp only [List.length_nil]; omega), t35 p0 p1 p2 p3 h2.1 h3.1]
  simp only [Option.bind_some, cond_true, List.nil_append]
  rw [t36_self p2 (by omega), t36_self p3 (by omega)]
  rfl
end Go.Abs.TR
