import Derived.Test.YtnaibaifmnjpnaaAbsZA
set_option linter.unusedVariables false
set_option linter.unusedSimpArgs false
namespace Go.Abs
open Go.RowKit
theorem envSub_snoc (b : Nat → Bool) (d : Option Nat) (e : Eff) : ∀ (l : Effs) (k : Nat) (σ : Env), envSub b (l ++ [(d, e)]) k σ = if b (k + l.length) then (envSub b l k σ).eff d e else envSub b l k σ
  | [], k, σ => by simp only [List.nil_append, envSub, List.length_nil, Nat.add_zero]
  | (d', e') :: l, k, σ => by
    simp only [List.cons_append, envSub, List.length_cons]
    rw [envSub_snoc b d e l]
    rw [show k + 1 + l.length = k + (l.length + 1) by omega]
theorem envSub_desc {σ0 : Env} {es : Effs} {bef : Nat → Nat → Bool} (G : Good σ0 es) {b : Nat → Bool} (hlt : ∀ i k, bef i k = true → k < i) (hb : ∀ k x, b k = true → bef k x = true → b x = true) :
    ∀ m, m ≤ es.length → (∀ k, k < m → FrzOK σ0 es bef k) → Desc σ0 es (fun i => b i && decide (i < m)) (envSub b (es.take m) 0 σ0)
  | 0, _, _ => by
    have : (fun i => b i && decide (i < 0)) = fun _ => false := by funext i; simp
    rw [this]
    exact desc_none
  | m + 1, hm, hF => by
    have ih := envSub_desc G hlt hb m (by omega) fun k hk => hF k (by omega)
    have hmlt : m < es.length := by omega
    have hget : es[m]? = some es[m] := List.getElem?_eq_getElem hmlt
    have htake : es.take (m + 1) = es.take m ++ [(es[m].1, es[m].2)] := by
      rw [List.take_add_one, hget]
      rfl
    rw [htake, envSub_snoc]
    have hl : 0 + (es.take m).length = m := by rw [List.length_take]; omega
    rw [hl]
    by_cases hbm : b m = true
    · rw [if_pos hbm]
      have := desc_step (bef := bef) G ih (i := m) (d := es[m].1) (e := es[m].2) hget (by simp) (fun k hk x hx => by
          simp only [Bool.and_eq_true, decide_eq_true_eq] at hk ⊢
          have := hlt k x hx
          exact ⟨hb k x hk.1 hx, by omega⟩) (fun x hx => by
          simp only [Bool.and_eq_true, decide_eq_true_eq]
          exact ⟨hb m x hbm hx, hlt m x hx⟩) (fun k hk => by
          simp only [Bool.or_eq_true, Bool.and_eq_true, decide_eq_true_eq, beq_iff_eq] at hk
          exact hF k (by omega))
      have e1 : (fun k => (b k && decide (k < m)) || k == m) = fun i => b i && decide (i < m + 1) := by
        funext k
        rw [Bool.eq_iff_iff]
        simp only [Bool.or_eq_true, Bool.and_eq_true, decide_eq_true_eq, beq_iff_eq]
        constructor
        · rintro (⟨h1, h2⟩ | rfl)
          · exact ⟨h1, by omega⟩
          · exact ⟨hbm, by omega⟩
        · rintro ⟨h1, h2⟩
          by_cases hk : k = m
          · exact .inr hk
          · exact .inl ⟨h1, by omega⟩
      rw [← e1]
      exact this
    · rw [if_neg hbm]
      have e1 : (fun k => b k && decide (k < m)) = fun i => b i && decide (i < m + 1) := by
        funext k
        rw [Bool.eq_iff_iff]
        simp only [Bool.and_eq_true, decide_eq_true_eq]
        constructor
        · rintro ⟨h1, h2⟩; exact ⟨h1, by omega⟩
        · rintro ⟨h1, h2⟩
          refine ⟨h1, ?_⟩
          by_cases hk : k = m
          · subst hk; exact absurd h1 hbm
          · omega
      rw [← e1]
      exact ih
theorem effsA_spec {P : Program} {C : Callee} {ops : Array Oper} {σ : Env} {befs : List (List Nat)} : ∀ (l : List Oper) {es0 es : Effs}, effsA P C ops σ befs l es0 = some es →
    es.length = es0.length + l.length ∧ es.take es0.length = es0 ∧ ∀ j o, l[j]? = some o → ∃ e, es[es0.length + j]? = some (o.dst, e) ∧ stepE P C ops (envSub (befAt befs (es0.length + j)) (es.take (es0.length + j)) 0 σ) o = some e
  | [], es0, es, h => by
    simp only [effsA, Option.some.injEq] at h
    subst h
    exact ⟨by simp, by simp, fun j o h => by simp at h⟩
  | o :: l, es0, es, h => by
    simp only [effsA] at h
    obtain ⟨e, h1, h2⟩ := bind_some' h
    obtain ⟨h3, h4, h5⟩ := effsA_spec l h2
    have hlen : (es0 ++ [(o.dst, e)]).length = es0.length + 1 := by simp
    rw [hlen] at h3 h4
    have ht : es.take es0.length = es0 := by
      have := congrArg (List.take es0.length) h4
      rw [List.take_take, List.take_left] at this
      rwa [Nat.min_eq_left (by omega)] at this
    refine ⟨by rw [h3, List.length_cons]; omega, ht, fun j o' hj => ?_⟩
    cases j with
    | zero =>
      simp only [List.getElem?_cons_zero, Option.some.injEq] at hj
      subst hj
      refine ⟨e, ?_, by rw [Nat.add_zero, ht]; exact h1⟩
      have : (es.take (es0.length + 1))[es0.length]? = some (o.dst, e) := by rw [h4]; simp
      rw [List.getElem?_take] at this
      simpa using this
    | succ j =>
      simp only [List.getElem?_cons_succ] at hj
      obtain ⟨e', h6, h7⟩ := h5 j o' hj
      rw [hlen] at h6 h7
      rw [show es0.length + (j + 1) = es0.length + 1 + j by omega]
      exact ⟨e', h6, h7⟩
/-- The place of a position in the region. -/
def ixOf (ops : Array Oper) (ord : List Nat) (p : Nat) : Nat := ord.getD p ops.size
/-- The static conditions, in words. -/
structure Stat (ops : Array Oper) (ord : List Nat) (n : Nat) (befs : List (List Nat)) : Prop where
  edges : ∀ (j : Nat) o e, (inOrd ops ord)[j]? = some o → e ∈ o.after → Region.binds .any e = true → ord.idxOf e.on < j
  lt : ∀ j i, j < ops.size → befAt befs j i = true → i < j
  by_ : ∀ (j : Nat) o i, (inOrd ops ord)[j]? = some o → befAt befs j i = true → ∃ e ∈ o.after, Region.binds .any e = true ∧ (ord.idxOf e.on = i ∨ befAt befs (ord.idxOf e.on) i = true)
  trans : ∀ j i k, j < ops.size → befAt befs j i = true → befAt befs i k = true → befAt befs j k = true
  apart : ∀ (i j : Nat) q o d, i < n → j < n → (inOrd ops ord)[i]? = some q → (inOrd ops ord)[j]? = some o → i ≠ j → q.dst = some d → o.dst ≠ some d ∧ (d ∈ o.looksAt ops → befAt befs j i = true)
  tail : ∀ j i, n ≤ j → j < ops.size → i < j → befAt befs j i = true
  le : n ≤ ops.size
  len : (inOrd ops ord).length = ops.size
  get : ∀ p, p < ops.size → (inOrd ops ord)[p]? = ops[ixOf ops ord p]? ∧ ixOf ops ord p < ops.size ∧ ord.idxOf (ixOf ops ord p) = p
  surj : ∀ i, i < ops.size → ord.idxOf i < ops.size ∧ ixOf ops ord (ord.idxOf i) = i
  beyond : ∀ i, ops.size ≤ i → ixOf ops ord (ord.idxOf i) = ops.size
theorem statOk_spec {ops : Array Oper} {ord : List Nat} {n : Nat} {befs : List (List Nat)} (h : statOk ops ord befs n = true) : Stat ops ord n befs := by
  unfold statOk at h
  simp only [Bool.and_eq_true, decide_eq_true_eq] at h
  obtain ⟨⟨⟨⟨⟨h0, h1⟩, h2⟩, h3⟩, h4⟩, h5⟩ := h
  unfold ordOk at h0
  simp only [Bool.and_eq_true, beq_iff_eq, List.all_eq_true, decide_eq_true_eq] at h0
  obtain ⟨⟨⟨hnd0, hlt⟩, hsur⟩, hol⟩ := h0
  have hnd := noDup_spec hnd0
  have hlen : (inOrd ops ord).length = ops.size := by rw [inOrd, List.length_map]; exact hol
  have hget : ∀ p, p < ops.size → (inOrd ops ord)[p]? = ops[ixOf ops ord p]? ∧ ixOf ops ord p < ops.size ∧ ord.idxOf (ixOf ops ord p) = p := by
    intro p hp
    have hp' : p < ord.length := by omega
    have e1 : ixOf ops ord p = ord[p] := by simp [ixOf, hp']
    have e2 : ord[p] < ops.size := hlt _ (List.getElem_mem hp')
    refine ⟨?_, by rw [e1]; exact e2, by rw [e1]; exact hnd.idxOf_getElem p hp'⟩
    rw [e1, inOrd, List.getElem?_map, List.getElem?_eq_getElem hp', Option.map_some, Array.getElem?_eq_getElem e2]
    simp [e2]
  have hsurj : ∀ i, i < ops.size → ord.idxOf i < ops.size ∧ ixOf ops ord (ord.idxOf i) = i := by
    intro i hi
    have hm : i ∈ ord := by simpa using hsur i (List.mem_range.2 hi)
    have h6 := List.idxOf_lt_length_iff.2 hm
    refine ⟨by omega, ?_⟩
    simp [ixOf, h6]
  have hbey : ∀ i, ops.size ≤ i → ixOf ops ord (ord.idxOf i) = ops.size := by
    intro i hi
    have hm : i ∉ ord := fun h => by have := hlt i h; omega
    have h6 : ord.idxOf i = ord.length := List.idxOf_eq_length hm
    simp [ixOf, h6]
  have idx : ∀ {L : List Oper} {j : Nat} {o : Oper}, L[j]? = some o → (o, j) ∈ L.zipIdx := fun h => List.mem_zipIdx_iff_getElem?.2 h
  have some_ : ∀ {j : Nat}, j < ops.size → ∃ o, (inOrd ops ord)[j]? = some o := fun hj => ⟨_, List.getElem?_eq_getElem (by omega)⟩
  have b2 : ∀ (j : Nat) o i, (inOrd ops ord)[j]? = some o → befAt befs j i = true → i < j ∧ (∃ e ∈ o.after, Region.binds .any e = true ∧ (ord.idxOf e.on = i ∨ befAt befs (ord.idxOf e.on) i = true)) ∧ ∀ k, befAt befs i k = true → befAt befs j k = true := by
    intro j o i ho hb
    have h6 := List.all_eq_true.1 (List.all_eq_true.1 h2 (o, j) (idx ho)) i (by simpa [befAt] using hb)
    simp only [Bool.and_eq_true, decide_eq_true_eq] at h6
    obtain ⟨⟨h7, h8⟩, h9⟩ := h6
    refine ⟨h7, ?_, fun k hk => List.all_eq_true.1 h9 k (by simpa [befAt] using hk)⟩
    obtain ⟨e, he, h10⟩ := List.any_eq_true.1 h8
    simp only [Bool.and_eq_true, Bool.or_eq_true, beq_iff_eq] at h10
    exact ⟨e, by simpa using he, h10.1, h10.2⟩
  refine ⟨fun j o e ho he hb => ?_, fun j i hj hb => ?_, fun j o i ho hb => (b2 j o i ho hb).2.1, fun j i k hj hb hk => ?_, ?_, ?_, by simpa using h5, hlen, hget, hsurj, hbey⟩
  · have h6 := List.all_eq_true.1 (List.all_eq_true.1 h1 (o, j) (idx ho)) e (by simpa using he)
    simp only [hb, Bool.not_true, Bool.false_or, decide_eq_true_eq] at h6
    exact h6
  · obtain ⟨o, ho⟩ := some_ hj
    exact (b2 j o i ho hb).1
  · obtain ⟨o, ho⟩ := some_ hj
    exact (b2 j o i ho hb).2.2 k hk
  · intro i j q o d hi hj hq ho hij hd
    have hq' : ((inOrd ops ord).take n)[i]? = some q := by rw [List.getElem?_take, if_pos hi]; exact hq
    have ho' : ((inOrd ops ord).take n)[j]? = some o := by rw [List.getElem?_take, if_pos hj]; exact ho
    have h6 := List.all_eq_true.1 (List.all_eq_true.1 h3 (o, j) (idx ho')) (q, i) (idx hq')
    simp only [hd, Bool.or_eq_true, Bool.and_eq_true, beq_iff_eq, bne_iff_ne, ne_eq, Bool.not_eq_true'] at h6
    rcases h6 with h6 | ⟨h6, h7⟩
    · exact absurd h6 hij
    · refine ⟨h6, fun hl => ?_⟩
      rcases h7 with h7 | h7
      · have : (o.looksAt ops).contains d = true := by simpa using hl
        rw [this] at h7
        cases h7
      · exact h7
  · intro j i hn hj hi
    have h6 := List.all_eq_true.1 h4 j (List.mem_range.2 (by simpa using hj))
    simp only [Bool.or_eq_true, decide_eq_true_eq] at h6
    rcases h6 with h6 | h6
    · omega
    · exact List.all_eq_true.1 h6 i (List.mem_range.2 hi)
theorem newsOk_good {σ : Env} {es : Effs} (h : newsOk σ es = true) (hd : ∀ (i j d : Nat) (e e' : Eff), es[i]? = some (some d, e) → es[j]? = some (some d, e') → i = j) : Good σ es := by
  unfold newsOk at h
  simp only [Bool.and_eq_true] at h
  obtain ⟨h1, h2⟩ := h
  have hn := noDup_spec h1
  refine ⟨hd, fun i d e p hi hp => ?_, fun i d e hi => ?_, fun i j d d' e e' id hi hj hij hid => ?_⟩
  · have := List.all_eq_true.1 h2 p.1 (List.mem_flatMap.2 ⟨(d, e), List.mem_of_getElem? hi, List.mem_map.2 ⟨p, hp, rfl⟩⟩)
    simpa using this
  · have key : ∀ {l : Effs} {i : Nat}, (l.flatMap fun p => p.2.news.map (·.1)).Nodup → l[i]? = some (d, e) → (e.news.map (·.1)).Nodup := by
      intro l
      induction l with
      | nil => intro i _ h; simp at h
      | cons q l ih =>
        intro i hn hi
        rw [List.flatMap_cons] at hn
        obtain ⟨h3, h4, _⟩ := List.nodup_append.1 hn
        cases i with
        | zero =>
          simp only [List.getElem?_cons_zero, Option.some.injEq] at hi
          subst hi
          exact h3
        | succ i => exact ih h4 (by simpa using hi)
    exact key hn hi
  · exact flat_apart hn i j (d, e) (d', e') hi hj hij id hid
end Go.Abs
