import Derived.Test.YtnaibaifmnjpnaaAbsY
set_option linter.unusedVariables false
set_option linter.unusedSimpArgs false
namespace Go.Abs
open Go.RowKit
abbrev Effs := List (Option Nat × Eff)
theorem orFz_orFz (o : AObj) (a b : Bool) : orFz (orFz o a) b = orFz o (a || b) := by cases o <;> simp [orFz, Bool.or_assoc]
theorem freeze_eq : ∀ (l : List Nat) (objs : Nat → Option AObj) (id : Nat), freeze objs l id = (objs id).map (orFz · (l.contains id))
  | [], objs, id => by
    simp only [freeze, List.contains_nil]
    cases objs id <;> simp [orFz_false]
  | r :: rs, objs, id => by
    have key : ∀ objs' : Nat → Option AObj, (objs' id = (objs id).map (orFz · (id == r))) → freeze objs' rs id = (objs id).map (orFz · ((r :: rs).contains id)) := by
      intro objs' h
      rw [freeze_eq rs objs' id, h, List.contains_cons]
      cases objs id with
      | none => rfl
      | some o => simp only [Option.map_some, orFz_orFz]
    have same : id ≠ r → objs id = (objs id).map (orFz · (id == r)) := fun hne => by
      have e : (id == r) = false := by simpa using hne
      rw [e]
      cases objs id <;> simp [orFz_false]
    simp only [freeze]
    cases hr : objs r with
    | none =>
      refine key objs ?_
      by_cases e : id = r
      · subst e; rw [hr]; rfl
      · exact same e
    | some q =>
      cases q with
      | row e k xs g f =>
        refine key _ ?_
        by_cases e : id = r
        · subst e; rw [upd_same, hr]; simp [orFz]
        · rw [upd_ne _ _ e]
          exact same e
      | box cs f =>
        refine key _ ?_
        by_cases e : id = r
        · subst e; rw [upd_same, hr]; simp [orFz]
        · rw [upd_ne _ _ e]
          exact same e
def fzL (es : Effs) (L : Nat → Bool) (id : Nat) : Bool := es.zipIdx.any fun p => L p.2 && p.1.2.frz.contains id
theorem fzL_iff {es : Effs} {L : Nat → Bool} {id : Nat} : fzL es L id = true ↔ ∃ (i : Nat) (d : Option Nat) (e : Eff), es[i]? = some (d, e) ∧ L i = true ∧ id ∈ e.frz := by
  unfold fzL
  rw [List.any_eq_true]
  constructor
  · rintro ⟨⟨⟨d, e⟩, i⟩, hm, h⟩
    simp only [Bool.and_eq_true, List.contains_iff_mem] at h
    have := List.mem_zipIdx_iff_getElem?.1 hm
    exact ⟨i, d, e, this, h.1, h.2⟩
  · rintro ⟨i, d, e, h1, h2, h3⟩
    exact ⟨((d, e), i), List.mem_zipIdx_iff_getElem?.2 h1, by simp [h2, h3]⟩
theorem fzL_mono {es : Effs} {L L' : Nat → Bool} {id : Nat} (h : ∀ i, L i = true → L' i = true) (hf : fzL es L id = true) : fzL es L' id = true := by
  obtain ⟨i, d, e, h1, h2, h3⟩ := fzL_iff.1 hf
  exact fzL_iff.2 ⟨i, d, e, h1, h i h2, h3⟩
/-- The environment behind those operations of a region that 'L' tells. -/
structure Desc (σ0 : Env) (es : Effs) (L : Nat → Bool) (τ : Env) : Prop where
  n : τ.n = σ0.n
  slot1 : ∀ (i d : Nat) (e : Eff), es[i]? = some (some d, e) → L i = true → τ.slots d = e.val
  slot0 : ∀ t, (∀ (i : Nat) (e : Eff), es[i]? = some (some t, e) → L i = false) → τ.slots t = σ0.slots t
  obj1 : ∀ (i : Nat) (d : Option Nat) (e : Eff) p, es[i]? = some (d, e) → L i = true → p ∈ e.news → τ.objs p.1 = some (orFz p.2 (fzL es L p.1))
  obj0 : ∀ id, (∀ (i : Nat) (d : Option Nat) (e : Eff), es[i]? = some (d, e) → L i = true → id ∉ e.news.map (·.1)) → τ.objs id = (σ0.objs id).map (orFz · (fzL es L id))
/-- What is known of the effects of a region. -/
structure Good (σ0 : Env) (es : Effs) : Prop where
  dst : ∀ (i j d : Nat) (e e' : Eff), es[i]? = some (some d, e) → es[j]? = some (some d, e') → i = j
  free : ∀ (i : Nat) (d : Option Nat) (e : Eff) p, es[i]? = some (d, e) → p ∈ e.news → σ0.objs p.1 = none
  nodup : ∀ (i : Nat) (d : Option Nat) (e : Eff), es[i]? = some (d, e) → (e.news.map (·.1)).Nodup
  apart : ∀ (i j : Nat) (d d' : Option Nat) (e e' : Eff) (id : Nat), es[i]? = some (d, e) → es[j]? = some (d', e') → i ≠ j → id ∈ e.news.map (·.1) → id ∉ e'.news.map (·.1)
def FrzOK (σ0 : Env) (es : Effs) (bef : Nat → Nat → Bool) (i : Nat) : Prop :=
  ∀ (d : Option Nat) (e : Eff) (id : Nat), es[i]? = some (d, e) → id ∈ e.frz → σ0.objs id ≠ none ∨ ∃ (k : Nat) (d' : Option Nat) (e' : Eff), bef i k = true ∧ es[k]? = some (d', e') ∧ id ∈ e'.news.map (·.1)
section
variable {σ0 : Env} {es : Effs} {bef : Nat → Nat → Bool}
theorem desc_none : Desc σ0 es (fun _ => false) σ0 := by
  have h0 : ∀ id, fzL es (fun _ => false) id = false := fun id => by
    cases h : fzL es (fun _ => false) id with
    | false => rfl
    | true =>
      obtain ⟨i, d, e, _, h2, _⟩ := fzL_iff.1 h
      cases h2
  refine ⟨rfl, fun i d e _ h => (by cases h), fun _ _ => rfl, fun i d e p _ h => (by cases h), fun id _ => ?_⟩
  rw [h0]
  cases σ0.objs id <;> simp [orFz_false]
theorem desc_congr {L L' : Nat → Bool} {τ : Env} (h : Desc σ0 es L τ) (hL : ∀ i, i < es.length → L' i = L i) : Desc σ0 es L' τ := by
  have hlt : ∀ {i : Nat} {p}, es[i]? = some p → i < es.length := fun h => (List.getElem?_eq_some_iff.1 h).1
  have hf : ∀ id, fzL es L' id = fzL es L id := fun id => by
    rw [Bool.eq_iff_iff, fzL_iff, fzL_iff]
    constructor
    · rintro ⟨i, d, e, h1, h2, h3⟩; exact ⟨i, d, e, h1, by rw [← hL i (hlt h1)]; exact h2, h3⟩
    · rintro ⟨i, d, e, h1, h2, h3⟩; exact ⟨i, d, e, h1, by rw [hL i (hlt h1)]; exact h2, h3⟩
  refine ⟨h.n, fun i d e h1 h2 => h.slot1 i d e h1 (by rw [← hL i (hlt h1)]; exact h2), fun t ht => h.slot0 t fun i e h1 => by rw [← hL i (hlt h1)]; exact ht i e h1,
    fun i d e p h1 h2 h3 => by rw [hf]; exact h.obj1 i d e p h1 (by rw [← hL i (hlt h1)]; exact h2) h3, fun id hid => by rw [hf]; exact h.obj0 id fun i d e h1 h2 => hid i d e h1 (by rw [hL i (hlt h1)]; exact h2)⟩
theorem desc_unique {L : Nat → Bool} {τ τ' : Env} (h : Desc σ0 es L τ) (h' : Desc σ0 es L τ') : τ = τ' := by
  have e1 : τ.slots = τ'.slots := by
    funext t
    by_cases ht : ∀ (i : Nat) (e : Eff), es[i]? = some (some t, e) → L i = false
    · rw [h.slot0 t ht, h'.slot0 t ht]
    · simp only [Classical.not_forall] at ht
      obtain ⟨i, e, h1, h2⟩ := ht
      have h2 : L i = true := by simpa using h2
      rw [h.slot1 i t e h1 h2, h'.slot1 i t e h1 h2]
  have e2 : τ.objs = τ'.objs := by
    funext id
    by_cases ht : ∀ (i : Nat) (d : Option Nat) (e : Eff), es[i]? = some (d, e) → L i = true → id ∉ e.news.map (·.1)
    · rw [h.obj0 id ht, h'.obj0 id ht]
    · simp only [Classical.not_forall, Classical.not_not] at ht
      obtain ⟨i, d, e, h1, h2, h3⟩ := ht
      obtain ⟨p, hp, rfl⟩ := List.mem_map.1 h3
      rw [h.obj1 i d e p h1 h2 hp, h'.obj1 i d e p h1 h2 hp]
  have e3 : τ.n = τ'.n := h.n.trans h'.n.symm
  cases τ; cases τ'
  simp only at e1 e2 e3
  subst e1; subst e2; subst e3
  rfl
theorem desc_step (G : Good σ0 es) {L : Nat → Bool} {τ : Env} (h : Desc σ0 es L τ) {i : Nat} {d : Option Nat} {e : Eff} (hi : es[i]? = some (d, e)) (hL : L i = false)
    (hcl : ∀ k, L k = true → ∀ m, bef k m = true → L m = true) (hb : ∀ m, bef i m = true → L m = true) (hfrz : ∀ k, (L k || k == i) = true → FrzOK σ0 es bef k) : Desc σ0 es (fun k => L k || k == i) (τ.eff d e) := by
  have hfz : ∀ id, fzL es (fun k => L k || k == i) id = (fzL es L id || e.frz.contains id) := fun id => by
    rw [Bool.eq_iff_iff, fzL_iff, Bool.or_eq_true, fzL_iff, List.contains_iff_mem]
    constructor
    · rintro ⟨k, d', e', h1, h2, h3⟩
      simp only [Bool.or_eq_true, beq_iff_eq] at h2
      rcases h2 with h2 | h2
      · exact .inl ⟨k, d', e', h1, h2, h3⟩
      · subst h2
        rw [hi] at h1
        cases h1
        exact .inr h3
    · rintro (⟨k, d', e', h1, h2, h3⟩ | h3)
      · exact ⟨k, d', e', h1, by simp [h2], h3⟩
      · exact ⟨i, d, e, hi, by simp, h3⟩
  have hnew : ∀ id ∈ e.news.map (·.1), fzL es (fun k => L k || k == i) id = false := fun id hid => by
    cases hf : fzL es (fun k => L k || k == i) id with
    | false => rfl
    | true =>
      exfalso
      obtain ⟨m, d', e', h1, h2, h3⟩ := fzL_iff.1 hf
      obtain ⟨p, hp, rfl⟩ := List.mem_map.1 hid
      have hbm : ∀ x, bef m x = true → L x = true := by
        simp only [Bool.or_eq_true, beq_iff_eq] at h2
        rcases h2 with h2 | h2
        · exact hcl m h2
        · subst h2; exact hb
      rcases hfrz m h2 d' e' _ h1 h3 with h4 | ⟨k, d2, e2, h4, h5, h6⟩
      · exact h4 (G.free i d e p hi hp)
      · have hLk := hbm k h4
        have hki : k ≠ i := fun e => by rw [e, hL] at hLk; cases hLk
        exact G.apart k i d2 d e2 e _ h5 hi hki h6 (List.mem_map.2 ⟨p, hp, rfl⟩)
  refine ⟨by rw [(eff_objs _ _ _).2]; exact h.n, fun k d' e' h1 h2 => ?_, fun t ht => ?_, fun k d' e' p h1 h2 hp => ?_, fun id hid => ?_⟩
  · rw [eff_slots]
    by_cases hk : k = i
    · subst hk
      rw [hi] at h1
      cases h1
      simp
    · have hne : d ≠ some d' := fun e1 => by
        subst e1
        exact hk (G.dst k i d' e' e h1 hi)
      rw [if_neg hne]
      refine h.slot1 k d' e' h1 ?_
      simpa [hk] using h2
  · have hne : d ≠ some t := fun e1 => by
      subst e1
      have := ht i e hi
      simp at this
    rw [eff_slots, if_neg hne]
    refine h.slot0 t fun k e' h1 => ?_
    have := ht k e' h1
    simp only [Bool.or_eq_false_iff] at this
    exact this.1
  · rw [(eff_objs _ _ _).1]
    by_cases hk : k = i
    · subst hk
      rw [hi] at h1
      cases h1
      rw [objsL_new _ _ p (G.nodup k d e hi) hp, hnew p.1 (List.mem_map.2 ⟨p, hp, rfl⟩), orFz_false]
    · have hni : p.1 ∉ e.news.map (·.1) := G.apart k i d' d e' e _ h1 hi hk (List.mem_map.2 ⟨p, hp, rfl⟩)
      have hLk : L k = true := by simpa [hk] using h2
      rw [objsL_old _ _ _ hni]
      show freeze τ.objs e.frz p.1 = _
      rw [freeze_eq, h.obj1 k d' e' p h1 hLk hp, hfz]
      simp [orFz_orFz]
  · rw [(eff_objs _ _ _).1]
    have hni : id ∉ e.news.map (·.1) := hid i d e hi (by simp)
    rw [objsL_old _ _ _ hni]
    show freeze τ.objs e.frz id = _
    rw [freeze_eq, h.obj0 id fun k d' e' h1 h2 => hid k d' e' h1 (by simp [h2]), hfz]
    cases σ0.objs id <;> simp [orFz_orFz]
end
end Go.Abs
