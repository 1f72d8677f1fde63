import Derived.Test.YtnaibaifmnjpnaaTBPlain2
set_option linter.unusedVariables false
set_option linter.unusedSimpArgs false
namespace Go.Abs.TB
open Go.RowKit
/-! Tags that rise. -/
def Rising (l : List ByteArray) : Prop := ∀ (i j : Nat) (x y : ByteArray), i < j → l[i]? = some x → l[j]? = some y → ltS x y = true
theorem wp_rising : ∀ (l : List ByteArray) (i : Nat) (last s : ByteArray), wp risF i last l = .inl s → (∀ x ∈ l, ltS last x = true) ∧ Rising l
  | [], i, last, s, _ => ⟨by simp, fun i j x y _ h => by simp at h⟩
  | a :: l, i, last, s, h => by
    simp only [wp] at h
    cases hf : risF i last a with
    | inr r => rw [hf] at h; cases h
    | inl s' =>
      rw [hf] at h
      have h1 : s' = a ∧ leS a last = false := by
        unfold risF at hf
        cases hk : key a <;> rw [hk] at hf
        · cases hf
        · simp only [Bool.not_true, cond_false] at hf
          cases hl : leS a last <;> rw [hl] at hf
          · exact ⟨(Sum.inl.inj hf).symm, rfl⟩
          · cases hf
      obtain ⟨rfl, h2⟩ := h1
      obtain ⟨h3, h4⟩ := wp_rising l (i + 1) s' s h
      have h5 := leS_false.1 h2
      refine ⟨fun x hx => ?_, fun i j x y hij hx hy => ?_⟩
      · rcases List.mem_cons.1 hx with rfl | hx
        · exact h5
        · exact ltS_trans h5 (h3 x hx)
      · cases i with
        | zero =>
          cases j with
          | zero => omega
          | succ j =>
            simp only [List.getElem?_cons_zero, Option.some.injEq, List.getElem?_cons_succ] at hx hy
            subst hx
            exact h3 y (List.mem_of_getElem? hy)
        | succ i =>
          cases j with
          | zero => omega
          | succ j =>
            simp only [List.getElem?_cons_succ] at hx hy
            exact h4 i j x y (by omega) hx hy
theorem neI_false {a b : Int} : neI a b = false ↔ a = b := by rw [neI_iff]; simp
theorem tagsF_rising {l : List ByteArray} (h : tagsF l = 0) : Rising l := by
  unfold tagsF at h
  cases h1 : ltI 20 (lenL l) <;> rw [h1] at h
  · simp only [cond_false] at h
    cases hw : wp risF 0 (ByteArray.mk #[]) l with
    | inl s => exact (wp_rising l 0 _ s hw).2
    | inr r =>
      rw [hw] at h
      exfalso
      have : ∀ (l : List ByteArray) (i : Nat) (u : ByteArray) (r : Int), wp risF i u l = .inr r → r = 5 ∨ r = 7 := by
        intro l
        induction l with
        | nil => intro i u r h; cases h
        | cons a l ih =>
          intro i u r h
          simp only [wp] at h
          cases hf : risF i u a with
          | inl s => rw [hf] at h; exact ih _ _ _ h
          | inr q =>
            rw [hf] at h
            cases h
            unfold risF at hf
            cases hk : key a <;> rw [hk] at hf
            · cases hf; exact .inl rfl
            · simp only [Bool.not_true, cond_false] at hf
              cases hl : leS a u <;> rw [hl] at hf
              · cases hf
              · cases hf; exact .inr rfl
      have h2 : r = 0 := h
      rcases this l 0 _ r hw with h3 | h3 <;> omega
  · cases h
/-! The search by halves. -/
theorem T266_eq (x t : ByteArray) : T266 x t = some (ltS x t) := by
  unfold T266 T270
  rw [eqS_self]
  rfl
theorem T267_eq (x : ByteArray) : T267 x = some false := by
  unfold T267
  rw [eqS_self]
  rfl
theorem half_eq {a b : Nat} (h : a + b ≤ 4611686018427387904) : cvI .i64 (shrI (cvI .u64 (addI .i64 (a : Int) (b : Int))) 1) = (((a + b) / 2 : Nat) : Int) := by
  have h1 : addI .i64 (a : Int) (b : Int) = ((a + b : Nat) : Int) := by rw [addI_eq (by omega) (by omega)]; omega
  have h2 : cvI .u64 ((a + b : Nat) : Int) = ((a + b : Nat) : Int) := by
    unfold cvI IntKind.wrap
    simp only [IntKind.bits, IntKind.signed, Bool.false_and, Bool.false_eq_true, if_false]
    omega
  have h3 : shrI ((a + b : Nat) : Int) 1 = (((a + b) / 2 : Nat) : Int) := by
    unfold shrI
    rw [Int.fdiv_eq_ediv_of_nonneg _ (by decide)]
    omega
  rw [h1, h2, h3, cvI_eq (by omega) (by omega)]
theorem T227_eq (l : List ByteArray) (t : ByteArray) (h : l.length ≤ 1048576) (hr : Rising l) : ∃ i, T227 l t = some (i, l.any fun x => eqS x t) := by
  have hi : ∃ r, iter (L227_3 l t) (((0 : Nat) : Int), (l.length : Int)) = some r ∧ ∃ k : Nat, r.1 = (k : Int) ∧ k ≤ l.length ∧ (∀ i x, i < k → l[i]? = some x → ltS x t = true) ∧ (∀ i x, k ≤ i → l[i]? = some x → ltS x t = false) := by
    refine iter_meas (fun z => ∃ a b : Nat, z = ((a : Int), (b : Int)) ∧ a ≤ b ∧ b ≤ l.length ∧ (∀ i x, i < a → l[i]? = some x → ltS x t = true) ∧ (∀ i x, b ≤ i → l[i]? = some x → ltS x t = false)) (fun z => (z.2 - z.1).toNat) _ ?_ _ ⟨0, l.length, rfl, by omega, by omega, fun i x hi => by omega, fun i x hi hx => ?_⟩
    · rintro _ ⟨a, b, rfl, hab, hb, h1, h2⟩
      by_cases hlt : a < b
      · left
        have h3 : ltI (a : Int) (b : Int) = true := by rw [ltI_iff]; simp; omega
        have hm : (a + b) / 2 < l.length := by omega
        have hx := List.getElem?_eq_getElem hm
        cases hc : ltS l[(a + b) / 2] t with
        | true =>
          refine ⟨((((a + b) / 2 + 1 : Nat) : Int), (b : Int)), ?_, ⟨_, b, rfl, by omega, hb, fun i x hi hxi => ?_, h2⟩, by simp only; omega⟩
          · have h4 : addI .i64 (((a + b) / 2 : Nat) : Int) 1 = (((a + b) / 2 + 1 : Nat) : Int) := by rw [addI_eq (by omega) (by omega)]; omega
            simp only [L227_3, h3, cond_true, half_eq (a := a) (b := b) (by omega), listAt_some hx, Option.bind_some, T266_eq, hc, h4]
          · rcases Nat.lt_or_ge i ((a + b) / 2) with h5 | h5
            · exact ltS_trans (hr i _ x _ h5 hxi hx) hc
            · have : i = (a + b) / 2 := by omega
              subst this
              rw [hx] at hxi
              cases hxi
              exact hc
        | false =>
          refine ⟨((a : Int), (((a + b) / 2 : Nat) : Int)), ?_, ⟨a, _, rfl, by omega, by omega, h1, fun i x hi hxi => ?_⟩, by simp only; omega⟩
          · simp only [L227_3, h3, cond_true, half_eq (a := a) (b := b) (by omega), listAt_some hx, Option.bind_some, T266_eq, hc, cond_false]
          · rcases Nat.lt_or_ge ((a + b) / 2) i with h5 | h5
            · cases h6 : ltS x t with
              | false => rfl
              | true =>
                have := ltS_trans (hr _ i _ x h5 hx hxi) h6
                rw [hc] at this; cases this
            · have : i = (a + b) / 2 := by omega
              subst this
              rw [hx] at hxi
              cases hxi
              exact hc
      · right
        have h3 : ltI (a : Int) (b : Int) = false := by rw [ltI_iff]; simp; omega
        have : a = b := by omega
        subst this
        refine ⟨((a : Int), (a : Int), false), ?_, a, rfl, hb, h1, h2⟩
        simp only [L227_3, h3, cond_false]
    · have := (List.getElem?_eq_some_iff.1 hx).1
      omega
  obtain ⟨r, h1, k, h2, h3, h4, h5⟩ := hi
  unfold T227
  rw [show (0 : Int) = ((0 : Nat) : Int) from rfl, show lenL l = (l.length : Int) from rfl, h1, Option.bind_some, h2]
  by_cases hk : k < l.length
  · have h6 : ltI (k : Int) (l.length : Int) = true := by rw [ltI_iff]; simpa using hk
    have hx := List.getElem?_eq_getElem hk
    rw [h6]
    simp only [cond_true, listAt_some hx, Option.bind_some, T267_eq, cond_false]
    cases he : eqS l[k] t with
    | true =>
      refine ⟨k, ?_⟩
      have : (l.any fun x => eqS x t) = true := List.any_eq_true.2 ⟨l[k], List.getElem_mem hk, he⟩
      rw [this]
      rfl
    | false =>
      refine ⟨k, ?_⟩
      have : (l.any fun x => eqS x t) = false := by
        rw [List.any_eq_false]
        intro x hxm he2
        obtain ⟨i, hi⟩ := List.getElem?_of_mem hxm
        have hxt : x = t := by rw [eqS_iff] at he2; simpa using he2
        subst hxt
        rcases Nat.lt_trichotomy i k with h7 | h7 | h7
        · have := h4 i x h7 hi; rw [ltS_irrefl] at this; cases this
        · subst h7
          rw [hx] at hi
          cases hi
          rw [eqS_self] at he; cases he
        · have h8 := hr k i _ x h7 hx hi
          rw [h5 k _ (Nat.le_refl _) hx] at h8
          cases h8
      rw [this]
      rfl
  · have h6 : ltI (k : Int) (l.length : Int) = false := by rw [ltI_iff]; simp; omega
    rw [h6]
    refine ⟨k, ?_⟩
    have : (l.any fun x => eqS x t) = false := by
      rw [List.any_eq_false]
      intro x hxm he2
      obtain ⟨i, hi⟩ := List.getElem?_of_mem hxm
      have hxt : x = t := by rw [eqS_iff] at he2; simpa using he2
      subst hxt
      have hil := (List.getElem?_eq_some_iff.1 hi).1
      have := h4 i x (by omega) hi
      rw [ltS_irrefl] at this; cases this
    rw [this]
    rfl
/-! What suits. -/
def suitsB (c : S53) (s : S90) : Bool := leI c.f2.f0 s.f1.f0 && leI s.f1.f1 c.f2.f1 && c.f3.all fun t => s.f3.any fun x => eqS x t
theorem T151_eq (c : S53) (s : S90) (h : c.f3.length ≤ 1048576) (h' : s.f3.length ≤ 1048576) (hr : Rising s.f3) : T151 c s = some (suitsB c s) := by
  have hi : iter (L151_4 c s) ((0 : Nat) : Int) = some (Sum.elim (fun _ => .inl ((c.f3.length : Int), false)) (fun r => .inr r) (wp (fun _ (_ : Unit) t => bif s.f3.any (fun x => eqS x t) then (.inl () : Unit ⊕ Unit) else .inr ()) 0 () c.f3)) := by
    refine iter_wp (fun _ i => (i : Int)) _ _ c.f3 _ (fun _ _ => True) (fun i u x hx _ => ⟨?_, fun _ _ => trivial⟩) (fun u _ => ?_) _ trivial
    · have hlt : i < c.f3.length := (List.getElem?_eq_some_iff.1 hx).1
      have h1 : ltI (i : Int) (lenL c.f3) = true := by rw [ltI_iff, lenL_eq]; simpa using hlt
      have h2 : addI .i64 (i : Int) 1 = ((i + 1 : Nat) : Int) := by rw [addI_eq (by omega) (by omega)]; omega
      obtain ⟨k, hk⟩ := T227_eq s.f3 x h' hr
      simp only [L151_4, h1, cond_true, listAt_some hx, Option.bind_some, h2, hk]
      cases s.f3.any (fun y => eqS y x) <;> rfl
    · have h1 : ltI (c.f3.length : Int) (lenL c.f3) = false := by rw [ltI_iff, lenL_eq]; simp
      simp only [L151_4, h1, cond_false]
  unfold T151 suitsB
  rw [show (0 : Int) = ((0 : Nat) : Int) from rfl, hi, wp_all', elim_cond, ltI_not s.f1.f0, ltI_not c.f2.f1]
  cases leI c.f2.f0 s.f1.f0 <;> cases leI s.f1.f1 c.f2.f1 <;> cases (c.f3.all fun t => s.f3.any fun x => eqS x t) <;> rfl
theorem T154_eq (l : List ByteArray) (t : ByteArray) (h : l.length ≤ 1048576) : T154 l t = some (l.any fun x => eqS x t) := by
  obtain ⟨r, h1, h2⟩ := wp_any (fun x => eqS t x) 0 l
  have hi : iter (L229_2 l t) ((0 : Nat) : Int) = some (Sum.elim (fun _ => .inl ((l.length : Int), false)) (fun r : Nat => .inr (r : Int)) (wp (fun i (_ : Unit) x => bif eqS t x then (.inr i : Unit ⊕ Nat) else .inl ()) 0 () l)) := by
    refine iter_wp (fun _ i => (i : Int)) _ _ l _ (fun _ _ => True) (fun i u x hx _ => ⟨?_, fun _ _ => trivial⟩) (fun u _ => ?_) _ trivial
    · have hlt : i < l.length := (List.getElem?_eq_some_iff.1 hx).1
      have h1 : ltI (i : Int) (lenL l) = true := by rw [ltI_iff, lenL_eq]; simpa using hlt
      have h2 : addI .i64 (i : Int) 1 = ((i + 1 : Nat) : Int) := by rw [addI_eq (by omega) (by omega)]; omega
      simp only [L229_2, h1, cond_true, listAt_some hx, Option.bind_some, h2]
      cases eqS t x <;> rfl
    · have h1 : ltI (l.length : Int) (lenL l) = false := by rw [ltI_iff, lenL_eq]; simp
      simp only [L229_2, h1, cond_false]
  have he : (l.any fun x => eqS x t) = l.any fun x => eqS t x := by
    congr 1
    funext x
    rw [eqS_iff, eqS_iff, Bool.eq_iff_iff]
    simp only [decide_eq_true_eq]
    exact ⟨Eq.symm, Eq.symm⟩
  unfold T154 T229
  rw [show (0 : Int) = ((0 : Nat) : Int) from rfl, hi, h1, he, ← h2]
  cases r with
  | inl u => rfl
  | inr k =>
    simp only [Sum.elim_inr, Option.bind_some, Sum.isRight_inr, leI_iff]
    congr 1
theorem T65_eq (c : S53) (s : S90) (h : c.f3.length ≤ 1048576) (h' : s.f3.length ≤ 1048576) : T65 c s = some (suitsB c s) := by
  obtain ⟨r, h1, h2⟩ := wp_any (fun t => !s.f3.any fun x => eqS x t) 0 c.f3
  have hi : iter (L228_2 c.f3 s.f0 s.f1.f0 s.f1.f1 s.f2 s.f3) ((0 : Nat) : Int) = some (Sum.elim (fun _ => .inl ((c.f3.length : Int), false)) (fun r : Nat => .inr (r : Int)) (wp (fun i (_ : Unit) t => bif !s.f3.any (fun x => eqS x t) then (.inr i : Unit ⊕ Nat) else .inl ()) 0 () c.f3)) := by
    refine iter_wp (fun _ i => (i : Int)) _ _ c.f3 _ (fun _ _ => True) (fun i u x hx _ => ⟨?_, fun _ _ => trivial⟩) (fun u _ => ?_) _ trivial
    · have hlt : i < c.f3.length := (List.getElem?_eq_some_iff.1 hx).1
      have h1 : ltI (i : Int) (lenL c.f3) = true := by rw [ltI_iff, lenL_eq]; simpa using hlt
      have h2 : addI .i64 (i : Int) 1 = ((i + 1 : Nat) : Int) := by rw [addI_eq (by omega) (by omega)]; omega
      simp only [L228_2, T153, T154_eq s.f3 x h', h1, cond_true, listAt_some hx, Option.bind_some, h2]
      cases s.f3.any (fun y => eqS y x) <;> rfl
    · have h1 : ltI (c.f3.length : Int) (lenL c.f3) = false := by rw [ltI_iff, lenL_eq]; simp
      simp only [L228_2, h1, cond_false]
  have he : (c.f3.all fun t => s.f3.any fun x => eqS x t) = !r.isRight := by
    rw [h2, List.any_eq_not_all_not]
    simp
  have h5 : T152 c.f3 s.f0 s.f1.f0 s.f1.f1 s.f2 s.f3 = some r.isRight := by
    unfold T152 T228
    rw [show (0 : Int) = ((0 : Nat) : Int) from rfl, hi, h1]
    cases r with
    | inl u => rfl
    | inr k =>
      simp only [Sum.elim_inr, Option.bind_some, Sum.isRight_inr, leI_iff]
      congr 1
  unfold T65 suitsB
  rw [h5, he]
  cases leI c.f2.f0 s.f1.f0 <;> cases leI s.f1.f1 c.f2.f1 <;> cases r.isRight <;> rfl
end Go.Abs.TB
