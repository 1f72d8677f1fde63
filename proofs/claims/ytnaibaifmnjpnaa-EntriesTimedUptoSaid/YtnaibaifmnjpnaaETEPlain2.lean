import Derived.Test.YtnaibaifmnjpnaaETEPlain
set_option linter.unusedVariables false
set_option linter.unusedSimpArgs false
namespace Go.Abs.TE
open Go.RowKit
/-! Days that are left out. -/
def excF (_ : Nat) (last : Int) (x : Int) : Int ⊕ Int := bif !(leI 0 x && leI x 4000) then .inr 1 else bif leI x last then .inr 7 else .inl x
def excsF (l : List Int) : Int := bif ltI 100 (lenL l) then 2 else Sum.elim (fun _ => 0) id (wp excF 0 (-1) l)
def PrevI (l : List Int) (i : Nat) (s : Int) : Prop := (i = 0 ∧ s = -1) ∨ (0 < i ∧ l[i - 1]? = some s)
theorem excF_inl {i : Nat} {u s x : Int} (h : excF i u x = .inl s) : s = x ∧ 0 ≤ x ∧ x ≤ 4000 ∧ u < x := by
  unfold excF at h
  simp only [leI_iff] at h
  by_cases h1 : 0 ≤ x <;> by_cases h2 : x ≤ 4000 <;> by_cases h3 : x ≤ u <;> simp [h1, h2, h3] at h
  exact ⟨h.symm, h1, h2, by omega⟩
theorem excF_inr {i : Nat} {u r x : Int} (h : excF i u x = .inr r) : r ≠ 0 := by
  unfold excF at h
  simp only [leI_iff] at h
  by_cases h1 : 0 ≤ x <;> by_cases h2 : x ≤ 4000 <;> by_cases h3 : x ≤ u <;> simp [h1, h2, h3] at h <;> omega
theorem T292_eq (x : Int) : T292 x = some (leI 0 x && leI x 4000) := by
  unfold T292
  cases leI 0 x <;> rfl
theorem exc_iter (l : List Int) (h : l.length ≤ 1048576) : iter (L268_4 l) 0 = some (Sum.elim (fun _ => .inl ((l.length : Int), false)) (fun r => .inr r) (wp excF 0 (-1) l)) := by
  rw [show (0 : Int) = ((0 : Nat) : Int) from rfl]
  refine iter_wp (fun _ i => (i : Int)) _ _ l excF (PrevI l) (fun i u x hx hI => ?_) (fun u _ => ?_) _ (.inl ⟨rfl, rfl⟩)
  · have hlt : i < l.length := (List.getElem?_eq_some_iff.1 hx).1
    have h1 : ltI (i : Int) (lenL l) = true := by rw [ltI_iff, lenL_eq]; simpa using hlt
    have h2 : addI .i64 (i : Int) 1 = ((i + 1 : Nat) : Int) := by rw [addI_eq (by omega) (by omega)]; omega
    refine ⟨?_, fun s' hf => .inr ⟨by omega, by rw [(excF_inl hf).1]; simpa using hx⟩⟩
    simp only [L268_4, h1, cond_true, listAt_some hx, Option.bind_some, T292_eq, h2, excF]
    cases hk : (leI 0 x && leI x 4000) with
    | false => rfl
    | true =>
      simp only [Bool.not_true, cond_false]
      rcases hI with ⟨rfl, rfl⟩ | ⟨hi0, hy⟩
      · have h4 : ltI 0 ((0 : Nat) : Int) = false := rfl
        have h5 : leI x (-1) = false := by
          rw [Bool.and_eq_true, leI_iff] at hk
          rw [leI_iff]
          have := hk.1
          simp only [decide_eq_true_eq] at this
          simp only [decide_eq_false_iff_not]
          omega
        rw [h4, h5]
        rfl
      · have h4 : ltI 0 (i : Int) = true := by rw [ltI_iff]; simp; omega
        have h5 : subI .i64 (i : Int) 1 = ((i - 1 : Nat) : Int) := by rw [subI_eq (by omega) (by omega)]; omega
        rw [h4, h5, listAt_some hy]
        simp only [cond_true, Option.bind_some]
        cases leI x u <;> rfl
  · have h1 : ltI (l.length : Int) (lenL l) = false := by rw [ltI_iff, lenL_eq]; simp
    simp only [L268_4, h1, cond_false]
theorem T268_eq (l : List Int) (h : l.length ≤ 1048576) : T268 l = some (excsF l) := by
  unfold T268 excsF
  rw [exc_iter l h]
  cases ltI 100 (lenL l) <;> cases wp excF 0 (-1) l <;> rfl
theorem L162_eq (e : S105) : L162_8 e = L268_4 e.f7 := by
  funext z
  unfold L162_8 L268_4
  cases listAt e.f7 z with
  | none => rfl
  | some x => simp only [Option.bind_some, T292_eq, T132_eq]
theorem wp_exc : ∀ (l : List Int) (i : Nat) (u : Int), (∀ r, wp excF i u l = .inr r → r ≠ 0) ∧ ∀ s, wp excF i u l = .inl s → (∀ x ∈ l, u < x ∧ 0 ≤ x ∧ x ≤ 4000) ∧ l.Pairwise (· < ·)
  | [], i, u => ⟨fun r h => by simp [wp] at h, fun s h => ⟨by simp, .nil⟩⟩
  | x :: l, i, u => by
    simp only [wp]
    cases hf : excF i u x with
    | inl s' =>
      obtain ⟨rfl, h1, h2, h3⟩ := excF_inl hf
      have ih := wp_exc l (i + 1) s'
      refine ⟨ih.1, fun s hs => ?_⟩
      obtain ⟨h4, h5⟩ := ih.2 s hs
      refine ⟨fun y hy => ?_, .cons (fun y hy => (h4 y hy).1) h5⟩
      rcases List.mem_cons.1 hy with rfl | hy
      · exact ⟨h3, h1, h2⟩
      · have := h4 y hy
        exact ⟨by omega, this.2⟩
    | inr r => exact ⟨fun r' h => by cases h; exact excF_inr hf, fun s h => by cases h⟩
theorem excsF_ok {l : List Int} (h : excsF l = 0) : (∀ x ∈ l, 0 ≤ x ∧ x ≤ 4000) ∧ l.Pairwise (· < ·) := by
  unfold excsF at h
  cases h1 : ltI 100 (lenL l) with
  | true => rw [h1] at h; cases h
  | false =>
    rw [h1, cond_false] at h
    cases h2 : wp excF 0 (-1) l with
    | inl s =>
      obtain ⟨h3, h4⟩ := (wp_exc l 0 (-1)).2 s h2
      exact ⟨fun x hx => (h3 x hx).2, h4⟩
    | inr r => rw [h2] at h; exact absurd h ((wp_exc l 0 (-1)).1 r h2)
/-! What is wrong with an entry. -/
def entF (x : S105) : Int :=
  bif !key x.f0 then 5 else bif !key x.f1 then 5 else bif outB x.f2 0 1000000 then 1 else bif outB x.f3 0 x.f4 then 1 else bif ltI 4000 x.f4 then 1 else bif outB x.f5 1 400 then 1 else bif outB x.f6 1 127 then 1 else
  bif neI (excsF x.f7) 0 then excsF x.f7 else bif outB x.f8 0 1439 then 1 else bif outB x.f9 0 1439 then 1 else bif outB x.f10 0 9 then 1 else tagsF x.f11
theorem T231_eq (x : S105) (h : ok105 1048576 x) : T231 x = some (entF x) := by
  obtain ⟨k0, k1, k2, k3, k4, k5, k6, ⟨k7, k7'⟩, k8, k9, k10, ⟨k11, k11'⟩, k12⟩ := h
  unfold T231 entF
  simp only [T137_eq x.f0 k0, T137_eq x.f1 k1, T126_eq, Option.bind_some, T268_eq x.f7 k7, T234_eq x.f11 k11 k11']
  cases key x.f0; · rfl
  cases key x.f1; · rfl
  cases outB x.f2 0 1000000; rotate_left; · rfl
  cases outB x.f3 0 x.f4; rotate_left; · rfl
  cases ltI 4000 x.f4; rotate_left; · rfl
  cases outB x.f5 1 400; rotate_left; · rfl
  cases outB x.f6 1 127; rotate_left; · rfl
  cases neI (excsF x.f7) 0; rotate_left; · rfl
  cases outB x.f8 0 1439; rotate_left; · rfl
  cases outB x.f9 0 1439; rotate_left; · rfl
  cases outB x.f10 0 9 <;> rfl
theorem T162_eq (x : S105) (h : ok105 1048576 x) : T162 x = some (entF x) := by
  obtain ⟨k0, k1, k2, k3, k4, k5, k6, ⟨k7, k7'⟩, k8, k9, k10, ⟨k11, k11'⟩, k12⟩ := h
  unfold T162 entF
  simp only [T51_eq x.f0 k0, T51_eq x.f1 k1, T132_eq, inB, Option.bind_some, L162_eq, exc_iter x.f7 k7, T149_eq x.f11 k11 k11']
  cases key x.f0; · rfl
  cases key x.f1; · rfl
  cases outB x.f2 0 1000000; rotate_left; · rfl
  cases outB x.f3 0 x.f4; rotate_left; · rfl
  cases ltI 4000 x.f4; rotate_left; · rfl
  cases outB x.f5 1 400; rotate_left; · rfl
  cases outB x.f6 1 127; rotate_left; · rfl
  unfold excsF
  cases ltI 100 (lenL x.f7); rotate_left; · rfl
  simp only [Bool.not_true, Bool.not_false, cond_true, cond_false]
  cases hw : wp excF 0 (-1) x.f7 with
  | inr r =>
    have h1 : neI r 0 = true := by
      rw [neI_iff]
      simpa using (wp_exc x.f7 0 (-1)).1 r hw
    simp only [Sum.elim_inr, id, h1, cond_true]
  | inl s =>
    simp only [Sum.elim_inl, neI_self, cond_false]
    cases outB x.f8 0 1439; rotate_left; · rfl
    cases outB x.f9 0 1439; rotate_left; · rfl
    cases outB x.f10 0 9 <;> rfl
theorem entF_key {x : S105} (h : entF x = 0) : key x.f0 = true := by
  unfold entF at h
  cases hk : key x.f0 with
  | true => rfl
  | false => rw [hk] at h; cases h
theorem T156_one (x : S105) (h : ok105 1048576 x) : T156 [x] = some (entF x) := by
  have e1 : L156_4 [x] 0 = some (bif neI (entF x) 0 then .inr (.inr (entF x)) else .inl 1) := by
    show (bif ltI 0 1 then ((some x).bind fun x1 => _) else _) = _
    rw [show ltI 0 1 = true from rfl]
    simp only [cond_true, Option.bind_some, T231_eq x h]
    cases neI (entF x) 0 <;> rfl
  have e2 : L156_4 [x] 1 = some (.inr (.inl (1, false))) := rfl
  unfold T156
  rw [show ltI 200 (lenL [x]) = false from rfl, cond_false]
  cases hn : neI (entF x) 0 with
  | true =>
    rw [hn] at e1
    rw [iter_stop e1]
    rfl
  | false =>
    rw [hn] at e1
    rw [iter_next e1, iter_stop e2, neI_false.1 hn]
    rfl
theorem T74_one (x : S105) (h : ok105 1048576 x) : T74 [x] = some (entF x) := by
  have e1 : L74_5 [x] ((ByteArray.mk #[]), 0) = some (bif neI (entF x) 0 then .inr (.inr (entF x)) else .inl (x.f0, 1)) := by
    show (bif ltI 0 1 then ((some x).bind fun x1 => _) else _) = _
    rw [show ltI 0 1 = true from rfl]
    simp only [cond_true, Option.bind_some, T162_eq x h]
    cases hn : neI (entF x) 0 with
    | true => rfl
    | false =>
      have := leS_empty (key_pos (entF_key (neI_false.1 hn)))
      unfold leS at this
      rw [this]
      rfl
  have e2 : L74_5 [x] (x.f0, 1) = some (.inr (.inl (x.f0, 1, false))) := rfl
  unfold T74
  rw [show ltI 200 (lenL [x]) = false from rfl, cond_false]
  cases hn : neI (entF x) 0 with
  | true =>
    rw [hn] at e1
    rw [iter_stop e1]
    rfl
  | false =>
    rw [hn] at e1
    rw [iter_next e1, iter_stop e2, neI_false.1 hn]
    rfl
theorem entF_ok {x : S105} (h : entF x = 0) : (0 ≤ x.f3 ∧ x.f3 ≤ x.f4 ∧ x.f4 ≤ 4000) ∧ (1 ≤ x.f5 ∧ x.f5 ≤ 400) ∧ (1 ≤ x.f6 ∧ x.f6 ≤ 127) ∧ ((∀ d ∈ x.f7, 0 ≤ d ∧ d ≤ 4000) ∧ x.f7.Pairwise (· < ·)) ∧ (0 ≤ x.f8 ∧ x.f8 ≤ 1439) ∧ (0 ≤ x.f9 ∧ x.f9 ≤ 1439) := by
  unfold entF at h
  cases h0 : key x.f0 <;> rw [h0] at h; · cases h
  cases h1 : key x.f1 <;> rw [h1] at h; · cases h
  cases h2 : outB x.f2 0 1000000 <;> rw [h2] at h; rotate_left; · cases h
  cases h3 : outB x.f3 0 x.f4 <;> rw [h3] at h; rotate_left; · cases h
  cases h4 : ltI 4000 x.f4 <;> rw [h4] at h; rotate_left; · cases h
  cases h5 : outB x.f5 1 400 <;> rw [h5] at h; rotate_left; · cases h
  cases h6 : outB x.f6 1 127 <;> rw [h6] at h; rotate_left; · cases h
  cases h7 : neI (excsF x.f7) 0 <;> rw [h7] at h; rotate_left
  · simp only [Bool.not_true, Bool.not_false, cond_true, cond_false] at h
    rw [h] at h7; cases h7
  cases h8 : outB x.f8 0 1439 <;> rw [h8] at h; rotate_left; · cases h
  cases h9 : outB x.f9 0 1439 <;> rw [h9] at h; rotate_left; · cases h
  have g4 : x.f4 ≤ 4000 := by rw [ltI_iff] at h4; simpa using h4
  have g3 := outB_false h3
  exact ⟨⟨g3.1, g3.2, g4⟩, outB_false h5, outB_false h6, excsF_ok (neI_false.1 h7), outB_false h8, outB_false h9⟩
/-! Windows, players. -/
def spanF (w : S38) : Int := bif outB w.f0 0 w.f1 then 1 else bif ltI 345686400000 w.f1 then 1 else bif ltI 34560000000 (subI .i64 w.f1 w.f0) then 2 else 0
theorem T157_eq (w : S38) : T157 w = some (spanF w) := by
  unfold T157 spanF
  rw [T126_eq, Option.bind_some]
  cases outB w.f0 0 w.f1 <;> cases ltI 345686400000 w.f1 <;> cases ltI 34560000000 (subI .i64 w.f1 w.f0) <;> rfl
theorem T75_eq (w : S38) : T75 w = some (spanF w) := by
  unfold T75 T106 spanF
  rw [T132_eq, inB, Option.bind_some]
  cases outB w.f0 0 w.f1 <;> cases ltI 345686400000 w.f1 <;> cases ltI 34560000000 (subI .i64 w.f1 w.f0) <;> rfl
def playF (p : S36) : Int := bif !key p.f0 then 5 else bif !key p.f1 then 5 else bif outB p.f2 (-1440) 1440 then 1 else tagsF p.f3
theorem T160_eq (p : S36) (h : ok36 1048576 p) : T160 p = some (playF p) := by
  obtain ⟨k0, k1, k2, k3, k3'⟩ := h
  unfold T160 playF
  simp only [T137_eq p.f0 k0, T137_eq p.f1 k1, T126_eq, Option.bind_some, T234_eq p.f3 k3 k3']
  cases key p.f0 <;> cases key p.f1 <;> cases outB p.f2 (-1440) 1440 <;> rfl
theorem T76_eq (p : S36) (h : ok36 1048576 p) : T76 p = some (playF p) := by
  obtain ⟨k0, k1, k2, k3, k3'⟩ := h
  unfold T76 playF
  simp only [T51_eq p.f0 k0, T51_eq p.f1 k1, T132_eq, inB, Option.bind_some, T149_eq p.f3 k3 k3']
  cases key p.f0 <;> cases key p.f1 <;> cases outB p.f2 (-1440) 1440 <;> rfl
theorem playF_ok {p : S36} (h : playF p = 0) : Rising p.f3 := by
  unfold playF at h
  cases h0 : key p.f0 <;> rw [h0] at h; · cases h
  cases h1 : key p.f1 <;> rw [h1] at h; · cases h
  cases h2 : outB p.f2 (-1440) 1440 <;> rw [h2] at h; rotate_left; · cases h
  exact tagsF_rising h
theorem T49_two (a b : Int) : T49 [a, b] = some (bif neI a 0 then a else b) := by
  have e0 : L49_2 [a, b] 0 = some (bif neI a 0 then .inr (.inr a) else .inl 1) := by
    show (bif neI a 0 then _ else _) = _
    cases neI a 0 <;> rfl
  have e1 : L49_2 [a, b] 1 = some (bif neI b 0 then .inr (.inr b) else .inl 2) := by
    show (bif neI b 0 then _ else _) = _
    cases neI b 0 <;> rfl
  have e2 : L49_2 [a, b] 2 = some (.inr (.inl (2, false))) := rfl
  unfold T49
  cases ha : neI a 0 with
  | true => rw [ha] at e0; rw [iter_stop e0]; rfl
  | false =>
    rw [ha] at e0
    rw [iter_next e0]
    cases hb : neI b 0 with
    | true => rw [hb] at e1; rw [iter_stop e1]; rfl
    | false => rw [hb] at e1; rw [iter_next e1, iter_stop e2, neI_false.1 hb]; rfl
theorem T49_three (a b c : Int) : T49 [a, b, c] = some (bif neI a 0 then a else bif neI b 0 then b else c) := by
  have e0 : L49_2 [a, b, c] 0 = some (bif neI a 0 then .inr (.inr a) else .inl 1) := by
    show (bif neI a 0 then _ else _) = _
    cases neI a 0 <;> rfl
  have e1 : L49_2 [a, b, c] 1 = some (bif neI b 0 then .inr (.inr b) else .inl 2) := by
    show (bif neI b 0 then _ else _) = _
    cases neI b 0 <;> rfl
  have e2 : L49_2 [a, b, c] 2 = some (bif neI c 0 then .inr (.inr c) else .inl 3) := by
    show (bif neI c 0 then _ else _) = _
    cases neI c 0 <;> rfl
  have e3 : L49_2 [a, b, c] 3 = some (.inr (.inl (3, false))) := rfl
  unfold T49
  cases ha : neI a 0 with
  | true => rw [ha] at e0; rw [iter_stop e0]; rfl
  | false =>
    rw [ha] at e0
    rw [iter_next e0]
    cases hb : neI b 0 with
    | true => rw [hb] at e1; rw [iter_stop e1]; rfl
    | false =>
      rw [hb] at e1
      rw [iter_next e1]
      cases hc : neI c 0 with
      | true => rw [hc] at e2; rw [iter_stop e2]; rfl
      | false => rw [hc] at e2; rw [iter_next e2, iter_stop e3, neI_false.1 hc]; rfl
end Go.Abs.TE
