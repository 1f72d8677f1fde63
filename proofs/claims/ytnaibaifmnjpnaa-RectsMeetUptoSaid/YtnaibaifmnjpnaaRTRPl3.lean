import Derived.Test.YtnaibaifmnjpnaaRTRPl2
set_option linter.unusedVariables false
set_option linter.unusedSimpArgs false
set_option maxRecDepth 10000
namespace Go.Abs.TR
open Go.RowKit Go.Proofs Go.Abs
/-! The bands, one after another. -/
noncomputable def rowAt (p q : List S63) (y : Int) : List S266 := ((T253 p y).bind fun a => (T253 q y).bind fun b => T252 a b).getD []
theorem rowAt_ok (p q : List S63) (y : Int) (hp : ∀ r ∈ p, W r) (hq : ∀ r ∈ q, W r) (lp : p.length ≤ 1000000) (lq : q.length ≤ 1000000) :
    ∃ a b, T253 p y = some a ∧ T253 q y = some b ∧ T252 a b = some (rowAt p q y) ∧ Can (rowAt p q y) ∧ ∀ x, inn (rowAt p q y) x ↔ hasL p x y ∧ ¬ hasL q x y := by
  obtain ⟨a, a1, a2, a3⟩ := runs_ok p y hp lp
  obtain ⟨b, b1, b2, b3⟩ := runs_ok q y hq lq
  obtain ⟨o, o1, o2, o3⟩ := less_ok a b a2 b2
  have e : rowAt p q y = o := by
    unfold rowAt
    rw [a1, Option.bind_some, b1, Option.bind_some, o1, Option.getD_some]
  rw [e]
  exact ⟨a, b, a1, b1, o1, o2, fun x => by rw [o3, a3, b3]⟩
attribute [local irreducible] rowAt
open Classical in
noncomputable def St (R : Int → List S266) (ys : List Int) : Nat → List S63 × List S266 × Int
  | 0 => ([], [], 0)
  | k + 1 => if (St R ys k).2.1 = R (ys.getD k 0) then St R ys k else ((St R ys k).1 ++ (St R ys k).2.1.map (cell (St R ys k).2.2 (ys.getD k 0 - (St R ys k).2.2)), R (ys.getD k 0), ys.getD k 0)
noncomputable def Fin (R : Int → List S266) (ys : List Int) : List S63 :=
  (St R ys (ys.length - 1)).1 ++ (St R ys (ys.length - 1)).2.1.map (cell (St R ys (ys.length - 1)).2.2 (ys.getD (ys.length - 1) 0 - (St R ys (ys.length - 1)).2.2))
theorem St_same {R : Int → List S266} {ys : List Int} {k : Nat} {y : Int} (hy : ys[k]? = some y) (h : (St R ys k).2.1 = R y) : St R ys (k + 1) = St R ys k := by
  rw [St]
  rw [List.getD_eq_getElem?_getD, hy, Option.getD_some, if_pos h]
theorem St_new {R : Int → List S266} {ys : List Int} {k : Nat} {y : Int} (hy : ys[k]? = some y) (h : ¬ (St R ys k).2.1 = R y) : St R ys (k + 1) = ((St R ys k).1 ++ (St R ys k).2.1.map (cell (St R ys k).2.2 (y - (St R ys k).2.2)), R y, y) := by
  rw [St]
  rw [List.getD_eq_getElem?_getD, hy, Option.getD_some, if_neg h]
theorem St_ok (R : Int → List S266) (ys : List Int) (hR : ∀ y, Can (R y)) (hys : ∀ y ∈ ys, -100000 ≤ y ∧ y ≤ 100000) : ∀ k, k ≤ ys.length → (St R ys k).1.length ≤ k * 200000 ∧ Can (St R ys k).2.1 ∧ -100000 ≤ (St R ys k).2.2 ∧ (St R ys k).2.2 ≤ 100000 := by
  intro k
  induction k with
  | zero => intro _; exact ⟨by simp [St], can_nil, by simp [St], by simp [St]⟩
  | succ k ih =>
    intro hk
    obtain ⟨h1, h2, h3, h4⟩ := ih (by omega)
    obtain ⟨y, hy⟩ : ∃ r, ys[k]? = some r := ⟨_, List.getElem?_eq_getElem (by omega)⟩
    have hb := hys y (List.mem_of_getElem? hy)
    by_cases c : (St R ys k).2.1 = R y
    · rw [St_same hy c]
      exact ⟨Nat.le_trans h1 (Nat.mul_le_mul_right _ (Nat.le_succ k)), h2, h3, h4⟩
    · rw [St_new hy c]
      have hl := can_len h2
      refine ⟨?_, hR y, hb.1, hb.2⟩
      simp only [List.length_append, List.length_map]
      rw [Nat.succ_mul]
      omega
theorem prog_ok (p q : List S63) (ys : List Int) (hp : ∀ r ∈ p, W r) (hq : ∀ r ∈ q, W r) (lp : p.length ≤ 1000000) (lq : q.length ≤ 1000000) (hys : ∀ y ∈ ys, -100000 ≤ y ∧ y ≤ 100000) (hl : ys.length ≤ 1000000) :
    ∃ r, iter (L213_13 p q ys) (ys, [], [], 0, 0) = some r ∧ r.2.2.2.2.2 = Fin (rowAt p q) ys := by
  have hR : ∀ y, Can (rowAt p q y) := fun y => by obtain ⟨_, _, _, _, _, h, _⟩ := rowAt_ok p q y hp hq lp lq; exact h
  refine iter_up (st := L213_13 p q ys) (fun (s : List S63 × List S266 × Int) i => (ys, s.1, s.2.1, s.2.2, (i : Int))) ys.length (fun i s => (i < ys.length → s = St (rowAt p q) ys i) ∧ (i = ys.length → s.1 = Fin (rowAt p q) ys))
    (fun r => r.2.2.2.2.2 = Fin (rowAt p q) ys) ?_ ?_ ([], [], 0) ⟨fun _ => rfl, fun h => ?_⟩
  · intro i s hi ⟨hs, _⟩
    have hs := hs hi
    obtain ⟨o1, o2, o3, o4⟩ := St_ok (rowAt p q) ys hR hys i (by omega)
    obtain ⟨y, hy⟩ : ∃ r, ys[i]? = some r := ⟨_, List.getElem?_eq_getElem hi⟩
    have hb := hys y (List.mem_of_getElem? hy)
    obtain ⟨a, b, r1, r2, r3, r4, r5⟩ := rowAt_ok p q y hp hq lp lq
    rw [← hs] at o1 o2 o3 o4
    have hlen := can_len o2
    obtain ⟨out, cur, fr⟩ := s
    simp only at o1 o2 o3 o4 hlen hs
    have ho : out.length ≤ 1900000000000 := by
      have : i * 200000 ≤ 1000000 * 200000 := Nat.mul_le_mul (by omega) (Nat.le_refl _)
      omega
    have hsub : subI .i64 y fr = y - fr := subI_eq (by omega) (by omega)
    simp only [L213_13, ltL_true hi, idx_nat hi, getN_some hy, cond_true, Option.bind_some, nextI (show i < 9223372036854775807 by omega)]
    have hcell : ∀ a ∈ cur, subI .i64 a.f1 a.f0 = a.f1 - a.f0 := by
      intro a ha
      have := o2.1 a ha
      unfold B at this
      exact subI_eq (by omega) (by omega)
    by_cases hi1 : i + 1 < ys.length
    · simp only [ltL_true hi1, cond_true, r1, r2, r3, Option.bind_some]
      obtain ⟨c, c1, c2⟩ := same_ok cur (rowAt p q y) (by omega)
      rw [c1, Option.bind_some]
      cases c with
      | true =>
        have e := c2.1 rfl
        refine ⟨(out, cur, fr), rfl, fun _ => ?_, fun h => by omega⟩
        rw [St_same hy (by rw [← hs]; exact e)]
        exact hs
      | false =>
        have e : ¬ cur = rowAt p q y := fun e => by simpa using c2.2 e
        obtain ⟨v, v1, v2⟩ := emit_ok (st := L213_20 p q ys (ys, out, cur, fr, (i : Int)) y (rowAt p q y)) ys cur fr (y - fr) out ho (by omega) (fun s j a hj ha => by
          simp only [L213_20, ltL_true hj, listAt_some ha, cond_true, Option.bind_some, nextI (show j < 9223372036854775807 by omega), hsub, hcell a (List.mem_of_getElem? ha)]
          rfl) (fun s => by simp only [L213_20, ltL_false (Nat.le_refl _), cond_false])
        simp only [cond_false]
        rw [v1, Option.bind_some, v2]
        refine ⟨(_, _, _), rfl, fun _ => ?_, fun h => by omega⟩
        rw [St_new hy (by rw [← hs]; exact e), ← hs]
    · have hlt : ltI ((i + 1 : Nat) : Int) (lenL ys) = false := ltL_false (by omega)
      simp only [hlt, cond_false]
      obtain ⟨c, c1, c2⟩ := same_ok cur [] (by omega)
      rw [c1, Option.bind_some]
      have hii : i = ys.length - 1 := by omega
      have hgd : ys.getD (ys.length - 1) 0 = y := by rw [← hii, List.getD_eq_getElem?_getD, hy, Option.getD_some]
      cases c with
      | true =>
        have e := c2.1 rfl
        refine ⟨(out, cur, fr), rfl, fun h => by omega, fun _ => ?_⟩
        unfold Fin
        rw [← hii, ← hs]
        simp only [e, List.map_nil, List.append_nil]
      | false =>
        obtain ⟨v, v1, v2⟩ := emit_ok (st := L213_20_v1 p q ys (ys, out, cur, fr, (i : Int)) y) ys cur fr (y - fr) out ho (by omega) (fun s j a hj ha => by
          simp only [L213_20_v1, ltL_true hj, listAt_some ha, cond_true, Option.bind_some, nextI (show j < 9223372036854775807 by omega), hsub, hcell a (List.mem_of_getElem? ha)]
          rfl) (fun s => by simp only [L213_20_v1, ltL_false (Nat.le_refl _), cond_false])
        simp only [cond_false]
        rw [v1, Option.bind_some, v2]
        refine ⟨(_, _, _), rfl, fun h => by omega, fun _ => ?_⟩
        unfold Fin
        rw [hgd, ← hii, ← hs]
  · intro s ⟨_, h⟩
    simp only [L213_13, ltL_false (Nat.le_refl _), cond_false]
    exact ⟨_, rfl, h rfl⟩
  · simp only
    unfold Fin
    rw [← h]
    simp [St]
theorem ref_ok (p q : List S63) (xs ys : List Int) (h : Int → Int → Option Bool) (hp : ∀ r ∈ p, W r) (hq : ∀ r ∈ q, W r) (lp : p.length ≤ 1000000) (lq : q.length ≤ 1000000)
    (hys : ∀ y ∈ ys, -100000 ≤ y ∧ y ≤ 100000) (hl : ys.length ≤ 1000000) (hxs : ∀ y ∈ xs, -100000 ≤ y ∧ y ≤ 100000) (hlx : xs.length ≤ 1000000) (hord : xs.Pairwise (· < ·))
    (hed : ∀ r, r ∈ p ∨ r ∈ q → r.f0 ∈ xs ∧ r.f0 + r.f2 ∈ xs) (hh : ∀ x y, ∃ b, h x y = some b ∧ (b = true ↔ hasL p x y ∧ ¬ hasL q x y)) :
    ∃ r, iter (G5 h) (xs, ys, [], [], 0) = some r ∧ r.2.2.2.2.1 ++ r.2.2.2.2.2 = Fin (rowAt p q) ys ∧ r.2.2.2.2.1.length ≤ 1000000000000 ∧ r.2.2.2.2.2.length ≤ 1000000 := by
  have hR : ∀ y, Can (rowAt p q y) := fun y => by obtain ⟨_, _, _, _, _, h, _⟩ := rowAt_ok p q y hp hq lp lq; exact h
  have hedge : ∀ (l : List S63), (∀ r ∈ l, r ∈ p ∨ r ∈ q) → ∀ (j : Nat) (a b x y : Int), xs[j]? = some a → xs[j + 1]? = some b → a ≤ x → x < b → (hasL l x y ↔ hasL l a y) := by
    intro l hsub j a b x y ha hb h1 h2
    constructor
    · rintro ⟨r, hr, h3, h4, h5⟩
      refine ⟨r, hr, ?_, by omega, h5⟩
      rcases next_to hord ha hb (hed r (hsub r hr)).1 with e | e
      · exact e
      · omega
    · rintro ⟨r, hr, h3, h4, h5⟩
      refine ⟨r, hr, by omega, ?_, h5⟩
      rcases next_to hord ha hb (hed r (hsub r hr)).2 with e | e
      · omega
      · omega
  let L : Nat → List S63 := fun k => (St (rowAt p q) ys k).2.1.map (cell (St (rowAt p q) ys k).2.2 (ys.getD k 0 - (St (rowAt p q) ys k).2.2))
  refine iter_up (st := G5 h) (fun (_ : Unit) i => (xs, ys, (St (rowAt p q) ys i).1, L i, (i : Int))) (ys.length - 1) (fun _ _ => True)
    (fun r => r.2.2.2.2.1 ++ r.2.2.2.2.2 = Fin (rowAt p q) ys ∧ r.2.2.2.2.1.length ≤ 1000000000000 ∧ r.2.2.2.2.2.length ≤ 1000000) ?_ ?_ () trivial
  · intro i _ hi _
    have hi0 : i < ys.length := by omega
    have hi1 : i + 1 < ys.length := by omega
    obtain ⟨o1, o2, o3, o4⟩ := St_ok (rowAt p q) ys hR hys i (by omega)
    obtain ⟨y, hy⟩ : ∃ r, ys[i]? = some r := ⟨_, List.getElem?_eq_getElem hi0⟩
    obtain ⟨y', hy'⟩ : ∃ r, ys[i + 1]? = some r := ⟨_, List.getElem?_eq_getElem hi1⟩
    have hb := hys y (List.mem_of_getElem? hy)
    have hb' := hys y' (List.mem_of_getElem? hy')
    obtain ⟨_, _, _, _, _, r4, r5⟩ := rowAt_ok p q y hp hq lp lq
    have hlen := can_len o2
    have hgd : ys.getD i 0 = y := by rw [List.getD_eq_getElem?_getD, hy, Option.getD_some]
    have hgd' : ys.getD (i + 1) 0 = y' := by rw [List.getD_eq_getElem?_getD, hy', Option.getD_some]
    have ho : (St (rowAt p q) ys i).1.length ≤ 1900000000000 := by
      have : i * 200000 ≤ 1000000 * 200000 := Nat.mul_le_mul (by omega) (Nat.le_refl _)
      omega
    have hL : L i = (St (rowAt p q) ys i).2.1.map (cell (St (rowAt p q) ys i).2.2 (y - (St (rowAt p q) ys i).2.2)) := by show List.map _ _ = _; rw [hgd]
    have hL' : L (i + 1) = (St (rowAt p q) ys (i + 1)).2.1.map (cell (St (rowAt p q) ys (i + 1)).2.2 (y' - (St (rowAt p q) ys (i + 1)).2.2)) := by show List.map _ _ = _; rw [hgd']
    simp only [hL, hL']
    have hsame : ∀ e : (St (rowAt p q) ys i).2.1 = rowAt p q y, St (rowAt p q) ys (i + 1) = St (rowAt p q) ys i := fun e => St_same hy e
    have hnew : ∀ e : ¬ (St (rowAt p q) ys i).2.1 = rowAt p q y, St (rowAt p q) ys (i + 1) = ((St (rowAt p q) ys i).1 ++ (St (rowAt p q) ys i).2.1.map (cell (St (rowAt p q) ys i).2.2 (y - (St (rowAt p q) ys i).2.2)), rowAt p q y, y) := fun e => St_new hy e
    generalize St (rowAt p q) ys (i + 1) = S' at hsame hnew ⊢
    generalize St (rowAt p q) ys i = S at hsame hnew o1 o2 o3 o4 hlen ho ⊢
    obtain ⟨out, cur, fr⟩ := S
    simp only at hsame hnew o1 o2 o3 o4 hlen ho ⊢
    obtain ⟨u, rr, u1, u2, u3, u4⟩ := row_ok h xs ys out (cur.map (cell fr (y - fr))) i y y' hy hy' hb hb' hord hxs (by omega) (by omega) (fun x => hasL p x y ∧ ¬ hasL q x y) (fun x _ => hh x y)
    have hrr : rr = rowAt p q y := by
      refine can_unique _ _ u3 r4 fun x => ?_
      rw [u4, r5]
      constructor
      · rintro ⟨j, a, b, ha, hb, h1, h2, h3, h4⟩
        exact ⟨(hedge p (fun r => .inl) j a b x y ha hb h1 h2).2 h3, fun h5 => h4 ((hedge q (fun r => .inr) j a b x y ha hb h1 h2).1 h5)⟩
      · rintro ⟨h3, h4⟩
        obtain ⟨r, hr, h6, h7, h8⟩ := h3
        obtain ⟨j, a, b, ha, hb, h1, h2⟩ := between xs hord x r.f0 (r.f0 + r.f2) (hed r (.inl hr)).1 h6 (hed r (.inl hr)).2 h7
        refine ⟨j, a, b, ha, hb, h1, h2, (hedge p (fun r => .inl) j a b x y ha hb h1 h2).1 ⟨r, hr, h6, h7, h8⟩, fun h5 => h4 ((hedge q (fun r => .inr) j a b x y ha hb h1 h2).2 h5)⟩
    rw [hrr] at u2
    have hlr := can_len r4
    obtain ⟨c, c1, c2⟩ := alike_ok (rowAt p q y) cur y (y' - y) fr (y - fr) (by omega) (by rw [addI_eq (by omega) (by omega)]; omega) r4.1 o2.1
    simp only [G5, nextI (show i < 9223372036854775807 by omega), ltL_true hi1, cond_true]
    rw [u1]
    simp only [Option.bind_some, u2]
    rw [c1, Option.bind_some]
    have happ : appO 32 out (cur.map (cell fr (y - fr))) = some (out ++ cur.map (cell fr (y - fr))) := appO_big (by omega) (by rw [List.length_map]; omega)
    cases c with
    | true =>
      have e := c2.1 rfl
      have hS := hsame e.symm
      subst hS
      simp only [cond_true]
      by_cases h0 : 0 < (rowAt p q y).length
      · have hlt : ltI 0 (lenL ((rowAt p q y).map (cell y (y' - y)))) = true := by
          have := ltL_true (l := (rowAt p q y).map (cell y (y' - y))) (i := 0) (by rw [List.length_map]; exact h0)
          exact this
        rw [hlt]
        simp only [cond_true]
        obtain ⟨v, v1, v2⟩ := grown_ok h (xs, ys, out, cur.map (cell fr (y - fr)), (i : Int)) u xs ys out cur y (y' - y) fr (y - fr) (by omega) (by rw [u2])
        have e2 : addI .i64 (y - fr) (y' - y) = y' - fr := by
          rw [addI_eq (by omega) (by omega)]
          omega
        rw [e] 
        rw [v1, Option.bind_some, v2, e2]
        exact ⟨(), rfl, trivial⟩
      · have h00 : rowAt p q y = [] := List.eq_nil_of_length_eq_zero (by omega)
        have hc0 : cur = [] := by rw [← e, h00]
        rw [h00]
        subst hc0
        refine ⟨(), ?_, trivial⟩
        have : ltI 0 (lenL (List.map (cell y (y' - y)) ([] : List S266))) = false := rfl
        rw [this]
        simp only [cond_false, List.map_nil] at happ ⊢
        rw [happ, List.append_nil]
        rfl
    | false =>
      have e : ¬ cur = rowAt p q y := fun e => by simpa using c2.2 e.symm
      have hS := hnew e
      subst hS
      simp only [cond_false]
      rw [happ]
      exact ⟨(), rfl, trivial⟩
  · intro _ _
    have hlt : ltI ((ys.length - 1 + 1 : Nat) : Int) (lenL ys) = false := ltL_false (by omega)
    obtain ⟨o1, o2, o3, o4⟩ := St_ok (rowAt p q) ys hR hys (ys.length - 1) (by omega)
    have hlen := can_len o2
    simp only [G5, nextI (show ys.length - 1 < 9223372036854775807 by omega), hlt, cond_false]
    refine ⟨_, rfl, rfl, ?_, ?_⟩
    · have : (ys.length - 1) * 200000 ≤ 1000000 * 200000 := Nat.mul_le_mul (by omega) (Nat.le_refl _)
      simp only
      omega
    · show (List.map _ _).length ≤ _
      rw [List.length_map]
      omega
theorem mem_eX {p : List S63} {x : Int} : x ∈ eX p ↔ ∃ r ∈ p, x = r.f0 ∨ x = addI .i64 r.f0 r.f2 := by
  unfold eX
  rw [List.mem_flatMap]
  simp only [List.mem_cons, List.not_mem_nil, or_false]
theorem mem_eY {p : List S63} {x : Int} : x ∈ eY p ↔ ∃ r ∈ p, x = r.f1 ∨ x = addI .i64 r.f1 r.f3 := by
  unfold eY
  rw [List.mem_flatMap]
  simp only [List.mem_cons, List.not_mem_nil, or_false]
/-- What the program finds is what the cells tell. -/
theorem main (p q : List S63) (h : Int → Int → Option Bool) (hp : ∀ r ∈ p, W r) (hq : ∀ r ∈ q, W r) (lp : p.length ≤ 2000) (lq : q.length ≤ 2000) (hh : ∀ x y, ∃ b, h x y = some b ∧ (b = true ↔ hasL p x y ∧ ¬ hasL q x y)) :
    ∃ o, T213 p q = some o ∧ G (p ++ q) h = some o ∧ o.length ≤ 1000001000000 := by
  have hall : ∀ r ∈ p ++ q, W r := fun r hr => by
    rcases List.mem_append.1 hr with e | e
    · exact hp r e
    · exact hq r e
  have hl : (p ++ q).length ≤ 1000000 := by rw [List.length_append]; omega
  have fx := compact_facts (sortI (eX (p ++ q))) (sortI_sorted _)
  have fy := compact_facts (sortI (eY (p ++ q))) (sortI_sorted _)
  have lx : (Lib.compact (sortI (eX (p ++ q)))).length ≤ 1000000 := by
    have h1 := compact_le (sortI (eX (p ++ q)))
    have h2 := (sortI_perm (eX (p ++ q))).length_eq
    rw [eX_len, List.length_append] at h2
    omega
  have ly : (Lib.compact (sortI (eY (p ++ q)))).length ≤ 1000000 := by
    have h1 := compact_le (sortI (eY (p ++ q)))
    have h2 := (sortI_perm (eY (p ++ q))).length_eq
    rw [eY_len, List.length_append] at h2
    omega
  have mx : ∀ x, x ∈ Lib.compact (sortI (eX (p ++ q))) ↔ x ∈ eX (p ++ q) := fun x => (fx.2 x).trans (sortI_perm _).mem_iff
  have my : ∀ x, x ∈ Lib.compact (sortI (eY (p ++ q))) ↔ x ∈ eY (p ++ q) := fun x => (fy.2 x).trans (sortI_perm _).mem_iff
  have bx : ∀ x ∈ Lib.compact (sortI (eX (p ++ q))), -100000 ≤ x ∧ x ≤ 100000 := by
    intro x hx
    obtain ⟨r, hr, e⟩ := mem_eX.1 ((mx x).1 hx)
    have hw := hall r hr
    rw [(w_edge hw).1] at e
    unfold W at hw
    rcases e with e | e <;> omega
  have by' : ∀ x ∈ Lib.compact (sortI (eY (p ++ q))), -100000 ≤ x ∧ x ≤ 100000 := by
    intro x hx
    obtain ⟨r, hr, e⟩ := mem_eY.1 ((my x).1 hx)
    have hw := hall r hr
    rw [(w_edge hw).2] at e
    unfold W at hw
    rcases e with e | e <;> omega
  have hed : ∀ r, r ∈ p ∨ r ∈ q → r.f0 ∈ Lib.compact (sortI (eX (p ++ q))) ∧ r.f0 + r.f2 ∈ Lib.compact (sortI (eX (p ++ q))) := by
    intro r hr
    have hr : r ∈ p ++ q := List.mem_append.2 hr
    have e := (w_edge (hall r hr)).1
    exact ⟨(mx _).2 (mem_eX.2 ⟨r, hr, .inl rfl⟩), (mx _).2 (mem_eX.2 ⟨r, hr, .inr e.symm⟩)⟩
  obtain ⟨e, e1, e2⟩ := edges_loop p q (p ++ q) hl
  obtain ⟨u, u1, u2⟩ := prog_ok p q _ hp hq (by omega) (by omega) by' ly
  obtain ⟨v, v1, v2, v3, v4⟩ := ref_ok p q _ _ h hp hq (by omega) (by omega) by' ly bx lx fx.1 hed hh
  refine ⟨Fin (rowAt p q) (Lib.compact (sortI (eY (p ++ q)))), ?_, ?_, ?_⟩
  · unfold T213
    rw [both_ok p q (by omega) (by omega), Option.bind_some, e1, Option.bind_some, e2]
    unfold sortIO compIO
    rw [if_pos (by rw [eY_len]; omega), Option.bind_some, Option.bind_some, u1, Option.bind_some, u2]
  · unfold G
    rw [xs_ok _ hl, Option.bind_some, ys_ok _ hl, Option.bind_some, v1, Option.bind_some, appO_big (by omega) (by omega), Option.bind_some, v2]
  · rw [← v2, List.length_append]
    omega
end Go.Abs.TR
