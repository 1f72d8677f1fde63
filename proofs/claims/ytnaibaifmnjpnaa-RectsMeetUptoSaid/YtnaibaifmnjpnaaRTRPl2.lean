import Derived.Test.YtnaibaifmnjpnaaRTRPl1
set_option linter.unusedVariables false
set_option linter.unusedSimpArgs false
set_option maxRecDepth 10000
namespace Go.Abs.TR
open Go.RowKit Go.Proofs Go.Abs
/-! The walk over cells, by whatever tells a cell. -/
noncomputable def G9 (h : Int → Int → Option Bool) (z0 : ((List Int) × (List Int) × (List S63) × (List S63) × Int)) (z1 : ((List Int) × (List Int) × (List S63) × (List S63) × (List S63) × Int)) : Option (((List Int) × (List Int) × (List S63) × (List S63) × (List S63) × Int) ⊕ (Int × Bool × (List Int) × (List Int) × (List S63) × (List S63) × (List S63))) := (bif (ltI (addI .i64 z1.2.2.2.2.2 1) (lenL z1.1)) then ((idxO (List.length z1.1) z1.2.2.2.2.2).bind fun x3 => ((getN z1.1 x3).bind fun x4 => ((idxO (List.length z1.2.1) z0.2.2.2.2).bind fun x5 => ((getN z1.2.1 x5).bind fun x6 => ((h x4 x6).bind fun x7 => (bif (!x7) then (some (.inl (z1.1, z1.2.1, z1.2.2.1, z1.2.2.2.1, z1.2.2.2.2.1, (addI .i64 z1.2.2.2.2.2 1)))) else (bif (leI 0 (subI .i64 (lenL z1.2.2.2.2.1) 1)) then ((idxO (List.length z1.2.2.2.2.1) (subI .i64 (lenL z1.2.2.2.2.1) 1)).bind fun x8 => ((getN z1.2.2.2.2.1 x8).bind fun x9 => ((idxO (List.length z1.2.2.2.2.1) (subI .i64 (lenL z1.2.2.2.2.1) 1)).bind fun x10 => ((getN z1.2.2.2.2.1 x10).bind fun x11 => ((idxO (List.length z1.1) z1.2.2.2.2.2).bind fun x12 => ((getN z1.1 x12).bind fun x13 => (bif (eqI (addI .i64 x9.f0 x11.f2) x13) then ((idxO (List.length z1.1) (addI .i64 z1.2.2.2.2.2 1)).bind fun x14 => ((getN z1.1 x14).bind fun x15 => ((idxO (List.length z1.2.2.2.2.1) (subI .i64 (lenL z1.2.2.2.2.1) 1)).bind fun x16 => ((getN z1.2.2.2.2.1 x16).bind fun x17 => ((idxO (List.length z1.2.2.2.2.1) (subI .i64 (lenL z1.2.2.2.2.1) 1)).bind fun x18 => ((getN z1.2.2.2.2.1 x18).bind fun x19 => (some (.inl (z1.1, z1.2.1, z1.2.2.1, z1.2.2.2.1, (List.set z1.2.2.2.2.1 x18 (S63.mk x19.f0 x19.f1 (subI .i64 x15 x17.f0) x19.f3)), (addI .i64 z1.2.2.2.2.2 1)))))))))) else ((idxO (List.length z1.1) z1.2.2.2.2.2).bind fun x20 => ((getN z1.1 x20).bind fun x21 => ((idxO (List.length z1.2.1) z0.2.2.2.2).bind fun x22 => ((getN z1.2.1 x22).bind fun x23 => ((idxO (List.length z1.1) (addI .i64 z1.2.2.2.2.2 1)).bind fun x24 => ((getN z1.1 x24).bind fun x25 => ((idxO (List.length z1.1) z1.2.2.2.2.2).bind fun x26 => ((getN z1.1 x26).bind fun x27 => ((idxO (List.length z1.2.1) (addI .i64 z0.2.2.2.2 1)).bind fun x28 => ((getN z1.2.1 x28).bind fun x29 => ((idxO (List.length z1.2.1) z0.2.2.2.2).bind fun x30 => ((getN z1.2.1 x30).bind fun x31 => ((appO 32 z1.2.2.2.2.1 ([(S63.mk x21 x23 (subI .i64 x25 x27) (subI .i64 x29 x31))] : List S63)).bind fun x32 => (some (.inl (z1.1, z1.2.1, z1.2.2.1, z1.2.2.2.1, x32, (addI .i64 z1.2.2.2.2.2 1)))))))))))))))))))))))) else ((idxO (List.length z1.1) z1.2.2.2.2.2).bind fun x33 => ((getN z1.1 x33).bind fun x34 => ((idxO (List.length z1.2.1) z0.2.2.2.2).bind fun x35 => ((getN z1.2.1 x35).bind fun x36 => ((idxO (List.length z1.1) (addI .i64 z1.2.2.2.2.2 1)).bind fun x37 => ((getN z1.1 x37).bind fun x38 => ((idxO (List.length z1.1) z1.2.2.2.2.2).bind fun x39 => ((getN z1.1 x39).bind fun x40 => ((idxO (List.length z1.2.1) (addI .i64 z0.2.2.2.2 1)).bind fun x41 => ((getN z1.2.1 x41).bind fun x42 => ((idxO (List.length z1.2.1) z0.2.2.2.2).bind fun x43 => ((getN z1.2.1 x43).bind fun x44 => ((appO 32 z1.2.2.2.2.1 ([(S63.mk x34 x36 (subI .i64 x38 x40) (subI .i64 x42 x44))] : List S63)).bind fun x45 => (some (.inl (z1.1, z1.2.1, z1.2.2.1, z1.2.2.2.1, x45, (addI .i64 z1.2.2.2.2.2 1)))))))))))))))))))))))) else (some (.inr (z1.2.2.2.2.2, (ltI (addI .i64 z1.2.2.2.2.2 1) (lenL z1.1)), z1.1, z1.2.1, z1.2.2.1, z1.2.2.2.1, z1.2.2.2.2.1))))
noncomputable def G19 (h : Int → Int → Option Bool) (z0 : ((List Int) × (List Int) × (List S63) × (List S63) × Int)) (y46 : (Int × Bool × (List Int) × (List Int) × (List S63) × (List S63) × (List S63))) (z2 : ((List Int) × (List Int) × (List S63) × (List S63) × (List S63) × Int)) : Option (((List Int) × (List Int) × (List S63) × (List S63) × (List S63) × Int) ⊕ (Int × Bool × (List Int) × (List Int) × (List S63) × (List S63) × (List S63))) := (bif (ltI z2.2.2.2.2.2 (lenL y46.2.2.2.2.2.1)) then ((idxO (List.length z2.2.2.2.1) z2.2.2.2.2.2).bind fun x48 => ((getN z2.2.2.2.1 x48).bind fun x49 => ((idxO (List.length z2.2.2.2.2.1) z2.2.2.2.2.2).bind fun x50 => ((getN z2.2.2.2.2.1 x50).bind fun x51 => ((idxO (List.length z2.2.2.2.1) z2.2.2.2.2.2).bind fun x52 => ((getN z2.2.2.2.1 x52).bind fun x53 => (some (.inl (z2.1, z2.2.1, z2.2.2.1, (List.set z2.2.2.2.1 x52 (S63.mk x53.f0 x53.f1 x53.f2 (addI .i64 x49.f3 x51.f3))), z2.2.2.2.2.1, (addI .i64 z2.2.2.2.2.2 1)))))))))) else (some (.inr (z2.2.2.2.2.2, (ltI z2.2.2.2.2.2 (lenL y46.2.2.2.2.2.1)), z2.1, z2.2.1, z2.2.2.1, z2.2.2.2.1, z2.2.2.2.2.1))))
noncomputable def G5 (h : Int → Int → Option Bool) (z0 : ((List Int) × (List Int) × (List S63) × (List S63) × Int)) : Option (((List Int) × (List Int) × (List S63) × (List S63) × Int) ⊕ (Int × Bool × (List Int) × (List Int) × (List S63) × (List S63))) := (bif (ltI (addI .i64 z0.2.2.2.2 1) (lenL z0.2.1)) then ((iter (G9 h z0) (z0.1, z0.2.1, z0.2.2.1, z0.2.2.2.1, [], 0)).bind fun y46 => ((T258 y46.2.2.2.2.2.2 y46.2.2.2.2.2.1).bind fun x47 => (bif x47 then (bif (ltI 0 (lenL y46.2.2.2.2.2.2)) then ((iter (G19 h z0 y46) (y46.2.2.1, y46.2.2.2.1, y46.2.2.2.2.1, y46.2.2.2.2.2.1, y46.2.2.2.2.2.2, 0)).bind fun y54 => (some (.inl (y54.2.2.1, y54.2.2.2.1, y54.2.2.2.2.1, y54.2.2.2.2.2.1, (addI .i64 z0.2.2.2.2 1))))) else ((appO 32 y46.2.2.2.2.1 y46.2.2.2.2.2.1).bind fun x55 => (some (.inl (y46.2.2.1, y46.2.2.2.1, x55, y46.2.2.2.2.2.2, (addI .i64 z0.2.2.2.2 1)))))) else ((appO 32 y46.2.2.2.2.1 y46.2.2.2.2.2.1).bind fun x56 => (some (.inl (y46.2.2.1, y46.2.2.2.1, x56, y46.2.2.2.2.2.2, (addI .i64 z0.2.2.2.2 1)))))))) else (some (.inr (z0.2.2.2.2, (ltI (addI .i64 z0.2.2.2.2 1) (lenL z0.2.1)), z0.1, z0.2.1, z0.2.2.1, z0.2.2.2.1))))
noncomputable def G (p0 : (List S63)) (h : Int → Int → Option Bool) : Option (List S63) := ((T255 p0).bind fun x1 => ((T255_1 p0).bind fun x2 => ((iter (G5 h) (x1, x2, [], [], 0)).bind fun y57 => ((appO 32 y57.2.2.2.2.1 y57.2.2.2.2.2).bind fun x58 => (some x58)))))
theorem g215 (p l : List S63) : T215 p l = G p (fun x y => T216 x y l) := rfl
theorem g215_1 (p l m : List S63) : T215_1 p l m = G p (fun x y => T219 x y l m) := rfl
/-! Edges. -/
def eX (p : List S63) : List Int := p.flatMap fun r => [r.f0, addI .i64 r.f0 r.f2]
def eY (p : List S63) : List Int := p.flatMap fun r => [r.f1, addI .i64 r.f1 r.f3]
theorem eX_len (p : List S63) : (eX p).length = 2 * p.length := by
  unfold eX
  induction p with
  | nil => rfl
  | cons a p ih => rw [List.flatMap_cons, List.length_append, ih, List.length_cons]; simp; omega
theorem eY_len (p : List S63) : (eY p).length = 2 * p.length := by
  unfold eY
  induction p with
  | nil => rfl
  | cons a p ih => rw [List.flatMap_cons, List.length_append, ih, List.length_cons]; simp; omega
theorem take_next {α : Type} {l : List α} {i : Nat} {x : α} (h : l[i]? = some x) : l.take (i + 1) = l.take i ++ [x] := by
  rw [List.take_add_one, h]; rfl
theorem fm_next {α : Type} (f : α → List Int) {l : List α} {i : Nat} {x : α} (h : l[i]? = some x) : (l.take (i + 1)).flatMap f = (l.take i).flatMap f ++ f x := by
  rw [take_next h, List.flatMap_append]; simp
theorem edges_loop (p q x1 : List S63) (hl : x1.length ≤ 1000000) : ∃ r, iter (L213_3 p q x1) ([], x1, 0) = some r ∧ r.2.2 = (eY x1, x1) := by
  refine iter_up (st := L213_3 p q x1) (fun (s : List Int) i => (s, x1, (i : Int))) x1.length (fun i s => s = eY (x1.take i)) (fun r => r.2.2 = (eY x1, x1)) ?_ ?_ [] rfl
  · intro i s hi h
    obtain ⟨r, hr⟩ : ∃ r, x1[i]? = some r := ⟨_, List.getElem?_eq_getElem hi⟩
    have hs : s.length ≤ 2000000 := by rw [h, eY_len, List.length_take]; omega
    simp only [L213_3, ltL_true hi, idx_nat hi, getN_some hr, cond_true, Option.bind_some, nextI (show i < 9223372036854775807 by omega)]
    rw [appO_big (by omega) (by simp only [List.length_cons, List.length_nil]; omega)]
    refine ⟨_, rfl, ?_⟩
    rw [h]
    exact (fm_next _ hr).symm
  · intro s h
    simp only [L213_3, ltL_false (Nat.le_refl _), cond_false]
    refine ⟨_, rfl, ?_⟩
    rw [h, List.take_length]
theorem xs_ok (p : List S63) (hl : p.length ≤ 1000000) : T255 p = some (Lib.compact (sortI (eX p))) := by
  have H : ∃ r, iter (L255_3 p) ([], 0) = some r ∧ r.2.2 = eX p := by
    refine iter_up (st := L255_3 p) (fun (s : List Int) i => (s, (i : Int))) p.length (fun i s => s = eX (p.take i)) (fun r => r.2.2 = eX p) ?_ ?_ [] rfl
    · intro i s hi h
      obtain ⟨r, hr⟩ : ∃ r, p[i]? = some r := ⟨_, List.getElem?_eq_getElem hi⟩
      have hs : s.length ≤ 2000000 := by rw [h, eX_len, List.length_take]; omega
      simp only [L255_3, T256, ltL_true hi, listAt_some hr, cond_true, Option.bind_some, nextI (show i < 9223372036854775807 by omega)]
      rw [appO_big (by omega) (by simp only [List.length_cons, List.length_nil]; omega)]
      refine ⟨_, rfl, ?_⟩
      rw [h]
      exact (fm_next _ hr).symm
    · intro s h
      simp only [L255_3, ltL_false (Nat.le_refl _), cond_false]
      refine ⟨_, rfl, ?_⟩
      rw [h, List.take_length]
  obtain ⟨r, h1, h2⟩ := H
  unfold T255
  rw [h1, Option.bind_some, h2]
  unfold sortIO compIO
  rw [if_pos (by rw [eX_len]; omega)]
  rfl
theorem ys_ok (p : List S63) (hl : p.length ≤ 1000000) : T255_1 p = some (Lib.compact (sortI (eY p))) := by
  have H : ∃ r, iter (L255_1_3 p) ([], 0) = some r ∧ r.2.2 = eY p := by
    refine iter_up (st := L255_1_3 p) (fun (s : List Int) i => (s, (i : Int))) p.length (fun i s => s = eY (p.take i)) (fun r => r.2.2 = eY p) ?_ ?_ [] rfl
    · intro i s hi h
      obtain ⟨r, hr⟩ : ∃ r, p[i]? = some r := ⟨_, List.getElem?_eq_getElem hi⟩
      have hs : s.length ≤ 2000000 := by rw [h, eY_len, List.length_take]; omega
      simp only [L255_1_3, T257, ltL_true hi, listAt_some hr, cond_true, Option.bind_some, nextI (show i < 9223372036854775807 by omega)]
      rw [appO_big (by omega) (by simp only [List.length_cons, List.length_nil]; omega)]
      refine ⟨_, rfl, ?_⟩
      rw [h]
      exact (fm_next _ hr).symm
    · intro s h
      simp only [L255_1_3, ltL_false (Nat.le_refl _), cond_false]
      refine ⟨_, rfl, ?_⟩
      rw [h, List.take_length]
  obtain ⟨r, h1, h2⟩ := H
  unfold T255_1
  rw [h1, Option.bind_some, h2]
  unfold sortIO compIO
  rw [if_pos (by rw [eY_len]; omega)]
  rfl
theorem both_ok (p q : List S63) (hp : p.length ≤ 1000000) (hq : q.length ≤ 1000000) : T218 [p, q] = some (p ++ q) := by
  unfold T218
  have e1 : lenL p = (p.length : Int) := rfl
  have e2 : lenL q = (q.length : Int) := rfl
  have hlt0 : ltI 0 (lenL [p, q]) = true := rfl
  have hlt1 : ltI 1 (lenL [p, q]) = true := rfl
  have hlt2 : ltI 2 (lenL [p, q]) = false := rfl
  have n0 : addI .i64 0 1 = 1 := by decide
  have n1 : addI .i64 1 1 = 2 := by decide
  have a0 : listAt [p, q] 0 = some p := rfl
  have a1 : listAt [p, q] 1 = some q := rfl
  have s0 : addI .i64 0 (p.length : Int) = (p.length : Int) := by rw [addI_eq (by omega) (by omega)]; omega
  have s1 : addI .i64 (p.length : Int) (q.length : Int) = ((p.length + q.length : Nat) : Int) := by rw [addI_eq (by omega) (by omega)]; omega
  have l0 : ltI (p.length : Int) 0 = false := decide_eq_false (by omega)
  have l1 : ltI ((p.length + q.length : Nat) : Int) 0 = false := decide_eq_false (by omega)
  have h0 : L218_3 [p, q] (0, 0) = some (.inl ((p.length : Int), 1)) := by
    simp only [L218_3, hlt0, cond_true, a0, Option.bind_some, e1, s0, l0, cond_false, n0]
  have h1 : L218_3 [p, q] ((p.length : Int), 1) = some (.inl (((p.length + q.length : Nat) : Int), 2)) := by
    simp only [L218_3, hlt1, cond_true, a1, Option.bind_some, e2, s1, l1, cond_false, n1]
  have h2 : L218_3 [p, q] (((p.length + q.length : Nat) : Int), 2) = some (.inr (((p.length + q.length : Nat) : Int), 2, false)) := by
    simp only [L218_3, hlt2, cond_false]
  rw [iter_inl h0, iter_inl h1, iter_inr h2, Option.bind_some]
  have hg : growO S63 32 ((p.length + q.length : Nat) : Int) = some [] := by
    unfold growO
    rw [if_pos ⟨by omega, by omega, by omega⟩]
  simp only [hg, Option.bind_some]
  have k0 : L218_11 [p, q] ([], 0) = some (.inl (p, 1)) := by
    simp only [L218_11, hlt0, cond_true, a0, Option.bind_some, n0]
    rw [appO_big (by omega) (by simp only [List.length_nil]; omega)]
    rfl
  have k1 : L218_11 [p, q] (p, 1) = some (.inl (p ++ q, 2)) := by
    simp only [L218_11, hlt1, cond_true, a1, Option.bind_some, n1]
    rw [appO_big (by omega) (by omega)]
    rfl
  have k2 : L218_11 [p, q] (p ++ q, 2) = some (.inr (2, false, p ++ q)) := by
    simp only [L218_11, hlt2, cond_false]
  rw [iter_inl k0, iter_inl k1, iter_inr k2, Option.bind_some]
/-! Numbers in order. -/
theorem next_to {xs : List Int} (hs : xs.Pairwise (· < ·)) {j : Nat} {a b v : Int} (ha : xs[j]? = some a) (hb : xs[j + 1]? = some b) (hv : v ∈ xs) : v ≤ a ∨ b ≤ v := by
  obtain ⟨k, hk, rfl⟩ := List.getElem_of_mem hv
  obtain ⟨h1, rfl⟩ := List.getElem?_eq_some_iff.1 ha
  obtain ⟨h2, rfl⟩ := List.getElem?_eq_some_iff.1 hb
  have hp := List.pairwise_iff_getElem.1 hs
  rcases Nat.lt_trichotomy k j with h | h | h
  · have := hp k j hk h1 h
    omega
  · subst h; exact .inl (Int.le_refl _)
  · by_cases e : k = j + 1
    · subst e; exact .inr (Int.le_refl _)
    · have := hp (j + 1) k h2 hk (by omega)
      omega
theorem between : ∀ (xs : List Int), xs.Pairwise (· < ·) → ∀ x u v : Int, u ∈ xs → u ≤ x → v ∈ xs → x < v → ∃ j a b, xs[j]? = some a ∧ xs[j + 1]? = some b ∧ a ≤ x ∧ x < b := by
  intro xs
  induction xs with
  | nil => intro _ x u v hu; simp at hu
  | cons c t ih =>
    intro hs x u v hu hux hv hxv
    obtain ⟨hc, ht⟩ := List.pairwise_cons.1 hs
    cases t with
    | nil => simp at hu hv; omega
    | cons d t =>
      by_cases hx : x < d
      · refine ⟨0, c, d, rfl, rfl, ?_, hx⟩
        rcases List.mem_cons.1 hu with e | e
        · omega
        · have := hc u e; omega
      · have hcd := hc d (by simp)
        have hv' : v ∈ d :: t := by
          rcases List.mem_cons.1 hv with e | e
          · omega
          · exact e
        obtain ⟨j, a, b, h1, h2, h3⟩ := ih ht x d v (by simp) (by omega) hv' hxv
        exact ⟨j + 1, a, b, h1, h2, h3⟩
/-! A row of cells. -/
def cell (y h : Int) (a : S266) : S63 := ⟨a.f0, y, a.f1 - a.f0, h⟩
def pts (xs : List Int) (H : Int → Prop) (i : Nat) (x : Int) : Prop := ∃ j a b, j < i ∧ xs[j]? = some a ∧ xs[j + 1]? = some b ∧ a ≤ x ∧ x < b ∧ H a
theorem pts_succ {xs : List Int} (H : Int → Prop) {i : Nat} {a b : Int} (ha : xs[i]? = some a) (hb : xs[i + 1]? = some b) (x : Int) : pts xs H (i + 1) x ↔ pts xs H i x ∨ (a ≤ x ∧ x < b ∧ H a) := by
  constructor
  · rintro ⟨j, c, d, h1, h2, h3, h4⟩
    by_cases e : j = i
    · subst e
      rw [ha] at h2
      rw [hb] at h3
      cases h2; cases h3
      exact .inr h4
    · exact .inl ⟨j, c, d, by omega, h2, h3, h4⟩
  · rintro (⟨j, c, d, h1, h2, h3, h4⟩ | h4)
    · exact ⟨j, c, d, by omega, h2, h3, h4⟩
    · exact ⟨i, a, b, by omega, ha, hb, h4⟩
theorem row_ok (h : Int → Int → Option Bool) (xs ys : List Int) (out last : List S63) (k : Nat) (y y' : Int) (hy : ys[k]? = some y) (hy' : ys[k + 1]? = some y') (by1 : -100000 ≤ y ∧ y ≤ 100000) (by2 : -100000 ≤ y' ∧ y' ≤ 100000)
    (hxs : xs.Pairwise (· < ·)) (hB : ∀ x ∈ xs, -100000 ≤ x ∧ x ≤ 100000) (hlx : xs.length ≤ 10000000) (hly : ys.length ≤ 10000000) (H : Int → Prop) (hh : ∀ x ∈ xs, ∃ b, h x y = some b ∧ (b = true ↔ H x)) :
    ∃ r rr, iter (G9 h (xs, ys, out, last, (k : Int))) (xs, ys, out, last, [], 0) = some r ∧ r.2.2 = (xs, ys, out, last, rr.map (cell y (y' - y))) ∧ Can rr ∧ ∀ x, inn rr x ↔ ∃ j a b, xs[j]? = some a ∧ xs[j + 1]? = some b ∧ a ≤ x ∧ x < b ∧ H a := by
  suffices HH : ∃ r, iter (G9 h (xs, ys, out, last, (k : Int))) (xs, ys, out, last, [], 0) = some r ∧ ∃ rr, r.2.2 = (xs, ys, out, last, rr.map (cell y (y' - y))) ∧ Can rr ∧ ∀ x, inn rr x ↔ ∃ j a b, xs[j]? = some a ∧ xs[j + 1]? = some b ∧ a ≤ x ∧ x < b ∧ H a by
    obtain ⟨r, h1, rr, h2⟩ := HH
    exact ⟨r, rr, h1, h2⟩
  have hk := (List.getElem?_eq_some_iff.1 hy).1
  have hk' := (List.getElem?_eq_some_iff.1 hy').1
  refine iter_up (st := G9 h (xs, ys, out, last, (k : Int))) (fun (rr : List S266) i => (xs, ys, out, last, rr.map (cell y (y' - y)), (i : Int))) (xs.length - 1) (fun i rr => Can rr ∧ (∀ a ∈ rr, ∀ x, xs[i]? = some x → a.f1 ≤ x) ∧ ∀ x, inn rr x ↔ pts xs H i x)
    (fun r => ∃ rr, r.2.2 = (xs, ys, out, last, rr.map (cell y (y' - y))) ∧ Can rr ∧ ∀ x, inn rr x ↔ ∃ j a b, xs[j]? = some a ∧ xs[j + 1]? = some b ∧ a ≤ x ∧ x < b ∧ H a) ?_ ?_ [] ⟨can_nil, by simp, fun x => ⟨fun h => absurd h (inn_nil x), fun ⟨j, _, _, h, _⟩ => absurd h (Nat.not_lt_zero j)⟩⟩
  · intro i rr hi ⟨h1, h2, h3⟩
    have hi0 : i < xs.length := by omega
    have hi1 : i + 1 < xs.length := by omega
    obtain ⟨a, ha⟩ : ∃ a, xs[i]? = some a := ⟨_, List.getElem?_eq_getElem hi0⟩
    obtain ⟨b, hb⟩ : ∃ a, xs[i + 1]? = some a := ⟨_, List.getElem?_eq_getElem hi1⟩
    have hab : a < b := by
      have := List.pairwise_iff_getElem.1 hxs i (i + 1) hi0 hi1 (by omega)
      rw [(List.getElem?_eq_some_iff.1 ha).2, (List.getElem?_eq_some_iff.1 hb).2] at this
      exact this
    have ba := hB a (List.mem_of_getElem? ha)
    have bb := hB b (List.mem_of_getElem? hb)
    obtain ⟨c, hc, hcH⟩ := hh a (List.mem_of_getElem? ha)
    have hlen := can_len h1
    simp only [G9, nextI (show i < 9223372036854775807 by omega), nextI (show k < 9223372036854775807 by omega), ltL_true hi1, idx_nat hi0, idx_nat hi1, getN_some ha, getN_some hb, idx_nat hk, idx_nat hk', getN_some hy, getN_some hy', cond_true, Option.bind_some, hc, subI_eq (a := b) (b := a) (by omega) (by omega), subI_eq (a := y') (b := y) (by omega) (by omega)]
    cases c with
    | false =>
      have hnH : ¬ H a := fun hH => by simpa using hcH.2 hH
      simp only [Bool.not_false, cond_true]
      refine ⟨rr, rfl, h1, fun q hq x hx => ?_, fun x => ?_⟩
      · rw [hb] at hx
        cases hx
        have := h2 q hq a ha
        omega
      · rw [h3, pts_succ H ha hb]
        exact ⟨.inl, fun h => h.resolve_right fun h => hnH h.2.2⟩
    | true =>
      have hH : H a := hcH.1 rfl
      simp only [Bool.not_true, cond_false]
      rcases List.eq_nil_or_concat rr with e | ⟨q, g, e⟩
      · subst e
        rw [List.map_nil, show leI 0 (subI .i64 (lenL ([] : List S63)) 1) = false from rfl]
        simp only [cond_false]
        rw [appO_big (by omega) (by simp)]
        refine ⟨[⟨a, b⟩], rfl, can_app (l := []).2 ⟨⟨ba.1, hab, bb.2⟩, can_nil, by simp⟩, ?_, fun x => ?_⟩
        · intro q hq x hx
          rw [List.mem_singleton] at hq
          subst hq
          rw [hb] at hx
          cases hx
          exact Int.le_refl _
        · rw [pts_succ H ha hb, ← h3, inn_cons]
          constructor
          · rintro (h | h)
            · exact .inr ⟨h.1, h.2, hH⟩
            · exact .inl h
          · rintro (h | h)
            · exact .inr h
            · exact .inl ⟨h.1, h.2.1⟩
      · subst e
        simp only [List.concat_eq_append] at *
        obtain ⟨hg1, hq, hqg⟩ := can_app.1 h1
        have hqlen : (q.map (cell y (y' - y))).length < 200000 := by simp only [List.length_append, List.length_cons, List.length_nil, List.length_map] at *; omega
        have hga := h2 g (by simp) a ha
        have hgB := hg1
        unfold B at hgB
        simp only [List.map_append, List.map_cons, List.map_nil]
        have hlast := last_len (q.map (cell y (y' - y))) (cell y (y' - y) g) (by omega)
        simp only [hlast, idx_nat (show (q.map (cell y (y' - y))).length < (q.map (cell y (y' - y)) ++ [cell y (y' - y) g]).length by simp), last_at, Option.bind_some, last_set]
        rw [show leI 0 ((q.map (cell y (y' - y))).length : Int) = true from decide_eq_true (by omega)]
        have hend : addI .i64 (cell y (y' - y) g).f0 (cell y (y' - y) g).f2 = g.f1 := by
          show addI .i64 g.f0 (g.f1 - g.f0) = g.f1
          rw [addI_eq (by omega) (by omega)]
          omega
        have hw : subI .i64 b (cell y (y' - y) g).f0 = b - g.f0 := by
          show subI .i64 b g.f0 = b - g.f0
          rw [subI_eq (by omega) (by omega)]
        simp only [cond_true, hend, hw]
        by_cases ce : g.f1 = a
        · rw [show eqI g.f1 a = true by rw [eqI_iff]; exact decide_eq_true ce]
          simp only [cond_true]
          refine ⟨q ++ [⟨g.f0, b⟩], ?_, can_app.2 ⟨⟨by simp only; omega, by simp only; omega, bb.2⟩, hq, hqg⟩, ?_, fun x => ?_⟩
          · simp only [List.map_append, List.map_cons, List.map_nil]
            rfl
          · intro z hz x hx
            rw [hb] at hx
            cases hx
            rcases List.mem_append.1 hz with e | e
            · have := h2 z (by simp [e]) a ha
              omega
            · rw [List.mem_singleton] at e
              subst e
              exact Int.le_refl _
          · have h4 := h3 x
            rw [inn_app] at h4
            rw [inn_app, pts_succ H ha hb, ← h4]
            simp only
            constructor
            · rintro (h | h)
              · exact .inl (.inl h)
              · by_cases hx : x < g.f1
                · exact .inl (.inr ⟨h.1, hx⟩)
                · exact .inr ⟨by omega, h.2, hH⟩
            · rintro ((h | h) | h)
              · exact .inl h
              · exact .inr ⟨h.1, by omega⟩
              · exact .inr ⟨by omega, h.2.1⟩
        · rw [show eqI g.f1 a = false by rw [eqI_iff]; exact decide_eq_false ce]
          simp only [cond_false]
          rw [appO_big (by omega) (by simp only [List.length_append, List.length_cons, List.length_nil]; omega)]
          refine ⟨(q ++ [g]) ++ [⟨a, b⟩], ?_, can_app.2 ⟨⟨ba.1, hab, bb.2⟩, h1, ?_⟩, ?_, fun x => ?_⟩
          · simp only [List.map_append, List.map_cons, List.map_nil]
            rfl
          · intro z hz
            rcases List.mem_append.1 hz with e | e
            · have := hqg z e
              simp only
              omega
            · rw [List.mem_singleton] at e
              subst e
              simp only
              omega
          · intro z hz x hx
            rw [hb] at hx
            cases hx
            rcases List.mem_append.1 hz with e | e
            · have := h2 z e a ha
              omega
            · rw [List.mem_singleton] at e
              subst e
              exact Int.le_refl _
          · rw [inn_app, pts_succ H ha hb, ← h3]
            constructor
            · rintro (h | h)
              · exact .inl h
              · exact .inr ⟨h.1, h.2, hH⟩
            · rintro (h | h)
              · exact .inl h
              · exact .inr ⟨h.1, h.2.1⟩
  · intro rr ⟨h1, h2, h3⟩
    have hlt : ltI ((xs.length - 1 + 1 : Nat) : Int) (lenL xs) = false := ltL_false (by omega)
    simp only [G9, nextI (show xs.length - 1 < 9223372036854775807 by omega), hlt, cond_false]
    refine ⟨_, rfl, rr, rfl, h1, fun x => (h3 x).trans ⟨?_, ?_⟩⟩
    · rintro ⟨j, a, b, h, h4⟩
      exact ⟨j, a, b, h4⟩
    · rintro ⟨j, a, b, h4, h5, h6⟩
      have := (List.getElem?_eq_some_iff.1 h5).1
      exact ⟨j, a, b, by omega, h4, h5, h6⟩
/-! Rows alike; rows grown. -/
theorem alike_ok (rr cur : List S266) (y h f hh : Int) (hl : rr.length ≤ 1000000) (e : addI .i64 f hh = y) (hr : ∀ a ∈ rr, B a) (hc : ∀ a ∈ cur, B a) : ∃ c, T258 (rr.map (cell y h)) (cur.map (cell f hh)) = some c ∧ (c = true ↔ rr = cur) := by
  unfold T258
  by_cases hlen : rr.length = cur.length
  · have e0 : neI (lenL (rr.map (cell y h))) (lenL (cur.map (cell f hh))) = false := by rw [neI_iff, lenL_eq, lenL_eq, List.length_map, List.length_map, hlen]; simp
    rw [e0]
    simp only [cond_false]
    obtain ⟨r, h1, h2⟩ : ∃ r, iter (L258_4 (rr.map (cell y h)) (cur.map (cell f hh))) 0 = some r ∧ (r.isLeft = true ↔ rr = cur) := by
      refine iter_upx (st := L258_4 (rr.map (cell y h)) (cur.map (cell f hh))) (fun (_ : Unit) i => (i : Int)) rr.length (fun i _ => ∀ j, j < i → rr[j]? = cur[j]?) (fun r => r.isLeft = true ↔ rr = cur) ?_ ?_ 0 () (Nat.zero_le _) (fun j h => absurd h (Nat.not_lt_zero j))
      · intro i _ hi hinv
        obtain ⟨r, hr'⟩ : ∃ r, rr[i]? = some r := ⟨_, List.getElem?_eq_getElem hi⟩
        obtain ⟨q, hq'⟩ : ∃ r, cur[i]? = some r := ⟨_, List.getElem?_eq_getElem (by omega)⟩
        have b1 := hr r (List.mem_of_getElem? hr')
        have b2 := hc q (List.mem_of_getElem? hq')
        have hr2 : (rr.map (cell y h))[i]? = some (cell y h r) := by rw [List.getElem?_map, hr']; rfl
        have hq2 : (cur.map (cell f hh))[i]? = some (cell f hh q) := by rw [List.getElem?_map, hq']; rfl
        have hlt : i < (rr.map (cell y h)).length := by rw [List.length_map]; exact hi
        have ey : eqI y (addI .i64 f hh) = true := by rw [e]; exact eqI_self y
        simp only [L258_4, T259, ltL_true hlt, listAt_some hr2, listAt_some hq2, cond_true, Option.bind_some, nextI (show i < 9223372036854775807 by omega)]
        have f1 : (cell y h r).f1 = y := rfl
        have f2 : (cell f hh q).f1 = f := rfl
        have f3 : (cell f hh q).f3 = hh := rfl
        rw [f1, f2, f3, ey]
        unfold B at b1 b2
        by_cases c : r.f0 = q.f0 ∧ r.f1 = q.f1
        · left
          have g1 : eqI (cell y h r).f0 (cell f hh q).f0 = true := by rw [eqI_iff]; exact decide_eq_true c.1
          have g2 : eqI (cell y h r).f2 (cell f hh q).f2 = true := by rw [eqI_iff]; exact decide_eq_true (show r.f1 - r.f0 = q.f1 - q.f0 by omega)
          rw [g1, g2]
          refine ⟨(), rfl, fun j hj => ?_⟩
          by_cases e : j = i
          · subst e
            rw [hr', hq']
            cases r; cases q
            simp_all
          · exact hinv j (by omega)
        · right
          have hne : ¬ rr = cur := by
            intro e
            subst e
            rw [hr'] at hq'
            cases hq'
            exact c ⟨rfl, rfl⟩
          have : ∃ b, (bif eqI (cell y h r).f0 (cell f hh q).f0 then bif eqI (cell y h r).f2 (cell f hh q).f2 then some true else some false else some false) = some b ∧ b = false := by
            by_cases c1 : r.f0 = q.f0
            · have g1 : eqI (cell y h r).f0 (cell f hh q).f0 = true := by rw [eqI_iff]; exact decide_eq_true c1
              have g2 : eqI (cell y h r).f2 (cell f hh q).f2 = false := by
                rw [eqI_iff]
                refine decide_eq_false fun c2 => ?_
                have : r.f1 - r.f0 = q.f1 - q.f0 := c2
                exact c ⟨c1, by omega⟩
              rw [g1, g2]
              exact ⟨_, rfl, rfl⟩
            · have g1 : eqI (cell y h r).f0 (cell f hh q).f0 = false := by rw [eqI_iff]; exact decide_eq_false c1
              rw [g1]
              exact ⟨_, rfl, rfl⟩
          obtain ⟨b, g1, g2⟩ := this
          subst g2
          rw [g1]
          refine ⟨_, rfl, ?_⟩
          simp only [Sum.isLeft_inr, Bool.false_eq_true, false_iff]
          exact hne
      · intro _ hinv
        have : ltI (rr.length : Int) (lenL (rr.map (cell y h))) = false := ltL_false (by rw [List.length_map]; exact Nat.le_refl _)
        simp only [L258_4, this, cond_false]
        refine ⟨_, rfl, ?_⟩
        simp only [Sum.isLeft_inl, true_iff]
        refine List.ext_getElem? fun j => ?_
        by_cases hj : j < rr.length
        · exact hinv j hj
        · rw [List.getElem?_eq_none (by omega), List.getElem?_eq_none (by omega)]
    rw [h1, Option.bind_some]
    cases r with
    | inl y => exact ⟨true, rfl, by simpa using h2⟩
    | inr y => exact ⟨false, rfl, by simpa using h2⟩
  · have e : neI (lenL (rr.map (cell y h))) (lenL (cur.map (cell f hh))) = true := by
      rw [neI_iff, lenL_eq, lenL_eq, List.length_map, List.length_map]
      have : ¬ (rr.length : Int) = cur.length := by omega
      simp [this]
    rw [e]
    exact ⟨false, rfl, by simp only [Bool.false_eq_true, false_iff]; intro h; exact hlen (by rw [h])⟩
theorem grown_ok (h : Int → Int → Option Bool) (z0 : ((List Int) × (List Int) × (List S63) × (List S63) × Int)) (y46 : (Int × Bool × (List Int) × (List Int) × (List S63) × (List S63) × (List S63))) (xs ys : List Int) (out : List S63) (cur : List S266) (y h1 f hh : Int)
    (hl : cur.length ≤ 1000000) (hlast : y46.2.2.2.2.2.1 = cur.map (cell f hh)) :
    ∃ r, iter (G19 h z0 y46) (xs, ys, out, cur.map (cell f hh), cur.map (cell y h1), 0) = some r ∧ r.2.2 = (xs, ys, out, cur.map (cell f (addI .i64 hh h1)), cur.map (cell y h1)) := by
  refine iter_up (st := G19 h z0 y46) (fun (l : List S63) i => (xs, ys, out, l, cur.map (cell y h1), (i : Int))) cur.length (fun i l => l.length = cur.length ∧ ∀ j a, cur[j]? = some a → l[j]? = some (cell f (if j < i then addI .i64 hh h1 else hh) a))
    (fun r => r.2.2 = (xs, ys, out, cur.map (cell f (addI .i64 hh h1)), cur.map (cell y h1))) ?_ ?_ (cur.map (cell f hh)) ⟨by simp, fun j a ha => by rw [List.getElem?_map, ha]; rfl⟩
  · intro i l hi ⟨h2, h3⟩
    obtain ⟨a, ha⟩ : ∃ r, cur[i]? = some r := ⟨_, List.getElem?_eq_getElem hi⟩
    have g1 := h3 i a ha
    rw [if_neg (Nat.lt_irrefl i)] at g1
    have g2 : (cur.map (cell y h1))[i]? = some (cell y h1 a) := by rw [List.getElem?_map, ha]; rfl
    have hlt : i < (cur.map (cell f hh)).length := by rw [List.length_map]; exact hi
    have hlt1 : i < l.length := by omega
    have hlt2 : i < (cur.map (cell y h1)).length := by rw [List.length_map]; exact hi
    simp only [G19, hlast, ltL_true hlt, idx_nat hlt1, idx_nat hlt2, getN_some g1, getN_some g2, cond_true, Option.bind_some, nextI (show i < 9223372036854775807 by omega)]
    refine ⟨_, rfl, by simp [h2], fun j b hb => ?_⟩
    rw [List.getElem?_set]
    by_cases e : i = j
    · subst e
      rw [ha] at hb
      cases hb
      rw [if_pos rfl, if_pos hlt1, if_pos (by omega)]
      rfl
    · rw [if_neg e, h3 j b hb]
      have : (j < i) ↔ (j < i + 1) := by omega
      simp only [this]
  · intro l ⟨h2, h3⟩
    have hlt : ltI (cur.length : Int) (lenL (cur.map (cell f hh))) = false := ltL_false (by rw [List.length_map]; exact Nat.le_refl _)
    simp only [G19, hlast, hlt, cond_false]
    refine ⟨_, rfl, ?_⟩
    have : l = cur.map (cell f (addI .i64 hh h1)) := by
      refine List.ext_getElem? fun j => ?_
      by_cases hj : j < cur.length
      · obtain ⟨a, ha⟩ : ∃ r, cur[j]? = some r := ⟨_, List.getElem?_eq_getElem hj⟩
        rw [h3 j a ha, if_pos hj, List.getElem?_map, ha]
        rfl
      · rw [List.getElem?_eq_none (by omega), List.getElem?_eq_none (by simp; omega)]
    rw [this]
theorem emit_ok {st : ((List Int) × (List S63) × Int) → Option (((List Int) × (List S63) × Int) ⊕ (Int × Bool × (List Int) × (List S63)))} (ys : List Int) (cur : List S266) (f h : Int) (out : List S63) (hout : out.length ≤ 1900000000000) (hcur : cur.length ≤ 1000000)
    (h1 : ∀ (s : List S63) (i : Nat) a, i < cur.length → cur[i]? = some a → st (ys, s, (i : Int)) = (appO 32 s [cell f h a]).bind fun x => some (.inl (ys, x, ((i + 1 : Nat) : Int)))) (h2 : ∀ s, st (ys, s, (cur.length : Int)) = some (.inr ((cur.length : Int), false, ys, s))) :
    ∃ r, iter st (ys, out, 0) = some r ∧ r.2.2 = (ys, out ++ cur.map (cell f h)) := by
  refine iter_up (st := st) (fun (s : List S63) i => (ys, s, (i : Int))) cur.length (fun i s => s = out ++ (cur.take i).map (cell f h)) (fun r => r.2.2 = (ys, out ++ cur.map (cell f h))) ?_ ?_ out (by simp)
  · intro i s hi hs
    obtain ⟨a, ha⟩ : ∃ r, cur[i]? = some r := ⟨_, List.getElem?_eq_getElem hi⟩
    have hlen : s.length ≤ 1900001000000 := by rw [hs, List.length_append, List.length_map, List.length_take]; omega
    refine ⟨s ++ [cell f h a], ?_, ?_⟩
    · rw [h1 s i a hi ha, appO_big (by omega) (by simp only [List.length_cons, List.length_nil]; omega)]
      rfl
    · rw [hs, take_next ha, List.map_append, List.append_assoc]
      rfl
  · intro s hs
    refine ⟨_, h2 s, ?_⟩
    rw [hs, List.take_length]
end Go.Abs.TR
