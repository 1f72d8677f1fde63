import Derived.Test.YtnaibaifmnjpnaaCTCPlain3
set_option linter.unusedVariables false
set_option linter.unusedSimpArgs false
namespace Go.Abs.TC
open Go.RowKit
/-! What belongs to a number by beats. -/
def far (p q : S24) : Bool := ltI 2592000000 (q.f1 - p.f1) || ltI 2592000000 (q.f2 - p.f2)
def seg (n : Int) : S24 → List S24 → Int ⊕ Unit
  | p, [] => .inl (p.f1 + n - p.f2)
  | p, q :: rest => if q.f2 ≤ n then seg n q rest else if far p q = true then .inr () else .inl (p.f1 + ((n - p.f2) * (q.f1 - p.f1)).tdiv (q.f2 - p.f2))
def val (n : Int) : List S24 → Int ⊕ Unit
  | [] => .inr ()
  | p :: rest => if n < p.f2 then .inl (p.f1 + n - p.f2) else seg n p rest
def fin (v : Int ⊕ Unit) : Int × Int := Sum.elim (fun y => bif !mom y then (0, 11) else (y, 0)) (fun _ => (0, 2)) v
structure Inc (l : List S24) : Prop where
  len : l.length ≤ 500
  m1 : ∀ x ∈ l, 0 ≤ x.f1 ∧ x.f1 ≤ 345686399999
  m2 : ∀ x ∈ l, 0 ≤ x.f2 ∧ x.f2 ≤ 345686399999
  up : l.Pairwise fun a b => a.f1 < b.f1 ∧ a.f2 < b.f2
theorem interp {a b c : Int} (ha : 0 ≤ a ∧ a ≤ 2592000000) (hb : 0 ≤ b ∧ b ≤ 2592000000) (hc : 0 < c) : mulI .i64 a b = a * b ∧ quoO .i64 (a * b) c = some ((a * b).tdiv c) ∧ 0 ≤ (a * b).tdiv c ∧ (a * b).tdiv c ≤ 6718464000000000000 := by
  have h1 : 0 ≤ a * b := Int.mul_nonneg ha.1 hb.1
  have h2 : a * b ≤ 2592000000 * 2592000000 := Int.mul_le_mul ha.2 hb.2 hb.1 (by decide)
  have h3 : (a * b).tdiv c = a * b / c := Int.tdiv_eq_ediv_of_nonneg h1
  have h4 : 0 ≤ a * b / c := Int.ediv_nonneg h1 (by omega)
  have h5 : a * b / c ≤ a * b := Int.ediv_le_self _ h1
  have h6 : (2592000000 * 2592000000 : Int) = 6718464000000000000 := by decide
  refine ⟨mulI_eq (by omega) (by omega), ?_, by omega, by omega⟩
  unfold quoO
  rw [if_neg (by omega), h3]
  congr 1
  exact IntWalk.i64_in _ ⟨by omega, by omega⟩
theorem seg_at (n : Int) : ∀ (rest : List S24) (p : S24) (k : Nat) (P : S24), (∀ j x, j < k → rest[j]? = some x → x.f2 ≤ n) → (p :: rest)[k]? = some P →
    (k = rest.length → seg n p rest = .inl (P.f1 + n - P.f2)) ∧ ∀ Q, rest[k]? = some Q → n < Q.f2 → seg n p rest = if far P Q = true then .inr () else .inl (P.f1 + ((n - P.f2) * (Q.f1 - P.f1)).tdiv (Q.f2 - P.f2))
  | [], p, k, P, hk, hP => by
    cases k with
    | zero =>
      simp only [List.getElem?_cons_zero, Option.some.injEq] at hP
      subst hP
      exact ⟨fun _ => rfl, fun Q hQ => by simp at hQ⟩
    | succ k => simp at hP
  | q :: rest, p, k, P, hk, hP => by
    cases k with
    | zero =>
      simp only [List.getElem?_cons_zero, Option.some.injEq] at hP
      subst hP
      refine ⟨fun h => by simp at h, fun Q hQ hlt => ?_⟩
      simp only [List.getElem?_cons_zero, Option.some.injEq] at hQ
      subst hQ
      simp only [seg]
      rw [if_neg (by omega)]
    | succ k =>
      have hq : q.f2 ≤ n := hk 0 q (by omega) rfl
      have ih := seg_at n rest q k P (fun j x hj hx => hk (j + 1) x (by omega) (by simpa using hx)) (by simpa using hP)
      simp only [seg]
      rw [if_pos hq]
      exact ⟨fun h => ih.1 (by simpa using h), fun Q hQ => ih.2 Q (by simpa using hQ)⟩
theorem Inc.get {l : List S24} (I : Inc l) {i : Nat} {x : S24} (h : l[i]? = some x) : (0 ≤ x.f1 ∧ x.f1 ≤ 345686399999) ∧ (0 ≤ x.f2 ∧ x.f2 ≤ 345686399999) := ⟨I.m1 x (List.mem_of_getElem? h), I.m2 x (List.mem_of_getElem? h)⟩
theorem Inc.lt {l : List S24} (I : Inc l) {i j : Nat} {x y : S24} (hij : i < j) (hx : l[i]? = some x) (hy : l[j]? = some y) : x.f1 < y.f1 ∧ x.f2 < y.f2 := by
  obtain ⟨h1, rfl⟩ := List.getElem?_eq_some_iff.1 hx
  obtain ⟨h2, rfl⟩ := List.getElem?_eq_some_iff.1 hy
  exact List.pairwise_iff_getElem.1 I.up i j h1 h2 hij
theorem T220_eq (gl : List S24) (I : Inc gl) (hne : gl ≠ []) {n : Int} (hn : 0 ≤ n ∧ n ≤ 345686399999) : T220 (gl.map fwd) n = some (fin (val n gl)) := by
  have hI := I.len
  have hl0 : 0 < gl.length := List.length_pos_iff.2 hne
  have hloop : ∃ r, iter (L220_4 (gl.map fwd) n) ((0 : Nat) : Int) = some r ∧ ∃ k : Nat, r.1 = (k : Int) ∧ k ≤ gl.length ∧ (∀ j x, j < k → gl[j]? = some x → x.f2 ≤ n) ∧ ∀ x, gl[k]? = some x → n < x.f2 := by
    refine iter_meas (fun z => ∃ k : Nat, z = (k : Int) ∧ k ≤ gl.length ∧ ∀ j x, j < k → gl[j]? = some x → x.f2 ≤ n) (fun z => (gl.length - z).toNat) _ ?_ _ ⟨0, rfl, Nat.zero_le _, fun j x hj => by omega⟩
    rintro _ ⟨k, rfl, hk, hall⟩
    by_cases hlt : k < gl.length
    · have h1 : ltI (k : Int) (lenL (gl.map fwd)) = true := by rw [ltI_iff, lenL_eq, List.length_map]; simpa using hlt
      have h2 : addI .i64 (k : Int) 1 = ((k + 1 : Nat) : Int) := by rw [addI_eq (by omega) (by omega)]; omega
      have hx := List.getElem?_eq_getElem hlt
      have hx2 : (gl.map fwd)[k]? = some (fwd gl[k]) := by rw [List.getElem?_map, hx]; rfl
      by_cases hc : (gl[k]).f2 ≤ n
      · left
        have h3 : leI (fwd gl[k]).f0 n = true := decide_eq_true hc
        refine ⟨((k + 1 : Nat) : Int), by simp only [L220_4, h1, cond_true, listAt_some hx2, Option.bind_some, h3, h2], ⟨k + 1, rfl, by omega, fun j x hj hjx => ?_⟩, by omega⟩
        rcases Nat.lt_or_ge j k with h4 | h4
        · exact hall j x h4 hjx
        · have : j = k := by omega
          subst this
          rw [hx] at hjx
          cases hjx
          exact hc
      · right
        have h3 : leI (fwd gl[k]).f0 n = false := decide_eq_false hc
        refine ⟨((k : Int), false), by simp only [L220_4, h1, cond_true, listAt_some hx2, Option.bind_some, h3, cond_false], k, rfl, hk, hall, fun x hx3 => ?_⟩
        rw [hx] at hx3
        cases hx3
        omega
    · right
      have h1 : ltI (k : Int) (lenL (gl.map fwd)) = false := by rw [ltI_iff, lenL_eq, List.length_map]; simp; omega
      refine ⟨((k : Int), false), by simp only [L220_4, h1, cond_false], k, rfl, hk, hall, fun x hx3 => ?_⟩
      have := (List.getElem?_eq_some_iff.1 hx3).1
      omega
  obtain ⟨r, h1, k, h2, hk, hall, hnext⟩ := hloop
  have hL : eqI (lenL (gl.map fwd)) 0 = false := by rw [eqI_iff, lenL_eq, List.length_map]; simp; omega
  have post : ∀ v : Int ⊕ Unit, (Sum.elim (fun y10a => ((T141 y10a).bind fun x11 => (bif (!x11) then (some ((0 : Int), (11 : Int))) else (some (y10a, 0))))) (fun y10b => (some (0, 2))) v) = some (fin v) := by
    intro v
    cases v with
    | inl y => simp only [Sum.elim_inl, T141_eq, Option.bind_some, fin]; cases mom y <;> rfl
    | inr u => rfl
  unfold T220
  rw [hL, cond_false, show (0 : Int) = ((0 : Nat) : Int) from rfl, h1, Option.bind_some, h2]
  have hat : ∀ (i : Nat) (x : S24), gl[i]? = some x → listAt (gl.map fwd) (i : Int) = some (fwd x) := fun i x hx => listAt_some (by rw [List.getElem?_map, hx]; rfl)
  match gl, hne, I, hl0, hk, hall, hnext, hat, hI with
  | a :: rest, _, I, _, hk, hall, hnext, hat, hI =>
  cases k with
  | zero =>
    have h3 : eqI ((0 : Nat) : Int) ((0 : Nat) : Int) = true := rfl
    have h4 := hat 0 a rfl
    have ha := I.get (i := 0) (x := a) rfl
    have hlt : n < a.f2 := hnext a rfl
    have e1 : subI .i64 a.f2 n = a.f2 - n := subI_eq (by omega) (by omega)
    have e2 : subI .i64 a.f1 (a.f2 - n) = a.f1 - (a.f2 - n) := subI_eq (by omega) (by omega)
    simp only [h3, cond_true, h4, Option.bind_some, fwd, e1, e2]
    have e3 : val n (a :: rest) = .inl (a.f1 - (a.f2 - n)) := by
      simp only [val]
      rw [if_pos hlt]
      congr 1
      omega
    rw [e3]
    exact post _
  | succ k =>
    have h3 : eqI ((k + 1 : Nat) : Int) ((0 : Nat) : Int) = false := by rw [eqI_iff]; simp; omega
    have h5 : subI .i64 ((k + 1 : Nat) : Int) 1 = (k : Int) := by rw [subI_eq (by omega) (by omega)]; omega
    have ha2 : a.f2 ≤ n := hall 0 a (by omega) rfl
    have hv : val n (a :: rest) = seg n a rest := by
      simp only [val]
      rw [if_neg (by omega)]
    have hkl : k < (a :: rest).length := by omega
    have hP := List.getElem?_eq_getElem hkl
    generalize (a :: rest)[k] = P at hP
    have hPv := I.get hP
    have hPn : P.f2 ≤ n := hall k P (by omega) hP
    have hsg := seg_at n rest a k P (fun j x hj hx => hall (j + 1) x (by omega) (by simpa using hx)) hP
    have h6 := hat k P hP
    rw [hv]
    simp only [h3, cond_false, h5, h6, Option.bind_some]
    by_cases hkk : k + 1 = (a :: rest).length
    · have h7 : eqI ((k + 1 : Nat) : Int) (lenL ((a :: rest).map fwd)) = true := by rw [eqI_iff, lenL_eq, List.length_map, hkk]; simp
      have e1 : addI .i64 P.f1 n = P.f1 + n := addI_eq (by omega) (by omega)
      have e2 : subI .i64 (P.f1 + n) P.f2 = P.f1 + n - P.f2 := subI_eq (by omega) (by omega)
      rw [hsg.1 (by simpa using hkk)]
      simp only [h7, cond_true, fwd, e1, e2, Option.bind_some]
      exact post _
    · have h7 : eqI ((k + 1 : Nat) : Int) (lenL ((a :: rest).map fwd)) = false := by
        rw [eqI_iff, lenL_eq, List.length_map]
        simp only [decide_eq_false_iff_not]
        omega
      have hkl2 : k + 1 < (a :: rest).length := by omega
      have hQ := List.getElem?_eq_getElem hkl2
      generalize (a :: rest)[k + 1] = Q at hQ
      have hQv := I.get hQ
      have hQn : n < Q.f2 := hnext Q hQ
      have hPQ := I.lt (by omega : k < k + 1) hP hQ
      have h8 := hat (k + 1) Q hQ
      rw [hsg.2 Q (by simpa using hQ) hQn]
      have e1 : subI .i64 Q.f2 P.f2 = Q.f2 - P.f2 := subI_eq (by omega) (by omega)
      have e2 : subI .i64 Q.f1 P.f1 = Q.f1 - P.f1 := subI_eq (by omega) (by omega)
      have e3 : subI .i64 n P.f2 = n - P.f2 := subI_eq (by omega) (by omega)
      simp only [h7, cond_false, h8, Option.bind_some, fwd, e1, e2, e3, far]
      rcases Bool.eq_false_or_eq_true (ltI 2592000000 (Q.f2 - P.f2)) with h9 | h9
      · simp only [h9, cond_true, Bool.or_true, if_true, Option.bind_some]; exact post _
      · rcases Bool.eq_false_or_eq_true (ltI 2592000000 (Q.f1 - P.f1)) with h10 | h10
        · simp only [h9, h10, cond_true, cond_false, Bool.or_false, Bool.true_or, if_true, Option.bind_some]; exact post _
        · have h9' := h9
          have h10' := h10
          rw [ltI_iff] at h9' h10'
          simp only [decide_eq_false_iff_not] at h9' h10'
          obtain ⟨m1, m2, m3, m4⟩ := interp (a := n - P.f2) (b := Q.f1 - P.f1) (c := Q.f2 - P.f2) ⟨by omega, by omega⟩ ⟨by omega, by omega⟩ (by omega)
          have e4 : addI .i64 P.f1 (((n - P.f2) * (Q.f1 - P.f1)).tdiv (Q.f2 - P.f2)) = P.f1 + ((n - P.f2) * (Q.f1 - P.f1)).tdiv (Q.f2 - P.f2) := addI_eq (by omega) (by omega)
          simp only [h9, h10, cond_false, m1, m2, Option.bind_some, e4, Bool.or_false, Bool.false_eq_true, if_false]
          exact post _
end Go.Abs.TC
