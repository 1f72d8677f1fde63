import Derived.Test.YtnaibaifmnjpnaaCTCPlain4
set_option linter.unusedVariables false
set_option linter.unusedSimpArgs false
namespace Go.Abs.TC
open Go.RowKit
abbrev Y53 := (Int × Int × Int × Bool × List S24 × ByteArray × Int × Int) ⊕ ((Int × Int × Bool × List S24) ⊕ Unit)
def e3 (y : Y53) : Int ⊕ Unit := Sum.elim (fun a => .inl a.1) (fun b => Sum.elim (fun c => .inl c.1) (fun _ => .inr ()) b) y
def tgt (n at_ : Int) : List S24 → Int ⊕ Unit
  | [] => .inl at_
  | p :: rest => if n < p.f2 then .inl at_ else seg n p rest
theorem L53_run (gl : List S24) (I : Inc gl) {n : Int} (hn : 0 ≤ n ∧ n ≤ 345686399999) : ∀ (d i : Nat) (at_ : Int), gl.length - i = d → i ≤ gl.length → ∃ y : Y53, iter (L53_6 n gl) (gl, at_, (i : Int)) = some y ∧ e3 y = tgt n at_ (gl.drop i) := by
  have hI := I.len
  intro d
  induction d with
  | zero =>
    intro i at_ hd hi
    have : i = gl.length := by omega
    subst this
    have h1 : ltI (gl.length : Int) (lenL gl) = false := by rw [ltI_iff, lenL_eq]; simp
    have hst : L53_6 n gl (gl, at_, (gl.length : Int)) = some (.inr (.inr (.inl (at_, (gl.length : Int), false, gl)))) := by simp only [L53_6, h1, cond_false]
    exact ⟨_, iter_stop hst, by simp [e3, tgt]⟩
  | succ d ih =>
    intro i at_ hd hi
    have hlt : i < gl.length := by omega
    have h1 : ltI (i : Int) (lenL gl) = true := by rw [ltI_iff, lenL_eq]; simpa using hlt
    have h2 : addI .i64 (i : Int) 1 = ((i + 1 : Nat) : Int) := by rw [addI_eq (by omega) (by omega)]; omega
    have hx := List.getElem?_eq_getElem hlt
    have hdrop : gl.drop i = gl[i] :: gl.drop (i + 1) := List.drop_eq_getElem_cons hlt
    rw [hdrop]
    generalize gl[i] = P at hx
    have hP := I.get hx
    have hidx := idxO_nat hlt
    have hget : getN gl i = some P := hx
    by_cases hc : n < P.f2
    · have h3 : ltI n P.f2 = true := by rw [ltI_iff]; simpa using hc
      have hst : L53_6 n gl (gl, at_, (i : Int)) = some (.inr (.inl (at_, (i : Int), (i : Int), true, gl, P.f0, P.f1, P.f2))) := by
        simp only [L53_6, h1, cond_true, hidx, Option.bind_some, hget, h3]
      refine ⟨_, iter_stop hst, ?_⟩
      simp only [e3, tgt, Sum.elim_inl]
      rw [if_pos hc]
    · have h3 : ltI n P.f2 = false := by rw [ltI_iff]; simpa using hc
      have e1 : addI .i64 P.f1 n = P.f1 + n := addI_eq (by omega) (by omega)
      have e2 : subI .i64 (P.f1 + n) P.f2 = P.f1 + n - P.f2 := subI_eq (by omega) (by omega)
      have ht : tgt n at_ (P :: gl.drop (i + 1)) = seg n P (gl.drop (i + 1)) := by
        simp only [tgt]
        rw [if_neg hc]
      rw [ht]
      by_cases hend : i + 1 = gl.length
      · have h4 : eqI ((i + 1 : Nat) : Int) (lenL gl) = true := by rw [eqI_iff, lenL_eq, hend]; simp
        have hst : L53_6 n gl (gl, at_, (i : Int)) = some (.inl (gl, P.f1 + n - P.f2, ((i + 1 : Nat) : Int))) := by
          simp only [L53_6, h1, cond_true, hidx, Option.bind_some, hget, h3, cond_false, h2, h4, e1, e2]
        obtain ⟨y, h5, h6⟩ := ih (i + 1) (P.f1 + n - P.f2) (by omega) (by omega)
        refine ⟨y, (iter_next hst).trans h5, ?_⟩
        rw [h6, List.drop_of_length_le (by omega)]
        rfl
      · have h4 : eqI ((i + 1 : Nat) : Int) (lenL gl) = false := by
          rw [eqI_iff, lenL_eq]
          simp only [decide_eq_false_iff_not]
          omega
        have hlt2 : i + 1 < gl.length := by omega
        have hx2 := List.getElem?_eq_getElem hlt2
        have hdrop2 : gl.drop (i + 1) = gl[i + 1] :: gl.drop (i + 1 + 1) := List.drop_eq_getElem_cons hlt2
        rw [hdrop2]
        have ih2 := ih (i + 1)
        rw [hdrop2] at ih2
        generalize gl[i + 1] = Q at hx2 ih2
        have hQ := I.get hx2
        have hPQ := I.lt (by omega : i < i + 1) hx hx2
        have hidx2 := idxO_nat hlt2
        have hget2 : getN gl (i + 1) = some Q := hx2
        by_cases hq : Q.f2 ≤ n
        · have h7 : leI Q.f2 n = true := by rw [leI_iff]; simpa using hq
          have hst : L53_6 n gl (gl, at_, (i : Int)) = some (.inl (gl, P.f1 + n - P.f2, ((i + 1 : Nat) : Int))) := by
            simp only [L53_6, h1, cond_true, hidx, Option.bind_some, hget, h3, cond_false, h2, h4, hidx2, hget2, h7, e1, e2]
          obtain ⟨y, h5, h6⟩ := ih2 (P.f1 + n - P.f2) (by omega) (by omega)
          refine ⟨y, (iter_next hst).trans h5, ?_⟩
          rw [h6]
          simp only [tgt, seg]
          rw [if_neg (by omega), if_pos hq]
        · have h7 : leI Q.f2 n = false := by rw [leI_iff]; simpa using hq
          have e4 : subI .i64 Q.f2 P.f2 = Q.f2 - P.f2 := subI_eq (by omega) (by omega)
          have e5 : subI .i64 Q.f1 P.f1 = Q.f1 - P.f1 := subI_eq (by omega) (by omega)
          have e6 : subI .i64 n P.f2 = n - P.f2 := subI_eq (by omega) (by omega)
          have hsg : seg n P (Q :: gl.drop (i + 1 + 1)) = if far P Q = true then .inr () else .inl (P.f1 + ((n - P.f2) * (Q.f1 - P.f1)).tdiv (Q.f2 - P.f2)) := by
            simp only [seg]
            rw [if_neg hq]
          rw [hsg]
          rcases Bool.eq_false_or_eq_true (ltI 2592000000 (Q.f1 - P.f1)) with h9 | h9
          · have hst : L53_6 n gl (gl, at_, (i : Int)) = some (.inr (.inr (.inr ()))) := by
              simp only [L53_6, h1, cond_true, hidx, Option.bind_some, hget, h3, cond_false, h2, h4, hidx2, hget2, h7, e5, h9]
            refine ⟨_, iter_stop hst, ?_⟩
            simp only [far, h9, Bool.true_or, if_true]
            rfl
          · rcases Bool.eq_false_or_eq_true (ltI 2592000000 (Q.f2 - P.f2)) with h10 | h10
            · have hst : L53_6 n gl (gl, at_, (i : Int)) = some (.inr (.inr (.inr ()))) := by
                simp only [L53_6, h1, cond_true, hidx, Option.bind_some, hget, h3, cond_false, h2, h4, hidx2, hget2, h7, e5, h9, e4, h10]
              refine ⟨_, iter_stop hst, ?_⟩
              simp only [far, h9, h10, Bool.false_or, if_true]
              rfl
            · have h9' := h9
              have h10' := h10
              rw [ltI_iff] at h9' h10'
              simp only [decide_eq_false_iff_not] at h9' h10'
              obtain ⟨m1, m2, m3, m4⟩ := interp (a := n - P.f2) (b := Q.f1 - P.f1) (c := Q.f2 - P.f2) ⟨by omega, by omega⟩ ⟨by omega, by omega⟩ (by omega)
              have e7 : addI .i64 P.f1 (((n - P.f2) * (Q.f1 - P.f1)).tdiv (Q.f2 - P.f2)) = P.f1 + ((n - P.f2) * (Q.f1 - P.f1)).tdiv (Q.f2 - P.f2) := addI_eq (by omega) (by omega)
              have hst : L53_6 n gl (gl, at_, (i : Int)) = some (.inl (gl, P.f1 + ((n - P.f2) * (Q.f1 - P.f1)).tdiv (Q.f2 - P.f2), ((i + 1 : Nat) : Int))) := by
                simp only [L53_6, h1, cond_true, hidx, Option.bind_some, hget, h3, cond_false, h2, h4, hidx2, hget2, h7, e5, h9, e4, h10, e6, m1, m2, e7]
              obtain ⟨y, h5, h6⟩ := ih2 (P.f1 + ((n - P.f2) * (Q.f1 - P.f1)).tdiv (Q.f2 - P.f2)) (by omega) (by omega)
              refine ⟨y, (iter_next hst).trans h5, ?_⟩
              rw [h6]
              simp only [far, h9, h10, Bool.or_false, Bool.false_eq_true, if_false, tgt]
              rw [if_pos (by omega)]
def code (gl : List S24) (n : Int) : Int × Int := match gl with
  | [] => (0, 8)
  | a :: rest => fin (val n (a :: rest))
theorem T53_eq (l : List S24) (p : ByteArray) (n : Int) (hl : l.length ≤ 1048576) (I : Inc (own l p)) (hn : 0 ≤ n ∧ n ≤ 345686399999) : T53 l p n = some (code (own l p) n) := by
  have hI := I.len
  unfold T53
  rw [T144_eq l p hl, Option.bind_some]
  generalize own l p = gl at I hI
  match gl, I, hI with
  | [], _, _ => rfl
  | a :: rest, I, hI =>
    have h0 : eqI (lenL (a :: rest)) 0 = false := by rw [eqI_iff, lenL_eq]; simp; omega
    have h1 : idxO (List.length (a :: rest)) 0 = some 0 := rfl
    have h2 : getN (a :: rest) 0 = some a := rfl
    have ha := I.get (i := 0) (x := a) rfl
    have e1 : addI .i64 a.f1 n = a.f1 + n := addI_eq (by omega) (by omega)
    have e2 : subI .i64 (a.f1 + n) a.f2 = a.f1 + n - a.f2 := subI_eq (by omega) (by omega)
    obtain ⟨y, h3, h4⟩ := L53_run (a :: rest) I hn _ 0 (a.f1 + n - a.f2) rfl (Nat.zero_le _)
    have h3' : iter (L53_6 n (a :: rest)) (a :: rest, a.f1 + n - a.f2, 0) = some y := h3
    simp only [h0, cond_false, h1, h2, Option.bind_some, e1, e2, h3']
    have hv : tgt n (a.f1 + n - a.f2) (a :: rest) = val n (a :: rest) := rfl
    rw [List.drop_zero, hv] at h4
    show _ = some (fin (val n (a :: rest)))
    rw [← h4]
    rcases y with y | y | y
    · simp only [Sum.elim_inl, T140_eq, Option.bind_some, fin, e3]; cases mom y.1 <;> rfl
    · simp only [Sum.elim_inl, Sum.elim_inr, T140_eq, Option.bind_some, fin, e3]; cases mom y.1 <;> rfl
    · rfl
theorem T220_code (gl : List S24) (I : Inc gl) {n : Int} (hn : 0 ≤ n ∧ n ≤ 345686399999) : T220 (gl.map fwd) n = some (code gl n) := by
  match gl, I with
  | [], _ => rfl
  | a :: rest, I => exact T220_eq (a :: rest) I (by simp) hn
theorem inc_own {l : List S24} (h : beatsF l = 0) (p : ByteArray) : Inc (own l p) := by
  obtain ⟨h1, h2, h3⟩ := beatsF_ok h
  have hm : ∀ x ∈ own l p, x ∈ l ∧ x.f0 = p := fun x hx => by
    obtain ⟨h4, h5⟩ := List.mem_filter.1 hx
    refine ⟨h4, ?_⟩
    unfold mine at h5
    rw [eqS_iff] at h5
    simpa using h5
  refine ⟨Nat.le_trans (own_len l p) h1, fun x hx => mom_iff.1 (h2 x (hm x hx).1).1, fun x hx => mom_iff.1 (h2 x (hm x hx).1).2, ?_⟩
  have hs : (own l p).Pairwise Aft := List.Pairwise.sublist List.filter_sublist h3
  refine List.Pairwise.imp_of_mem ?_ hs
  intro a b ha hb hab
  rcases hab with hab | hab
  · rw [(hm a ha).2, (hm b hb).2, ltS_irrefl] at hab
    cases hab
  · exact hab.2
theorem inc_swp {l : List S24} (I : Inc l) : Inc (l.map swp) := by
  refine ⟨by rw [List.length_map]; exact I.len, fun x hx => ?_, fun x hx => ?_, ?_⟩
  · obtain ⟨y, hy, rfl⟩ := List.mem_map.1 hx
    exact I.m2 y hy
  · obtain ⟨y, hy, rfl⟩ := List.mem_map.1 hx
    exact I.m1 y hy
  · rw [List.pairwise_map]
    exact I.up.imp fun h => ⟨h.2, h.1⟩
end Go.Abs.TC
