import Derived.Test.YtnaibaifmnjpnaaETEPlain3
set_option linter.unusedVariables false
set_option linter.unusedSimpArgs false
namespace Go.Abs.TE
open Go.RowKit
/-! The times of an entry in a window. -/
def cutW (w t : S38) : S38 := ⟨max t.f0 w.f0, min t.f1 w.f1⟩
def hit (w t : S38) : Bool := ltI (max t.f0 w.f0) (min t.f1 w.f1)
def dayG (e : S105) (off : Int) (w : S38) (d : Int) : Option S38 := bif !e.f12 && (dayB e d && hit w (timeS e off d)) then some (cutW w (timeS e off d)) else none
def timesL (e : S105) (off : Int) (w : S38) : List S38 := coll (dayG e off w) e.f3 (e.f4 + 1 - e.f3).toNat
structure FineW (w : S38) : Prop where
  pos : 0 ≤ w.f0
  ord : w.f0 ≤ w.f1
  top : w.f1 ≤ 345686400000
theorem spanF_ok {w : S38} (h : spanF w = 0) : FineW w := by
  unfold spanF at h
  cases h0 : outB w.f0 0 w.f1 <;> rw [h0] at h; rotate_left; · cases h
  cases h1 : ltI 345686400000 w.f1 <;> rw [h1] at h; rotate_left; · cases h
  have := outB_false h0
  rw [ltI_iff] at h1
  simp only [decide_eq_false_iff_not] at h1
  exact ⟨this.1, this.2, by omega⟩
theorem T77_eq {e : S105} (F : Fine e) {off : Int} (ho : -1440 ≤ off ∧ off ≤ 1440) (w : S38) : T77 e off w = some (timesL e off w) := by
  have hs := F.span
  have hst : ∀ (s : List S38) (d : Int), e.f3 ≤ d → d ≤ e.f4 → s.length ≤ 4001 → L77_3 e off w (s, d) = some (.inl (s ++ (dayG e off w d).toList, d + 1)) := fun s d h1 h2 hl => by
    have h3 : leI d e.f4 = true := by rw [leI_iff]; simpa using h2
    have h4 : addI .i64 d 1 = d + 1 := addI_eq (by omega) (by omega)
    have h5 : ∀ x : S38, appO 16 s [x] = some (s ++ [x]) := fun x => appO_eq (by simp; omega) (by simp; omega)
    simp only [L77_3, h3, cond_true, T163_eq F ho (d := d) ⟨by omega, by omega⟩, T164_eq F (d := d) ⟨by omega, by omega⟩, Option.bind_some, maxI_eq, minI_eq, h4, h5, dayG, hit, cutW]
    cases e.f12; rotate_left; · simp
    cases dayB e d; · simp
    cases ltI (max (timeS e off d).f0 w.f0) (min (timeS e off d).f1 w.f1) <;> simp
  have hen : ∀ (s : List S38) (d : Int), e.f4 < d → ∃ x y, L77_3 e off w (s, d) = some (.inr (x, y, s)) := fun s d h1 => by
    have h3 : leI d e.f4 = false := by rw [leI_iff]; simp only [decide_eq_false_iff_not]; omega
    exact ⟨d, false, by simp only [L77_3, h3, cond_false]⟩
  obtain ⟨x, y, h⟩ := iter_days (dayG e off w) e.f3 e.f4 hst hen _ e.f3 [] (Int.le_refl _) rfl (by simp only [List.length_nil]; omega)
  unfold T77
  rw [h]
  rfl
theorem quo_spec (x : Int) (h : -1000000000000 ≤ x ∧ x ≤ 1000000000000) : ∃ q : Int, quoI .i64 x 86400000 = q ∧ (q - 1) * 86400000 ≤ x ∧ x < (q + 1) * 86400000 ∧ -100000 ≤ q ∧ q ≤ 100000 := by
  have key : ∃ q : Int, x.tdiv 86400000 = q ∧ (q - 1) * 86400000 ≤ x ∧ x < (q + 1) * 86400000 ∧ -100000 ≤ q ∧ q ≤ 100000 := by
    rcases Int.le_total 0 x with h1 | h1
    · refine ⟨x / 86400000, Int.tdiv_eq_ediv_of_nonneg h1, ?_⟩
      omega
    · refine ⟨-((-x) / 86400000), ?_, ?_⟩
      · rw [← Int.tdiv_eq_ediv_of_nonneg (by omega : 0 ≤ -x), Int.neg_tdiv, Int.neg_neg]
      · omega
  obtain ⟨q, h1, h2⟩ := key
  refine ⟨q, ?_, h2⟩
  unfold quoI
  rw [h1]
  exact IntWalk.i64_in _ ⟨by omega, by omega⟩
def rawG (e : S105) (off : Int) (w : S38) (d : Int) : Option S38 := bif dayB e d && (ltI (timeS e off d).f0 w.f1 && ltI w.f0 (timeS e off d).f1) then some (timeS e off d) else none
theorem hit_eq {e : S105} (F : Fine e) {w : S38} (hw : w.f0 < w.f1) (off d : Int) : hit w (timeS e off d) = (ltI (timeS e off d).f0 w.f1 && ltI w.f0 (timeS e off d).f1) := by
  have h := (timeS_span F off d).1
  unfold hit
  rw [ltI_iff, ltI_iff, ltI_iff, Bool.eq_iff_iff]
  simp only [Bool.and_eq_true, decide_eq_true_eq]
  omega
theorem T158_eq {e : S105} (F : Fine e) {off : Int} (ho : -1440 ≤ off ∧ off ≤ 1440) {w : S38} (W : FineW w) : ∃ l, T158 e off w = some l ∧ l.length ≤ 4001 ∧ l.map (cutW w) = timesL e off w := by
  have hs := F.span
  have hw0 := W.pos
  have hw1 := W.ord
  have hw2 := W.top
  unfold T158
  cases hp : e.f12 with
  | true =>
    refine ⟨[], rfl, Nat.zero_le _, ?_⟩
    unfold timesL
    rw [coll_none]
    · rfl
    · intro d _ _
      unfold dayG
      rw [hp]
      rfl
  | false =>
    rw [cond_false]
    cases hle : leI w.f1 w.f0 with
    | true =>
      refine ⟨[], rfl, Nat.zero_le _, ?_⟩
      unfold timesL
      rw [coll_none]
      · rfl
      · intro d _ _
        have : hit w (timeS e off d) = false := by
          rw [leI_iff] at hle
          simp only [decide_eq_true_eq] at hle
          unfold hit
          rw [ltI_iff]
          simp only [decide_eq_false_iff_not]
          omega
        unfold dayG
        rw [this, Bool.and_false, Bool.and_false]
        rfl
    | false =>
      have hlt : w.f0 < w.f1 := by
        rw [leI_iff] at hle
        simp only [decide_eq_false_iff_not] at hle
        omega
      rw [cond_false]
      have hm : mulI .i64 off 60000 = off * 60000 := mulI_eq (by omega) (by omega)
      have ha0 : addI .i64 w.f0 (off * 60000) = w.f0 + off * 60000 := addI_eq (by omega) (by omega)
      have ha1 : addI .i64 w.f1 (off * 60000) = w.f1 + off * 60000 := addI_eq (by omega) (by omega)
      obtain ⟨q0, hq0, b0, c0, d0, e0⟩ := quo_spec (w.f0 + off * 60000) ⟨by omega, by omega⟩
      obtain ⟨q1, hq1, b1, c1, d1, e1⟩ := quo_spec (w.f1 + off * 60000) ⟨by omega, by omega⟩
      have hs0 : subI .i64 q0 2 = q0 - 2 := subI_eq (by omega) (by omega)
      have hs1 : addI .i64 q1 1 = q1 + 1 := addI_eq (by omega) (by omega)
      rw [hm, ha0, hq0, hs0, maxI_eq]
      have hst : ∀ (s : List S38) (d : Int), max (q0 - 2) e.f3 ≤ d → d ≤ min (q1 + 1) e.f4 → s.length ≤ 4001 → L158_7 e off w (s, d) = some (.inl (s ++ (rawG e off w d).toList, d + 1)) := fun s d h1 h2 hl => by
        have h3 : leI d (minI (addI .i64 (quoI .i64 (addI .i64 w.f1 (mulI .i64 off 60000)) 86400000) 1) e.f4) = true := by
          rw [hm, ha1, hq1, hs1, minI_eq, leI_iff]; simpa using h2
        have h4 : addI .i64 d 1 = d + 1 := addI_eq (by omega) (by omega)
        have h5 : ∀ x : S38, appO 16 s [x] = some (s ++ [x]) := fun x => appO_eq (by simp; omega) (by simp; omega)
        simp only [L158_7, h3, cond_true, T233_eq F ho (d := d) ⟨by omega, by omega⟩, T232_eq F (d := d) ⟨by omega, by omega⟩, Option.bind_some, h4, h5, rawG]
        cases dayB e d; · simp
        cases ltI (timeS e off d).f0 w.f1; · simp
        cases ltI w.f0 (timeS e off d).f1 <;> simp
      have hen : ∀ (s : List S38) (d : Int), min (q1 + 1) e.f4 < d → ∃ x y, L158_7 e off w (s, d) = some (.inr (x, y, s)) := fun s d h1 => by
        have h3 : leI d (minI (addI .i64 (quoI .i64 (addI .i64 w.f1 (mulI .i64 off 60000)) 86400000) 1) e.f4) = false := by
          rw [hm, ha1, hq1, hs1, minI_eq, leI_iff]; simp only [decide_eq_false_iff_not]; omega
        exact ⟨d, false, by simp only [L158_7, h3, cond_false]⟩
      obtain ⟨x, y, h⟩ := iter_days (rawG e off w) (max (q0 - 2) e.f3) (min (q1 + 1) e.f4) hst hen _ (max (q0 - 2) e.f3) [] (Int.le_refl _) rfl (by simp only [List.length_nil]; omega)
      refine ⟨coll (rawG e off w) (max (q0 - 2) e.f3) (min (q1 + 1) e.f4 + 1 - max (q0 - 2) e.f3).toNat, ?_, ?_, ?_⟩
      · rw [h]; rfl
      · refine Nat.le_trans (coll_len _ _ _) ?_
        omega
      · rw [coll_map]
        unfold timesL
        rw [coll_sub (dayG e off w) (a := e.f3) (b := e.f4) (lo := max (q0 - 2) e.f3) (hi := min (q1 + 1) e.f4) (by omega) (by omega) fun d h1 h2 h3 => ?_]
        · refine coll_congr _ _ fun d h1 h2 => ?_
          unfold rawG dayG
          rw [hp, hit_eq F hlt]
          cases (dayB e d && (ltI (timeS e off d).f0 w.f1 && ltI w.f0 (timeS e off d).f1)) <;> rfl
        · have ht := timeS_span F off d
          have hz : hit w (timeS e off d) = false := by
            rw [hit_eq F hlt, ltI_iff, ltI_iff]
            simp only [Bool.and_eq_false_iff, decide_eq_false_iff_not]
            rcases h3 with h3 | h3
            · right
              omega
            · left
              omega
          unfold dayG
          rw [hz, Bool.and_false, Bool.and_false]
          rfl
theorem idxO_nat {n i : Nat} (h : i < n) : idxO n (i : Int) = some i := by
  unfold idxO
  rw [if_pos (by omega), Int.toNat_natCast, if_pos h]
theorem cut_loop (w : S38) (l : List S38) (h : l.length ≤ 4001) : iter (L72_11 w l) (l, 0) = some ((l.length : Int), false, l.map (cutW w)) := by
  have hi : iter (L72_11 w l) ((l.take 0).map (cutW w) ++ l.drop 0, ((0 : Nat) : Int)) = some (Sum.elim (fun _ : Unit => ((l.length : Int), false, l.map (cutW w))) (fun r : Empty => nomatch r) (wp (fun _ (_ : Unit) (_ : S38) => (.inl () : Unit ⊕ Empty)) 0 () l)) := by
    refine iter_wp (fun _ i => ((l.take i).map (cutW w) ++ l.drop i, (i : Int))) _ _ l _ (fun _ _ => True) (fun i u x hx _ => ⟨?_, fun _ _ => trivial⟩) (fun u _ => ?_) _ trivial
    · have hlt : i < l.length := (List.getElem?_eq_some_iff.1 hx).1
      have h1 : ltI (i : Int) (lenL l) = true := by rw [ltI_iff, lenL_eq]; simpa using hlt
      have h2 : addI .i64 (i : Int) 1 = ((i + 1 : Nat) : Int) := by rw [addI_eq (by omega) (by omega)]; omega
      have h3 : ((l.take i).map (cutW w) ++ l.drop i).length = l.length := by simp; omega
      have h4 : getN ((l.take i).map (cutW w) ++ l.drop i) i = some x := by
        unfold getN
        rw [List.getElem?_append_right (by rw [List.length_map, List.length_take]; omega)]
        simp only [List.length_map, List.length_take, List.getElem?_drop]
        rw [show i + (i - min i l.length) = i by omega, hx]
      have h5 : ((l.take i).map (cutW w) ++ l.drop i).set i (cutW w x) = (l.take (i + 1)).map (cutW w) ++ l.drop (i + 1) := by
        obtain ⟨_, rfl⟩ := List.getElem?_eq_some_iff.1 hx
        rw [List.set_append_right _ _ (by rw [List.length_map, List.length_take]; omega)]
        simp only [List.length_map, List.length_take]
        rw [show i - min i l.length = 0 by omega, List.drop_eq_getElem_cons hlt, List.set_cons_zero, List.take_succ_eq_append_getElem hlt, List.map_append, List.append_assoc]
        rfl
      have h6 : T159 x w = some (cutW w x) := by unfold T159 cutW; rw [maxI_eq, minI_eq]
      simp only [L72_11, h1, cond_true, h3, idxO_nat hlt, Option.bind_some, h4, h6, h5, h2]
    · have h1 : ltI (l.length : Int) (lenL l) = false := by rw [ltI_iff, lenL_eq]; simp
      simp only [L72_11, h1, cond_false, List.take_length, List.drop_length, List.append_nil]
  have hw : ∀ (m : List S38) (i : Nat), wp (fun _ (_ : Unit) (_ : S38) => (.inl () : Unit ⊕ Empty)) i () m = .inl () := by
    intro m
    induction m with
    | nil => intro i; rfl
    | cons a m ih => intro i; exact ih (i + 1)
  rw [hw] at hi
  simpa using hi
theorem T72_eq (e : S105) (h : ok105 1048576 e) (off : Int) (w : S38) : T72 e off w = some (bif neI (entF e) 0 then ([], entF e) else bif outB off (-1440) 1440 then ([], 1) else bif neI (spanF w) 0 then ([], spanF w) else (timesL e off w, 0)) := by
  unfold T72
  rw [T156_one e h, Option.bind_some, T126_eq, Option.bind_some, T157_eq, Option.bind_some]
  cases h1 : neI (entF e) 0; rotate_left; · rfl
  cases h2 : outB off (-1440) 1440; rotate_left; · rfl
  cases h3 : neI (spanF w) 0; rotate_left; · rfl
  obtain ⟨l, h4, h5, h6⟩ := T158_eq (fine h (neI_false.1 h1)) (outB_false h2) (spanF_ok (neI_false.1 h3))
  simp only [cond_false, h4, Option.bind_some, cut_loop w l h5, h6]
end Go.Abs.TE
