import Derived.Test.YtnaibaifmnjpnaaCTCPlain2
set_option linter.unusedVariables false
set_option linter.unusedSimpArgs false
namespace Go.Abs.TC
open Go.RowKit
/-! The beats of a player. -/
def mine (p : ByteArray) (x : S24) : Bool := eqS x.f0 p
def own (l : List S24) (p : ByteArray) : List S24 := l.filter (mine p)
theorem own_len (l : List S24) (p : ByteArray) : (own l p).length ≤ l.length := List.length_filter_le _ _
theorem T265_eq (l : List S24) (p : ByteArray) (h : l.length ≤ 1048576) : (T265 l p = some (-1) ∧ ∀ x ∈ l, mine p x = true) ∨ ∃ k, k < l.length ∧ T265 l p = some (k : Int) ∧ (∀ x, l[k]? = some x → mine p x = false) ∧ ∀ j x, j < k → l[j]? = some x → mine p x = true := by
  have hi : ∃ r, iter (L265_2 l p) ((0 : Nat) : Int) = some r ∧ ((∃ y, r = .inl y) ∧ (∀ x ∈ l, mine p x = true) ∨ ∃ k : Nat, r = .inr (k : Int) ∧ k < l.length ∧ (∀ x, l[k]? = some x → mine p x = false) ∧ ∀ j x, j < k → l[j]? = some x → mine p x = true) := by
    refine iter_meas (fun z => ∃ i : Nat, z = (i : Int) ∧ i ≤ l.length ∧ ∀ j x, j < i → l[j]? = some x → mine p x = true) (fun z => (l.length - z).toNat) _ ?_ _ ⟨0, rfl, Nat.zero_le _, fun j x hj => by omega⟩
    rintro _ ⟨i, rfl, hi, hall⟩
    by_cases hlt : i < l.length
    · have h1 : ltI (i : Int) (lenL l) = true := by rw [ltI_iff, lenL_eq]; simpa using hlt
      have h2 : addI .i64 (i : Int) 1 = ((i + 1 : Nat) : Int) := by rw [addI_eq (by omega) (by omega)]; omega
      have hx := List.getElem?_eq_getElem hlt
      cases hm : mine p l[i] with
      | true =>
        left
        refine ⟨((i + 1 : Nat) : Int), ?_, ⟨i + 1, rfl, by omega, fun j x hj hjx => ?_⟩, by omega⟩
        · have hm' : eqS (l[i]).f0 p = true := hm
          simp only [L265_2, h1, cond_true, listAt_some hx, Option.bind_some, T224, hm', Bool.not_true, cond_false, h2]
        · rcases Nat.lt_or_ge j i with h3 | h3
          · exact hall j x h3 hjx
          · have : j = i := by omega
            subst this
            rw [hx] at hjx
            cases hjx
            exact hm
      | false =>
        right
        refine ⟨.inr (i : Int), ?_, .inr ⟨i, rfl, hlt, fun x hx2 => by rw [hx] at hx2; cases hx2; exact hm, hall⟩⟩
        have hm' : eqS (l[i]).f0 p = false := hm
        simp only [L265_2, h1, cond_true, listAt_some hx, Option.bind_some, T224, hm', Bool.not_false]
    · right
      have h1 : ltI (i : Int) (lenL l) = false := by rw [ltI_iff, lenL_eq]; simp; omega
      refine ⟨.inl _, by simp only [L265_2, h1, cond_false]; rfl, .inl ⟨⟨_, rfl⟩, fun x hx => ?_⟩⟩
      obtain ⟨j, hj⟩ := List.getElem?_of_mem hx
      exact hall j x (by have := (List.getElem?_eq_some_iff.1 hj).1; omega) hj
  obtain ⟨r, h1, h2⟩ := hi
  unfold T265
  rw [show (0 : Int) = ((0 : Nat) : Int) from rfl, h1, Option.bind_some]
  rcases h2 with ⟨⟨y, rfl⟩, h3⟩ | ⟨k, rfl, h3, h4⟩
  · exact .inl ⟨rfl, h3⟩
  · exact .inr ⟨k, h3, rfl, h4⟩
theorem T223_eq (l : List S24) (p : ByteArray) (h : l.length ≤ 1048576) : T223 l p = some (own l p) := by
  unfold T223
  rcases T265_eq l p h with ⟨h1, h2⟩ | ⟨k, hk, h1, hdel, hkeep⟩
  · rw [h1, Option.bind_some, show eqI (-1) (-1) = true from rfl, cond_true]
    unfold own
    rw [List.filter_eq_self.2 h2]
  · have hne : eqI (k : Int) (-1) = false := by rw [eqI_iff]; simp
    have hadd : addI .i64 (k : Int) 1 = ((k + 1 : Nat) : Int) := by rw [addI_eq (by omega) (by omega)]; omega
    rw [h1, Option.bind_some, hne, cond_false, hadd]
    have hloop : ∃ r, iter (L223_5 p) (l, (k : Int), ((k + 1 : Nat) : Int)) = some r ∧ ∃ i : Nat, r.1 = (i : Int) ∧ i ≤ l.length ∧ r.2.2.2.length = l.length ∧ r.2.2.2.take i = own l p := by
      refine iter_meas (fun z => ∃ (row : List S24) (i j : Nat), z = (row, (i : Int), (j : Int)) ∧ j ≤ l.length ∧ i < j ∧ row.length = l.length ∧ row.take i = (l.take j).filter (mine p) ∧ row.drop j = l.drop j) (fun z => (l.length - z.2.2).toNat) _ ?_ _ ⟨l, k, k + 1, rfl, by omega, by omega, rfl, ?_, rfl⟩
      · rintro _ ⟨row, i, j, rfl, hj, hij, hrl, htake, hdrop⟩
        by_cases hlt : j < l.length
        · left
          have hg1 : ltI (j : Int) (lenL row) = true := by rw [ltI_iff, lenL_eq, hrl]; simpa using hlt
          have hj1 : addI .i64 (j : Int) 1 = ((j + 1 : Nat) : Int) := by rw [addI_eq (by omega) (by omega)]; omega
          have hi1 : addI .i64 (i : Int) 1 = ((i + 1 : Nat) : Int) := by rw [addI_eq (by omega) (by omega)]; omega
          have hx : row[j]? = some l[j] := by
            have : (row.drop j)[0]? = (l.drop j)[0]? := by rw [hdrop]
            simpa [List.getElem?_eq_getElem hlt] using this
          have hil : i < row.length := by omega
          have hstep : (l.take (j + 1)).filter (mine p) = (l.take j).filter (mine p) ++ [l[j]].filter (mine p) := by
            rw [List.take_succ_eq_append_getElem hlt, List.filter_append]
          cases hm : mine p l[j] with
          | true =>
            have hm' : eqS (l[j]).f0 p = true := hm
            refine ⟨(row.set i l[j], ((i + 1 : Nat) : Int), ((j + 1 : Nat) : Int)), ?_, ⟨row.set i l[j], i + 1, j + 1, rfl, by omega, by omega, by simpa using hrl, ?_, ?_⟩, by simp only; omega⟩
            · simp only [L223_5, hg1, cond_true, idxO_nat (show j < row.length by omega), Option.bind_some, getN, hx, T224, hm', Bool.not_true, Bool.not_false, idxO_nat hil, List.getElem?_eq_getElem hil, hi1, hj1]
            · rw [hstep, ← htake, List.filter_cons_of_pos hm, List.filter_nil, List.take_succ_eq_append_getElem (by simpa using hil), List.take_set_of_le (Nat.le_refl i)]
              simp
            · rw [List.drop_set_of_lt (by omega)]
              have := congrArg (List.drop 1) hdrop
              simpa [List.drop_drop] using this
          | false =>
            have hm' : eqS (l[j]).f0 p = false := hm
            refine ⟨(row, (i : Int), ((j + 1 : Nat) : Int)), ?_, ⟨row, i, j + 1, rfl, by omega, by omega, hrl, ?_, ?_⟩, by simp only; omega⟩
            · simp only [L223_5, hg1, cond_true, idxO_nat (show j < row.length by omega), Option.bind_some, getN, hx, T224, hm', Bool.not_true, Bool.not_false, cond_false, hj1]
            · rw [hstep, ← htake, List.filter_cons_of_neg (by rw [hm]; simp), List.filter_nil, List.append_nil]
            · have := congrArg (List.drop 1) hdrop
              simpa [List.drop_drop] using this
        · right
          have hjl : j = l.length := by omega
          subst hjl
          have hg1 : ltI (l.length : Int) (lenL row) = false := by rw [ltI_iff, lenL_eq, hrl]; simp
          refine ⟨((i : Int), (l.length : Int), false, row), by simp only [L223_5, hg1, cond_false], i, rfl, by omega, hrl, ?_⟩
          rw [htake, List.take_length]
          rfl
      · rw [List.take_succ_eq_append_getElem hk, List.filter_append, List.filter_cons_of_neg (by rw [hdel _ (List.getElem?_eq_getElem hk)]; simp), List.filter_nil, List.append_nil]
        refine (List.filter_eq_self.2 fun x hx => ?_).symm
        obtain ⟨j, hj⟩ := List.getElem?_of_mem hx
        rw [List.getElem?_take] at hj
        split at hj
        · rename_i hjk
          exact hkeep j x hjk hj
        · cases hj
    obtain ⟨r, h2, i, h3, h4, h5, h6⟩ := hloop
    rw [h2, Option.bind_some, h3]
    have hv : vwN (List.length r.2.2.2) (i : Int) = some i := by unfold vwN; rw [if_pos (by omega), if_pos (by rw [Int.toNat_natCast, h5]; exact h4), Int.toNat_natCast]
    have hc : clrN r.2.2.2 i (S24.mk (ByteArray.mk #[]) 0 0) = some (r.2.2.2.take i ++ List.replicate (r.2.2.2.length - i) (S24.mk (ByteArray.mk #[]) 0 0)) := by unfold clrN; rw [if_pos (by rw [h5]; exact h4)]
    rw [hv, Option.bind_some, hc, Option.bind_some]
    have hcut : cutN (r.2.2.2.take i ++ List.replicate (r.2.2.2.length - i) (S24.mk (ByteArray.mk #[]) 0 0)) (i : Int) = some (own l p) := by
      unfold cutN
      rw [if_pos (by omega), Int.toNat_natCast, if_pos (by rw [List.length_append, List.length_take, List.length_replicate]; omega), List.take_append_of_le_length (by rw [List.length_take]; omega), List.take_take, Nat.min_self, h6]
    rw [hcut]
    rfl
theorem T144_eq (l : List S24) (p : ByteArray) (h : l.length ≤ 1048576) : T144 l p = some (own l p) := by
  unfold T144
  rw [appO_eq (by simp; omega) (by simp; omega), Option.bind_some, List.nil_append, T223_eq l p h]
  rfl
/-! Clocks and moments. -/
def fwd (b : S24) : S185 := ⟨b.f2, b.f1⟩
def swp (b : S24) : S24 := ⟨b.f0, b.f2, b.f1⟩
theorem T138_eq (l : List S24) (p : ByteArray) (back : Bool) (h : l.length ≤ 1048576) : T138 l p back = some ((own l p).map fun b => bif back then fwd (swp b) else fwd b) := by
  have hi : iter (L138_3 l p back) ([], ((0 : Nat) : Int)) = some (Sum.elim (fun s => ((l.length : Int), false, s)) (fun r : Empty => nomatch r) (wp (fun _ (s : List S185) (x : S24) => (.inl (bif mine p x then s ++ [bif back then fwd (swp x) else fwd x] else s) : List S185 ⊕ Empty)) 0 [] l)) := by
    refine iter_wp (fun s i => (s, (i : Int))) _ _ l _ (fun i s => s.length ≤ i) (fun i u x hx hI => ⟨?_, fun s' hs' => ?_⟩) (fun u _ => ?_) _ (Nat.le_refl _)
    · have hlt : i < l.length := (List.getElem?_eq_some_iff.1 hx).1
      have h1 : ltI (i : Int) (lenL l) = true := by rw [ltI_iff, lenL_eq]; simpa using hlt
      have h2 : addI .i64 (i : Int) 1 = ((i + 1 : Nat) : Int) := by rw [addI_eq (by omega) (by omega)]; omega
      have h4 : ∀ y : S185, appO 16 u [y] = some (u ++ [y]) := fun y => appO_eq (by simp; omega) (by simp; omega)
      simp only [L138_3, h1, cond_true, listAt_some hx, Option.bind_some, h4, h2, mine]
      cases eqS x.f0 p <;> cases back <;> rfl
    · cases hs'
      cases mine p x
      · exact Nat.le_succ_of_le hI
      · simpa using hI
    · have h1 : ltI (l.length : Int) (lenL l) = false := by rw [ltI_iff, lenL_eq]; simp
      simp only [L138_3, h1, cond_false]
  have hw : ∀ (m : List S24) (i : Nat) (s : List S185), wp (fun _ (s : List S185) (x : S24) => (.inl (bif mine p x then s ++ [bif back then fwd (swp x) else fwd x] else s) : List S185 ⊕ Empty)) i s m = .inl (s ++ (own m p).map fun b => bif back then fwd (swp b) else fwd b) := by
    intro m
    induction m with
    | nil => intro i s; simp [wp, own]
    | cons a m ih =>
      intro i s
      simp only [wp]
      rw [ih]
      unfold own
      cases hm : mine p a with
      | true => rw [List.filter_cons_of_pos hm]; simp
      | false => rw [List.filter_cons_of_neg (by rw [hm]; simp)]; simp
  unfold T138
  rw [show (0 : Int) = ((0 : Nat) : Int) from rfl, hi, hw]
  rfl
theorem T145_eq (l : List S24) (h : l.length ≤ 1048576) : T145 l = some (l.map swp) := by
  have hi : iter (L145_3 l) ([], ((0 : Nat) : Int)) = some (Sum.elim (fun s => ((l.length : Int), false, s)) (fun r : Empty => nomatch r) (wp (fun _ (s : List S24) (x : S24) => (.inl (s ++ [swp x]) : List S24 ⊕ Empty)) 0 [] l)) := by
    refine iter_wp (fun s i => (s, (i : Int))) _ _ l _ (fun i s => s.length ≤ i) (fun i u x hx hI => ⟨?_, fun s' hs' => ?_⟩) (fun u _ => ?_) _ (Nat.le_refl _)
    · have hlt : i < l.length := (List.getElem?_eq_some_iff.1 hx).1
      have h1 : ltI (i : Int) (lenL l) = true := by rw [ltI_iff, lenL_eq]; simpa using hlt
      have h2 : addI .i64 (i : Int) 1 = ((i + 1 : Nat) : Int) := by rw [addI_eq (by omega) (by omega)]; omega
      have h4 : ∀ y : S24, appO 32 u [y] = some (u ++ [y]) := fun y => appO_eq (by simp; omega) (by simp; omega)
      simp only [L145_3, h1, cond_true, listAt_some hx, Option.bind_some, h4, h2]
      rfl
    · cases hs'; simpa using hI
    · have h1 : ltI (l.length : Int) (lenL l) = false := by rw [ltI_iff, lenL_eq]; simp
      simp only [L145_3, h1, cond_false]
  have hw : ∀ (m : List S24) (i : Nat) (s : List S24), wp (fun _ (s : List S24) (x : S24) => (.inl (s ++ [swp x]) : List S24 ⊕ Empty)) i s m = .inl (s ++ m.map swp) := by
    intro m
    induction m with
    | nil => intro i s; simp [wp]
    | cons a m ih => intro i s; simp only [wp]; rw [ih]; simp
  unfold T145
  rw [show (0 : Int) = ((0 : Nat) : Int) from rfl, hi, hw]
  rfl
theorem own_swp (l : List S24) (p : ByteArray) : own (l.map swp) p = (own l p).map swp := by
  unfold own
  rw [List.filter_map]
  rfl
end Go.Abs.TC
