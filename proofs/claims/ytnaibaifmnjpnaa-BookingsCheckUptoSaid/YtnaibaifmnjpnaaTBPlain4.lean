import Derived.Test.YtnaibaifmnjpnaaTBPlain3
set_option linter.unusedVariables false
set_option linter.unusedSimpArgs false
namespace Go.Abs.TB
open Go.RowKit
/-! What a list without a fault has. -/
theorem outB_false {a b c : Int} (h : outB a b c = false) : b ≤ a ∧ a ≤ c := by
  unfold outB at h
  rw [ltI_iff, ltI_iff, Bool.or_eq_false_iff, decide_eq_false_iff_not, decide_eq_false_iff_not] at h
  omega
theorem spotF_ok {i : Nat} {u s' : ByteArray} {x : S90} (hf : spotF i u x = .inl s') : Rising x.f3 ∧ 0 ≤ x.f2 ∧ x.f2 ≤ 1000000 := by
  unfold spotF at hf
  cases hk : key x.f0 <;> rw [hk] at hf
  · cases hf
  · simp only [Bool.not_true, cond_false] at hf
    cases hl : leS x.f0 u <;> rw [hl] at hf
    · simp only [cond_false] at hf
      cases ht : (!timeB x.f1 || outB x.f2 0 1000000) <;> rw [ht] at hf
      · simp only [cond_false] at hf
        cases hg : neI (tagsF x.f3) 0 <;> rw [hg] at hf
        · have h1 := outB_false (Bool.or_eq_false_iff.1 ht).2
          exact ⟨tagsF_rising (neI_false.1 hg), h1.1, h1.2⟩
        · cases hf
      · cases hf
    · cases hf
theorem spotF_err {i : Nat} {u : ByteArray} {x : S90} {r : Int} (hf : spotF i u x = .inr r) : r ≠ 0 := by
  unfold spotF at hf
  cases hk : key x.f0 <;> rw [hk] at hf
  · cases hf; decide
  · simp only [Bool.not_true, cond_false] at hf
    cases hl : leS x.f0 u <;> rw [hl] at hf
    · simp only [cond_false] at hf
      cases ht : (!timeB x.f1 || outB x.f2 0 1000000) <;> rw [ht] at hf
      · simp only [cond_false] at hf
        cases hg : neI (tagsF x.f3) 0 <;> rw [hg] at hf
        · cases hf
        · cases hf
          intro h0
          rw [h0] at hg; cases hg
      · cases hf; decide
    · cases hf; decide
theorem wp_spots : ∀ (l : List S90) (i : Nat) (u : ByteArray), (∀ r, wp spotF i u l = .inr r → r ≠ 0) ∧ ∀ s, wp spotF i u l = .inl s → ∀ x ∈ l, Rising x.f3 ∧ 0 ≤ x.f2 ∧ x.f2 ≤ 1000000
  | [], i, u => ⟨(fun r h => by cases h), (fun s h x hx => by cases hx)⟩
  | a :: l, i, u => by
    simp only [wp]
    cases hf : spotF i u a with
    | inr r => exact ⟨fun q h => by cases h; exact spotF_err hf, fun s h => by cases h⟩
    | inl s' =>
      obtain ⟨h1, h2⟩ := wp_spots l (i + 1) s'
      refine ⟨h1, fun s h x hx => ?_⟩
      rcases List.mem_cons.1 hx with rfl | hx
      · exact spotF_ok hf
      · exact h2 s h x hx
theorem spotsF_ok {l : List S90} (h : spotsF l = 0) : ∀ x ∈ l, Rising x.f3 ∧ 0 ≤ x.f2 ∧ x.f2 ≤ 1000000 := by
  unfold spotsF at h
  cases h1 : ltI 60 (lenL l) <;> rw [h1] at h
  · simp only [cond_false] at h
    cases hw : wp spotF 0 (ByteArray.mk #[]) l with
    | inl s => exact (wp_spots l 0 _).2 s hw
    | inr r =>
      rw [hw] at h
      exact absurd h ((wp_spots l 0 _).1 r hw)
  · cases h
theorem campF_most {i : Nat} {u s' : ByteArray} {x : S53} (hf : campF i u x = .inl s') : 0 ≤ x.f5 ∧ x.f5 ≤ 1000000 := by
  unfold campF at hf
  cases hk : (!key x.f0 || (!eqS x.f1 (ByteArray.mk #[]) && !key x.f1)) <;> rw [hk] at hf
  · simp only [cond_false] at hf
    cases hl : leS x.f0 u <;> rw [hl] at hf
    · simp only [cond_false] at hf
      cases ht : numB x <;> rw [ht] at hf
      · unfold numB at ht
        simp only [Bool.or_eq_false_iff] at ht
        exact outB_false ht.2.2.1
      · cases hf
    · cases hf
  · cases hf
theorem campF_err {i : Nat} {u : ByteArray} {x : S53} {r : Int} (hf : campF i u x = .inr r) : r ≠ 0 := by
  unfold campF at hf
  cases hk : (!key x.f0 || (!eqS x.f1 (ByteArray.mk #[]) && !key x.f1)) <;> rw [hk] at hf
  · simp only [cond_false] at hf
    cases hl : leS x.f0 u <;> rw [hl] at hf
    · simp only [cond_false] at hf
      cases ht : numB x <;> rw [ht] at hf
      · simp only [cond_false] at hf
        cases hg : neI (tagsF x.f3) 0 <;> rw [hg] at hf
        · cases hf
        · cases hf
          intro h0
          rw [h0] at hg; cases hg
      · cases hf; decide
    · cases hf; decide
  · cases hf; decide
theorem campsF_one {c : S53} (h : campsF [c] = 0) : 0 ≤ c.f5 ∧ c.f5 ≤ 1000000 := by
  have h1 : ltI 30 (lenL [c]) = false := rfl
  unfold campsF at h
  rw [h1] at h
  simp only [cond_false, wp] at h
  cases hf : campF 0 (ByteArray.mk #[]) c with
  | inl s => exact campF_most hf
  | inr r => rw [hf] at h; exact absurd h (campF_err hf)
theorem or2_zero {a b : Int} : or2 a b = 0 ↔ a = 0 ∧ b = 0 := by
  unfold or2
  cases h : neI a 0 with
  | true =>
    simp only [cond_true]
    constructor
    · intro h0; rw [h0] at h; cases h
    · rintro ⟨h0, _⟩; exact h0
  | false =>
    simp only [cond_false]
    exact ⟨fun hb => ⟨neI_false.1 h, hb⟩, fun ⟨_, hb⟩ => hb⟩
/-! How many plays there is room for. -/
def roomF (c : S53) (_ : Nat) (s : Int) (x : S90) : Int ⊕ Empty := .inl (bif suitsB c x then s + min x.f2 c.f5 else s)
def room (l : List S90) (c : S53) : Int := Sum.elim id (fun e : Empty => nomatch e) (wp (roomF c) 0 0 l)
theorem room_bound {c : S53} {x : S90} {s : Int} {i : Nat} (hc : 0 ≤ c.f5 ∧ c.f5 ≤ 1000000) (hx : 0 ≤ x.f2 ∧ x.f2 ≤ 1000000) (hs : 0 ≤ s ∧ s ≤ (i : Int) * 1000000) : 0 ≤ s + min x.f2 c.f5 ∧ s + min x.f2 c.f5 ≤ ((i + 1 : Nat) : Int) * 1000000 := by
  omega
theorem T62_eq (l : List S90) (c : S53) (h : l.length ≤ 1048576) (hs : ∀ x ∈ l, ok90 1048576 x) (hc : ok53 1048576 c) : T62 l c = some (bif neI (or2 (spotsF l) (campsF [c])) 0 then (0, or2 (spotsF l) (campsF [c])) else (room l c, 0)) := by
  have hc1 : ∀ x ∈ [c], ok53 1048576 x := by intro x hx; rw [List.mem_singleton] at hx; subst hx; exact hc
  unfold T62
  rw [T150_eq l [c] h hs (by simp) hc1]
  simp only [Option.bind_some]
  cases hv : neI (or2 (spotsF l) (campsF [c])) 0 with
  | true => rfl
  | false =>
    obtain ⟨v1, v2⟩ := or2_zero.1 (neI_false.1 hv)
    have vm := campsF_one v2
    obtain ⟨k1, k2, k3, ⟨k4, k5⟩, k6⟩ := hc
    have hi : iter (L62_6 l c) (0, ((0 : Nat) : Int)) = some (Sum.elim (fun s => (s, (l.length : Int), false)) (fun e : Empty => nomatch e) (wp (roomF c) 0 0 l)) := by
      refine iter_wp (fun s i => (s, (i : Int))) _ _ l (roomF c) (fun i s => 0 ≤ s ∧ s ≤ (i : Int) * 1000000) (fun i u x hx hI => ?_) (fun u _ => ?_) _ ⟨by omega, by omega⟩
      · have hlt : i < l.length := (List.getElem?_eq_some_iff.1 hx).1
        have h1 : ltI (i : Int) (lenL l) = true := by rw [ltI_iff, lenL_eq]; simpa using hlt
        have h2 : addI .i64 (i : Int) 1 = ((i + 1 : Nat) : Int) := by rw [addI_eq (by omega) (by omega)]; omega
        obtain ⟨w1, w2⟩ := spotsF_ok v1 x (List.mem_of_getElem? hx)
        obtain ⟨m1, m2, m3, m4, m5⟩ := hs x (List.mem_of_getElem? hx)
        have hb := room_bound vm w2 hI
        have h3 : addI .i64 u (minI x.f2 c.f5) = u + min x.f2 c.f5 := by rw [minI_eq, addI_eq (by omega) (by omega)]
        refine ⟨?_, fun s' hf => ?_⟩
        · simp only [L62_6, h1, cond_true, listAt_some hx, Option.bind_some, T151_eq c x k4 m4 w1, h2, h3, roomF]
          cases suitsB c x <;> rfl
        · unfold roomF at hf
          cases hf
          cases suitsB c x
          · exact ⟨hI.1, by simp only [cond_false]; omega⟩
          · exact hb
      · have h1 : ltI (l.length : Int) (lenL l) = false := by rw [ltI_iff, lenL_eq]; simp
        simp only [L62_6, h1, cond_false]
    simp only [cond_false]
    rw [show (0, (0 : Int)) = ((0 : Int), ((0 : Nat) : Int)) from rfl, hi]
    unfold room
    cases wp (roomF c) 0 0 l with
    | inl s => rfl
    | inr e => exact nomatch e
theorem T63_eq (l : List S90) (c : S53) (h : l.length ≤ 1048576) (hs : ∀ x ∈ l, ok90 1048576 x) (hc : ok53 1048576 c) (v1 : spotsF l = 0) (v2 : campsF [c] = 0) : T63 l c = some (room l c) := by
  have vm := campsF_one v2
  obtain ⟨k1, k2, k3, ⟨k4, k5⟩, k6⟩ := hc
  have hi : iter (L63_3 l c) (0, ((0 : Nat) : Int)) = some (Sum.elim (fun s => (s, (l.length : Int), false)) (fun e : Empty => nomatch e) (wp (roomF c) 0 0 l)) := by
    refine iter_wp (fun s i => (s, (i : Int))) _ _ l (roomF c) (fun i s => 0 ≤ s ∧ s ≤ (i : Int) * 1000000) (fun i u x hx hI => ?_) (fun u _ => ?_) _ ⟨by omega, by omega⟩
    · have hlt : i < l.length := (List.getElem?_eq_some_iff.1 hx).1
      have h1 : ltI (i : Int) (lenL l) = true := by rw [ltI_iff, lenL_eq]; simpa using hlt
      have h2 : addI .i64 (i : Int) 1 = ((i + 1 : Nat) : Int) := by rw [addI_eq (by omega) (by omega)]; omega
      obtain ⟨w1, w2⟩ := spotsF_ok v1 x (List.mem_of_getElem? hx)
      obtain ⟨m1, m2, m3, m4, m5⟩ := hs x (List.mem_of_getElem? hx)
      have hb := room_bound vm w2 hI
      have h3 : addI .i64 u (minI x.f2 c.f5) = u + min x.f2 c.f5 := by rw [minI_eq, addI_eq (by omega) (by omega)]
      refine ⟨?_, fun s' hf => ?_⟩
      · simp only [L63_3, h1, cond_true, listAt_some hx, Option.bind_some, T65_eq c x k4 m4, h2, h3, roomF]
        cases suitsB c x <;> rfl
      · unfold roomF at hf
        cases hf
        cases suitsB c x
        · exact ⟨hI.1, by simp only [cond_false]; omega⟩
        · exact hb
    · have h1 : ltI (l.length : Int) (lenL l) = false := by rw [ltI_iff, lenL_eq]; simp
      simp only [L63_3, h1, cond_false]
  unfold T63
  rw [show (0, (0 : Int)) = ((0 : Int), ((0 : Nat) : Int)) from rfl, hi]
  unfold room
  cases wp (roomF c) 0 0 l with
  | inl s => rfl
  | inr e => exact nomatch e
theorem T64_eq (c : S53) (s : S90) (hc : ok53 1048576 c) (hs : ok90 1048576 s) : T64 c s = some (bif neI (or2 (spotsF [s]) (campsF [c])) 0 then (false, or2 (spotsF [s]) (campsF [c])) else (suitsB c s, 0)) := by
  have hc1 : ∀ x ∈ [c], ok53 1048576 x := by intro x hx; rw [List.mem_singleton] at hx; subst hx; exact hc
  have hs1 : ∀ x ∈ [s], ok90 1048576 x := by intro x hx; rw [List.mem_singleton] at hx; subst hx; exact hs
  unfold T64
  rw [T150_eq [s] [c] (by simp) hs1 (by simp) hc1]
  simp only [Option.bind_some]
  cases hv : neI (or2 (spotsF [s]) (campsF [c])) 0 with
  | true => rfl
  | false =>
    obtain ⟨v1, v2⟩ := or2_zero.1 (neI_false.1 hv)
    obtain ⟨w1, w2⟩ := spotsF_ok v1 s (by simp)
    obtain ⟨k1, k2, k3, ⟨k4, k5⟩, k6⟩ := hc
    obtain ⟨m1, m2, m3, m4, m5⟩ := hs
    rw [T151_eq c s k4 m4 w1]
    rfl
/-! The package is there. -/
def camp0 : S53 := S53.mk (ByteArray.mk #[97]) (ByteArray.mk #[]) (S38.mk 0 100) [] 10 0 0
theorem camp0_ok : campsF [camp0] = 0 := by decide +kernel
theorem T66_eq : T66 = some true := by
  have h : T60 [camp0] = some 0 := by
    rw [T60_eq [camp0] (by simp) ?_, camp0_ok]
    intro x hx
    rw [List.mem_singleton] at hx
    subst hx
    refine ⟨by decide, by decide, ⟨?_, ?_⟩, ⟨by decide, by simp [camp0]⟩, ?_, ?_, ?_⟩ <;> (unfold okI camp0; simp only []; exact ⟨by decide, by decide⟩)
  have h2 : T155 camp0 50 = some (5, 0) := by
    unfold T155
    rw [h]
    rfl
  unfold T66
  rw [show S53.mk (ByteArray.mk #[97]) (ByteArray.mk #[]) (S38.mk 0 100) [] 10 0 0 = camp0 from rfl, h2]
  rfl
/-! The law. -/
theorem neI_self (a : Int) : neI a a = false := neI_false.2 rfl
theorem bne_self (b : Bool) : (b != b) = false := by cases b <;> rfl
theorem inner_eq (l : List S90) (m : List S53) (z : Int) (c : S53) (h : l.length ≤ 1048576) (hs : ∀ x ∈ l, ok90 1048576 x) (hc : ok53 1048576 c) : iter (L17_14 l m z c) 0 = some (.inl ((l.length : Int), false)) := by
  have hc1 : ∀ x ∈ [c], ok53 1048576 x := by intro x hx; rw [List.mem_singleton] at hx; subst hx; exact hc
  have hi : iter (L17_14 l m z c) ((0 : Nat) : Int) = some (Sum.elim (fun _ => .inl ((l.length : Int), false)) (fun r => .inr r) (wp (fun _ (_ : Unit) (_ : S90) => (.inl () : Unit ⊕ Unit)) 0 () l)) := by
    refine iter_wp (fun _ i => (i : Int)) _ _ l _ (fun _ _ => True) (fun i u x hx _ => ⟨?_, fun _ _ => trivial⟩) (fun u _ => ?_) _ trivial
    · have hlt : i < l.length := (List.getElem?_eq_some_iff.1 hx).1
      have h1 : ltI (i : Int) (lenL l) = true := by rw [ltI_iff, lenL_eq]; simpa using hlt
      have h2 : addI .i64 (i : Int) 1 = ((i + 1 : Nat) : Int) := by rw [addI_eq (by omega) (by omega)]; omega
      have hx1 := hs x (List.mem_of_getElem? hx)
      have hs1 : ∀ y ∈ [x], ok90 1048576 y := by intro y hy; rw [List.mem_singleton] at hy; subst hy; exact hx1
      simp only [L17_14, h1, cond_true, listAt_some hx, Option.bind_some, T64_eq c x hc hx1, T59_eq [x] (by simp) hs1, T61_eq [c] (by simp) hc1, T49_eq, h2]
      cases hv : neI (or2 (spotsF [x]) (campsF [c])) 0 with
      | true =>
        have : eqI (or2 (spotsF [x]) (campsF [c])) 0 = false := by
          rw [eqI_iff]; rw [neI_iff] at hv; simpa using hv
        simp only [cond_true, neI_self, cond_false, this, bne_self]
      | false =>
        have h0 := neI_false.1 hv
        have h3 : eqI (or2 (spotsF [x]) (campsF [c])) 0 = true := by rw [h0]; rfl
        rw [h3, h0]
        obtain ⟨k1, k2, k3, ⟨k4, k5⟩, k6⟩ := hc
        obtain ⟨m1, m2, m3, m4, m5⟩ := hx1
        simp only [cond_false, neI_self, cond_true, T65_eq c x k4 m4, Option.bind_some, bne_self]
    · have h1 : ltI (l.length : Int) (lenL l) = false := by rw [ltI_iff, lenL_eq]; simp
      simp only [L17_14, h1, cond_false]
  rw [show (0 : Int) = ((0 : Nat) : Int) from rfl, hi, wp_true]
  rfl
theorem same_loop (l : List S90) (m : List S53) (z : Int) (c : S53) : L17_14_v1 l m z c = L17_14 l m z c := rfl
theorem T17_eq (l : List S90) (m : List S53) (h : l.length ≤ 1048576) (hs : ∀ x ∈ l, ok90 1048576 x) (h' : m.length ≤ 1048576) (hs' : ∀ x ∈ m, ok53 1048576 x) : T17 l m = some true := by
  have hi : iter (L17_4 l m) ((0 : Nat) : Int) = some (Sum.elim (fun _ => .inl ((m.length : Int), false)) (fun r => .inr r) (wp (fun _ (_ : Unit) (_ : S53) => (.inl () : Unit ⊕ Unit)) 0 () m)) := by
    refine iter_wp (fun _ i => (i : Int)) _ _ m _ (fun _ _ => True) (fun i u x hx _ => ⟨?_, fun _ _ => trivial⟩) (fun u _ => ?_) _ trivial
    · have hlt : i < m.length := (List.getElem?_eq_some_iff.1 hx).1
      have h1 : ltI (i : Int) (lenL m) = true := by rw [ltI_iff, lenL_eq]; simpa using hlt
      have h2 : addI .i64 (i : Int) 1 = ((i + 1 : Nat) : Int) := by rw [addI_eq (by omega) (by omega)]; omega
      have hx1 := hs' x (List.mem_of_getElem? hx)
      have hc1 : ∀ y ∈ [x], ok53 1048576 y := by intro y hy; rw [List.mem_singleton] at hy; subst hy; exact hx1
      simp only [L17_4, h1, cond_true, listAt_some hx, Option.bind_some, T59_eq l h hs, T61_eq [x] (by simp) hc1, T49_eq, T62_eq l x h hs hx1, h2, same_loop, inner_eq l m _ x h hs hx1]
      cases hv : neI (or2 (spotsF l) (campsF [x])) 0 with
      | true =>
        have h3 : eqI (or2 (spotsF l) (campsF [x])) 0 = false := by
          rw [eqI_iff]; rw [neI_iff] at hv; simpa using hv
        simp only [cond_true, h3, cond_false, neI_self, Sum.elim_inl]
      | false =>
        have h0 := neI_false.1 hv
        obtain ⟨v1, v2⟩ := or2_zero.1 h0
        have h3 : eqI (or2 (spotsF l) (campsF [x])) 0 = true := by rw [h0]; rfl
        rw [h3, h0, T63_eq l x h hs hx1 v1 v2]
        simp only [cond_false, cond_true, Option.bind_some, neI_self, Sum.elim_inl]
    · have h1 : ltI (m.length : Int) (lenL m) = false := by rw [ltI_iff, lenL_eq]; simp
      simp only [L17_4, h1, cond_false]
  unfold T17
  rw [T58_eq l h hs, T59_eq l h hs, T60_eq m h' hs', T61_eq m h' hs']
  simp only [Option.bind_some, neI_self, cond_false]
  rw [show (0 : Int) = ((0 : Nat) : Int) from rfl, hi, wp_true, T66_eq]
  rfl
theorem plain (p0 : (List S90)) (p1 : (List S53)) (h0 : (p0.length ≤ 1048576 ∧ ∀ x ∈ p0, ok90 1048576 x)) (h1 : (p1.length ≤ 1048576 ∧ ∀ x ∈ p1, ok53 1048576 x)) : T4 p0 p1 = some true := by
  unfold T4
  rw [T15_eq p0 h0.1 h0.2, T16_eq p1 h1.1 h1.2, T17_eq p0 p1 h0.1 h0.2 h1.1 h1.2]
  simp only [Option.bind_some, cond_true, T18_self p0 h0.1 h0.2, T19_self p1 h1.1 h1.2]
end Go.Abs.TB
