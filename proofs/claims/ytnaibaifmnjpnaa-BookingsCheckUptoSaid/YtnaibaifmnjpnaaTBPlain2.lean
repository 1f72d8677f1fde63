import Derived.Test.YtnaibaifmnjpnaaTBPlain
set_option linter.unusedVariables false
set_option linter.unusedSimpArgs false
namespace Go.Abs.TB
open Go.RowKit
/-! Campaigns. -/
def numB (x : S53) : Bool := !timeB x.f2 || (outB x.f4 0 1000000 || (outB x.f5 0 1000000 || outB x.f6 0 1000000000))
def campF (_ : Nat) (last : ByteArray) (x : S53) : ByteArray ⊕ Int :=
  bif !key x.f0 || (!eqS x.f1 (ByteArray.mk #[]) && !key x.f1) then .inr 5 else bif leS x.f0 last then .inr 7 else bif numB x then .inr 1 else bif neI (tagsF x.f3) 0 then .inr (tagsF x.f3) else .inl x.f0
def campsF (l : List S53) : Int := bif ltI 30 (lenL l) then 2 else Sum.elim (fun _ => 0) id (wp campF 0 (ByteArray.mk #[]) l)
theorem campF_inl {i : Nat} {u s' : ByteArray} {x : S53} (hf : campF i u x = .inl s') : s' = x.f0 := by
  unfold campF at hf
  cases hk : (!key x.f0 || (!eqS x.f1 (ByteArray.mk #[]) && !key x.f1)) <;> rw [hk] at hf
  · simp only [cond_false] at hf
    cases hl : leS x.f0 u <;> rw [hl] at hf
    · simp only [cond_false] at hf
      cases ht : numB x <;> rw [ht] at hf
      · simp only [cond_false] at hf
        cases hg : neI (tagsF x.f3) 0 <;> rw [hg] at hf
        · exact (Sum.inl.inj hf).symm
        · cases hf
      · cases hf
    · cases hf
  · cases hf
theorem T60_eq (l : List S53) (h : l.length ≤ 1048576) (hs : ∀ x ∈ l, ok53 1048576 x) : T60 l = some (campsF l) := by
  have hi : iter (L60_4 l) ((0 : Nat) : Int) = some (Sum.elim (fun _ => .inl ((l.length : Int), false)) (fun r => .inr r) (wp campF 0 (ByteArray.mk #[]) l)) := by
    refine iter_wp (fun _ i => (i : Int)) _ _ l campF (Prev l S53.f0) (fun i u x hx hI => ?_) (fun u _ => ?_) _ (.inl ⟨rfl, rfl⟩)
    · have hlt : i < l.length := (List.getElem?_eq_some_iff.1 hx).1
      have h1 : ltI (i : Int) (lenL l) = true := by rw [ltI_iff, lenL_eq]; simpa using hlt
      have h2 : addI .i64 (i : Int) 1 = ((i + 1 : Nat) : Int) := by rw [addI_eq (by omega) (by omega)]; omega
      obtain ⟨k1, k2, k3, ⟨k4, k5⟩, k6⟩ := hs x (List.mem_of_getElem? hx)
      have h3 := T137_eq x.f0 k1
      have h3' := T137_eq x.f1 k2
      have h6 := T148_eq x.f3 k4 k5
      refine ⟨?_, fun s' hf => ?_⟩
      · simp only [L60_4, h1, cond_true, listAt_some hx, Option.bind_some, h3, h3', h2, campF, numB, T147_eq, T126_eq, h6]
        cases hk : key x.f0 with
        | false => rfl
        | true =>
          simp only [Bool.not_true, Bool.false_or, cond_false]
          rcases hI with ⟨rfl, rfl⟩ | ⟨y, hi0, hy, hu⟩
          · have h4 : ltI 0 ((0 : Nat) : Int) = false := rfl
            rw [h4, leS_empty (key_pos hk)]
            simp only [cond_false]
            cases eqS x.f1 (ByteArray.mk #[]) <;> cases key x.f1 <;> cases timeB x.f2 <;> cases outB x.f4 0 1000000 <;> cases outB x.f5 0 1000000 <;> cases outB x.f6 0 1000000000 <;> cases neI (tagsF x.f3) 0 <;> rfl
          · have h4 : ltI 0 (i : Int) = true := by rw [ltI_iff]; simp; omega
            have h5 : subI .i64 (i : Int) 1 = ((i - 1 : Nat) : Int) := by rw [subI_eq (by omega) (by omega)]; omega
            rw [h4, h5, listAt_some hy, hu]
            simp only [cond_true, Option.bind_some, leS]
            cases eqS x.f1 (ByteArray.mk #[]) <;> cases key x.f1 <;> cases (ltS x.f0 y.f0 || eqS x.f0 y.f0) <;> cases timeB x.f2 <;> cases outB x.f4 0 1000000 <;> cases outB x.f5 0 1000000 <;> cases outB x.f6 0 1000000000 <;> cases neI (tagsF x.f3) 0 <;> rfl
      · exact .inr ⟨x, by omega, by simpa using hx, campF_inl hf⟩
    · have h1 : ltI (l.length : Int) (lenL l) = false := by rw [ltI_iff, lenL_eq]; simp
      simp only [L60_4, h1, cond_false]
  unfold T60 campsF
  rw [show (0 : Int) = ((0 : Nat) : Int) from rfl, hi, Option.bind_some]
  cases ltI 30 (lenL l) <;> cases wp campF 0 (ByteArray.mk #[]) l <;> rfl
theorem inB (a b c : Int) : (leI b a && leI a c) = !outB a b c := by
  unfold outB
  rw [ltI_not a b, ltI_not c a]
  cases leI b a <;> cases leI a c <;> rfl
theorem T61_eq (l : List S53) (h : l.length ≤ 1048576) (hs : ∀ x ∈ l, ok53 1048576 x) : T61 l = some (campsF l) := by
  have hi : iter (L61_5 l) (ByteArray.mk #[], ((0 : Nat) : Int)) = some (Sum.elim (fun s => .inl (s, (l.length : Int), false)) (fun r => .inr r) (wp campF 0 (ByteArray.mk #[]) l)) := by
    refine iter_wp (fun s i => (s, (i : Int))) _ _ l campF (fun _ _ => True) (fun i u x hx _ => ⟨?_, fun _ _ => trivial⟩) (fun u _ => ?_) _ trivial
    · have hlt : i < l.length := (List.getElem?_eq_some_iff.1 hx).1
      have h1 : ltI (i : Int) (lenL l) = true := by rw [ltI_iff, lenL_eq]; simpa using hlt
      have h2 : addI .i64 (i : Int) 1 = ((i + 1 : Nat) : Int) := by rw [addI_eq (by omega) (by omega)]; omega
      obtain ⟨k1, k2, k3, ⟨k4, k5⟩, k6⟩ := hs x (List.mem_of_getElem? hx)
      have h3 := T51_eq x.f0 k1
      have h3' := T51_eq x.f1 k2
      have h6 := T149_eq x.f3 k4 k5
      simp only [L61_5, h1, cond_true, listAt_some hx, Option.bind_some, h3, h3', h2, campF, numB, T132_eq, inB, h6, leS, timeB, ltI_not x.f2.f0 0, ltI_not x.f2.f0 x.f2.f1, ltI_not 345686400000 x.f2.f1]
      cases key x.f0
      · rfl
      simp only [Bool.not_true, Bool.false_or, cond_false]
      cases eqS x.f1 (ByteArray.mk #[]) <;> cases key x.f1 <;> cases (ltS x.f0 u || eqS x.f0 u) <;> (try rfl) <;>
        (cases leI 0 x.f2.f0 <;> cases leI x.f2.f1 x.f2.f0 <;> cases leI x.f2.f1 345686400000 <;> cases outB x.f4 0 1000000 <;> cases outB x.f5 0 1000000 <;> cases outB x.f6 0 1000000000 <;> cases neI (tagsF x.f3) 0 <;> rfl)
    · have h1 : ltI (l.length : Int) (lenL l) = false := by rw [ltI_iff, lenL_eq]; simp
      simp only [L61_5, h1, cond_false]
  unfold T61 campsF
  rw [show (0 : Int) = ((0 : Nat) : Int) from rfl, hi, Option.bind_some]
  cases ltI 30 (lenL l) <;> cases wp campF 0 (ByteArray.mk #[]) l <;> rfl
/-! Copies are the same, and what is the same is told so. -/
theorem T15_eq (l : List S90) (h : l.length ≤ 1048576) (hs : ∀ x ∈ l, ok90 1048576 x) : T15 l = some l := by
  have hi : iter (L15_3 l) ([], ((0 : Nat) : Int)) = some (Sum.elim (fun s => ((l.length : Int), false, s)) (fun r : Empty => nomatch r) (wp (fun _ (s : List S90) x => (.inl (s ++ [x]) : List S90 ⊕ Empty)) 0 [] l)) := by
    refine iter_wp (fun s i => (s, (i : Int))) _ _ l _ (fun i s => s.length = i) (fun i u x hx hI => ⟨?_, fun s' hs' => ?_⟩) (fun u _ => ?_) _ rfl
    · have hlt : i < l.length := (List.getElem?_eq_some_iff.1 hx).1
      have h1 : ltI (i : Int) (lenL l) = true := by rw [ltI_iff, lenL_eq]; simpa using hlt
      have h2 : addI .i64 (i : Int) 1 = ((i + 1 : Nat) : Int) := by rw [addI_eq (by omega) (by omega)]; omega
      obtain ⟨k1, k2, k3, k4, k5⟩ := hs x (List.mem_of_getElem? hx)
      have h3 : appO 16 ([] : List ByteArray) x.f3 = some x.f3 := appO_eq (by simp; omega) (by simp; omega)
      have h4 : appO 64 u [S90.mk x.f0 x.f1 x.f2 x.f3] = some (u ++ [x]) := appO_eq (by simp; omega) (by simp; omega)
      simp only [L15_3, h1, cond_true, listAt_some hx, Option.bind_some, h3, h4, h2]
    · cases hs'; simp [hI]
    · have h1 : ltI (l.length : Int) (lenL l) = false := by rw [ltI_iff, lenL_eq]; simp
      simp only [L15_3, h1, cond_false]
  unfold T15
  rw [show (0 : Int) = ((0 : Nat) : Int) from rfl, hi, wp_copy]
  rfl
theorem T16_eq (l : List S53) (h : l.length ≤ 1048576) (hs : ∀ x ∈ l, ok53 1048576 x) : T16 l = some l := by
  have hi : iter (L16_3 l) ([], ((0 : Nat) : Int)) = some (Sum.elim (fun s => ((l.length : Int), false, s)) (fun r : Empty => nomatch r) (wp (fun _ (s : List S53) x => (.inl (s ++ [x]) : List S53 ⊕ Empty)) 0 [] l)) := by
    refine iter_wp (fun s i => (s, (i : Int))) _ _ l _ (fun i s => s.length = i) (fun i u x hx hI => ⟨?_, fun s' hs' => ?_⟩) (fun u _ => ?_) _ rfl
    · have hlt : i < l.length := (List.getElem?_eq_some_iff.1 hx).1
      have h1 : ltI (i : Int) (lenL l) = true := by rw [ltI_iff, lenL_eq]; simpa using hlt
      have h2 : addI .i64 (i : Int) 1 = ((i + 1 : Nat) : Int) := by rw [addI_eq (by omega) (by omega)]; omega
      obtain ⟨k1, k2, k3, ⟨k4, k5⟩, k6⟩ := hs x (List.mem_of_getElem? hx)
      have h3 : appO 16 ([] : List ByteArray) x.f3 = some x.f3 := appO_eq (by simp; omega) (by simp; omega)
      have h4 : appO 96 u [S53.mk x.f0 x.f1 x.f2 x.f3 x.f4 x.f5 x.f6] = some (u ++ [x]) := appO_eq (by simp; omega) (by simp; omega)
      simp only [L16_3, h1, cond_true, listAt_some hx, Option.bind_some, h3, h4, h2]
    · cases hs'; simp [hI]
    · have h1 : ltI (l.length : Int) (lenL l) = false := by rw [ltI_iff, lenL_eq]; simp
      simp only [L16_3, h1, cond_false]
  unfold T16
  rw [show (0 : Int) = ((0 : Nat) : Int) from rfl, hi, wp_copy]
  rfl
theorem wp_true {α : Type} (i : Nat) (l : List α) : (wp (fun _ (_ : Unit) (_ : α) => (.inl () : Unit ⊕ Unit)) i () l) = .inl () := by
  induction l generalizing i with
  | nil => rfl
  | cons a l ih => exact ih (i + 1)
theorem T69_self (l : List ByteArray) (h : l.length ≤ 1048576) : T69 l l = some true := by
  have hi : iter (L69_4 l l) ((0 : Nat) : Int) = some (Sum.elim (fun _ => .inl ((l.length : Int), false)) (fun r => .inr r) (wp (fun _ (_ : Unit) (_ : ByteArray) => (.inl () : Unit ⊕ Unit)) 0 () l)) := by
    refine iter_wp (fun _ i => (i : Int)) _ _ l _ (fun _ _ => True) (fun i u x hx _ => ⟨?_, fun _ _ => trivial⟩) (fun u _ => ?_) _ trivial
    · have hlt : i < l.length := (List.getElem?_eq_some_iff.1 hx).1
      have h1 : ltI (i : Int) (lenL l) = true := by rw [ltI_iff, lenL_eq]; simpa using hlt
      have h2 : addI .i64 (i : Int) 1 = ((i + 1 : Nat) : Int) := by rw [addI_eq (by omega) (by omega)]; omega
      simp only [L69_4, h1, cond_true, listAt_some hx, Option.bind_some, h2, eqS_self, Bool.not_true, cond_false]
    · have h1 : ltI (l.length : Int) (lenL l) = false := by rw [ltI_iff, lenL_eq]; simp
      simp only [L69_4, h1, cond_false]
  have h3 : neI (lenL l) (lenL l) = false := by rw [neI_iff]; simp
  unfold T69
  rw [show (0 : Int) = ((0 : Nat) : Int) from rfl, hi, wp_true, h3]
  rfl
theorem eqI_self (a : Int) : eqI a a = true := by rw [eqI_iff]; simp
theorem T68_self (x : S90) (h : x.f3.length ≤ 1048576) : T68 x x = some true := by
  unfold T68
  simp only [eqS_self, eqI_self, allB, Bool.and_true, cond_true, T69_self x.f3 h, Option.bind_some]
theorem T30_self (x : S53) (h : x.f3.length ≤ 1048576) : T30 x x = some true := by
  unfold T30
  simp only [eqS_self, eqI_self, allB, Bool.and_true, cond_true, T69_self x.f3 h, Option.bind_some]
theorem T18_self (l : List S90) (h : l.length ≤ 1048576) (hs : ∀ x ∈ l, ok90 1048576 x) : T18 l l = some true := by
  have hi : iter (L67_4 l l) ((0 : Nat) : Int) = some (Sum.elim (fun _ => .inl ((l.length : Int), false)) (fun r => .inr r) (wp (fun _ (_ : Unit) (_ : S90) => (.inl () : Unit ⊕ Unit)) 0 () l)) := by
    refine iter_wp (fun _ i => (i : Int)) _ _ l _ (fun _ _ => True) (fun i u x hx _ => ⟨?_, fun _ _ => trivial⟩) (fun u _ => ?_) _ trivial
    · have hlt : i < l.length := (List.getElem?_eq_some_iff.1 hx).1
      have h1 : ltI (i : Int) (lenL l) = true := by rw [ltI_iff, lenL_eq]; simpa using hlt
      have h2 : addI .i64 (i : Int) 1 = ((i + 1 : Nat) : Int) := by rw [addI_eq (by omega) (by omega)]; omega
      obtain ⟨k1, k2, k3, k4, k5⟩ := hs x (List.mem_of_getElem? hx)
      simp only [L67_4, h1, cond_true, listAt_some hx, Option.bind_some, h2, T68_self x k4, Bool.not_true, cond_false]
    · have h1 : ltI (l.length : Int) (lenL l) = false := by rw [ltI_iff, lenL_eq]; simp
      simp only [L67_4, h1, cond_false]
  have h3 : neI (lenL l) (lenL l) = false := by rw [neI_iff]; simp
  unfold T18 T67
  rw [show (0 : Int) = ((0 : Nat) : Int) from rfl, hi, wp_true, h3]
  rfl
theorem T19_self (l : List S53) (h : l.length ≤ 1048576) (hs : ∀ x ∈ l, ok53 1048576 x) : T19 l l = some true := by
  have hi : iter (L70_4 l l) ((0 : Nat) : Int) = some (Sum.elim (fun _ => .inl ((l.length : Int), false)) (fun r => .inr r) (wp (fun _ (_ : Unit) (_ : S53) => (.inl () : Unit ⊕ Unit)) 0 () l)) := by
    refine iter_wp (fun _ i => (i : Int)) _ _ l _ (fun _ _ => True) (fun i u x hx _ => ⟨?_, fun _ _ => trivial⟩) (fun u _ => ?_) _ trivial
    · have hlt : i < l.length := (List.getElem?_eq_some_iff.1 hx).1
      have h1 : ltI (i : Int) (lenL l) = true := by rw [ltI_iff, lenL_eq]; simpa using hlt
      have h2 : addI .i64 (i : Int) 1 = ((i + 1 : Nat) : Int) := by rw [addI_eq (by omega) (by omega)]; omega
      obtain ⟨k1, k2, k3, ⟨k4, k5⟩, k6⟩ := hs x (List.mem_of_getElem? hx)
      simp only [L70_4, h1, cond_true, listAt_some hx, Option.bind_some, h2, T30_self x k4, Bool.not_true, cond_false]
    · have h1 : ltI (l.length : Int) (lenL l) = false := by rw [ltI_iff, lenL_eq]; simp
      simp only [L70_4, h1, cond_false]
  have h3 : neI (lenL l) (lenL l) = false := by rw [neI_iff]; simp
  unfold T19 T70
  rw [show (0 : Int) = ((0 : Nat) : Int) from rfl, hi, wp_true, h3]
  rfl
/-! Errors, the first of two. -/
def or2 (a b : Int) : Int := bif neI a 0 then a else b
theorem T49_eq (a b : Int) : T49 [a, b] = some (or2 a b) := by
  unfold T49
  have a1 : addI .i64 0 1 = 1 := rfl
  have a2 : addI .i64 1 1 = 2 := rfl
  have s0 : L49_2 [a, b] 0 = bif neI a 0 then some (.inr (.inr a)) else some (.inl 1) := by
    simp only [L49_2, a1]; rfl
  have s1 : L49_2 [a, b] 1 = bif neI b 0 then some (.inr (.inr b)) else some (.inl 2) := by
    simp only [L49_2, a2]; rfl
  have s2 : L49_2 [a, b] 2 = some (.inr (.inl (2, false))) := rfl
  unfold or2
  cases ha : neI a 0 with
  | true =>
    rw [ha] at s0
    rw [iter_stop s0]
    rfl
  | false =>
    rw [ha] at s0
    rw [iter_next s0]
    cases hb : neI b 0 with
    | true =>
      rw [hb] at s1
      rw [iter_stop s1]
      rfl
    | false =>
      rw [hb] at s1
      rw [iter_next s1, iter_stop s2]
      have : b = 0 := by rw [neI_iff] at hb; simpa using hb
      rw [this]
      rfl
theorem T150_eq (l : List S90) (m : List S53) (h : l.length ≤ 1048576) (hs : ∀ x ∈ l, ok90 1048576 x) (h' : m.length ≤ 1048576) (hs' : ∀ x ∈ m, ok53 1048576 x) : T150 l m = some (or2 (spotsF l) (campsF m)) := by
  unfold T150 or2
  rw [T58_eq l h hs, T60_eq m h' hs']
  simp only [Option.bind_some]
  cases neI (spotsF l) 0 <;> rfl
end Go.Abs.TB
