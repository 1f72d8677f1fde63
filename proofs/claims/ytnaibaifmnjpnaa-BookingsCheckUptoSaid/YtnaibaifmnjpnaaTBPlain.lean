import Derived.Test.YtnaibaifmnjpnaaTBR
import Derived.Test.YtnaibaifmnjpnaaPl
set_option linter.unusedVariables false
set_option linter.unusedSimpArgs false
namespace Go.Abs.TB
open Go.RowKit
/-! Keys. -/
def wc (x : Int) : Bool := (leI 97 x && leI x 122) || ((leI 48 x && leI x 57) || eqI x 45 || eqI x 95)
def okAt (i : Nat) (c : UInt8) : Bool := (leI 97 c.toNat && leI c.toNat 122) || (ltI 0 i && ((leI 48 c.toNat && leI c.toNat 57) || eqI c.toNat 45 || eqI c.toNat 95))
def key (s : ByteArray) : Bool := ((by_ s).zipIdx.all fun q => okAt q.2 q.1) && !eqS s (ByteArray.mk #[]) && leI (lenS s) 40
theorem T137_eq (s : ByteArray) (h : s.size ≤ 1048576) : T137 s = some (key s) := by
  have hi : iter (L137_2 s) ((0 : Nat) : Int) = some (Sum.elim (fun _ : Unit => .inl ((s.size : Int), false)) (fun _ : Unit => .inr ()) (wp (fun i (_ : Unit) x => bif okAt i x then (.inl () : Unit ⊕ Unit) else .inr ()) 0 () (by_ s))) := by
    refine iter_wpS (fun _ i => (i : Int)) _ _ s _ (fun _ _ => True) (fun i u x hx _ => ⟨?_, fun _ _ => trivial⟩) (fun u _ => ?_) () trivial
    · have hlt : i < s.size := by rw [← by_len]; exact (List.getElem?_eq_some_iff.1 hx).1
      have h1 : ltI (i : Int) (lenS s) = true := by rw [ltI_iff, lenS_eq]; simpa using hlt
      have h2 : addI .i64 (i : Int) 1 = ((i + 1 : Nat) : Int) := by rw [addI_eq (by omega) (by omega)]; omega
      simp only [L137_2, h1, cond_true, byteAt_some hx, Option.bind_some, h2, okAt]
      generalize leI 97 (x.toNat : Int) = b1
      generalize leI (x.toNat : Int) 122 = b2
      generalize ltI 0 (i : Int) = b3
      generalize leI 48 (x.toNat : Int) = b4
      generalize leI (x.toNat : Int) 57 = b5
      generalize eqI (x.toNat : Int) 45 = b6
      generalize eqI (x.toNat : Int) 95 = b7
      cases b1 <;> cases b2 <;> cases b3 <;> cases b4 <;> cases b5 <;> cases b6 <;> cases b7 <;> rfl
    · have h1 : ltI (s.size : Int) (lenS s) = false := by rw [ltI_iff, lenS_eq]; simp
      simp only [L137_2, h1, cond_false]
  unfold T137
  rw [show (0 : Int) = ((0 : Nat) : Int) from rfl, hi, wp_all okAt, elim_cond, Option.bind_some]
  unfold key
  cases (by_ s).zipIdx.all fun q => okAt q.2 q.1 <;> cases eqS s (ByteArray.mk #[]) <;> rfl
def smalls : ByteArray := ByteArray.mk #[97, 98, 99, 100, 101, 102, 103, 104, 105, 106, 107, 108, 109, 110, 111, 112, 113, 114, 115, 116, 117, 118, 119, 120, 121, 122]
def words : ByteArray := ByteArray.mk #[97, 98, 99, 100, 101, 102, 103, 104, 105, 106, 107, 108, 109, 110, 111, 112, 113, 114, 115, 116, 117, 118, 119, 120, 121, 122, 48, 49, 50, 51, 52, 53, 54, 55, 56, 57, 45, 95]
theorem T143_eq (s t : ByteArray) (h : s.size ≤ 1048576) : T143 s t = some ((by_ s).all fun c => !ltI (idxB t c.toNat) 0) := by
  have hi : iter (L143_2 s t) ((0 : Nat) : Int) = some (Sum.elim (fun _ : Unit => .inl ((s.size : Int), false)) (fun _ : Unit => .inr ()) (wp (fun i (_ : Unit) (x : UInt8) => bif !ltI (idxB t x.toNat) 0 then (.inl () : Unit ⊕ Unit) else .inr ()) 0 () (by_ s))) := by
    refine iter_wpS (fun _ i => (i : Int)) _ _ s _ (fun _ _ => True) (fun i u x hx _ => ⟨?_, fun _ _ => trivial⟩) (fun u _ => ?_) () trivial
    · have hlt : i < s.size := by rw [← by_len]; exact (List.getElem?_eq_some_iff.1 hx).1
      have h1 : ltI (i : Int) (lenS s) = true := by rw [ltI_iff, lenS_eq]; simpa using hlt
      have h2 : addI .i64 (i : Int) 1 = ((i + 1 : Nat) : Int) := by rw [addI_eq (by omega) (by omega)]; omega
      simp only [L143_2, T222, h1, cond_true, byteAt_some hx, Option.bind_some, h2]
      cases ltI (idxB t (x.toNat : Int)) 0 <;> rfl
    · have h1 : ltI (s.size : Int) (lenS s) = false := by rw [ltI_iff, lenS_eq]; simp
      simp only [L143_2, h1, cond_false]
  unfold T143
  rw [show (0 : Int) = ((0 : Nat) : Int) from rfl, hi, wp_all', elim_cond, Option.bind_some]
  cases (by_ s).all fun c => !ltI (idxB t (c.toNat : Int)) 0 <;> rfl
theorem smalls_idx : ∀ n : Fin 256, (!ltI (Lib.indexByte (by_ smalls) (UInt8.ofNat n.val)) 0) = (leI 97 n.val && leI n.val 122) := by decide +kernel
theorem words_idx : ∀ n : Fin 256, (!ltI (Lib.indexByte (by_ words) (UInt8.ofNat n.val)) 0) = wc n.val := by decide +kernel
theorem smalls_at (c : UInt8) : (!ltI (idxB smalls c.toNat) 0) = (leI 97 c.toNat && leI c.toNat 122) := by
  have := smalls_idx ⟨c.toNat, c.toNat_lt⟩
  simpa [idxB] using this
theorem words_at (c : UInt8) : (!ltI (idxB words c.toNat) 0) = wc c.toNat := by
  have := words_idx ⟨c.toNat, c.toNat_lt⟩
  simpa [idxB] using this
theorem okAt_pos {i : Nat} (h : 1 ≤ i) (c : UInt8) : okAt i c = wc c.toNat := by
  have : ltI 0 (i : Int) = true := by rw [ltI_iff]; simp; omega
  simp only [okAt, wc, this, Bool.true_and]
theorem okAt_all (l : List UInt8) (k : Nat) (h : 1 ≤ k) : ((l.zipIdx k).all fun q => okAt q.2 q.1) = l.all fun c => wc c.toNat := by
  induction l generalizing k with
  | nil => rfl
  | cons a l ih => simp only [List.zipIdx_cons, List.all_cons, okAt_pos h, ih (k + 1) (by omega)]
theorem eqS_empty {s : ByteArray} (h : s.size ≠ 0) : eqS s (ByteArray.mk #[]) = false := by
  rw [eqS_iff]
  simp only [decide_eq_false_iff_not]
  intro e
  rw [e] at h
  exact h rfl
theorem T132_eq (a b c : Int) : T132 a b c = some (leI b a && leI a c) := by
  unfold T132
  cases leI b a <;> rfl
theorem T51_eq (s : ByteArray) (h : s.size ≤ 1048576) : T51 s = some (key s) := by
  unfold T51
  rw [T132_eq, Option.bind_some]
  have hlen := by_len s
  rcases hb : by_ s with _ | ⟨c, l⟩
  · rw [hb] at hlen
    have h0 : s.size = 0 := hlen.symm
    have h1 : leI 1 (lenS s) = false := by rw [leI_iff, lenS_eq, h0]; rfl
    have h2 : eqS s (ByteArray.mk #[]) = true := by
      rw [eqS_iff]; simp only [decide_eq_true_eq]; exact by_inj hb
    unfold key
    rw [h1, h2, Bool.false_and, cond_false]
    simp
  · rw [hb, List.length_cons] at hlen
    have h1 : leI 1 (lenS s) = true := by rw [leI_iff, lenS_eq]; simp; omega
    have h2 : eqS s (ByteArray.mk #[]) = false := eqS_empty (by omega)
    have h3 : cutS s none (some 1) = some (s.extract 0 1) := by
      have : (1 : Int) ≤ (s.size : Int) := by omega
      simp [cutS, cutB, this]
    have h4 : by_ (s.extract 0 1) = [c] := by rw [by_extract, hb]; rfl
    have h5 : (s.extract 0 1).size ≤ 1048576 := by rw [← by_len, h4]; simp
    have h6 := T143_eq (s.extract 0 1) smalls h5
    have h7 := T143_eq s words h
    unfold smalls at h6
    unfold words at h7
    rw [h1, h3, Bool.true_and, Option.bind_some, h6, h4, h7, hb]
    simp only [Option.bind_some, List.all_cons, List.all_nil, Bool.and_true]
    have h8 : (!ltI (idxB (ByteArray.mk #[97, 98, 99, 100, 101, 102, 103, 104, 105, 106, 107, 108, 109, 110, 111, 112, 113, 114, 115, 116, 117, 118, 119, 120, 121, 122]) c.toNat) 0) = (leI 97 c.toNat && leI c.toNat 122) := smalls_at c
    have h9 : ∀ c : UInt8, (!ltI (idxB (ByteArray.mk #[97, 98, 99, 100, 101, 102, 103, 104, 105, 106, 107, 108, 109, 110, 111, 112, 113, 114, 115, 116, 117, 118, 119, 120, 121, 122, 48, 49, 50, 51, 52, 53, 54, 55, 56, 57, 45, 95]) c.toNat) 0) = wc c.toNat := words_at
    simp only [h8, h9]
    unfold key
    have h10 : okAt 0 c = (leI 97 c.toNat && leI c.toNat 122) := by simp [okAt, ltI]
    rw [h2, hb, List.zipIdx_cons, List.all_cons, okAt_all l _ (by omega), h10]
    unfold wc
    cases leI 97 (c.toNat : Int) <;> cases leI (c.toNat : Int) 122 <;> cases (l.all fun c => (leI 97 (c.toNat : Int) && leI (c.toNat : Int) 122) || ((leI 48 (c.toNat : Int) && leI (c.toNat : Int) 57) || eqI (c.toNat : Int) 45 || eqI (c.toNat : Int) 95)) <;> cases leI (lenS s) 40 <;> rfl
theorem key_pos {s : ByteArray} (h : key s = true) : s.size ≠ 0 := by
  intro h0
  unfold key at h
  have : eqS s (ByteArray.mk #[]) = true := by
    rw [eqS_iff]; simp only [decide_eq_true_eq]
    apply by_inj
    exact List.eq_nil_of_length_eq_zero (by rw [by_len]; exact h0)
  rw [this] at h
  simp at h
/-! Strings, and how they are ordered. -/
theorem leS_empty {s : ByteArray} (h : s.size ≠ 0) : leS s (ByteArray.mk #[]) = false := by
  unfold leS
  rw [eqS_empty h, ltS_eq]
  cases hb : by_ s with
  | nil => rfl
  | cons c l => rfl
/-! Tags. -/
def risF (_ : Nat) (last : ByteArray) (x : ByteArray) : ByteArray ⊕ Int := bif !key x then .inr 5 else bif leS x last then .inr 7 else .inl x
def tagsF (l : List ByteArray) : Int := bif ltI 20 (lenL l) then 2 else Sum.elim (fun _ => 0) id (wp risF 0 (ByteArray.mk #[]) l)
def Prev {α : Type} (l : List α) (k : α → ByteArray) (i : Nat) (s : ByteArray) : Prop := (i = 0 ∧ s = ByteArray.mk #[]) ∨ ∃ x, 0 < i ∧ l[i - 1]? = some x ∧ s = k x
theorem T225_eq (l : List ByteArray) (h : l.length ≤ 1048576) (hs : ∀ x ∈ l, x.size ≤ 1048576) : T225 l = some (Sum.elim (fun _ => 0) id (wp risF 0 (ByteArray.mk #[]) l)) := by
  have hi : iter (L225_2 l) ((0 : Nat) : Int) = some (Sum.elim (fun _ => .inl ((l.length : Int), false)) (fun r => .inr r) (wp risF 0 (ByteArray.mk #[]) l)) := by
    refine iter_wp (fun _ i => (i : Int)) _ _ l risF (Prev l id) (fun i u x hx hI => ?_) (fun u _ => ?_) _ (.inl ⟨rfl, rfl⟩)
    · have hlt : i < l.length := (List.getElem?_eq_some_iff.1 hx).1
      have h1 : ltI (i : Int) (lenL l) = true := by rw [ltI_iff, lenL_eq]; simpa using hlt
      have h2 : addI .i64 (i : Int) 1 = ((i + 1 : Nat) : Int) := by rw [addI_eq (by omega) (by omega)]; omega
      have h3 := T137_eq x (hs x (List.mem_of_getElem? hx))
      refine ⟨?_, fun s' hf => ?_⟩
      · simp only [L225_2, h1, cond_true, listAt_some hx, Option.bind_some, h3, h2, risF]
        cases hk : key x with
        | false => rfl
        | true =>
          simp only [Bool.not_true, cond_false]
          rcases hI with ⟨rfl, rfl⟩ | ⟨y, hi0, hy, hu⟩
          · have h4 : ltI 0 ((0 : Nat) : Int) = false := rfl
            rw [h4, leS_empty (key_pos hk)]
            rfl
          · have h4 : ltI 0 (i : Int) = true := by rw [ltI_iff]; simp; omega
            have h5 : subI .i64 (i : Int) 1 = ((i - 1 : Nat) : Int) := by rw [subI_eq (by omega) (by omega)]; omega
            rw [h4, h5, listAt_some hy, hu]
            simp only [cond_true, Option.bind_some, leS, id]
            cases (ltS x y || eqS x y) <;> rfl
      · refine .inr ⟨x, by omega, by simpa using hx, ?_⟩
        unfold risF at hf
        cases hk : key x <;> rw [hk] at hf
        · cases hf
        · simp only [Bool.not_true, cond_false] at hf
          cases hl : leS x u <;> rw [hl] at hf
          · exact (Sum.inl.inj hf).symm
          · cases hf
    · have h1 : ltI (l.length : Int) (lenL l) = false := by rw [ltI_iff, lenL_eq]; simp
      simp only [L225_2, h1, cond_false]
  unfold T225
  rw [show (0 : Int) = ((0 : Nat) : Int) from rfl, hi, Option.bind_some]
  cases wp risF 0 (ByteArray.mk #[]) l <;> rfl
theorem listAt_mem {α : Type} {l : List α} {i : Int} {x : α} (h : listAt l i = some x) : x ∈ l := by
  unfold listAt at h
  split at h
  · exact List.mem_of_getElem? h
  · cases h
theorem T226_eq (l : List ByteArray) (h : l.length ≤ 1048576) (hs : ∀ x ∈ l, x.size ≤ 1048576) : T226 l = some (Sum.elim (fun _ => 0) id (wp risF 0 (ByteArray.mk #[]) l)) := by
  rw [← T225_eq l h hs]
  have : L226_2 l = L225_2 l := by
    funext z
    unfold L226_2 L225_2
    cases hx : listAt l z with
    | none => rfl
    | some x => simp only [Option.bind_some, T51_eq x (hs x (listAt_mem hx)), T137_eq x (hs x (listAt_mem hx))]
  unfold T226 T225
  rw [this]
theorem T148_eq (l : List ByteArray) (h : l.length ≤ 1048576) (hs : ∀ x ∈ l, x.size ≤ 1048576) : T148 l = some (tagsF l) := by
  unfold T148 tagsF
  rw [T225_eq l h hs]
  cases ltI 20 (lenL l) <;> rfl
theorem T149_eq (l : List ByteArray) (h : l.length ≤ 1048576) (hs : ∀ x ∈ l, x.size ≤ 1048576) : T149 l = some (tagsF l) := by
  unfold T149 tagsF
  rw [T226_eq l h hs]
  cases ltI 20 (lenL l) <;> rfl
/-! Spots. -/
def timeB (w : S38) : Bool := leI 0 w.f0 && ltI w.f0 w.f1 && leI w.f1 345686400000
def outB (a b c : Int) : Bool := ltI a b || ltI c a
theorem T147_eq (w : S38) : T147 w = some (timeB w) := by
  unfold T147 timeB
  cases leI 0 w.f0 <;> cases ltI w.f0 w.f1 <;> rfl
theorem T126_eq (a b c : Int) : T126 a b c = some (outB a b c) := by
  unfold T126 outB
  cases ltI a b <;> rfl
theorem ltI_not (a b : Int) : ltI a b = !leI b a := by
  rw [ltI_iff, leI_iff, Bool.eq_iff_iff]; simp
theorem leI_not (a b : Int) : leI a b = !ltI b a := by
  rw [ltI_iff, leI_iff, Bool.eq_iff_iff]; simp
def spotF (_ : Nat) (last : ByteArray) (x : S90) : ByteArray ⊕ Int :=
  bif !key x.f0 then .inr 5 else bif leS x.f0 last then .inr 7 else bif !timeB x.f1 || outB x.f2 0 1000000 then .inr 1 else bif neI (tagsF x.f3) 0 then .inr (tagsF x.f3) else .inl x.f0
def spotsF (l : List S90) : Int := bif ltI 60 (lenL l) then 2 else Sum.elim (fun _ => 0) id (wp spotF 0 (ByteArray.mk #[]) l)
theorem spotF_inl {i : Nat} {u s' : ByteArray} {x : S90} (hf : spotF i u x = .inl s') : s' = x.f0 := by
  unfold spotF at hf
  cases hk : key x.f0 <;> rw [hk] at hf
  · cases hf
  · simp only [Bool.not_true, cond_false] at hf
    cases hl : leS x.f0 u <;> rw [hl] at hf
    · simp only [cond_false] at hf
      cases ht : (!timeB x.f1 || outB x.f2 0 1000000) <;> rw [ht] at hf
      · simp only [cond_false] at hf
        cases hg : neI (tagsF x.f3) 0 <;> rw [hg] at hf
        · exact (Sum.inl.inj hf).symm
        · cases hf
      · cases hf
    · cases hf
theorem T58_eq (l : List S90) (h : l.length ≤ 1048576) (hs : ∀ x ∈ l, ok90 1048576 x) : T58 l = some (spotsF l) := by
  have hi : iter (L58_4 l) ((0 : Nat) : Int) = some (Sum.elim (fun _ => .inl ((l.length : Int), false)) (fun r => .inr r) (wp spotF 0 (ByteArray.mk #[]) l)) := by
    refine iter_wp (fun _ i => (i : Int)) _ _ l spotF (Prev l S90.f0) (fun i u x hx hI => ?_) (fun u _ => ?_) _ (.inl ⟨rfl, rfl⟩)
    · have hlt : i < l.length := (List.getElem?_eq_some_iff.1 hx).1
      have h1 : ltI (i : Int) (lenL l) = true := by rw [ltI_iff, lenL_eq]; simpa using hlt
      have h2 : addI .i64 (i : Int) 1 = ((i + 1 : Nat) : Int) := by rw [addI_eq (by omega) (by omega)]; omega
      obtain ⟨k1, k2, k3, k4, k5⟩ := hs x (List.mem_of_getElem? hx)
      have h3 := T137_eq x.f0 k1
      have h6 := T148_eq x.f3 k4 k5
      refine ⟨?_, fun s' hf => ?_⟩
      · simp only [L58_4, h1, cond_true, listAt_some hx, Option.bind_some, h3, h2, spotF, T147_eq, T126_eq, h6]
        cases hk : key x.f0 with
        | false => rfl
        | true =>
          simp only [Bool.not_true, cond_false]
          rcases hI with ⟨rfl, rfl⟩ | ⟨y, hi0, hy, hu⟩
          · have h4 : ltI 0 ((0 : Nat) : Int) = false := rfl
            rw [h4, leS_empty (key_pos hk)]
            simp only [cond_false]
            cases timeB x.f1 <;> cases outB x.f2 0 1000000 <;> simp only [Bool.not_true, Bool.not_false, Bool.true_or, Bool.false_or, cond_true, cond_false, Option.bind_some, Sum.elim_inl, Sum.elim_inr] <;> (try rfl) <;> (cases neI (tagsF x.f3) 0 <;> rfl)
          · have h4 : ltI 0 (i : Int) = true := by rw [ltI_iff]; simp; omega
            have h5 : subI .i64 (i : Int) 1 = ((i - 1 : Nat) : Int) := by rw [subI_eq (by omega) (by omega)]; omega
            rw [h4, h5, listAt_some hy, hu]
            simp only [cond_true, Option.bind_some, leS]
            cases (ltS x.f0 y.f0 || eqS x.f0 y.f0) <;> simp only [cond_true, cond_false, Option.bind_some, Sum.elim_inl, Sum.elim_inr]
            cases timeB x.f1 <;> cases outB x.f2 0 1000000 <;> simp only [Bool.not_true, Bool.not_false, Bool.true_or, Bool.false_or, cond_true, cond_false, Option.bind_some, Sum.elim_inl, Sum.elim_inr] <;> (try rfl) <;> (cases neI (tagsF x.f3) 0 <;> rfl)
      · exact .inr ⟨x, by omega, by simpa using hx, spotF_inl hf⟩
    · have h1 : ltI (l.length : Int) (lenL l) = false := by rw [ltI_iff, lenL_eq]; simp
      simp only [L58_4, h1, cond_false]
  unfold T58 spotsF
  rw [show (0 : Int) = ((0 : Nat) : Int) from rfl, hi, Option.bind_some]
  cases ltI 60 (lenL l) <;> cases wp spotF 0 (ByteArray.mk #[]) l <;> rfl
theorem T59_eq (l : List S90) (h : l.length ≤ 1048576) (hs : ∀ x ∈ l, ok90 1048576 x) : T59 l = some (spotsF l) := by
  have hi : iter (L59_5 l) (ByteArray.mk #[], ((0 : Nat) : Int)) = some (Sum.elim (fun s => .inl (s, (l.length : Int), false)) (fun r => .inr r) (wp spotF 0 (ByteArray.mk #[]) l)) := by
    refine iter_wp (fun s i => (s, (i : Int))) _ _ l spotF (fun _ _ => True) (fun i u x hx _ => ⟨?_, fun _ _ => trivial⟩) (fun u _ => ?_) _ trivial
    · have hlt : i < l.length := (List.getElem?_eq_some_iff.1 hx).1
      have h1 : ltI (i : Int) (lenL l) = true := by rw [ltI_iff, lenL_eq]; simpa using hlt
      have h2 : addI .i64 (i : Int) 1 = ((i + 1 : Nat) : Int) := by rw [addI_eq (by omega) (by omega)]; omega
      obtain ⟨k1, k2, k3, k4, k5⟩ := hs x (List.mem_of_getElem? hx)
      have h3 := T51_eq x.f0 k1
      have h6 := T149_eq x.f3 k4 k5
      simp only [L59_5, h1, cond_true, listAt_some hx, Option.bind_some, h3, h2, spotF, T132_eq, h6, leS, timeB, outB, ltI_not x.f1.f0 0, ltI_not x.f1.f0 x.f1.f1, ltI_not 345686400000 x.f1.f1, ltI_not x.f2 0, ltI_not 1000000 x.f2]
      cases key x.f0 <;> cases (ltS x.f0 u || eqS x.f0 u) <;> cases leI 0 x.f1.f0 <;> cases leI x.f1.f1 x.f1.f0 <;> cases leI x.f1.f1 345686400000 <;> cases leI 0 x.f2 <;> cases leI x.f2 1000000 <;> cases neI (tagsF x.f3) 0 <;> rfl
    · have h1 : ltI (l.length : Int) (lenL l) = false := by rw [ltI_iff, lenL_eq]; simp
      simp only [L59_5, h1, cond_false]
  unfold T59 spotsF
  rw [show (0 : Int) = ((0 : Nat) : Int) from rfl, hi, Option.bind_some]
  cases ltI 60 (lenL l) <;> cases wp spotF 0 (ByteArray.mk #[]) l <;> rfl
end Go.Abs.TB
