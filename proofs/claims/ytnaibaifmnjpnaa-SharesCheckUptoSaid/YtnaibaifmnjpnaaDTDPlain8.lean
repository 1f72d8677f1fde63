import Derived.Test.YtnaibaifmnjpnaaDTDR
import Derived.Test.YtnaibaifmnjpnaaDPl
import Derived.Test.YtnaibaifmnjpnaaDPlU
set_option linter.unusedVariables false
set_option linter.unusedSimpArgs false
namespace Go.Abs.TD
open Go.RowKit
/-! Keys. -/
def wc (x : Int) : Bool := (leI 97 x && leI x 122) || ((leI 48 x && leI x 57) || eqI x 45 || eqI x 95)
def okAt (i : Nat) (c : UInt8) : Bool := (leI 97 c.toNat && leI c.toNat 122) || (ltI 0 i && ((leI 48 c.toNat && leI c.toNat 57) || eqI c.toNat 45 || eqI c.toNat 95))
def key (s : ByteArray) : Bool := ((by_ s).zipIdx.all fun q => okAt q.2 q.1) && !eqS s (ByteArray.mk #[]) && leI (lenS s) 40
theorem T137_eq (s : ByteArray) (h : s.size ≤ 1048576) : T137 s = some (key s) := by
  have hi : iter (L137_2 s) ((0 : Nat) : Int) = some (Sum.elim (fun _ : Unit => .inl ((s.size : Int), false)) (fun _ : Unit => .inr ()) (wp (fun i (_ : Unit) x => bif okAt i x then (.inl () : Unit ⊕ Unit) else .inr ()) 0 () (by_ s))) := by
    refine iter_wpS (fun _ i => (i : Int)) _ _ s _ (fun _ _ => True) (fun i u x hx _ => ⟨?_, fun _ _ => trivial⟩) (fun u _ => ?_) () trivial
    · have hlt : i < s.size := by rw [← by_len]; exact (List.getElem?_eq_some_iff.1 hx).1
      have h1 : ltI (i : Int) (lenS s) = true := by rw [ltI_iff, lenS_eq]; simpa using hlt
      have h2 : addI .i64 (i : Int) 1 = ((i + 1 : Nat) : Int) := by rw [addI_eq (by omega) (by omega)]; omega
      simp only [L137_2, h1, cond_true, byteAt_some hx, Option.bind_some, h2, okAt]
      generalize leI 97 (x.toNat : Int) = b1
      generalize leI (x.toNat : Int) 122 = b2
      generalize ltI 0 (i : Int) = b3
      generalize leI 48 (x.toNat : Int) = b4
      generalize leI (x.toNat : Int) 57 = b5
      generalize eqI (x.toNat : Int) 45 = b6
      generalize eqI (x.toNat : Int) 95 = b7
      cases b1 <;> cases b2 <;> cases b3 <;> cases b4 <;> cases b5 <;> cases b6 <;> cases b7 <;> rfl
    · have h1 : ltI (s.size : Int) (lenS s) = false := by rw [ltI_iff, lenS_eq]; simp
      simp only [L137_2, h1, cond_false]
  unfold T137
  rw [show (0 : Int) = ((0 : Nat) : Int) from rfl, hi, wp_all okAt, elim_cond, Option.bind_some]
  unfold key
  cases (by_ s).zipIdx.all fun q => okAt q.2 q.1 <;> cases eqS s (ByteArray.mk #[]) <;> rfl
def smalls : ByteArray := ByteArray.mk #[97, 98, 99, 100, 101, 102, 103, 104, 105, 106, 107, 108, 109, 110, 111, 112, 113, 114, 115, 116, 117, 118, 119, 120, 121, 122]
def words : ByteArray := ByteArray.mk #[97, 98, 99, 100, 101, 102, 103, 104, 105, 106, 107, 108, 109, 110, 111, 112, 113, 114, 115, 116, 117, 118, 119, 120, 121, 122, 48, 49, 50, 51, 52, 53, 54, 55, 56, 57, 45, 95]
theorem T143_eq (s t : ByteArray) (h : s.size ≤ 1048576) : T143 s t = some ((by_ s).all fun c => !ltI (idxB t c.toNat) 0) := by
  have hi : iter (L143_2 s t) ((0 : Nat) : Int) = some (Sum.elim (fun _ : Unit => .inl ((s.size : Int), false)) (fun _ : Unit => .inr ()) (wp (fun i (_ : Unit) (x : UInt8) => bif !ltI (idxB t x.toNat) 0 then (.inl () : Unit ⊕ Unit) else .inr ()) 0 () (by_ s))) := by
    refine iter_wpS (fun _ i => (i : Int)) _ _ s _ (fun _ _ => True) (fun i u x hx _ => ⟨?_, fun _ _ => trivial⟩) (fun u _ => ?_) () trivial
    · have hlt : i < s.size := by rw [← by_len]; exact (List.getElem?_eq_some_iff.1 hx).1
      have h1 : ltI (i : Int) (lenS s) = true := by rw [ltI_iff, lenS_eq]; simpa using hlt
      have h2 : addI .i64 (i : Int) 1 = ((i + 1 : Nat) : Int) := by rw [addI_eq (by omega) (by omega)]; omega
      simp only [L143_2, T222, h1, cond_true, byteAt_some hx, Option.bind_some, h2]
      cases ltI (idxB t (x.toNat : Int)) 0 <;> rfl
    · have h1 : ltI (s.size : Int) (lenS s) = false := by rw [ltI_iff, lenS_eq]; simp
      simp only [L143_2, h1, cond_false]
  unfold T143
  rw [show (0 : Int) = ((0 : Nat) : Int) from rfl, hi, wp_all', elim_cond, Option.bind_some]
  cases (by_ s).all fun c => !ltI (idxB t (c.toNat : Int)) 0 <;> rfl
theorem smalls_idx : ∀ n : Fin 256, (!ltI (Lib.indexByte (by_ smalls) (UInt8.ofNat n.val)) 0) = (leI 97 n.val && leI n.val 122) := by decide +kernel
theorem words_idx : ∀ n : Fin 256, (!ltI (Lib.indexByte (by_ words) (UInt8.ofNat n.val)) 0) = wc n.val := by decide +kernel
theorem smalls_at (c : UInt8) : (!ltI (idxB smalls c.toNat) 0) = (leI 97 c.toNat && leI c.toNat 122) := by
  have := smalls_idx ⟨c.toNat, c.toNat_lt⟩
  simpa [idxB] using this
theorem words_at (c : UInt8) : (!ltI (idxB words c.toNat) 0) = wc c.toNat := by
  have := words_idx ⟨c.toNat, c.toNat_lt⟩
  simpa [idxB] using this
theorem okAt_pos {i : Nat} (h : 1 ≤ i) (c : UInt8) : okAt i c = wc c.toNat := by
  have : ltI 0 (i : Int) = true := by rw [ltI_iff]; simp; omega
  simp only [okAt, wc, this, Bool.true_and]
theorem okAt_all (l : List UInt8) (k : Nat) (h : 1 ≤ k) : ((l.zipIdx k).all fun q => okAt q.2 q.1) = l.all fun c => wc c.toNat := by
  induction l generalizing k with
  | nil => rfl
  | cons a l ih => simp only [List.zipIdx_cons, List.all_cons, okAt_pos h, ih (k + 1) (by omega)]
theorem eqS_empty {s : ByteArray} (h : s.size ≠ 0) : eqS s (ByteArray.mk #[]) = false := by
  rw [eqS_iff]
  simp only [decide_eq_false_iff_not]
  intro e
  rw [e] at h
  exact h rfl
theorem T132_eq (a b c : Int) : T132 a b c = some (leI b a && leI a c) := by
  unfold T132
  cases leI b a <;> rfl
theorem T51_eq (s : ByteArray) (h : s.size ≤ 1048576) : T51 s = some (key s) := by
  unfold T51
  rw [T132_eq, Option.bind_some]
  have hlen := by_len s
  rcases hb : by_ s with _ | ⟨c, l⟩
  · rw [hb] at hlen
    have h0 : s.size = 0 := hlen.symm
    have h1 : leI 1 (lenS s) = false := by rw [leI_iff, lenS_eq, h0]; rfl
    have h2 : eqS s (ByteArray.mk #[]) = true := by
      rw [eqS_iff]; simp only [decide_eq_true_eq]; exact by_inj hb
    unfold key
    rw [h1, h2, Bool.false_and, cond_false]
    simp
  · rw [hb, List.length_cons] at hlen
    have h1 : leI 1 (lenS s) = true := by rw [leI_iff, lenS_eq]; simp; omega
    have h2 : eqS s (ByteArray.mk #[]) = false := eqS_empty (by omega)
    have h3 : cutS s none (some 1) = some (s.extract 0 1) := by
      have : (1 : Int) ≤ (s.size : Int) := by omega
      simp [cutS, cutB, this]
    have h4 : by_ (s.extract 0 1) = [c] := by rw [by_extract, hb]; rfl
    have h5 : (s.extract 0 1).size ≤ 1048576 := by rw [← by_len, h4]; simp
    have h6 := T143_eq (s.extract 0 1) smalls h5
    have h7 := T143_eq s words h
    unfold smalls at h6
    unfold words at h7
    rw [h1, h3, Bool.true_and, Option.bind_some, h6, h4, h7, hb]
    simp only [Option.bind_some, List.all_cons, List.all_nil, Bool.and_true]
    have h8 : (!ltI (idxB (ByteArray.mk #[97, 98, 99, 100, 101, 102, 103, 104, 105, 106, 107, 108, 109, 110, 111, 112, 113, 114, 115, 116, 117, 118, 119, 120, 121, 122]) c.toNat) 0) = (leI 97 c.toNat && leI c.toNat 122) := smalls_at c
    have h9 : ∀ c : UInt8, (!ltI (idxB (ByteArray.mk #[97, 98, 99, 100, 101, 102, 103, 104, 105, 106, 107, 108, 109, 110, 111, 112, 113, 114, 115, 116, 117, 118, 119, 120, 121, 122, 48, 49, 50, 51, 52, 53, 54, 55, 56, 57, 45, 95]) c.toNat) 0) = wc c.toNat := words_at
    simp only [h8, h9]
    unfold key
    have h10 : okAt 0 c = (leI 97 c.toNat && leI c.toNat 122) := by simp [okAt, ltI]
    rw [h2, hb, List.zipIdx_cons, List.all_cons, okAt_all l _ (by omega), h10]
    unfold wc
    cases leI 97 (c.toNat : Int) <;> cases leI (c.toNat : Int) 122 <;> cases (l.all fun c => (leI 97 (c.toNat : Int) && leI (c.toNat : Int) 122) || ((leI 48 (c.toNat : Int) && leI (c.toNat : Int) 57) || eqI (c.toNat : Int) 45 || eqI (c.toNat : Int) 95)) <;> cases leI (lenS s) 40 <;> rfl
theorem key_pos {s : ByteArray} (h : key s = true) : s.size ≠ 0 := by
  intro h0
  unfold key at h
  have : eqS s (ByteArray.mk #[]) = true := by
    rw [eqS_iff]; simp only [decide_eq_true_eq]
    apply by_inj
    exact List.eq_nil_of_length_eq_zero (by rw [by_len]; exact h0)
  rw [this] at h
  simp at h
/-! Strings, and how they are ordered. -/
theorem leS_empty {s : ByteArray} (h : s.size ≠ 0) : leS s (ByteArray.mk #[]) = false := by
  unfold leS
  rw [eqS_empty h, ltS_eq]
  cases hb : by_ s with
  | nil => rfl
  | cons c l => rfl
/-! Tags. -/
def risF (_ : Nat) (last : ByteArray) (x : ByteArray) : ByteArray ⊕ Int := bif !key x then .inr 5 else bif leS x last then .inr 7 else .inl x
def tagsF (l : List ByteArray) : Int := bif ltI 20 (lenL l) then 2 else Sum.elim (fun _ => 0) id (wp risF 0 (ByteArray.mk #[]) l)
def Prev {α : Type} (l : List α) (k : α → ByteArray) (i : Nat) (s : ByteArray) : Prop := (i = 0 ∧ s = ByteArray.mk #[]) ∨ ∃ x, 0 < i ∧ l[i - 1]? = some x ∧ s = k x
theorem T225_eq (l : List ByteArray) (h : l.length ≤ 1048576) (hs : ∀ x ∈ l, x.size ≤ 1048576) : T225 l = some (Sum.elim (fun _ => 0) id (wp risF 0 (ByteArray.mk #[]) l)) := by
  have hi : iter (L225_2 l) ((0 : Nat) : Int) = some (Sum.elim (fun _ => .inl ((l.length : Int), false)) (fun r => .inr r) (wp risF 0 (ByteArray.mk #[]) l)) := by
    refine iter_wp (fun _ i => (i : Int)) _ _ l risF (Prev l id) (fun i u x hx hI => ?_) (fun u _ => ?_) _ (.inl ⟨rfl, rfl⟩)
    · have hlt : i < l.length := (List.getElem?_eq_some_iff.1 hx).1
      have h1 : ltI (i : Int) (lenL l) = true := by rw [ltI_iff, lenL_eq]; simpa using hlt
      have h2 : addI .i64 (i : Int) 1 = ((i + 1 : Nat) : Int) := by rw [addI_eq (by omega) (by omega)]; omega
      have h3 := T137_eq x (hs x (List.mem_of_getElem? hx))
      refine ⟨?_, fun s' hf => ?_⟩
      · simp only [L225_2, h1, cond_true, listAt_some hx, Option.bind_some, h3, h2, risF]
        cases hk : key x with
        | false => rfl
        | true =>
          simp only [Bool.not_true, cond_false]
          rcases hI with ⟨rfl, rfl⟩ | ⟨y, hi0, hy, hu⟩
          · have h4 : ltI 0 ((0 : Nat) : Int) = false := rfl
            rw [h4, leS_empty (key_pos hk)]
            rfl
          · have h4 : ltI 0 (i : Int) = true := by rw [ltI_iff]; simp; omega
            have h5 : subI .i64 (i : Int) 1 = ((i - 1 : Nat) : Int) := by rw [subI_eq (by omega) (by omega)]; omega
            rw [h4, h5, listAt_some hy, hu]
            simp only [cond_true, Option.bind_some, leS, id]
            cases (ltS x y || eqS x y) <;> rfl
      · refine .inr ⟨x, by omega, by simpa using hx, ?_⟩
        unfold risF at hf
        cases hk : key x <;> rw [hk] at hf
        · cases hf
        · simp only [Bool.not_true, cond_false] at hf
          cases hl : leS x u <;> rw [hl] at hf
          · exact (Sum.inl.inj hf).symm
          · cases hf
    · have h1 : ltI (l.length : Int) (lenL l) = false := by rw [ltI_iff, lenL_eq]; simp
      simp only [L225_2, h1, cond_false]
  unfold T225
  rw [show (0 : Int) = ((0 : Nat) : Int) from rfl, hi, Option.bind_some]
  cases wp risF 0 (ByteArray.mk #[]) l <;> rfl
theorem listAt_mem {α : Type} {l : List α} {i : Int} {x : α} (h : listAt l i = some x) : x ∈ l := by
  unfold listAt at h
  split at h
  · exact List.mem_of_getElem? h
  · cases h
theorem T226_eq (l : List ByteArray) (h : l.length ≤ 1048576) (hs : ∀ x ∈ l, x.size ≤ 1048576) : T226 l = some (Sum.elim (fun _ => 0) id (wp risF 0 (ByteArray.mk #[]) l)) := by
  rw [← T225_eq l h hs]
  have : L226_2 l = L225_2 l := by
    funext z
    unfold L226_2 L225_2
    cases hx : listAt l z with
    | none => rfl
    | some x => simp only [Option.bind_some, T51_eq x (hs x (listAt_mem hx)), T137_eq x (hs x (listAt_mem hx))]
  unfold T226 T225
  rw [this]
theorem T148_eq (l : List ByteArray) (h : l.length ≤ 1048576) (hs : ∀ x ∈ l, x.size ≤ 1048576) : T148 l = some (tagsF l) := by
  unfold T148 tagsF
  rw [T225_eq l h hs]
  cases ltI 20 (lenL l) <;> rfl
theorem T149_eq (l : List ByteArray) (h : l.length ≤ 1048576) (hs : ∀ x ∈ l, x.size ≤ 1048576) : T149 l = some (tagsF l) := by
  unfold T149 tagsF
  rw [T226_eq l h hs]
  cases ltI 20 (lenL l) <;> rfl
/-! Spots. -/
def timeB (w : S38) : Bool := leI 0 w.f0 && ltI w.f0 w.f1 && leI w.f1 345686400000
def outB (a b c : Int) : Bool := ltI a b || ltI c a
theorem T147_eq (w : S38) : T147 w = some (timeB w) := by
  unfold T147 timeB
  cases leI 0 w.f0 <;> cases ltI w.f0 w.f1 <;> rfl
theorem T126_eq (a b c : Int) : T126 a b c = some (outB a b c) := by
  unfold T126 outB
  cases ltI a b <;> rfl
theorem ltI_not (a b : Int) : ltI a b = !leI b a := by
  rw [ltI_iff, leI_iff, Bool.eq_iff_iff]; simp
theorem leI_not (a b : Int) : leI a b = !ltI b a := by
  rw [ltI_iff, leI_iff, Bool.eq_iff_iff]; simp
def spotF (_ : Nat) (last : ByteArray) (x : S90) : ByteArray ⊕ Int :=
  bif !key x.f0 then .inr 5 else bif leS x.f0 last then .inr 7 else bif !timeB x.f1 || outB x.f2 0 1000000 then .inr 1 else bif neI (tagsF x.f3) 0 then .inr (tagsF x.f3) else .inl x.f0
def spotsF (l : List S90) : Int := bif ltI 60 (lenL l) then 2 else Sum.elim (fun _ => 0) id (wp spotF 0 (ByteArray.mk #[]) l)
theorem spotF_inl {i : Nat} {u s' : ByteArray} {x : S90} (hf : spotF i u x = .inl s') : s' = x.f0 := by
  unfold spotF at hf
  cases hk : key x.f0 <;> rw [hk] at hf
  · cases hf
  · simp only [Bool.not_true, cond_false] at hf
    cases hl : leS x.f0 u <;> rw [hl] at hf
    · simp only [cond_false] at hf
      cases ht : (!timeB x.f1 || outB x.f2 0 1000000) <;> rw [ht] at hf
      · simp only [cond_false] at hf
        cases hg : neI (tagsF x.f3) 0 <;> rw [hg] at hf
        · exact (Sum.inl.inj hf).symm
        · cases hf
      · cases hf
    · cases hf
theorem T58_eq (l : List S90) (h : l.length ≤ 1048576) (hs : ∀ x ∈ l, ok90 1048576 x) : T58 l = some (spotsF l) := by
  have hi : iter (L58_4 l) ((0 : Nat) : Int) = some (Sum.elim (fun _ => .inl ((l.length : Int), false)) (fun r => .inr r) (wp spotF 0 (ByteArray.mk #[]) l)) := by
    refine iter_wp (fun _ i => (i : Int)) _ _ l spotF (Prev l S90.f0) (fun i u x hx hI => ?_) (fun u _ => ?_) _ (.inl ⟨rfl, rfl⟩)
    · have hlt : i < l.length := (List.getElem?_eq_some_iff.1 hx).1
      have h1 : ltI (i : Int) (lenL l) = true := by rw [ltI_iff, lenL_eq]; simpa using hlt
      have h2 : addI .i64 (i : Int) 1 = ((i + 1 : Nat) : Int) := by rw [addI_eq (by omega) (by omega)]; omega
      obtain ⟨k1, k2, k3, k4, k5⟩ := hs x (List.mem_of_getElem? hx)
      have h3 := T137_eq x.f0 k1
      have h6 := T148_eq x.f3 k4 k5
      refine ⟨?_, fun s' hf => ?_⟩
      · simp only [L58_4, h1, cond_true, listAt_some hx, Option.bind_some, h3, h2, spotF, T147_eq, T126_eq, h6]
        cases hk : key x.f0 with
        | false => rfl
        | true =>
          simp only [Bool.not_true, cond_false]
          rcases hI with ⟨rfl, rfl⟩ | ⟨y, hi0, hy, hu⟩
          · have h4 : ltI 0 ((0 : Nat) : Int) = false := rfl
            rw [h4, leS_empty (key_pos hk)]
            simp only [cond_false]
            cases timeB x.f1 <;> cases outB x.f2 0 1000000 <;> simp only [Bool.not_true, Bool.not_false, Bool.true_or, Bool.false_or, cond_true, cond_false, Option.bind_some, Sum.elim_inl, Sum.elim_inr] <;> (try rfl) <;> (cases neI (tagsF x.f3) 0 <;> rfl)
          · have h4 : ltI 0 (i : Int) = true := by rw [ltI_iff]; simp; omega
            have h5 : subI .i64 (i : Int) 1 = ((i - 1 : Nat) : Int) := by rw [subI_eq (by omega) (by omega)]; omega
            rw [h4, h5, listAt_some hy, hu]
            simp only [cond_true, Option.bind_some, leS]
            cases (ltS x.f0 y.f0 || eqS x.f0 y.f0) <;> simp only [cond_true, cond_false, Option.bind_some, Sum.elim_inl, Sum.elim_inr]
            cases timeB x.f1 <;> cases outB x.f2 0 1000000 <;> simp only [Bool.not_true, Bool.not_false, Bool.true_or, Bool.false_or, cond_true, cond_false, Option.bind_some, Sum.elim_inl, Sum.elim_inr] <;> (try rfl) <;> (cases neI (tagsF x.f3) 0 <;> rfl)
      · exact .inr ⟨x, by omega, by simpa using hx, spotF_inl hf⟩
    · have h1 : ltI (l.length : Int) (lenL l) = false := by rw [ltI_iff, lenL_eq]; simp
      simp only [L58_4, h1, cond_false]
  unfold T58 spotsF
  rw [show (0 : Int) = ((0 : Nat) : Int) from rfl, hi, Option.bind_some]
  cases ltI 60 (lenL l) <;> cases wp spotF 0 (ByteArray.mk #[]) l <;> rfl
theorem T59_eq (l : List S90) (h : l.length ≤ 1048576) (hs : ∀ x ∈ l, ok90 1048576 x) : T59 l = some (spotsF l) := by
  have hi : iter (L59_5 l) (ByteArray.mk #[], ((0 : Nat) : Int)) = some (Sum.elim (fun s => .inl (s, (l.length : Int), false)) (fun r => .inr r) (wp spotF 0 (ByteArray.mk #[]) l)) := by
    refine iter_wp (fun s i => (s, (i : Int))) _ _ l spotF (fun _ _ => True) (fun i u x hx _ => ⟨?_, fun _ _ => trivial⟩) (fun u _ => ?_) _ trivial
    · have hlt : i < l.length := (List.getElem?_eq_some_iff.1 hx).1
      have h1 : ltI (i : Int) (lenL l) = true := by rw [ltI_iff, lenL_eq]; simpa using hlt
      have h2 : addI .i64 (i : Int) 1 = ((i + 1 : Nat) : Int) := by rw [addI_eq (by omega) (by omega)]; omega
      obtain ⟨k1, k2, k3, k4, k5⟩ := hs x (List.mem_of_getElem? hx)
      have h3 := T51_eq x.f0 k1
      have h6 := T149_eq x.f3 k4 k5
      simp only [L59_5, h1, cond_true, listAt_some hx, Option.bind_some, h3, h2, spotF, T132_eq, h6, leS, timeB, outB, ltI_not x.f1.f0 0, ltI_not x.f1.f0 x.f1.f1, ltI_not 345686400000 x.f1.f1, ltI_not x.f2 0, ltI_not 1000000 x.f2]
      cases key x.f0 <;> cases (ltS x.f0 u || eqS x.f0 u) <;> cases leI 0 x.f1.f0 <;> cases leI x.f1.f1 x.f1.f0 <;> cases leI x.f1.f1 345686400000 <;> cases leI 0 x.f2 <;> cases leI x.f2 1000000 <;> cases neI (tagsF x.f3) 0 <;> rfl
    · have h1 : ltI (l.length : Int) (lenL l) = false := by rw [ltI_iff, lenL_eq]; simp
      simp only [L59_5, h1, cond_false]
  unfold T59 spotsF
  rw [show (0 : Int) = ((0 : Nat) : Int) from rfl, hi, Option.bind_some]
  cases ltI 60 (lenL l) <;> cases wp spotF 0 (ByteArray.mk #[]) l <;> rfl
end Go.Abs.TD

set_option linter.unusedVariables false
set_option linter.unusedSimpArgs false
namespace Go.Abs.TD
open Go.RowKit
/-! Campaigns. -/
def numB (x : S53) : Bool := !timeB x.f2 || (outB x.f4 0 1000000 || (outB x.f5 0 1000000 || outB x.f6 0 1000000000))
def campF (_ : Nat) (last : ByteArray) (x : S53) : ByteArray ⊕ Int :=
  bif !key x.f0 || (!eqS x.f1 (ByteArray.mk #[]) && !key x.f1) then .inr 5 else bif leS x.f0 last then .inr 7 else bif numB x then .inr 1 else bif neI (tagsF x.f3) 0 then .inr (tagsF x.f3) else .inl x.f0
def campsF (l : List S53) : Int := bif ltI 30 (lenL l) then 2 else Sum.elim (fun _ => 0) id (wp campF 0 (ByteArray.mk #[]) l)
theorem campF_inl {i : Nat} {u s' : ByteArray} {x : S53} (hf : campF i u x = .inl s') : s' = x.f0 := by
  unfold campF at hf
  cases hk : (!key x.f0 || (!eqS x.f1 (ByteArray.mk #[]) && !key x.f1)) <;> rw [hk] at hf
  · simp only [cond_false] at hf
    cases hl : leS x.f0 u <;> rw [hl] at hf
    · simp only [cond_false] at hf
      cases ht : numB x <;> rw [ht] at hf
      · simp only [cond_false] at hf
        cases hg : neI (tagsF x.f3) 0 <;> rw [hg] at hf
        · exact (Sum.inl.inj hf).symm
        · cases hf
      · cases hf
    · cases hf
  · cases hf
theorem T60_eq (l : List S53) (h : l.length ≤ 1048576) (hs : ∀ x ∈ l, ok53 1048576 x) : T60 l = some (campsF l) := by
  have hi : iter (L60_4 l) ((0 : Nat) : Int) = some (Sum.elim (fun _ => .inl ((l.length : Int), false)) (fun r => .inr r) (wp campF 0 (ByteArray.mk #[]) l)) := by
    refine iter_wp (fun _ i => (i : Int)) _ _ l campF (Prev l S53.f0) (fun i u x hx hI => ?_) (fun u _ => ?_) _ (.inl ⟨rfl, rfl⟩)
    · have hlt : i < l.length := (List.getElem?_eq_some_iff.1 hx).1
      have h1 : ltI (i : Int) (lenL l) = true := by rw [ltI_iff, lenL_eq]; simpa using hlt
      have h2 : addI .i64 (i : Int) 1 = ((i + 1 : Nat) : Int) := by rw [addI_eq (by omega) (by omega)]; omega
      obtain ⟨k1, k2, k3, ⟨k4, k5⟩, k6⟩ := hs x (List.mem_of_getElem? hx)
      have h3 := T137_eq x.f0 k1
      have h3' := T137_eq x.f1 k2
      have h6 := T148_eq x.f3 k4 k5
      refine ⟨?_, fun s' hf => ?_⟩
      · simp only [L60_4, h1, cond_true, listAt_some hx, Option.bind_some, h3, h3', h2, campF, numB, T147_eq, T126_eq, h6]
        cases hk : key x.f0 with
        | false => rfl
        | true =>
          simp only [Bool.not_true, Bool.false_or, cond_false]
          rcases hI with ⟨rfl, rfl⟩ | ⟨y, hi0, hy, hu⟩
          · have h4 : ltI 0 ((0 : Nat) : Int) = false := rfl
            rw [h4, leS_empty (key_pos hk)]
            simp only [cond_false]
            cases eqS x.f1 (ByteArray.mk #[]) <;> cases key x.f1 <;> cases timeB x.f2 <;> cases outB x.f4 0 1000000 <;> cases outB x.f5 0 1000000 <;> cases outB x.f6 0 1000000000 <;> cases neI (tagsF x.f3) 0 <;> rfl
          · have h4 : ltI 0 (i : Int) = true := by rw [ltI_iff]; simp; omega
            have h5 : subI .i64 (i : Int) 1 = ((i - 1 : Nat) : Int) := by rw [subI_eq (by omega) (by omega)]; omega
            rw [h4, h5, listAt_some hy, hu]
            simp only [cond_true, Option.bind_some, leS]
            cases eqS x.f1 (ByteArray.mk #[]) <;> cases key x.f1 <;> cases (ltS x.f0 y.f0 || eqS x.f0 y.f0) <;> cases timeB x.f2 <;> cases outB x.f4 0 1000000 <;> cases outB x.f5 0 1000000 <;> cases outB x.f6 0 1000000000 <;> cases neI (tagsF x.f3) 0 <;> rfl
      · exact .inr ⟨x, by omega, by simpa using hx, campF_inl hf⟩
    · have h1 : ltI (l.length : Int) (lenL l) = false := by rw [ltI_iff, lenL_eq]; simp
      simp only [L60_4, h1, cond_false]
  unfold T60 campsF
  rw [show (0 : Int) = ((0 : Nat) : Int) from rfl, hi, Option.bind_some]
  cases ltI 30 (lenL l) <;> cases wp campF 0 (ByteArray.mk #[]) l <;> rfl
theorem inB (a b c : Int) : (leI b a && leI a c) = !outB a b c := by
  unfold outB
  rw [ltI_not a b, ltI_not c a]
  cases leI b a <;> cases leI a c <;> rfl
theorem T61_eq (l : List S53) (h : l.length ≤ 1048576) (hs : ∀ x ∈ l, ok53 1048576 x) : T61 l = some (campsF l) := by
  have hi : iter (L61_5 l) (ByteArray.mk #[], ((0 : Nat) : Int)) = some (Sum.elim (fun s => .inl (s, (l.length : Int), false)) (fun r => .inr r) (wp campF 0 (ByteArray.mk #[]) l)) := by
    refine iter_wp (fun s i => (s, (i : Int))) _ _ l campF (fun _ _ => True) (fun i u x hx _ => ⟨?_, fun _ _ => trivial⟩) (fun u _ => ?_) _ trivial
    · have hlt : i < l.length := (List.getElem?_eq_some_iff.1 hx).1
      have h1 : ltI (i : Int) (lenL l) = true := by rw [ltI_iff, lenL_eq]; simpa using hlt
      have h2 : addI .i64 (i : Int) 1 = ((i + 1 : Nat) : Int) := by rw [addI_eq (by omega) (by omega)]; omega
      obtain ⟨k1, k2, k3, ⟨k4, k5⟩, k6⟩ := hs x (List.mem_of_getElem? hx)
      have h3 := T51_eq x.f0 k1
      have h3' := T51_eq x.f1 k2
      have h6 := T149_eq x.f3 k4 k5
      simp only [L61_5, h1, cond_true, listAt_some hx, Option.bind_some, h3, h3', h2, campF, numB, T132_eq, inB, h6, leS, timeB, ltI_not x.f2.f0 0, ltI_not x.f2.f0 x.f2.f1, ltI_not 345686400000 x.f2.f1]
      cases key x.f0
      · rfl
      simp only [Bool.not_true, Bool.false_or, cond_false]
      cases eqS x.f1 (ByteArray.mk #[]) <;> cases key x.f1 <;> cases (ltS x.f0 u || eqS x.f0 u) <;> (try rfl) <;>
        (cases leI 0 x.f2.f0 <;> cases leI x.f2.f1 x.f2.f0 <;> cases leI x.f2.f1 345686400000 <;> cases outB x.f4 0 1000000 <;> cases outB x.f5 0 1000000 <;> cases outB x.f6 0 1000000000 <;> cases neI (tagsF x.f3) 0 <;> rfl)
    · have h1 : ltI (l.length : Int) (lenL l) = false := by rw [ltI_iff, lenL_eq]; simp
      simp only [L61_5, h1, cond_false]
  unfold T61 campsF
  rw [show (0 : Int) = ((0 : Nat) : Int) from rfl, hi, Option.bind_some]
  cases ltI 30 (lenL l) <;> cases wp campF 0 (ByteArray.mk #[]) l <;> rfl
/-! Copies are the same, and what is the same is told so. -/
theorem T15_eq (l : List S90) (h : l.length ≤ 1048576) (hs : ∀ x ∈ l, ok90 1048576 x) : T15 l = some l := by
  have hi : iter (L15_3 l) ([], ((0 : Nat) : Int)) = some (Sum.elim (fun s => ((l.length : Int), false, s)) (fun r : Empty => nomatch r) (wp (fun _ (s : List S90) x => (.inl (s ++ [x]) : List S90 ⊕ Empty)) 0 [] l)) := by
    refine iter_wp (fun s i => (s, (i : Int))) _ _ l _ (fun i s => s.length = i) (fun i u x hx hI => ⟨?_, fun s' hs' => ?_⟩) (fun u _ => ?_) _ rfl
    · have hlt : i < l.length := (List.getElem?_eq_some_iff.1 hx).1
      have h1 : ltI (i : Int) (lenL l) = true := by rw [ltI_iff, lenL_eq]; simpa using hlt
      have h2 : addI .i64 (i : Int) 1 = ((i + 1 : Nat) : Int) := by rw [addI_eq (by omega) (by omega)]; omega
      obtain ⟨k1, k2, k3, k4, k5⟩ := hs x (List.mem_of_getElem? hx)
      have h3 : appO 16 ([] : List ByteArray) x.f3 = some x.f3 := appO_eq (by simp; omega) (by simp; omega)
      have h4 : appO 64 u [S90.mk x.f0 x.f1 x.f2 x.f3] = some (u ++ [x]) := appO_eq (by simp; omega) (by simp; omega)
      simp only [L15_3, h1, cond_true, listAt_some hx, Option.bind_some, h3, h4, h2]
    · cases hs'; simp [hI]
    · have h1 : ltI (l.length : Int) (lenL l) = false := by rw [ltI_iff, lenL_eq]; simp
      simp only [L15_3, h1, cond_false]
  unfold T15
  rw [show (0 : Int) = ((0 : Nat) : Int) from rfl, hi, wp_copy]
  rfl
theorem T16_eq (l : List S53) (h : l.length ≤ 1048576) (hs : ∀ x ∈ l, ok53 1048576 x) : T16 l = some l := by
  have hi : iter (L16_3 l) ([], ((0 : Nat) : Int)) = some (Sum.elim (fun s => ((l.length : Int), false, s)) (fun r : Empty => nomatch r) (wp (fun _ (s : List S53) x => (.inl (s ++ [x]) : List S53 ⊕ Empty)) 0 [] l)) := by
    refine iter_wp (fun s i => (s, (i : Int))) _ _ l _ (fun i s => s.length = i) (fun i u x hx hI => ⟨?_, fun s' hs' => ?_⟩) (fun u _ => ?_) _ rfl
    · have hlt : i < l.length := (List.getElem?_eq_some_iff.1 hx).1
      have h1 : ltI (i : Int) (lenL l) = true := by rw [ltI_iff, lenL_eq]; simpa using hlt
      have h2 : addI .i64 (i : Int) 1 = ((i + 1 : Nat) : Int) := by rw [addI_eq (by omega) (by omega)]; omega
      obtain ⟨k1, k2, k3, ⟨k4, k5⟩, k6⟩ := hs x (List.mem_of_getElem? hx)
      have h3 : appO 16 ([] : List ByteArray) x.f3 = some x.f3 := appO_eq (by simp; omega) (by simp; omega)
      have h4 : appO 96 u [S53.mk x.f0 x.f1 x.f2 x.f3 x.f4 x.f5 x.f6] = some (u ++ [x]) := appO_eq (by simp; omega) (by simp; omega)
      simp only [L16_3, h1, cond_true, listAt_some hx, Option.bind_some, h3, h4, h2]
    · cases hs'; simp [hI]
    · have h1 : ltI (l.length : Int) (lenL l) = false := by rw [ltI_iff, lenL_eq]; simp
      simp only [L16_3, h1, cond_false]
  unfold T16
  rw [show (0 : Int) = ((0 : Nat) : Int) from rfl, hi, wp_copy]
  rfl
theorem wp_true {α : Type} (i : Nat) (l : List α) : (wp (fun _ (_ : Unit) (_ : α) => (.inl () : Unit ⊕ Unit)) i () l) = .inl () := by
  induction l generalizing i with
  | nil => rfl
  | cons a l ih => exact ih (i + 1)
theorem T69_self (l : List ByteArray) (h : l.length ≤ 1048576) : T69 l l = some true := by
  have hi : iter (L69_4 l l) ((0 : Nat) : Int) = some (Sum.elim (fun _ => .inl ((l.length : Int), false)) (fun r => .inr r) (wp (fun _ (_ : Unit) (_ : ByteArray) => (.inl () : Unit ⊕ Unit)) 0 () l)) := by
    refine iter_wp (fun _ i => (i : Int)) _ _ l _ (fun _ _ => True) (fun i u x hx _ => ⟨?_, fun _ _ => trivial⟩) (fun u _ => ?_) _ trivial
    · have hlt : i < l.length := (List.getElem?_eq_some_iff.1 hx).1
      have h1 : ltI (i : Int) (lenL l) = true := by rw [ltI_iff, lenL_eq]; simpa using hlt
      have h2 : addI .i64 (i : Int) 1 = ((i + 1 : Nat) : Int) := by rw [addI_eq (by omega) (by omega)]; omega
      simp only [L69_4, h1, cond_true, listAt_some hx, Option.bind_some, h2, eqS_self, Bool.not_true, cond_false]
    · have h1 : ltI (l.length : Int) (lenL l) = false := by rw [ltI_iff, lenL_eq]; simp
      simp only [L69_4, h1, cond_false]
  have h3 : neI (lenL l) (lenL l) = false := by rw [neI_iff]; simp
  unfold T69
  rw [show (0 : Int) = ((0 : Nat) : Int) from rfl, hi, wp_true, h3]
  rfl
theorem eqI_self (a : Int) : eqI a a = true := by rw [eqI_iff]; simp
theorem T68_self (x : S90) (h : x.f3.length ≤ 1048576) : T68 x x = some true := by
  unfold T68
  simp only [eqS_self, eqI_self, allB, Bool.and_true, cond_true, T69_self x.f3 h, Option.bind_some]
theorem T30_self (x : S53) (h : x.f3.length ≤ 1048576) : T30 x x = some true := by
  unfold T30
  simp only [eqS_self, eqI_self, allB, Bool.and_true, cond_true, T69_self x.f3 h, Option.bind_some]
theorem T18_self (l : List S90) (h : l.length ≤ 1048576) (hs : ∀ x ∈ l, ok90 1048576 x) : T18 l l = some true := by
  have hi : iter (L67_4 l l) ((0 : Nat) : Int) = some (Sum.elim (fun _ => .inl ((l.length : Int), false)) (fun r => .inr r) (wp (fun _ (_ : Unit) (_ : S90) => (.inl () : Unit ⊕ Unit)) 0 () l)) := by
    refine iter_wp (fun _ i => (i : Int)) _ _ l _ (fun _ _ => True) (fun i u x hx _ => ⟨?_, fun _ _ => trivial⟩) (fun u _ => ?_) _ trivial
    · have hlt : i < l.length := (List.getElem?_eq_some_iff.1 hx).1
      have h1 : ltI (i : Int) (lenL l) = true := by rw [ltI_iff, lenL_eq]; simpa using hlt
      have h2 : addI .i64 (i : Int) 1 = ((i + 1 : Nat) : Int) := by rw [addI_eq (by omega) (by omega)]; omega
      obtain ⟨k1, k2, k3, k4, k5⟩ := hs x (List.mem_of_getElem? hx)
      simp only [L67_4, h1, cond_true, listAt_some hx, Option.bind_some, h2, T68_self x k4, Bool.not_true, cond_false]
    · have h1 : ltI (l.length : Int) (lenL l) = false := by rw [ltI_iff, lenL_eq]; simp
      simp only [L67_4, h1, cond_false]
  have h3 : neI (lenL l) (lenL l) = false := by rw [neI_iff]; simp
  unfold T18 T67
  rw [show (0 : Int) = ((0 : Nat) : Int) from rfl, hi, wp_true, h3]
  rfl
theorem T19_self (l : List S53) (h : l.length ≤ 1048576) (hs : ∀ x ∈ l, ok53 1048576 x) : T19 l l = some true := by
  have hi : iter (L70_4 l l) ((0 : Nat) : Int) = some (Sum.elim (fun _ => .inl ((l.length : Int), false)) (fun r => .inr r) (wp (fun _ (_ : Unit) (_ : S53) => (.inl () : Unit ⊕ Unit)) 0 () l)) := by
    refine iter_wp (fun _ i => (i : Int)) _ _ l _ (fun _ _ => True) (fun i u x hx _ => ⟨?_, fun _ _ => trivial⟩) (fun u _ => ?_) _ trivial
    · have hlt : i < l.length := (List.getElem?_eq_some_iff.1 hx).1
      have h1 : ltI (i : Int) (lenL l) = true := by rw [ltI_iff, lenL_eq]; simpa using hlt
      have h2 : addI .i64 (i : Int) 1 = ((i + 1 : Nat) : Int) := by rw [addI_eq (by omega) (by omega)]; omega
      obtain ⟨k1, k2, k3, ⟨k4, k5⟩, k6⟩ := hs x (List.mem_of_getElem? hx)
      simp only [L70_4, h1, cond_true, listAt_some hx, Option.bind_some, h2, T30_self x k4, Bool.not_true, cond_false]
    · have h1 : ltI (l.length : Int) (lenL l) = false := by rw [ltI_iff, lenL_eq]; simp
      simp only [L70_4, h1, cond_false]
  have h3 : neI (lenL l) (lenL l) = false := by rw [neI_iff]; simp
  unfold T19 T70
  rw [show (0 : Int) = ((0 : Nat) : Int) from rfl, hi, wp_true, h3]
  rfl
/-! Errors, the first of two. -/
def or2 (a b : Int) : Int := bif neI a 0 then a else b
theorem T49_eq (a b : Int) : T49 [a, b] = some (or2 a b) := by
  unfold T49
  have a1 : addI .i64 0 1 = 1 := rfl
  have a2 : addI .i64 1 1 = 2 := rfl
  have s0 : L49_2 [a, b] 0 = bif neI a 0 then some (.inr (.inr a)) else some (.inl 1) := by
    simp only [L49_2, a1]; rfl
  have s1 : L49_2 [a, b] 1 = bif neI b 0 then some (.inr (.inr b)) else some (.inl 2) := by
    simp only [L49_2, a2]; rfl
  have s2 : L49_2 [a, b] 2 = some (.inr (.inl (2, false))) := rfl
  unfold or2
  cases ha : neI a 0 with
  | true =>
    rw [ha] at s0
    rw [iter_stop s0]
    rfl
  | false =>
    rw [ha] at s0
    rw [iter_next s0]
    cases hb : neI b 0 with
    | true =>
      rw [hb] at s1
      rw [iter_stop s1]
      rfl
    | false =>
      rw [hb] at s1
      rw [iter_next s1, iter_stop s2]
      have : b = 0 := by rw [neI_iff] at hb; simpa using hb
      rw [this]
      rfl
theorem T150_eq (l : List S90) (m : List S53) (h : l.length ≤ 1048576) (hs : ∀ x ∈ l, ok90 1048576 x) (h' : m.length ≤ 1048576) (hs' : ∀ x ∈ m, ok53 1048576 x) : T150 l m = some (or2 (spotsF l) (campsF m)) := by
  unfold T150 or2
  rw [T58_eq l h hs, T60_eq m h' hs']
  simp only [Option.bind_some]
  cases neI (spotsF l) 0 <;> rfl
end Go.Abs.TD

set_option linter.unusedVariables false
set_option linter.unusedSimpArgs false
namespace Go.Abs.TD
open Go.RowKit
/-! Tags that rise. -/
def Rising (l : List ByteArray) : Prop := ∀ (i j : Nat) (x y : ByteArray), i < j → l[i]? = some x → l[j]? = some y → ltS x y = true
theorem wp_rising : ∀ (l : List ByteArray) (i : Nat) (last s : ByteArray), wp risF i last l = .inl s → (∀ x ∈ l, ltS last x = true) ∧ Rising l
  | [], i, last, s, _ => ⟨by simp, fun i j x y _ h => by simp at h⟩
  | a :: l, i, last, s, h => by
    simp only [wp] at h
    cases hf : risF i last a with
    | inr r => rw [hf] at h; cases h
    | inl s' =>
      rw [hf] at h
      have h1 : s' = a ∧ leS a last = false := by
        unfold risF at hf
        cases hk : key a <;> rw [hk] at hf
        · cases hf
        · simp only [Bool.not_true, cond_false] at hf
          cases hl : leS a last <;> rw [hl] at hf
          · exact ⟨(Sum.inl.inj hf).symm, rfl⟩
          · cases hf
      obtain ⟨rfl, h2⟩ := h1
      obtain ⟨h3, h4⟩ := wp_rising l (i + 1) s' s h
      have h5 := leS_false.1 h2
      refine ⟨fun x hx => ?_, fun i j x y hij hx hy => ?_⟩
      · rcases List.mem_cons.1 hx with rfl | hx
        · exact h5
        · exact ltS_trans h5 (h3 x hx)
      · cases i with
        | zero =>
          cases j with
          | zero => omega
          | succ j =>
            simp only [List.getElem?_cons_zero, Option.some.injEq, List.getElem?_cons_succ] at hx hy
            subst hx
            exact h3 y (List.mem_of_getElem? hy)
        | succ i =>
          cases j with
          | zero => omega
          | succ j =>
            simp only [List.getElem?_cons_succ] at hx hy
            exact h4 i j x y (by omega) hx hy
theorem neI_false {a b : Int} : neI a b = false ↔ a = b := by rw [neI_iff]; simp
theorem tagsF_rising {l : List ByteArray} (h : tagsF l = 0) : Rising l := by
  unfold tagsF at h
  cases h1 : ltI 20 (lenL l) <;> rw [h1] at h
  · simp only [cond_false] at h
    cases hw : wp risF 0 (ByteArray.mk #[]) l with
    | inl s => exact (wp_rising l 0 _ s hw).2
    | inr r =>
      rw [hw] at h
      exfalso
      have : ∀ (l : List ByteArray) (i : Nat) (u : ByteArray) (r : Int), wp risF i u l = .inr r → r = 5 ∨ r = 7 := by
        intro l
        induction l with
        | nil => intro i u r h; cases h
        | cons a l ih =>
          intro i u r h
          simp only [wp] at h
          cases hf : risF i u a with
          | inl s => rw [hf] at h; exact ih _ _ _ h
          | inr q =>
            rw [hf] at h
            cases h
            unfold risF at hf
            cases hk : key a <;> rw [hk] at hf
            · cases hf; exact .inl rfl
            · simp only [Bool.not_true, cond_false] at hf
              cases hl : leS a u <;> rw [hl] at hf
              · cases hf
              · cases hf; exact .inr rfl
      have h2 : r = 0 := h
      rcases this l 0 _ r hw with h3 | h3 <;> omega
  · cases h
/-! The search by halves. -/
theorem T266_eq (x t : ByteArray) : T266 x t = some (ltS x t) := by
  unfold T266 T270
  rw [eqS_self]
  rfl
theorem T267_eq (x : ByteArray) : T267 x = some false := by
  unfold T267
  rw [eqS_self]
  rfl
theorem half_eq {a b : Nat} (h : a + b ≤ 4611686018427387904) : cvI .i64 (shrI (cvI .u64 (addI .i64 (a : Int) (b : Int))) 1) = (((a + b) / 2 : Nat) : Int) := by
  have h1 : addI .i64 (a : Int) (b : Int) = ((a + b : Nat) : Int) := by rw [addI_eq (by omega) (by omega)]; omega
  have h2 : cvI .u64 ((a + b : Nat) : Int) = ((a + b : Nat) : Int) := by
    unfold cvI IntKind.wrap
    simp only [IntKind.bits, IntKind.signed, Bool.false_and, Bool.false_eq_true, if_false]
    omega
  have h3 : shrI ((a + b : Nat) : Int) 1 = (((a + b) / 2 : Nat) : Int) := by
    unfold shrI
    rw [Int.fdiv_eq_ediv_of_nonneg _ (by decide)]
    omega
  rw [h1, h2, h3, cvI_eq (by omega) (by omega)]
theorem T227_eq (l : List ByteArray) (t : ByteArray) (h : l.length ≤ 1048576) (hr : Rising l) : ∃ i, T227 l t = some (i, l.any fun x => eqS x t) := by
  have hi : ∃ r, iter (L227_3 l t) (((0 : Nat) : Int), (l.length : Int)) = some r ∧ ∃ k : Nat, r.1 = (k : Int) ∧ k ≤ l.length ∧ (∀ i x, i < k → l[i]? = some x → ltS x t = true) ∧ (∀ i x, k ≤ i → l[i]? = some x → ltS x t = false) := by
    refine iter_meas (fun z => ∃ a b : Nat, z = ((a : Int), (b : Int)) ∧ a ≤ b ∧ b ≤ l.length ∧ (∀ i x, i < a → l[i]? = some x → ltS x t = true) ∧ (∀ i x, b ≤ i → l[i]? = some x → ltS x t = false)) (fun z => (z.2 - z.1).toNat) _ ?_ _ ⟨0, l.length, rfl, by omega, by omega, fun i x hi => by omega, fun i x hi hx => ?_⟩
    · rintro _ ⟨a, b, rfl, hab, hb, h1, h2⟩
      by_cases hlt : a < b
      · left
        have h3 : ltI (a : Int) (b : Int) = true := by rw [ltI_iff]; simp; omega
        have hm : (a + b) / 2 < l.length := by omega
        have hx := List.getElem?_eq_getElem hm
        cases hc : ltS l[(a + b) / 2] t with
        | true =>
          refine ⟨((((a + b) / 2 + 1 : Nat) : Int), (b : Int)), ?_, ⟨_, b, rfl, by omega, hb, fun i x hi hxi => ?_, h2⟩, by simp only; omega⟩
          · have h4 : addI .i64 (((a + b) / 2 : Nat) : Int) 1 = (((a + b) / 2 + 1 : Nat) : Int) := by rw [addI_eq (by omega) (by omega)]; omega
            simp only [L227_3, h3, cond_true, half_eq (a := a) (b := b) (by omega), listAt_some hx, Option.bind_some, T266_eq, hc, h4]
          · rcases Nat.lt_or_ge i ((a + b) / 2) with h5 | h5
            · exact ltS_trans (hr i _ x _ h5 hxi hx) hc
            · have : i = (a + b) / 2 := by omega
              subst this
              rw [hx] at hxi
              cases hxi
              exact hc
        | false =>
          refine ⟨((a : Int), (((a + b) / 2 : Nat) : Int)), ?_, ⟨a, _, rfl, by omega, by omega, h1, fun i x hi hxi => ?_⟩, by simp only; omega⟩
          · simp only [L227_3, h3, cond_true, half_eq (a := a) (b := b) (by omega), listAt_some hx, Option.bind_some, T266_eq, hc, cond_false]
          · rcases Nat.lt_or_ge ((a + b) / 2) i with h5 | h5
            · cases h6 : ltS x t with
              | false => rfl
              | true =>
                have := ltS_trans (hr _ i _ x h5 hx hxi) h6
                rw [hc] at this; cases this
            · have : i = (a + b) / 2 := by omega
              subst this
              rw [hx] at hxi
              cases hxi
              exact hc
      · right
        have h3 : ltI (a : Int) (b : Int) = false := by rw [ltI_iff]; simp; omega
        have : a = b := by omega
        subst this
        refine ⟨((a : Int), (a : Int), false), ?_, a, rfl, hb, h1, h2⟩
        simp only [L227_3, h3, cond_false]
    · have := (List.getElem?_eq_some_iff.1 hx).1
      omega
  obtain ⟨r, h1, k, h2, h3, h4, h5⟩ := hi
  unfold T227
  rw [show (0 : Int) = ((0 : Nat) : Int) from rfl, show lenL l = (l.length : Int) from rfl, h1, Option.bind_some, h2]
  by_cases hk : k < l.length
  · have h6 : ltI (k : Int) (l.length : Int) = true := by rw [ltI_iff]; simpa using hk
    have hx := List.getElem?_eq_getElem hk
    rw [h6]
    simp only [cond_true, listAt_some hx, Option.bind_some, T267_eq, cond_false]
    cases he : eqS l[k] t with
    | true =>
      refine ⟨k, ?_⟩
      have : (l.any fun x => eqS x t) = true := List.any_eq_true.2 ⟨l[k], List.getElem_mem hk, he⟩
      rw [this]
      rfl
    | false =>
      refine ⟨k, ?_⟩
      have : (l.any fun x => eqS x t) = false := by
        rw [List.any_eq_false]
        intro x hxm he2
        obtain ⟨i, hi⟩ := List.getElem?_of_mem hxm
        have hxt : x = t := by rw [eqS_iff] at he2; simpa using he2
        subst hxt
        rcases Nat.lt_trichotomy i k with h7 | h7 | h7
        · have := h4 i x h7 hi; rw [ltS_irrefl] at this; cases this
        · subst h7
          rw [hx] at hi
          cases hi
          rw [eqS_self] at he; cases he
        · have h8 := hr k i _ x h7 hx hi
          rw [h5 k _ (Nat.le_refl _) hx] at h8
          cases h8
      rw [this]
      rfl
  · have h6 : ltI (k : Int) (l.length : Int) = false := by rw [ltI_iff]; simp; omega
    rw [h6]
    refine ⟨k, ?_⟩
    have : (l.any fun x => eqS x t) = false := by
      rw [List.any_eq_false]
      intro x hxm he2
      obtain ⟨i, hi⟩ := List.getElem?_of_mem hxm
      have hxt : x = t := by rw [eqS_iff] at he2; simpa using he2
      subst hxt
      have hil := (List.getElem?_eq_some_iff.1 hi).1
      have := h4 i x (by omega) hi
      rw [ltS_irrefl] at this; cases this
    rw [this]
    rfl
/-! What suits. -/
def suitsB (c : S53) (s : S90) : Bool := leI c.f2.f0 s.f1.f0 && leI s.f1.f1 c.f2.f1 && c.f3.all fun t => s.f3.any fun x => eqS x t
theorem T151_eq (c : S53) (s : S90) (h : c.f3.length ≤ 1048576) (h' : s.f3.length ≤ 1048576) (hr : Rising s.f3) : T151 c s = some (suitsB c s) := by
  have hi : iter (L151_4 c s) ((0 : Nat) : Int) = some (Sum.elim (fun _ => .inl ((c.f3.length : Int), false)) (fun r => .inr r) (wp (fun _ (_ : Unit) t => bif s.f3.any (fun x => eqS x t) then (.inl () : Unit ⊕ Unit) else .inr ()) 0 () c.f3)) := by
    refine iter_wp (fun _ i => (i : Int)) _ _ c.f3 _ (fun _ _ => True) (fun i u x hx _ => ⟨?_, fun _ _ => trivial⟩) (fun u _ => ?_) _ trivial
    · have hlt : i < c.f3.length := (List.getElem?_eq_some_iff.1 hx).1
      have h1 : ltI (i : Int) (lenL c.f3) = true := by rw [ltI_iff, lenL_eq]; simpa using hlt
      have h2 : addI .i64 (i : Int) 1 = ((i + 1 : Nat) : Int) := by rw [addI_eq (by omega) (by omega)]; omega
      obtain ⟨k, hk⟩ := T227_eq s.f3 x h' hr
      simp only [L151_4, h1, cond_true, listAt_some hx, Option.bind_some, h2, hk]
      cases s.f3.any (fun y => eqS y x) <;> rfl
    · have h1 : ltI (c.f3.length : Int) (lenL c.f3) = false := by rw [ltI_iff, lenL_eq]; simp
      simp only [L151_4, h1, cond_false]
  unfold T151 suitsB
  rw [show (0 : Int) = ((0 : Nat) : Int) from rfl, hi, wp_all', elim_cond, ltI_not s.f1.f0, ltI_not c.f2.f1]
  cases leI c.f2.f0 s.f1.f0 <;> cases leI s.f1.f1 c.f2.f1 <;> cases (c.f3.all fun t => s.f3.any fun x => eqS x t) <;> rfl
theorem T154_eq (l : List ByteArray) (t : ByteArray) (h : l.length ≤ 1048576) : T154 l t = some (l.any fun x => eqS x t) := by
  obtain ⟨r, h1, h2⟩ := wp_any (fun x => eqS t x) 0 l
  have hi : iter (L229_2 l t) ((0 : Nat) : Int) = some (Sum.elim (fun _ => .inl ((l.length : Int), false)) (fun r : Nat => .inr (r : Int)) (wp (fun i (_ : Unit) x => bif eqS t x then (.inr i : Unit ⊕ Nat) else .inl ()) 0 () l)) := by
    refine iter_wp (fun _ i => (i : Int)) _ _ l _ (fun _ _ => True) (fun i u x hx _ => ⟨?_, fun _ _ => trivial⟩) (fun u _ => ?_) _ trivial
    · have hlt : i < l.length := (List.getElem?_eq_some_iff.1 hx).1
      have h1 : ltI (i : Int) (lenL l) = true := by rw [ltI_iff, lenL_eq]; simpa using hlt
      have h2 : addI .i64 (i : Int) 1 = ((i + 1 : Nat) : Int) := by rw [addI_eq (by omega) (by omega)]; omega
      simp only [L229_2, h1, cond_true, listAt_some hx, Option.bind_some, h2]
      cases eqS t x <;> rfl
    · have h1 : ltI (l.length : Int) (lenL l) = false := by rw [ltI_iff, lenL_eq]; simp
      simp only [L229_2, h1, cond_false]
  have he : (l.any fun x => eqS x t) = l.any fun x => eqS t x := by
    congr 1
    funext x
    rw [eqS_iff, eqS_iff, Bool.eq_iff_iff]
    simp only [decide_eq_true_eq]
    exact ⟨Eq.symm, Eq.symm⟩
  unfold T154 T229
  rw [show (0 : Int) = ((0 : Nat) : Int) from rfl, hi, h1, he, ← h2]
  cases r with
  | inl u => rfl
  | inr k =>
    simp only [Sum.elim_inr, Option.bind_some, Sum.isRight_inr, leI_iff]
    congr 1
theorem T65_eq (c : S53) (s : S90) (h : c.f3.length ≤ 1048576) (h' : s.f3.length ≤ 1048576) : T65 c s = some (suitsB c s) := by
  obtain ⟨r, h1, h2⟩ := wp_any (fun t => !s.f3.any fun x => eqS x t) 0 c.f3
  have hi : iter (L228_2 c.f3 s.f0 s.f1.f0 s.f1.f1 s.f2 s.f3) ((0 : Nat) : Int) = some (Sum.elim (fun _ => .inl ((c.f3.length : Int), false)) (fun r : Nat => .inr (r : Int)) (wp (fun i (_ : Unit) t => bif !s.f3.any (fun x => eqS x t) then (.inr i : Unit ⊕ Nat) else .inl ()) 0 () c.f3)) := by
    refine iter_wp (fun _ i => (i : Int)) _ _ c.f3 _ (fun _ _ => True) (fun i u x hx _ => ⟨?_, fun _ _ => trivial⟩) (fun u _ => ?_) _ trivial
    · have hlt : i < c.f3.length := (List.getElem?_eq_some_iff.1 hx).1
      have h1 : ltI (i : Int) (lenL c.f3) = true := by rw [ltI_iff, lenL_eq]; simpa using hlt
      have h2 : addI .i64 (i : Int) 1 = ((i + 1 : Nat) : Int) := by rw [addI_eq (by omega) (by omega)]; omega
      simp only [L228_2, T153, T154_eq s.f3 x h', h1, cond_true, listAt_some hx, Option.bind_some, h2]
      cases s.f3.any (fun y => eqS y x) <;> rfl
    · have h1 : ltI (c.f3.length : Int) (lenL c.f3) = false := by rw [ltI_iff, lenL_eq]; simp
      simp only [L228_2, h1, cond_false]
  have he : (c.f3.all fun t => s.f3.any fun x => eqS x t) = !r.isRight := by
    rw [h2, List.any_eq_not_all_not]
    simp
  have h5 : T152 c.f3 s.f0 s.f1.f0 s.f1.f1 s.f2 s.f3 = some r.isRight := by
    unfold T152 T228
    rw [show (0 : Int) = ((0 : Nat) : Int) from rfl, hi, h1]
    cases r with
    | inl u => rfl
    | inr k =>
      simp only [Sum.elim_inr, Option.bind_some, Sum.isRight_inr, leI_iff]
      congr 1
  unfold T65 suitsB
  rw [h5, he]
  cases leI c.f2.f0 s.f1.f0 <;> cases leI s.f1.f1 c.f2.f1 <;> cases r.isRight <;> rfl
end Go.Abs.TD

set_option linter.unusedVariables false
set_option linter.unusedSimpArgs false
namespace Go.Abs.TD
open Go.RowKit
/-! What a list without a fault has. -/
theorem outB_false {a b c : Int} (h : outB a b c = false) : b ≤ a ∧ a ≤ c := by
  unfold outB at h
  rw [ltI_iff, ltI_iff, Bool.or_eq_false_iff, decide_eq_false_iff_not, decide_eq_false_iff_not] at h
  omega
theorem spotF_ok {i : Nat} {u s' : ByteArray} {x : S90} (hf : spotF i u x = .inl s') : Rising x.f3 ∧ 0 ≤ x.f2 ∧ x.f2 ≤ 1000000 := by
  unfold spotF at hf
  cases hk : key x.f0 <;> rw [hk] at hf
  · cases hf
  · simp only [Bool.not_true, cond_false] at hf
    cases hl : leS x.f0 u <;> rw [hl] at hf
    · simp only [cond_false] at hf
      cases ht : (!timeB x.f1 || outB x.f2 0 1000000) <;> rw [ht] at hf
      · simp only [cond_false] at hf
        cases hg : neI (tagsF x.f3) 0 <;> rw [hg] at hf
        · have h1 := outB_false (Bool.or_eq_false_iff.1 ht).2
          exact ⟨tagsF_rising (neI_false.1 hg), h1.1, h1.2⟩
        · cases hf
      · cases hf
    · cases hf
theorem spotF_err {i : Nat} {u : ByteArray} {x : S90} {r : Int} (hf : spotF i u x = .inr r) : r ≠ 0 := by
  unfold spotF at hf
  cases hk : key x.f0 <;> rw [hk] at hf
  · cases hf; decide
  · simp only [Bool.not_true, cond_false] at hf
    cases hl : leS x.f0 u <;> rw [hl] at hf
    · simp only [cond_false] at hf
      cases ht : (!timeB x.f1 || outB x.f2 0 1000000) <;> rw [ht] at hf
      · simp only [cond_false] at hf
        cases hg : neI (tagsF x.f3) 0 <;> rw [hg] at hf
        · cases hf
        · cases hf
          intro h0
          rw [h0] at hg; cases hg
      · cases hf; decide
    · cases hf; decide
theorem wp_spots : ∀ (l : List S90) (i : Nat) (u : ByteArray), (∀ r, wp spotF i u l = .inr r → r ≠ 0) ∧ ∀ s, wp spotF i u l = .inl s → ∀ x ∈ l, Rising x.f3 ∧ 0 ≤ x.f2 ∧ x.f2 ≤ 1000000
  | [], i, u => ⟨(fun r h => by cases h), (fun s h x hx => by cases hx)⟩
  | a :: l, i, u => by
    simp only [wp]
    cases hf : spotF i u a with
    | inr r => exact ⟨fun q h => by cases h; exact spotF_err hf, fun s h => by cases h⟩
    | inl s' =>
      obtain ⟨h1, h2⟩ := wp_spots l (i + 1) s'
      refine ⟨h1, fun s h x hx => ?_⟩
      rcases List.mem_cons.1 hx with rfl | hx
      · exact spotF_ok hf
      · exact h2 s h x hx
theorem spotsF_ok {l : List S90} (h : spotsF l = 0) : ∀ x ∈ l, Rising x.f3 ∧ 0 ≤ x.f2 ∧ x.f2 ≤ 1000000 := by
  unfold spotsF at h
  cases h1 : ltI 60 (lenL l) <;> rw [h1] at h
  · simp only [cond_false] at h
    cases hw : wp spotF 0 (ByteArray.mk #[]) l with
    | inl s => exact (wp_spots l 0 _).2 s hw
    | inr r =>
      rw [hw] at h
      exact absurd h ((wp_spots l 0 _).1 r hw)
  · cases h
theorem campF_most {i : Nat} {u s' : ByteArray} {x : S53} (hf : campF i u x = .inl s') : 0 ≤ x.f5 ∧ x.f5 ≤ 1000000 := by
  unfold campF at hf
  cases hk : (!key x.f0 || (!eqS x.f1 (ByteArray.mk #[]) && !key x.f1)) <;> rw [hk] at hf
  · simp only [cond_false] at hf
    cases hl : leS x.f0 u <;> rw [hl] at hf
    · simp only [cond_false] at hf
      cases ht : numB x <;> rw [ht] at hf
      · unfold numB at ht
        simp only [Bool.or_eq_false_iff] at ht
        exact outB_false ht.2.2.1
      · cases hf
    · cases hf
  · cases hf
theorem campF_err {i : Nat} {u : ByteArray} {x : S53} {r : Int} (hf : campF i u x = .inr r) : r ≠ 0 := by
  unfold campF at hf
  cases hk : (!key x.f0 || (!eqS x.f1 (ByteArray.mk #[]) && !key x.f1)) <;> rw [hk] at hf
  · simp only [cond_false] at hf
    cases hl : leS x.f0 u <;> rw [hl] at hf
    · simp only [cond_false] at hf
      cases ht : numB x <;> rw [ht] at hf
      · simp only [cond_false] at hf
        cases hg : neI (tagsF x.f3) 0 <;> rw [hg] at hf
        · cases hf
        · cases hf
          intro h0
          rw [h0] at hg; cases hg
      · cases hf; decide
    · cases hf; decide
  · cases hf; decide
theorem campsF_one {c : S53} (h : campsF [c] = 0) : 0 ≤ c.f5 ∧ c.f5 ≤ 1000000 := by
  have h1 : ltI 30 (lenL [c]) = false := rfl
  unfold campsF at h
  rw [h1] at h
  simp only [cond_false, wp] at h
  cases hf : campF 0 (ByteArray.mk #[]) c with
  | inl s => exact campF_most hf
  | inr r => rw [hf] at h; exact absurd h (campF_err hf)
theorem or2_zero {a b : Int} : or2 a b = 0 ↔ a = 0 ∧ b = 0 := by
  unfold or2
  cases h : neI a 0 with
  | true =>
    simp only [cond_true]
    constructor
    · intro h0; rw [h0] at h; cases h
    · rintro ⟨h0, _⟩; exact h0
  | false =>
    simp only [cond_false]
    exact ⟨fun hb => ⟨neI_false.1 h, hb⟩, fun ⟨_, hb⟩ => hb⟩
/-! How many plays there is room for. -/
def camp0 : S53 := S53.mk (ByteArray.mk #[97]) (ByteArray.mk #[]) (S38.mk 0 100) [] 10 0 0
theorem camp0_ok : campsF [camp0] = 0 := by decide +kernel
theorem T66_eq : T66 = some true := by
  have h : T60 [camp0] = some 0 := by
    rw [T60_eq [camp0] (by simp) ?_, camp0_ok]
    intro x hx
    rw [List.mem_singleton] at hx
    subst hx
    refine ⟨by decide, by decide, ⟨?_, ?_⟩, ⟨by decide, by simp [camp0]⟩, ?_, ?_, ?_⟩ <;> (unfold okI camp0; simp only []; exact ⟨by decide, by decide⟩)
  have h2 : T155 camp0 50 = some (5, 0) := by
    unfold T155
    rw [h]
    rfl
  unfold T66
  rw [show S53.mk (ByteArray.mk #[97]) (ByteArray.mk #[]) (S38.mk 0 100) [] 10 0 0 = camp0 from rfl, h2]
  rfl
/-! The law. -/
theorem neI_self (a : Int) : neI a a = false := neI_false.2 rfl
theorem bne_self (b : Bool) : (b != b) = false := by cases b <;> rfl
end Go.Abs.TD

set_option linter.unusedVariables false
set_option linter.unusedSimpArgs false
namespace Go.Abs.TD
open Go.RowKit
/-! Ids that rise. -/
def RisK {α : Type} (l : List α) (k : α → ByteArray) : Prop := ∀ (i j : Nat) (x y : α), i < j → l[i]? = some x → l[j]? = some y → ltS (k x) (k y) = true
theorem wp_risK {α : Type} (f : Nat → ByteArray → α → ByteArray ⊕ Int) (k : α → ByteArray) (hf : ∀ i u x s, f i u x = .inl s → s = k x ∧ leS (k x) u = false) :
    ∀ (l : List α) (i : Nat) (last s : ByteArray), wp f i last l = .inl s → (∀ x ∈ l, ltS last (k x) = true) ∧ RisK l k
  | [], i, last, s, _ => ⟨by simp, fun i j x y _ h => by simp at h⟩
  | a :: l, i, last, s, h => by
    simp only [wp] at h
    cases hfa : f i last a with
    | inr r => rw [hfa] at h; cases h
    | inl s' =>
      rw [hfa] at h
      obtain ⟨rfl, h2⟩ := hf _ _ _ _ hfa
      obtain ⟨h3, h4⟩ := wp_risK f k hf l (i + 1) _ s h
      have h5 := leS_false.1 h2
      refine ⟨fun x hx => ?_, fun i j x y hij hx hy => ?_⟩
      · rcases List.mem_cons.1 hx with rfl | hx
        · exact h5
        · exact ltS_trans h5 (h3 x hx)
      · cases i with
        | zero =>
          cases j with
          | zero => omega
          | succ j =>
            simp only [List.getElem?_cons_zero, Option.some.injEq, List.getElem?_cons_succ] at hx hy
            subst hx
            exact h3 y (List.mem_of_getElem? hy)
        | succ i =>
          cases j with
          | zero => omega
          | succ j =>
            simp only [List.getElem?_cons_succ] at hx hy
            exact h4 i j x y (by omega) hx hy
theorem spotF_ris (i : Nat) (u : ByteArray) (x : S90) (s : ByteArray) (hf : spotF i u x = .inl s) : s = x.f0 ∧ leS x.f0 u = false := by
  refine ⟨spotF_inl hf, ?_⟩
  unfold spotF at hf
  cases hk : key x.f0 <;> rw [hk] at hf
  · cases hf
  · simp only [Bool.not_true, cond_false] at hf
    cases hl : leS x.f0 u
    · rfl
    · rw [hl] at hf; cases hf
theorem campF_ris (i : Nat) (u : ByteArray) (x : S53) (s : ByteArray) (hf : campF i u x = .inl s) : s = x.f0 ∧ leS x.f0 u = false := by
  refine ⟨campF_inl hf, ?_⟩
  unfold campF at hf
  cases hk : (!key x.f0 || (!eqS x.f1 (ByteArray.mk #[]) && !key x.f1)) <;> rw [hk] at hf
  · simp only [cond_false] at hf
    cases hl : leS x.f0 u
    · rfl
    · rw [hl] at hf; cases hf
  · cases hf
theorem wp_camps : ∀ (l : List S53) (i : Nat) (u : ByteArray), ∀ r, wp campF i u l = .inr r → r ≠ 0
  | [], i, u => fun r h => by cases h
  | a :: l, i, u => by
    simp only [wp]
    cases hf : campF i u a with
    | inr r => exact fun q h => by cases h; exact campF_err hf
    | inl s' => exact wp_camps l (i + 1) s'
theorem spots_ris {l : List S90} (h : spotsF l = 0) : RisK l (·.f0) := by
  unfold spotsF at h
  cases h1 : ltI 60 (lenL l) <;> rw [h1] at h
  · simp only [cond_false] at h
    cases hw : wp spotF 0 (ByteArray.mk #[]) l with
    | inl s => exact (wp_risK spotF (·.f0) spotF_ris l 0 _ s hw).2
    | inr r =>
      rw [hw] at h
      exact absurd h ((wp_spots l 0 _).1 r hw)
  · cases h
theorem camps_ris {l : List S53} (h : campsF l = 0) : RisK l (·.f0) := by
  unfold campsF at h
  cases h1 : ltI 30 (lenL l) <;> rw [h1] at h
  · simp only [cond_false] at h
    cases hw : wp campF 0 (ByteArray.mk #[]) l with
    | inl s => exact (wp_risK campF (·.f0) campF_ris l 0 _ s hw).2
    | inr r =>
      rw [hw] at h
      exact absurd h (wp_camps l 0 _ r hw)
  · cases h
theorem ris_one {α : Type} {l : List α} {k : α → ByteArray} (h : RisK l k) {i j : Nat} {x y : α} (hx : l[i]? = some x) (hy : l[j]? = some y) (e : k x = k y) : i = j := by
  rcases Nat.lt_trichotomy i j with h1 | h1 | h1
  · have := h i j x y h1 hx hy
    rw [e, ltS_irrefl] at this; cases this
  · exact h1
  · have := h j i y x h1 hy hx
    rw [e, ltS_irrefl] at this; cases this
/-! How strings compare. -/
theorem cmp_spec : ∀ x y : List UInt8, Lib.compareBytes x y = if Op.bytesLess x y = true then -1 else if Op.bytesLess y x = true then 1 else 0
  | [], [] => rfl
  | [], _ :: _ => rfl
  | _ :: _, [] => rfl
  | a :: x, b :: y => by
    have ih := cmp_spec x y
    simp only [Lib.compareBytes, Op.bytesLess]
    by_cases h1 : a < b
    · simp [h1]
    · by_cases h2 : b < a
      · have h3 : ¬ a = b := fun e => by subst e; exact h1 h2
        simp [h1, h2, h3]
      · have h3 : a = b := UInt8.toNat_inj.1 (by
          have h4 := UInt8.lt_iff_toNat_lt (a := a) (b := b)
          have h5 := UInt8.lt_iff_toNat_lt (a := b) (b := a)
          rw [h4] at h1
          rw [h5] at h2
          omega)
        subst h3
        simp [h1, ih]
theorem cmpS_eq (a b : ByteArray) : cmpS a b = if ltS a b = true then -1 else if ltS b a = true then 1 else 0 := by
  unfold cmpS
  rw [cmp_spec, ltS_eq, ltS_eq]
theorem eqS_comm (a b : ByteArray) : eqS a b = eqS b a := by
  rw [eqS_iff, eqS_iff, Bool.eq_iff_iff]
  simp only [decide_eq_true_eq]
  exact ⟨Eq.symm, Eq.symm⟩
theorem ltS_cases (a b : ByteArray) : (ltS a b = true ∧ ltS b a = false ∧ eqS a b = false) ∨ (a = b ∧ ltS a b = false ∧ ltS b a = false ∧ eqS a b = true) ∨ (ltS a b = false ∧ ltS b a = true ∧ eqS a b = false) := by
  have hne : ∀ x y, ltS x y = true → ltS y x = false ∧ eqS x y = false := fun x y h => by
    constructor
    · cases h1 : ltS y x with
      | false => rfl
      | true => have := ltS_trans h h1; rw [ltS_irrefl] at this; cases this
    · rw [eqS_iff]
      simp only [decide_eq_false_iff_not]
      intro e
      rw [e, ltS_irrefl] at h
      cases h
  rcases ltS_total a b with h | h | h
  · exact .inl ⟨h, hne a b h⟩
  · subst h
    exact .inr (.inl ⟨rfl, ltS_irrefl a, ltS_irrefl a, eqS_self a⟩)
  · refine .inr (.inr ⟨(hne b a h).1, h, ?_⟩)
    rw [eqS_comm]
    exact (hne b a h).2
theorem cmpS_lt (a b : ByteArray) : ltI (cmpS a b) 0 = ltS a b := by
  rw [cmpS_eq]
  rcases ltS_cases a b with ⟨h1, h2, h3⟩ | ⟨_, h1, h2, h3⟩ | ⟨h1, h2, h3⟩ <;> rw [h1, h2] <;> rfl
theorem cmpS_zero (a b : ByteArray) : eqI (cmpS a b) 0 = eqS a b := by
  rw [cmpS_eq]
  rcases ltS_cases a b with ⟨h1, h2, h3⟩ | ⟨_, h1, h2, h3⟩ | ⟨h1, h2, h3⟩ <;> rw [h1, h2, h3] <;> rfl
/-! Halving. -/
theorem halves {α : Type} (l : List α) (k : α → ByteArray) (t : ByteArray) (st : Int × Int → Option ((Int × Int) ⊕ (Int × Int × Bool))) (h : l.length ≤ 1048576) (hr : RisK l k)
    (hst : ∀ (a b : Nat) x, a < b → l[(a + b) / 2]? = some x → st ((a : Int), (b : Int)) = some (.inl (bif ltS (k x) t then ((((a + b) / 2 + 1 : Nat) : Int), (b : Int)) else ((a : Int), (((a + b) / 2 : Nat) : Int)))))
    (hend : ∀ a : Nat, st ((a : Int), (a : Int)) = some (.inr ((a : Int), (a : Int), false))) :
    ∃ p : Nat, iter st (0, (l.length : Int)) = some ((p : Int), (p : Int), false) ∧ p ≤ l.length ∧ (∀ i x, i < p → l[i]? = some x → ltS (k x) t = true) ∧ (∀ i x, p ≤ i → l[i]? = some x → ltS (k x) t = false) := by
  have hi : ∃ r, iter st (((0 : Nat) : Int), (l.length : Int)) = some r ∧ ∃ p : Nat, r = ((p : Int), (p : Int), false) ∧ p ≤ l.length ∧ (∀ i x, i < p → l[i]? = some x → ltS (k x) t = true) ∧ (∀ i x, p ≤ i → l[i]? = some x → ltS (k x) t = false) := by
    refine iter_meas (fun z => ∃ a b : Nat, z = ((a : Int), (b : Int)) ∧ a ≤ b ∧ b ≤ l.length ∧ (∀ i x, i < a → l[i]? = some x → ltS (k x) t = true) ∧ (∀ i x, b ≤ i → l[i]? = some x → ltS (k x) t = false)) (fun z => (z.2 - z.1).toNat) _ ?_ _ ⟨0, l.length, rfl, by omega, by omega, fun i x hi => by omega, fun i x hi hx => ?_⟩
    · rintro _ ⟨a, b, rfl, hab, hb, h1, h2⟩
      by_cases hlt : a < b
      · left
        have hm : (a + b) / 2 < l.length := by omega
        have hx := List.getElem?_eq_getElem hm
        have h3 := hst a b _ hlt hx
        cases hc : ltS (k l[(a + b) / 2]) t with
        | true =>
          rw [hc] at h3
          refine ⟨_, h3, ⟨_, b, rfl, by omega, hb, fun i x hi hxi => ?_, h2⟩, by simp only [cond_true]; omega⟩
          rcases Nat.lt_or_ge i ((a + b) / 2) with h5 | h5
          · exact ltS_trans (hr i _ x _ h5 hxi hx) hc
          · have : i = (a + b) / 2 := by omega
            subst this
            rw [hx] at hxi
            cases hxi
            exact hc
        | false =>
          rw [hc] at h3
          refine ⟨_, h3, ⟨a, _, rfl, by omega, by omega, h1, fun i x hi hxi => ?_⟩, by simp only [cond_false]; omega⟩
          rcases Nat.lt_or_ge ((a + b) / 2) i with h5 | h5
          · cases h6 : ltS (k x) t with
            | false => rfl
            | true =>
              have := ltS_trans (hr _ i _ x h5 hx hxi) h6
              rw [hc] at this; cases this
          · have : i = (a + b) / 2 := by omega
            subst this
            rw [hx] at hxi
            cases hxi
            exact hc
      · right
        have : a = b := by omega
        subst this
        exact ⟨_, hend a, a, rfl, hb, h1, h2⟩
    · have := (List.getElem?_eq_some_iff.1 hx).1
      omega
  obtain ⟨r, h1, p, rfl, h2⟩ := hi
  exact ⟨p, h1, h2⟩
/-- What a search tells: the place of the key, if it has one. -/
def Found {α : Type} (l : List α) (k : α → ByteArray) (t : ByteArray) (j : Int) (b : Bool) : Prop := (b = true ∧ ∃ p x, j = ((p : Nat) : Int) ∧ l[p]? = some x ∧ k x = t) ∨ (b = false ∧ ∀ x ∈ l, k x ≠ t)
theorem found_end {α : Type} {l : List α} {k : α → ByteArray} {t : ByteArray} (hr : RisK l k) {p : Nat} (hp : p ≤ l.length) (h1 : ∀ i x, i < p → l[i]? = some x → ltS (k x) t = true) (h2 : ∀ i x, p ≤ i → l[i]? = some x → ltS (k x) t = false) :
    (∀ x, l[p]? = some x → Found l k t p (eqS (k x) t)) ∧ (l[p]? = none → Found l k t p false) := by
  constructor
  · intro x hx
    cases he : eqS (k x) t with
    | true => exact .inl ⟨rfl, p, x, rfl, hx, by rw [eqS_iff] at he; simpa using he⟩
    | false =>
      refine .inr ⟨rfl, fun y hy e => ?_⟩
      obtain ⟨i, hi⟩ := List.getElem?_of_mem hy
      rcases Nat.lt_trichotomy i p with h7 | h7 | h7
      · have := h1 i y h7 hi; rw [e, ltS_irrefl] at this; cases this
      · subst h7
        rw [hx] at hi
        cases hi
        rw [e, eqS_self] at he; cases he
      · have h8 := hr p i _ y h7 hx hi
        rw [e, h2 p _ (Nat.le_refl _) hx] at h8
        cases h8
  · intro hn
    have hge := List.getElem?_eq_none_iff.1 hn
    refine .inr ⟨rfl, fun y hy e => ?_⟩
    obtain ⟨i, hi⟩ := List.getElem?_of_mem hy
    have hil := (List.getElem?_eq_some_iff.1 hi).1
    have := h1 i y (by omega) hi
    rw [e, ltS_irrefl] at this; cases this
theorem T236_eq (l : List S53) (t : ByteArray) (h : l.length ≤ 1048576) (hr : RisK l (·.f0)) : ∃ j b, T236 l t = some (j, b) ∧ Found l (·.f0) t j b := by
  obtain ⟨p, h1, h2, h3, h4⟩ := halves l (·.f0) t (L271_3 l t) h hr (fun a b x hab hx => by
      have h3 : ltI (a : Int) (b : Int) = true := by rw [ltI_iff]; simpa using hab
      have hm := (List.getElem?_eq_some_iff.1 hx).1
      have h4 : addI .i64 (((a + b) / 2 : Nat) : Int) 1 = (((a + b) / 2 + 1 : Nat) : Int) := by rw [addI_eq (by omega) (by omega)]; omega
      by_cases hb : a + b ≤ 4611686018427387904
      · simp only [L271_3, h3, cond_true, half_eq (a := a) (b := b) hb, listAt_some hx, Option.bind_some, T272, T195, cmpS_lt, h4]
        cases ltS x.f0 t <;> rfl
      · omega) (fun a => by
      have h3 : ltI (a : Int) (a : Int) = false := by rw [ltI_iff]; simp
      simp only [L271_3, h3, cond_false])
  obtain ⟨h5, h6⟩ := found_end hr h2 h3 h4
  unfold T236 T271
  rw [show lenL l = (l.length : Int) from rfl, h1, Option.bind_some]
  cases hx : l[p]? with
  | some x =>
    have hp := (List.getElem?_eq_some_iff.1 hx).1
    have h7 : ltI (p : Int) (l.length : Int) = true := by rw [ltI_iff]; simpa using hp
    simp only [h7, cond_true, listAt_some hx, Option.bind_some, T272, T195, cmpS_zero]
    exact ⟨_, _, rfl, h5 x hx⟩
  | none =>
    have hp := List.getElem?_eq_none_iff.1 hx
    have h7 : ltI (p : Int) (l.length : Int) = false := by rw [ltI_iff]; simpa using hp
    simp only [h7, cond_false, Option.bind_some]
    exact ⟨_, _, rfl, h6 hx⟩
theorem T237_eq (l : List S90) (t : ByteArray) (h : l.length ≤ 1048576) (hr : RisK l (·.f0)) : ∃ j b, T237 l t = some (j, b) ∧ Found l (·.f0) t j b := by
  obtain ⟨p, h1, h2, h3, h4⟩ := halves l (·.f0) t (L273_3 l t) h hr (fun a b x hab hx => by
      have h3 : ltI (a : Int) (b : Int) = true := by rw [ltI_iff]; simpa using hab
      have hm := (List.getElem?_eq_some_iff.1 hx).1
      have h4 : addI .i64 (((a + b) / 2 : Nat) : Int) 1 = (((a + b) / 2 + 1 : Nat) : Int) := by rw [addI_eq (by omega) (by omega)]; omega
      by_cases hb : a + b ≤ 4611686018427387904
      · simp only [L273_3, h3, cond_true, half_eq (a := a) (b := b) hb, listAt_some hx, Option.bind_some, T274, T195, cmpS_lt, h4]
        cases ltS x.f0 t <;> rfl
      · omega) (fun a => by
      have h3 : ltI (a : Int) (a : Int) = false := by rw [ltI_iff]; simp
      simp only [L273_3, h3, cond_false])
  obtain ⟨h5, h6⟩ := found_end hr h2 h3 h4
  unfold T237 T273
  rw [show lenL l = (l.length : Int) from rfl, h1, Option.bind_some]
  cases hx : l[p]? with
  | some x =>
    have hp := (List.getElem?_eq_some_iff.1 hx).1
    have h7 : ltI (p : Int) (l.length : Int) = true := by rw [ltI_iff]; simpa using hp
    simp only [h7, cond_true, listAt_some hx, Option.bind_some, T274, T195, cmpS_zero]
    exact ⟨_, _, rfl, h5 x hx⟩
  | none =>
    have hp := List.getElem?_eq_none_iff.1 hx
    have h7 : ltI (p : Int) (l.length : Int) = false := by rw [ltI_iff]; simpa using hp
    simp only [h7, cond_false, Option.bind_some]
    exact ⟨_, _, rfl, h6 hx⟩
end Go.Abs.TD

set_option linter.unusedVariables false
set_option linter.unusedSimpArgs false
namespace Go.Abs.TD
open Go.RowKit
/-! The first that is so. -/
theorem firsts {α : Type} (l : List α) (p : α → Bool) (st : Int → Option (Int ⊕ ((Int × Bool) ⊕ Int))) (hs : ∀ (i : Nat) x, l[i]? = some x → st (i : Int) = some (bif p x then .inr (.inr (i : Int)) else .inl ((i + 1 : Nat) : Int)))
    (he : st (l.length : Int) = some (.inr (.inl ((l.length : Int), false)))) : ∃ r, iter st 0 = some r ∧ ((∃ (i : Nat) (x : _), r = .inr (i : Int) ∧ l[i]? = some x ∧ p x = true) ∨ (r = .inl ((l.length : Int), false) ∧ ∀ x ∈ l, p x = false)) := by
  refine iter_upx (σ := Unit) (fun _ i => (i : Int)) l.length (fun i _ => ∀ j x, j < i → l[j]? = some x → p x = false) _ (fun i _ hi hI => ?_) (fun _ hI => ⟨_, he, .inr ⟨rfl, fun x hx => ?_⟩⟩) 0 () (Nat.zero_le _) (fun j x hj => by omega)
  · have hx := List.getElem?_eq_getElem hi
    have h1 := hs i _ hx
    cases hp : p l[i] with
    | true =>
      rw [hp] at h1
      exact .inr ⟨_, h1, .inl ⟨i, _, rfl, hx, hp⟩⟩
    | false =>
      rw [hp] at h1
      refine .inl ⟨(), h1, fun j x hj hjx => ?_⟩
      rcases Nat.lt_or_ge j i with h2 | h2
      · exact hI j x h2 hjx
      · have : j = i := by omega
        subst this
        rw [hx] at hjx
        cases hjx
        exact hp
  · obtain ⟨j, hj⟩ := List.getElem?_of_mem hx
    exact hI j x (List.getElem?_eq_some_iff.1 hj).1 hj
theorem T166_eq (l : List S53) (c0 c1 : ByteArray) (c2 : Int) (h : l.length ≤ 1048576) : ∃ j, T166 l c0 c1 c2 = some j ∧ ((∃ (i : Nat) (x : _), j = (i : Int) ∧ l[i]? = some x ∧ x.f0 = c0) ∨ (j = -1 ∧ ∀ x ∈ l, x.f0 ≠ c0)) := by
  obtain ⟨r, h1, h2⟩ := firsts l (fun x => eqS x.f0 c0) (L166_2 l c0 c1 c2) (fun i x hx => by
      have hlt := (List.getElem?_eq_some_iff.1 hx).1
      simp only [L166_2, T167, ltL_true hlt, cond_true, listAt_some hx, Option.bind_some, nextI (i := i) (by omega)]
      cases eqS x.f0 c0 <;> rfl) (by simp only [L166_2, ltL_false (Nat.le_refl _), cond_false])
  unfold T166
  rw [h1, Option.bind_some]
  rcases h2 with ⟨i, x, rfl, hx, hp⟩ | ⟨rfl, hp⟩
  · exact ⟨_, rfl, .inl ⟨i, x, rfl, hx, by rw [eqS_iff] at hp; simpa using hp⟩⟩
  · exact ⟨_, rfl, .inr ⟨rfl, fun x hx e => by have := hp x hx; rw [e, eqS_self] at this; cases this⟩⟩
theorem T168_eq (l : List S90) (c0 c1 : ByteArray) (c2 : Int) (h : l.length ≤ 1048576) : ∃ j, T168 l c0 c1 c2 = some j ∧ ((∃ (i : Nat) (x : _), j = (i : Int) ∧ l[i]? = some x ∧ x.f0 = c1) ∨ (j = -1 ∧ ∀ x ∈ l, x.f0 ≠ c1)) := by
  obtain ⟨r, h1, h2⟩ := firsts l (fun x => eqS x.f0 c1) (L168_2 l c0 c1 c2) (fun i x hx => by
      have hlt := (List.getElem?_eq_some_iff.1 hx).1
      simp only [L168_2, T169, ltL_true hlt, cond_true, listAt_some hx, Option.bind_some, nextI (i := i) (by omega)]
      cases eqS x.f0 c1 <;> rfl) (by simp only [L168_2, ltL_false (Nat.le_refl _), cond_false])
  unfold T168
  rw [h1, Option.bind_some]
  rcases h2 with ⟨i, x, rfl, hx, hp⟩ | ⟨rfl, hp⟩
  · exact ⟨_, rfl, .inl ⟨i, x, rfl, hx, by rw [eqS_iff] at hp; simpa using hp⟩⟩
  · exact ⟨_, rfl, .inr ⟨rfl, fun x hx e => by have := hp x hx; rw [e, eqS_self] at this; cases this⟩⟩
/-! Pairs in order. -/
theorem T235_eq (a b : ByteArray) : T235 a b = some (if ltS a b = true then -1 else if ltS b a = true then 1 else 0) := by
  unfold T235 T270
  rw [eqS_self, eqS_self]
  simp only [Option.bind_some, Bool.not_true, cond_false]
  rcases ltS_cases a b with ⟨h1, h2, h3⟩ | ⟨_, h1, h2, h3⟩ | ⟨h1, h2, h3⟩ <;> rw [h1, h2, h3] <;> rfl
def pairLt (a0 a1 c0 c1 : ByteArray) : Bool := ltS a0 c0 || (eqS a0 c0 && ltS a1 c1)
theorem T170_eq (a0 a1 c0 c1 : ByteArray) : ∃ r, T170 [a0, a1] [c0, c1] = some r ∧ leI 0 r = !pairLt a0 a1 c0 c1 := by
  have a1_ : addI .i64 0 1 = 1 := rfl
  have a2_ : addI .i64 1 1 = 2 := rfl
  have s0 : ∀ v, T235 a0 c0 = some v → L170_2 [a0, a1] [c0, c1] 0 = bif neI v 0 then some (.inr (.inr v)) else some (.inl 1) := fun v hv => by
    simp only [L170_2, a1_]
    show ((T235 a0 c0).bind _) = _
    rw [hv]; rfl
  have s1 : ∀ v, T235 a1 c1 = some v → L170_2 [a0, a1] [c0, c1] 1 = bif neI v 0 then some (.inr (.inr v)) else some (.inl 2) := fun v hv => by
    simp only [L170_2, a2_]
    show ((T235 a1 c1).bind _) = _
    rw [hv]; rfl
  have s2 : L170_2 [a0, a1] [c0, c1] 2 = some (.inr (.inl (2, false))) := rfl
  have h0 := T235_eq a0 c0
  have h1 := T235_eq a1 c1
  unfold T170 pairLt
  rcases ltS_cases a0 c0 with ⟨e1, e2, e3⟩ | ⟨_, e1, e2, e3⟩ | ⟨e1, e2, e3⟩ <;> rw [e1, e2] at h0 <;> rw [e1, e3]
  · rw [iter_stop (s0 _ h0)]
    exact ⟨_, rfl, rfl⟩
  · rw [iter_next (s0 _ h0)]
    rcases ltS_cases a1 c1 with ⟨e4, e5, e6⟩ | ⟨_, e4, e5, e6⟩ | ⟨e4, e5, e6⟩ <;> rw [e4, e5] at h1 <;> rw [e4]
    · rw [iter_stop (s1 _ h1)]
      exact ⟨_, rfl, rfl⟩
    · rw [iter_next (s1 _ h1), iter_stop s2]
      exact ⟨_, rfl, rfl⟩
    · rw [iter_stop (s1 _ h1)]
      exact ⟨_, rfl, rfl⟩
  · rw [iter_stop (s0 _ h0)]
    exact ⟨_, rfl, rfl⟩
/-! One share. -/
theorem eq_nat {z : Int} (h : 0 ≤ z) : ∃ i : Nat, z = (i : Int) := ⟨z.toNat, by omega⟩
theorem body_eq (l : List S90) (m : List S53) (q : List S49) (h : l.length ≤ 1048576) (hs : ∀ x ∈ l, ok90 1048576 x) (h' : m.length ≤ 1048576) (hs' : ∀ x ∈ m, ok53 1048576 x) (hq : q.length ≤ 1048576)
    (v1 : spotsF l = 0) (v2 : campsF m = 0) : L85_5 l m q = L86_8 l m q := by
  funext z
  unfold L85_5 L86_8
  by_cases hneg : z.2.2 < 0
  · have hn : listAt q z.2.2 = none := by unfold listAt; rw [if_neg (by omega)]
    cases ltI z.2.2 (lenL q) with
    | false => rfl
    | true => simp only [cond_true, hn, Option.bind_none]
  obtain ⟨i, hz⟩ := eq_nat (z := z.2.2) (by omega)
  rw [hz]
  by_cases hi : i < q.length
  rotate_left
  · rw [ltL_false (by omega)]
    rfl
  rw [ltL_true hi]
  have hx := List.getElem?_eq_getElem hi
  generalize q[i] = x at hx
  simp only [cond_true, listAt_some hx, Option.bind_some]
  obtain ⟨j1, e1, f1⟩ := T166_eq m x.f0 x.f1 x.f2 h'
  obtain ⟨j2, e2, f2⟩ := T168_eq l x.f0 x.f1 x.f2 h
  obtain ⟨j1', b1, e3, f3⟩ := T236_eq m x.f0 h' (camps_ris v2)
  obtain ⟨j2', b2, e4, f4⟩ := T237_eq l x.f1 h (spots_ris v1)
  unfold T171
  simp only [e1, e2, e3, e4, Option.bind_some, listAt_some hx]
  rcases f1 with ⟨i1, c, rfl, hc, hce⟩ | ⟨rfl, n1⟩
  rotate_left
  · have : b1 = false := by
      rcases f3 with ⟨rfl, p, y, _, hy, hye⟩ | ⟨h, _⟩
      · exact absurd hye (n1 y (List.mem_of_getElem? hy))
      · exact h
    subst this
    rfl
  have hj1 : b1 = true ∧ j1' = (i1 : Int) := by
    rcases f3 with ⟨h, p, y, rfl, hy, hye⟩ | ⟨_, n⟩
    · exact ⟨h, by rw [ris_one (camps_ris v2) hy hc (hye.trans hce.symm)]⟩
    · exact absurd hce (n c (List.mem_of_getElem? hc))
  obtain ⟨rfl, rfl⟩ := hj1
  have g1 : ltI (i1 : Int) 0 = false := by rw [ltI_iff]; simp
  rcases f2 with ⟨i2, s, rfl, hsp, hse⟩ | ⟨rfl, n2⟩
  rotate_left
  · have : b2 = false := by
      rcases f4 with ⟨rfl, p, y, _, hy, hye⟩ | ⟨h, _⟩
      · exact absurd hye (n2 y (List.mem_of_getElem? hy))
      · exact h
    subst this
    rw [g1]
    rfl
  have hj2 : b2 = true ∧ j2' = (i2 : Int) := by
    rcases f4 with ⟨h, p, y, rfl, hy, hye⟩ | ⟨_, n⟩
    · exact ⟨h, by rw [ris_one (spots_ris v1) hy hsp (hye.trans hse.symm)]⟩
    · exact absurd hse (n s (List.mem_of_getElem? hsp))
  obtain ⟨rfl, rfl⟩ := hj2
  have g2 : ltI (i2 : Int) 0 = false := by rw [ltI_iff]; simp
  have k1 := hs' c (List.mem_of_getElem? hc)
  have k2 := hs s (List.mem_of_getElem? hsp)
  have r2 := (spotsF_ok v1 s (List.mem_of_getElem? hsp)).1
  obtain ⟨_, _, _, ⟨kc, _⟩, _⟩ := k1
  obtain ⟨_, _, _, ⟨ks, _⟩⟩ := k2
  simp only [g1, g2, cond_false, Bool.not_true, listAt_some hc, listAt_some hsp, Option.bind_some, T65_eq c s kc ks, T151_eq c s kc ks r2, T132_eq, T126_eq, inB]
  cases suitsB c s with
  | false => rfl
  | true =>
    simp only [Bool.not_true, cond_false, Bool.not_not]
    cases outB x.f2 1 c.f5 with
    | true => rfl
    | false =>
      simp only [cond_false]
      cases i with
      | zero => rfl
      | succ i =>
        have g3 : ltI 0 ((i + 1 : Nat) : Int) = true := by rw [ltI_iff]; simp
        have g4 : subI .i64 ((i + 1 : Nat) : Int) 1 = (i : Int) := by rw [subI_eq (by omega) (by omega)]; omega
        have hy := List.getElem?_eq_getElem (show i < q.length by omega)
        generalize q[i] = y at hy
        obtain ⟨r, e5, e6⟩ := T170_eq y.f0 y.f1 x.f0 x.f1
        simp only [g3, g4, cond_true, listAt_some hy, Option.bind_some, e5, e6]
        unfold pairLt
        rcases ltS_cases y.f0 x.f0 with ⟨u1, u2, u3⟩ | ⟨_, u1, u2, u3⟩ | ⟨u1, u2, u3⟩ <;> rw [u1, u2, u3, eqS_comm x.f0 y.f0, u3]
        · rfl
        · rcases ltS_cases y.f1 x.f1 with ⟨w1, w2, w3⟩ | ⟨_, w1, w2, w3⟩ | ⟨w1, w2, w3⟩ <;> rw [w1, w2, eqS_comm x.f1 y.f1, w3] <;> rfl
        · rfl
end Go.Abs.TD

set_option linter.unusedVariables false
set_option linter.unusedSimpArgs false
namespace Go.Abs.TD
open Go.RowKit
theorem wp_any0 {α : Type} (p : α → Bool) (i : Nat) (l : List α) : (wp (fun _ (_ : Unit) x => bif p x then (.inr () : Unit ⊕ Unit) else .inl ()) i () l) = bif l.any p then .inr () else .inl () := by
  induction l generalizing i with
  | nil => rfl
  | cons a l ih =>
    simp only [wp, List.any_cons]
    cases p a with
    | true => rfl
    | false => simpa using ih (i + 1)
abbrev gt (a : List (ByteArray × Int)) (s : ByteArray) : Int := (mgetB eqB a s).getD 0
theorem tail21 (l : List S90) (m : List S53) (a b : List (ByteArray × Int)) (h : l.length ≤ 1048576) : iter (L85_21 l m) (a, b, 0) = some (bif l.any (fun x => ltI x.f2 (gt a x.f0)) then .inr () else .inl ((l.length : Int), false, a, b)) := by
  have hi := iter_wp (st := L85_21 l m) (fun (_ : Unit) i => (a, b, (i : Int))) (fun _ => .inl ((l.length : Int), false, a, b)) (fun _ => .inr ()) l (fun _ (_ : Unit) x => bif ltI x.f2 (gt a x.f0) then (.inr () : Unit ⊕ Unit) else .inl ()) (fun _ _ => True) (fun i u x hx _ => ⟨by
      have hlt := (List.getElem?_eq_some_iff.1 hx).1
      simp only [L85_21, ltL_true hlt, cond_true, listAt_some hx, Option.bind_some, nextI (i := i) (by omega)]
      cases ltI x.f2 (gt a x.f0) <;> rfl, fun _ _ => trivial⟩) (fun u _ => by simp only [L85_21, ltL_false (Nat.le_refl _), cond_false]) () trivial
  refine hi.trans ?_
  rw [wp_any0]
  cases l.any (fun x => ltI x.f2 (gt a x.f0)) <;> rfl
theorem tail27 (m : List S53) (b : List (ByteArray × Int)) (h : m.length ≤ 1048576) : iter (L85_27 m) (b, 0) = some (bif m.any (fun x => ltI x.f4 (gt b x.f0)) then .inr () else .inl ((m.length : Int), false, b)) := by
  have hi := iter_wp (st := L85_27 m) (fun (_ : Unit) i => (b, (i : Int))) (fun _ => .inl ((m.length : Int), false, b)) (fun _ => .inr ()) m (fun _ (_ : Unit) x => bif ltI x.f4 (gt b x.f0) then (.inr () : Unit ⊕ Unit) else .inl ()) (fun _ _ => True) (fun i u x hx _ => ⟨by
      have hlt := (List.getElem?_eq_some_iff.1 hx).1
      simp only [L85_27, ltL_true hlt, cond_true, listAt_some hx, Option.bind_some, nextI (i := i) (by omega)]
      cases ltI x.f4 (gt b x.f0) <;> rfl, fun _ _ => trivial⟩) (fun u _ => by simp only [L85_27, ltL_false (Nat.le_refl _), cond_false]) () trivial
  refine hi.trans ?_
  rw [wp_any0]
  cases m.any (fun x => ltI x.f4 (gt b x.f0)) <;> rfl
theorem any_of_first {α : Type} {l : List α} {p : α → Bool} {i : Nat} {x : α} (h : l[i]? = some x) (hp : p x = true) : l.any p = true := List.any_eq_true.2 ⟨x, List.mem_of_getElem? h, hp⟩
theorem any_none {α : Type} {l : List α} {p : α → Bool} (h : ∀ x ∈ l, p x = false) : l.any p = false := List.any_eq_false.2 fun x hx => by rw [h x hx]; decide
theorem le0 (i : Nat) : leI 0 (i : Int) = true := by rw [leI_iff]; simp
theorem T172_eq (l : List S90) (a : List (ByteArray × Int)) (h : l.length ≤ 1048576) : T172 l a = some (l.any fun x => ltI x.f2 (gt a x.f0)) := by
  obtain ⟨r, h1, h2⟩ := firsts l (fun x => ltI x.f2 (gt a x.f0)) (L168_1_2 l a) (fun i x hx => by
      have hlt := (List.getElem?_eq_some_iff.1 hx).1
      simp only [L168_1_2, T173, ltL_true hlt, cond_true, listAt_some hx, Option.bind_some, nextI (i := i) (by omega)]
      cases ltI x.f2 (gt a x.f0) <;> rfl) (by simp only [L168_1_2, ltL_false (Nat.le_refl _), cond_false])
  unfold T172 T168_1
  rw [h1, Option.bind_some]
  rcases h2 with ⟨i, x, rfl, hx, hp⟩ | ⟨rfl, hp⟩
  · rw [any_of_first hx hp]
    simp only [Sum.elim_inr, Option.bind_some, le0]
  · rw [any_none hp]
    rfl
theorem T95_eq (m : List S53) (a : List (ByteArray × Int)) (h : m.length ≤ 1048576) : T95 m a = some (m.any fun x => ltI x.f4 (gt a x.f0)) := by
  obtain ⟨r, h1, h2⟩ := firsts m (fun x => ltI x.f4 (gt a x.f0)) (L166_1_2 m a) (fun i x hx => by
      have hlt := (List.getElem?_eq_some_iff.1 hx).1
      simp only [L166_1_2, T174, ltL_true hlt, cond_true, listAt_some hx, Option.bind_some, nextI (i := i) (by omega)]
      cases ltI x.f4 (gt a x.f0) <;> rfl) (by simp only [L166_1_2, ltL_false (Nat.le_refl _), cond_false])
  unfold T95 T166_1
  rw [h1, Option.bind_some]
  rcases h2 with ⟨i, x, rfl, hx, hp⟩ | ⟨rfl, hp⟩
  · rw [any_of_first hx hp]
    simp only [Sum.elim_inr, Option.bind_some, le0]
  · rw [any_none hp]
    rfl
end Go.Abs.TD

set_option linter.unusedVariables false
set_option linter.unusedSimpArgs false
namespace Go.Abs.TD
open Go.RowKit
theorem T171_some (l : List S90) (m : List S53) (q : List S49) (h : l.length ≤ 1048576) (hs : ∀ x ∈ l, ok90 1048576 x) (h' : m.length ≤ 1048576) (hs' : ∀ x ∈ m, ok53 1048576 x) (hq : q.length ≤ 1048576)
    (v1 : spotsF l = 0) (v2 : campsF m = 0) (i : Nat) (hi : i < q.length) : ∃ v, T171 l m q (i : Int) = some v := by
  have hx := List.getElem?_eq_getElem hi
  generalize q[i] = x at hx
  obtain ⟨j1', b1, e3, f3⟩ := T236_eq m x.f0 h' (camps_ris v2)
  obtain ⟨j2', b2, e4, f4⟩ := T237_eq l x.f1 h (spots_ris v1)
  unfold T171
  simp only [e3, e4, Option.bind_some, listAt_some hx]
  rcases f3 with ⟨rfl, i1, c, rfl, hc, hce⟩ | ⟨rfl, _⟩
  · rcases f4 with ⟨rfl, i2, s, rfl, hsp, hse⟩ | ⟨rfl, _⟩
    · have k1 := hs' c (List.mem_of_getElem? hc)
      have k2 := hs s (List.mem_of_getElem? hsp)
      have r2 := (spotsF_ok v1 s (List.mem_of_getElem? hsp)).1
      obtain ⟨_, _, _, ⟨kc, _⟩, _⟩ := k1
      obtain ⟨_, _, _, ⟨ks, _⟩⟩ := k2
      simp only [cond_false, Bool.not_true, listAt_some hc, listAt_some hsp, Option.bind_some, T151_eq c s kc ks r2, T126_eq]
      cases suitsB c s with
      | false => exact ⟨_, rfl⟩
      | true =>
        simp only [Bool.not_true, cond_false]
        cases outB x.f2 1 c.f5 with
        | true => exact ⟨_, rfl⟩
        | false =>
          simp only [cond_false]
          cases i with
          | zero => exact ⟨_, rfl⟩
          | succ i =>
            have g3 : ltI 0 ((i + 1 : Nat) : Int) = true := by rw [ltI_iff]; simp
            have g4 : subI .i64 ((i + 1 : Nat) : Int) 1 = (i : Int) := by rw [subI_eq (by omega) (by omega)]; omega
            have hy := List.getElem?_eq_getElem (show i < q.length by omega)
            generalize q[i] = y at hy
            simp only [g3, g4, cond_true, listAt_some hy, Option.bind_some]
            cases ltS x.f0 y.f0 <;> cases eqS x.f0 y.f0 <;> cases (ltS x.f1 y.f1 || eqS x.f1 y.f1) <;> exact ⟨_, rfl⟩
    · exact ⟨_, rfl⟩
  · exact ⟨_, rfl⟩
theorem loop_some (l : List S90) (m : List S53) (q : List S49) (h : l.length ≤ 1048576) (hs : ∀ x ∈ l, ok90 1048576 x) (h' : m.length ≤ 1048576) (hs' : ∀ x ∈ m, ok53 1048576 x) (hq : q.length ≤ 1048576)
    (v1 : spotsF l = 0) (v2 : campsF m = 0) : ∃ r, iter (L86_8 l m q) ([], [], 0) = some r ∧ True := by
  refine iter_upx (σ := List (ByteArray × Int) × List (ByteArray × Int)) (fun s i => (s.1, s.2, (i : Int))) q.length (fun _ _ => True) (fun _ => True) (fun i s hi _ => ?_) (fun s _ => ⟨.inl ((q.length : Int), false, s.1, s.2), by simp only [L86_8, ltL_false (Nat.le_refl _), cond_false], trivial⟩) 0 ([], []) (Nat.zero_le _) trivial
  have hx := List.getElem?_eq_getElem hi
  obtain ⟨v, hv⟩ := T171_some l m q h hs h' hs' hq v1 v2 i hi
  simp only [L86_8, ltL_true hi, cond_true, listAt_some hx, Option.bind_some, hv, nextI (i := i) (by omega)]
  cases neI v 0 with
  | true => exact .inr ⟨_, rfl, trivial⟩
  | false => exact .inl ⟨(_, _), rfl, trivial⟩
theorem T85_eq (l : List S90) (m : List S53) (q : List S49) (h : l.length ≤ 1048576) (hs : ∀ x ∈ l, ok90 1048576 x) (h' : m.length ≤ 1048576) (hs' : ∀ x ∈ m, ok53 1048576 x) (hq : q.length ≤ 1048576)
    (v1 : spotsF l = 0) (v2 : campsF m = 0) : ∃ v, T85 l m q = some v ∧ T86 l m q = some v := by
  unfold T85 T86
  rw [T150_eq l m h hs h' hs', or2_zero.2 ⟨v1, v2⟩, body_eq l m q h hs h' hs' hq v1 v2]
  simp only [Option.bind_some, show neI 0 0 = false from rfl, cond_false]
  cases ltI 1800 (lenL q) with
  | true => exact ⟨_, rfl, rfl⟩
  | false =>
    obtain ⟨r, hr, _⟩ := loop_some l m q h hs h' hs' hq v1 v2
    simp only [cond_false, hr, Option.bind_some]
    rcases r with ⟨i, b, c, d⟩ | r
    · simp only [Sum.elim_inl, tail21 l m c d h, T172_eq l c h, T95_eq m d h', Option.bind_some]
      cases l.any (fun x => ltI x.f2 (gt c x.f0)) with
      | true => exact ⟨_, rfl, rfl⟩
      | false =>
        simp only [cond_false, Sum.elim_inl, tail27 m d h', Option.bind_some]
        cases m.any (fun x => ltI x.f4 (gt d x.f0)) <;> exact ⟨_, rfl, rfl⟩
    · exact ⟨_, rfl, rfl⟩
theorem beqB_self (s : ByteArray) : (s == s) = true := by
  cases s with
  | mk d =>
    show (d == d) = true
    exact beq_self_eq_true d
theorem T27_self (q : List S49) (h : q.length ≤ 1048576) : T27 q q = some true := by
  have hi : iter (L27_4 q q) ((0 : Nat) : Int) = some (Sum.elim (fun _ => .inl ((q.length : Int), false)) (fun r => .inr r) (wp (fun _ (_ : Unit) (_ : S49) => (.inl () : Unit ⊕ Unit)) 0 () q)) := by
    refine iter_wp (fun _ i => (i : Int)) _ _ q _ (fun _ _ => True) (fun i u x hx _ => ⟨?_, fun _ _ => trivial⟩) (fun u _ => ?_) _ trivial
    · have hlt : i < q.length := (List.getElem?_eq_some_iff.1 hx).1
      have hb : ∀ s, eqB s s = true := fun s => by unfold eqB; exact beqB_self s
      simp only [L27_4, ltL_true hlt, cond_true, listAt_some hx, Option.bind_some, nextI (i := i) (by omega), hb, eqI_self, show allB [true, true, true] = true from rfl, Bool.not_true, cond_false]
    · simp only [L27_4, ltL_false (Nat.le_refl _), cond_false]
  have h3 : neI (lenL q) (lenL q) = false := by rw [neI_iff]; simp
  unfold T27
  rw [show (0 : Int) = ((0 : Nat) : Int) from rfl, hi, wp_true, h3]
  rfl
theorem plain (p0 : (List S90)) (p1 : (List S53)) (p2 : (List S49)) (h0 : (p0.length ≤ 1048576 ∧ ∀ x ∈ p0, ok90 1048576 x)) (h1 : (p1.length ≤ 1048576 ∧ ∀ x ∈ p1, ok53 1048576 x)) (h2 : (p2.length ≤ 1048576 ∧ ∀ x ∈ p2, ok49 1048576 x)) : T6 p0 p1 p2 = some true := by
  have ha : appO 40 ([] : List S49) p2 = some p2 := (appO_big (by decide) (by simp only [List.length_nil]; omega)).trans (by simp)
  have hT26 : T26 p0 p1 p2 = some true := by
    unfold T26
    rw [T59_eq p0 h0.1 h0.2, T61_eq p1 h1.1 h1.2]
    simp only [Option.bind_some, T49_eq, T66_eq]
    cases he : eqI (or2 (spotsF p0) (campsF p1)) 0 with
    | true =>
      have h3 : or2 (spotsF p0) (campsF p1) = 0 := by rw [eqI_iff] at he; simpa using he
      obtain ⟨v1, v2⟩ := or2_zero.1 h3
      obtain ⟨v, e1, e2⟩ := T85_eq p0 p1 p2 h0.1 h0.2 h1.1 h1.2 h2.1 v1 v2
      simp only [cond_true, e1, e2, Option.bind_some, Go.Abs.eqI_self]
    | false =>
      have h3 : neI (or2 (spotsF p0) (campsF p1)) 0 = true := by rw [neI_iff, ← eqI_iff, he]; rfl
      have e1 : T86 p0 p1 p2 = some (or2 (spotsF p0) (campsF p1)) := by
        unfold T86
        rw [T150_eq p0 p1 h0.1 h0.2 h1.1 h1.2]
        simp only [Option.bind_some, h3, cond_true]
      simp only [cond_false, e1, Option.bind_some, Go.Abs.eqI_self, cond_true]
  unfold T6
  rw [T15_eq p0 h0.1 h0.2, T16_eq p1 h1.1 h1.2]
  simp only [Option.bind_some, ha, hT26, cond_true, T18_self p0 h0.1 h0.2, T19_self p1 h1.1 h1.2, T27_self p2 h2.1]
end Go.Abs.TD
