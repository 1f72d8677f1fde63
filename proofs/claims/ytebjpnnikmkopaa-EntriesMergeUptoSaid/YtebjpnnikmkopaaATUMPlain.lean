import Derived.Test.YtebjpnnikmkopaaATUMR
import Derived.Test.YtebjpnnikmkopaaAPl
import Derived.Test.YtebjpnnikmkopaaAPlV
import Derived.Test.YtebjpnnikmkopaaAPlD
set_option linter.unusedVariables false
set_option linter.unusedSimpArgs false
namespace Go.Abs.TUM
open Go.RowKit
/-! Keys. -/
def wc (x : Int) : Bool := (leI 97 x && leI x 122) || ((leI 48 x && leI x 57) || eqI x 45 || eqI x 95)
def okAt (i : Nat) (c : UInt8) : Bool := (leI 97 c.toNat && leI c.toNat 122) || (ltI 0 i && ((leI 48 c.toNat && leI c.toNat 57) || eqI c.toNat 45 || eqI c.toNat 95))
def key (s : ByteArray) : Bool := ((by_ s).zipIdx.all fun q => okAt q.2 q.1) && !eqS s (ByteArray.mk #[]) && leI (lenS s) 40
theorem T31_eq (s : ByteArray) (h : s.size ≤ 1048576) : T31 s = some (key s) := by
  have hi : iter (L31_2 s) ((0 : Nat) : Int) = some (Sum.elim (fun _ : Unit => .inl ((s.size : Int), false)) (fun _ : Unit => .inr ()) (wp (fun i (_ : Unit) x => bif okAt i x then (.inl () : Unit ⊕ Unit) else .inr ()) 0 () (by_ s))) := by
    refine iter_wpS (fun _ i => (i : Int)) _ _ s _ (fun _ _ => True) (fun i u x hx _ => ⟨?_, fun _ _ => trivial⟩) (fun u _ => ?_) () trivial
    · have hlt : i < s.size := by rw [← by_len]; exact (List.getElem?_eq_some_iff.1 hx).1
      have h1 : ltI (i : Int) (lenS s) = true := by rw [ltI_iff, lenS_eq]; simpa using hlt
      have h2 : addI .i64 (i : Int) 1 = ((i + 1 : Nat) : Int) := by rw [addI_eq (by omega) (by omega)]; omega
      simp only [L31_2, h1, cond_true, byteAt_some hx, Option.bind_some, h2, okAt]
      generalize leI 97 (x.toNat : Int) = b1
      generalize leI (x.toNat : Int) 122 = b2
      generalize ltI 0 (i : Int) = b3
      generalize leI 48 (x.toNat : Int) = b4
      generalize leI (x.toNat : Int) 57 = b5
      generalize eqI (x.toNat : Int) 45 = b6
      generalize eqI (x.toNat : Int) 95 = b7
      cases b1 <;> cases b2 <;> cases b3 <;> cases b4 <;> cases b5 <;> cases b6 <;> cases b7 <;> rfl
    · have h1 : ltI (s.size : Int) (lenS s) = false := by rw [ltI_iff, lenS_eq]; simp
      simp only [L31_2, h1, cond_false]
  unfold T31
  rw [show (0 : Int) = ((0 : Nat) : Int) from rfl, hi, wp_all okAt, elim_cond, Option.bind_some]
  unfold key
  cases (by_ s).zipIdx.all fun q => okAt q.2 q.1 <;> cases eqS s (ByteArray.mk #[]) <;> rfl
def smalls : ByteArray := ByteArray.mk #[97, 98, 99, 100, 101, 102, 103, 104, 105, 106, 107, 108, 109, 110, 111, 112, 113, 114, 115, 116, 117, 118, 119, 120, 121, 122]
def words : ByteArray := ByteArray.mk #[97, 98, 99, 100, 101, 102, 103, 104, 105, 106, 107, 108, 109, 110, 111, 112, 113, 114, 115, 116, 117, 118, 119, 120, 121, 122, 48, 49, 50, 51, 52, 53, 54, 55, 56, 57, 45, 95]
theorem T51_eq (s t : ByteArray) (h : s.size ≤ 1048576) : T51 s t = some ((by_ s).all fun c => !ltI (idxB t c.toNat) 0) := by
  have hi : iter (L51_2 s t) ((0 : Nat) : Int) = some (Sum.elim (fun _ : Unit => .inl ((s.size : Int), false)) (fun _ : Unit => .inr ()) (wp (fun i (_ : Unit) (x : UInt8) => bif !ltI (idxB t x.toNat) 0 then (.inl () : Unit ⊕ Unit) else .inr ()) 0 () (by_ s))) := by
    refine iter_wpS (fun _ i => (i : Int)) _ _ s _ (fun _ _ => True) (fun i u x hx _ => ⟨?_, fun _ _ => trivial⟩) (fun u _ => ?_) () trivial
    · have hlt : i < s.size := by rw [← by_len]; exact (List.getElem?_eq_some_iff.1 hx).1
      have h1 : ltI (i : Int) (lenS s) = true := by rw [ltI_iff, lenS_eq]; simpa using hlt
      have h2 : addI .i64 (i : Int) 1 = ((i + 1 : Nat) : Int) := by rw [addI_eq (by omega) (by omega)]; omega
      simp only [L51_2, T62, h1, cond_true, byteAt_some hx, Option.bind_some, h2]
      cases ltI (idxB t (x.toNat : Int)) 0 <;> rfl
    · have h1 : ltI (s.size : Int) (lenS s) = false := by rw [ltI_iff, lenS_eq]; simp
      simp only [L51_2, h1, cond_false]
  unfold T51
  rw [show (0 : Int) = ((0 : Nat) : Int) from rfl, hi, wp_all', elim_cond, Option.bind_some]
  cases (by_ s).all fun c => !ltI (idxB t (c.toNat : Int)) 0 <;> rfl
theorem smalls_idx : ∀ n : Fin 256, (!ltI (Lib.indexByte (by_ smalls) (UInt8.ofNat n.val)) 0) = (leI 97 n.val && leI n.val 122) := by decide +kernel
theorem words_idx : ∀ n : Fin 256, (!ltI (Lib.indexByte (by_ words) (UInt8.ofNat n.val)) 0) = wc n.val := by decide +kernel
theorem smalls_at (c : UInt8) : (!ltI (idxB smalls c.toNat) 0) = (leI 97 c.toNat && leI c.toNat 122) := by
  have := smalls_idx ⟨c.toNat, c.toNat_lt⟩
  simpa [idxB] using this
theorem words_at (c : UInt8) : (!ltI (idxB words c.toNat) 0) = wc c.toNat := by
  have := words_idx ⟨c.toNat, c.toNat_lt⟩
  simpa [idxB] using this
theorem okAt_pos {i : Nat} (h : 1 ≤ i) (c : UInt8) : okAt i c = wc c.toNat := by
  have : ltI 0 (i : Int) = true := by rw [ltI_iff]; simp; omega
  simp only [okAt, wc, this, Bool.true_and]
theorem okAt_all (l : List UInt8) (k : Nat) (h : 1 ≤ k) : ((l.zipIdx k).all fun q => okAt q.2 q.1) = l.all fun c => wc c.toNat := by
  induction l generalizing k with
  | nil => rfl
  | cons a l ih => simp only [List.zipIdx_cons, List.all_cons, okAt_pos h, ih (k + 1) (by omega)]
theorem eqS_empty {s : ByteArray} (h : s.size ≠ 0) : eqS s (ByteArray.mk #[]) = false := by
  rw [eqS_iff]
  simp only [decide_eq_false_iff_not]
  intro e
  rw [e] at h
  exact h rfl
theorem T35_eq (a b c : Int) : T35 a b c = some (leI b a && leI a c) := by
  unfold T35
  cases leI b a <;> rfl
theorem T34_eq (s : ByteArray) (h : s.size ≤ 1048576) : T34 s = some (key s) := by
  unfold T34
  rw [T35_eq, Option.bind_some]
  have hlen := by_len s
  rcases hb : by_ s with _ | ⟨c, l⟩
  · rw [hb] at hlen
    have h0 : s.size = 0 := hlen.symm
    have h1 : leI 1 (lenS s) = false := by rw [leI_iff, lenS_eq, h0]; rfl
    have h2 : eqS s (ByteArray.mk #[]) = true := by
      rw [eqS_iff]; simp only [decide_eq_true_eq]; exact by_inj hb
    unfold key
    rw [h1, h2, Bool.false_and, cond_false]
    simp
  · rw [hb, List.length_cons] at hlen
    have h1 : leI 1 (lenS s) = true := by rw [leI_iff, lenS_eq]; simp; omega
    have h2 : eqS s (ByteArray.mk #[]) = false := eqS_empty (by omega)
    have h3 : cutS s none (some 1) = some (s.extract 0 1) := by
      have : (1 : Int) ≤ (s.size : Int) := by omega
      simp [cutS, cutB, this]
    have h4 : by_ (s.extract 0 1) = [c] := by rw [by_extract, hb]; rfl
    have h5 : (s.extract 0 1).size ≤ 1048576 := by rw [← by_len, h4]; simp
    have h6 := T51_eq (s.extract 0 1) smalls h5
    have h7 := T51_eq s words h
    unfold smalls at h6
    unfold words at h7
    rw [h1, h3, Bool.true_and, Option.bind_some, h6, h4, h7, hb]
    simp only [Option.bind_some, List.all_cons, List.all_nil, Bool.and_true]
    have h8 : (!ltI (idxB (ByteArray.mk #[97, 98, 99, 100, 101, 102, 103, 104, 105, 106, 107, 108, 109, 110, 111, 112, 113, 114, 115, 116, 117, 118, 119, 120, 121, 122]) c.toNat) 0) = (leI 97 c.toNat && leI c.toNat 122) := smalls_at c
    have h9 : ∀ c : UInt8, (!ltI (idxB (ByteArray.mk #[97, 98, 99, 100, 101, 102, 103, 104, 105, 106, 107, 108, 109, 110, 111, 112, 113, 114, 115, 116, 117, 118, 119, 120, 121, 122, 48, 49, 50, 51, 52, 53, 54, 55, 56, 57, 45, 95]) c.toNat) 0) = wc c.toNat := words_at
    simp only [h8, h9]
    unfold key
    have h10 : okAt 0 c = (leI 97 c.toNat && leI c.toNat 122) := by simp [okAt, ltI]
    rw [h2, hb, List.zipIdx_cons, List.all_cons, okAt_all l _ (by omega), h10]
    unfold wc
    cases leI 97 (c.toNat : Int) <;> cases leI (c.toNat : Int) 122 <;> cases (l.all fun c => (leI 97 (c.toNat : Int) && leI (c.toNat : Int) 122) || ((leI 48 (c.toNat : Int) && leI (c.toNat : Int) 57) || eqI (c.toNat : Int) 45 || eqI (c.toNat : Int) 95)) <;> cases leI (lenS s) 40 <;> rfl
theorem key_pos {s : ByteArray} (h : key s = true) : s.size ≠ 0 := by
  intro h0
  unfold key at h
  have : eqS s (ByteArray.mk #[]) = true := by
    rw [eqS_iff]; simp only [decide_eq_true_eq]
    apply by_inj
    exact List.eq_nil_of_length_eq_zero (by rw [by_len]; exact h0)
  rw [this] at h
  simp at h
/-! Strings, and how they are ordered. -/
theorem leS_empty {s : ByteArray} (h : s.size ≠ 0) : leS s (ByteArray.mk #[]) = false := by
  unfold leS
  rw [eqS_empty h, ltS_eq]
  cases hb : by_ s with
  | nil => rfl
  | cons c l => rfl
/-! Tags. -/
def risF (_ : Nat) (last : ByteArray) (x : ByteArray) : ByteArray ⊕ Int := bif !key x then .inr 5 else bif leS x last then .inr 7 else .inl x
def tagsF (l : List ByteArray) : Int := bif ltI 20 (lenL l) then 2 else Sum.elim (fun _ => 0) id (wp risF 0 (ByteArray.mk #[]) l)
def Prev {α : Type} (l : List α) (k : α → ByteArray) (i : Nat) (s : ByteArray) : Prop := (i = 0 ∧ s = ByteArray.mk #[]) ∨ ∃ x, 0 < i ∧ l[i - 1]? = some x ∧ s = k x
theorem T50_eq (l : List ByteArray) (h : l.length ≤ 1048576) (hs : ∀ x ∈ l, x.size ≤ 1048576) : T50 l = some (Sum.elim (fun _ => 0) id (wp risF 0 (ByteArray.mk #[]) l)) := by
  have hi : iter (L50_2 l) ((0 : Nat) : Int) = some (Sum.elim (fun _ => .inl ((l.length : Int), false)) (fun r => .inr r) (wp risF 0 (ByteArray.mk #[]) l)) := by
    refine iter_wp (fun _ i => (i : Int)) _ _ l risF (Prev l id) (fun i u x hx hI => ?_) (fun u _ => ?_) _ (.inl ⟨rfl, rfl⟩)
    · have hlt : i < l.length := (List.getElem?_eq_some_iff.1 hx).1
      have h1 : ltI (i : Int) (lenL l) = true := by rw [ltI_iff, lenL_eq]; simpa using hlt
      have h2 : addI .i64 (i : Int) 1 = ((i + 1 : Nat) : Int) := by rw [addI_eq (by omega) (by omega)]; omega
      have h3 := T31_eq x (hs x (List.mem_of_getElem? hx))
      refine ⟨?_, fun s' hf => ?_⟩
      · simp only [L50_2, h1, cond_true, listAt_some hx, Option.bind_some, h3, h2, risF]
        cases hk : key x with
        | false => rfl
        | true =>
          simp only [Bool.not_true, cond_false]
          rcases hI with ⟨rfl, rfl⟩ | ⟨y, hi0, hy, hu⟩
          · have h4 : ltI 0 ((0 : Nat) : Int) = false := rfl
            rw [h4, leS_empty (key_pos hk)]
            rfl
          · have h4 : ltI 0 (i : Int) = true := by rw [ltI_iff]; simp; omega
            have h5 : subI .i64 (i : Int) 1 = ((i - 1 : Nat) : Int) := by rw [subI_eq (by omega) (by omega)]; omega
            rw [h4, h5, listAt_some hy, hu]
            simp only [cond_true, Option.bind_some, leS, id]
            cases (ltS x y || eqS x y) <;> rfl
      · refine .inr ⟨x, by omega, by simpa using hx, ?_⟩
        unfold risF at hf
        cases hk : key x <;> rw [hk] at hf
        · cases hf
        · simp only [Bool.not_true, cond_false] at hf
          cases hl : leS x u <;> rw [hl] at hf
          · exact (Sum.inl.inj hf).symm
          · cases hf
    · have h1 : ltI (l.length : Int) (lenL l) = false := by rw [ltI_iff, lenL_eq]; simp
      simp only [L50_2, h1, cond_false]
  unfold T50
  rw [show (0 : Int) = ((0 : Nat) : Int) from rfl, hi, Option.bind_some]
  cases wp risF 0 (ByteArray.mk #[]) l <;> rfl
theorem listAt_mem {α : Type} {l : List α} {i : Int} {x : α} (h : listAt l i = some x) : x ∈ l := by
  unfold listAt at h
  split at h
  · exact List.mem_of_getElem? h
  · cases h
theorem T52_eq (l : List ByteArray) (h : l.length ≤ 1048576) (hs : ∀ x ∈ l, x.size ≤ 1048576) : T52 l = some (Sum.elim (fun _ => 0) id (wp risF 0 (ByteArray.mk #[]) l)) := by
  rw [← T50_eq l h hs]
  have : L52_2 l = L50_2 l := by
    funext z
    unfold L52_2 L50_2
    cases hx : listAt l z with
    | none => rfl
    | some x => simp only [Option.bind_some, T34_eq x (hs x (listAt_mem hx)), T31_eq x (hs x (listAt_mem hx))]
  unfold T52 T50
  rw [this]
theorem T33_eq (l : List ByteArray) (h : l.length ≤ 1048576) (hs : ∀ x ∈ l, x.size ≤ 1048576) : T33 l = some (tagsF l) := by
  unfold T33 tagsF
  rw [T50_eq l h hs]
  cases ltI 20 (lenL l) <;> rfl
theorem T36_eq (l : List ByteArray) (h : l.length ≤ 1048576) (hs : ∀ x ∈ l, x.size ≤ 1048576) : T36 l = some (tagsF l) := by
  unfold T36 tagsF
  rw [T52_eq l h hs]
  cases ltI 20 (lenL l) <;> rfl
def outB (a b c : Int) : Bool := ltI a b || ltI c a
theorem T32_eq (a b c : Int) : T32 a b c = some (outB a b c) := by
  unfold T32 outB
  cases ltI a b <;> rfl
theorem ltI_not (a b : Int) : ltI a b = !leI b a := by
  rw [ltI_iff, leI_iff, Bool.eq_iff_iff]; simp
theorem inB (a b c : Int) : (leI b a && leI a c) = !outB a b c := by
  unfold outB
  rw [ltI_not a b, ltI_not c a]
  cases leI b a <;> cases leI a c <;> rfl
theorem wp_true {α : Type} (i : Nat) (l : List α) : (wp (fun _ (_ : Unit) (_ : α) => (.inl () : Unit ⊕ Unit)) i () l) = .inl () := by
  induction l generalizing i with
  | nil => rfl
  | cons a l ih => exact ih (i + 1)
theorem T69_self (l : List ByteArray) (h : l.length ≤ 1048576) : T23 l l = some true := by
  have hi : iter (L23_4 l l) ((0 : Nat) : Int) = some (Sum.elim (fun _ => .inl ((l.length : Int), false)) (fun r => .inr r) (wp (fun _ (_ : Unit) (_ : ByteArray) => (.inl () : Unit ⊕ Unit)) 0 () l)) := by
    refine iter_wp (fun _ i => (i : Int)) _ _ l _ (fun _ _ => True) (fun i u x hx _ => ⟨?_, fun _ _ => trivial⟩) (fun u _ => ?_) _ trivial
    · have hlt : i < l.length := (List.getElem?_eq_some_iff.1 hx).1
      have h1 : ltI (i : Int) (lenL l) = true := by rw [ltI_iff, lenL_eq]; simpa using hlt
      have h2 : addI .i64 (i : Int) 1 = ((i + 1 : Nat) : Int) := by rw [addI_eq (by omega) (by omega)]; omega
      simp only [L23_4, h1, cond_true, listAt_some hx, Option.bind_some, h2, eqS_self, Bool.not_true, cond_false]
    · have h1 : ltI (l.length : Int) (lenL l) = false := by rw [ltI_iff, lenL_eq]; simp
      simp only [L23_4, h1, cond_false]
  have h3 : neI (lenL l) (lenL l) = false := by rw [neI_iff]; simp
  unfold T23
  rw [show (0 : Int) = ((0 : Nat) : Int) from rfl, hi, wp_true, h3]
  rfl
theorem eqI_self (a : Int) : eqI a a = true := by rw [eqI_iff]; simp
def Rising (l : List ByteArray) : Prop := ∀ (i j : Nat) (x y : ByteArray), i < j → l[i]? = some x → l[j]? = some y → ltS x y = true
theorem neI_false {a b : Int} : neI a b = false ↔ a = b := by rw [neI_iff]; simp
theorem half_eq {a b : Nat} (h : a + b ≤ 4611686018427387904) : cvI .i64 (shrI (cvI .u64 (addI .i64 (a : Int) (b : Int))) 1) = (((a + b) / 2 : Nat) : Int) := by
  have h1 : addI .i64 (a : Int) (b : Int) = ((a + b : Nat) : Int) := by rw [addI_eq (by omega) (by omega)]; omega
  have h2 : cvI .u64 ((a + b : Nat) : Int) = ((a + b : Nat) : Int) := by
    unfold cvI IntKind.wrap
    simp only [IntKind.bits, IntKind.signed, Bool.false_and, Bool.false_eq_true, if_false]
    omega
  have h3 : shrI ((a + b : Nat) : Int) 1 = (((a + b) / 2 : Nat) : Int) := by
    unfold shrI
    rw [Int.fdiv_eq_ediv_of_nonneg _ (by decide)]
    omega
  rw [h1, h2, h3, cvI_eq (by omega) (by omega)]
theorem outB_false {a b c : Int} (h : outB a b c = false) : b ≤ a ∧ a ≤ c := by
  unfold outB at h
  rw [ltI_iff, ltI_iff, Bool.or_eq_false_iff, decide_eq_false_iff_not, decide_eq_false_iff_not] at h
  omega
theorem neI_self (a : Int) : neI a a = false := neI_false.2 rfl
end Go.Abs.TUM

set_option linter.unusedVariables false
set_option linter.unusedSimpArgs false
namespace Go.Abs.TUM
open Go.RowKit
/-! Days that are left out. -/
def excF (_ : Nat) (last : Int) (x : Int) : Int ⊕ Int := bif !(leI 0 x && leI x 4000) then .inr 1 else bif leI x last then .inr 7 else .inl x
def excsF (l : List Int) : Int := bif ltI 100 (lenL l) then 2 else Sum.elim (fun _ => 0) id (wp excF 0 (-1) l)
def PrevI (l : List Int) (i : Nat) (s : Int) : Prop := (i = 0 ∧ s = -1) ∨ (0 < i ∧ l[i - 1]? = some s)
theorem excF_inl {i : Nat} {u s x : Int} (h : excF i u x = .inl s) : s = x ∧ 0 ≤ x ∧ x ≤ 4000 ∧ u < x := by
  unfold excF at h
  simp only [leI_iff] at h
  by_cases h1 : 0 ≤ x <;> by_cases h2 : x ≤ 4000 <;> by_cases h3 : x ≤ u <;> simp [h1, h2, h3] at h
  exact ⟨h.symm, h1, h2, by omega⟩
theorem excF_inr {i : Nat} {u r x : Int} (h : excF i u x = .inr r) : r ≠ 0 := by
  unfold excF at h
  simp only [leI_iff] at h
  by_cases h1 : 0 ≤ x <;> by_cases h2 : x ≤ 4000 <;> by_cases h3 : x ≤ u <;> simp [h1, h2, h3] at h <;> omega
theorem T61_eq (x : Int) : T61 x = some (leI 0 x && leI x 4000) := by
  unfold T61
  cases leI 0 x <;> rfl
theorem exc_iter (l : List Int) (h : l.length ≤ 1048576) : iter (L49_4 l) 0 = some (Sum.elim (fun _ => .inl ((l.length : Int), false)) (fun r => .inr r) (wp excF 0 (-1) l)) := by
  rw [show (0 : Int) = ((0 : Nat) : Int) from rfl]
  refine iter_wp (fun _ i => (i : Int)) _ _ l excF (PrevI l) (fun i u x hx hI => ?_) (fun u _ => ?_) _ (.inl ⟨rfl, rfl⟩)
  · have hlt : i < l.length := (List.getElem?_eq_some_iff.1 hx).1
    have h1 : ltI (i : Int) (lenL l) = true := by rw [ltI_iff, lenL_eq]; simpa using hlt
    have h2 : addI .i64 (i : Int) 1 = ((i + 1 : Nat) : Int) := by rw [addI_eq (by omega) (by omega)]; omega
    refine ⟨?_, fun s' hf => .inr ⟨by omega, by rw [(excF_inl hf).1]; simpa using hx⟩⟩
    simp only [L49_4, h1, cond_true, listAt_some hx, Option.bind_some, T61_eq, h2, excF]
    cases hk : (leI 0 x && leI x 4000) with
    | false => rfl
    | true =>
      simp only [Bool.not_true, cond_false]
      rcases hI with ⟨rfl, rfl⟩ | ⟨hi0, hy⟩
      · have h4 : ltI 0 ((0 : Nat) : Int) = false := rfl
        have h5 : leI x (-1) = false := by
          rw [Bool.and_eq_true, leI_iff] at hk
          rw [leI_iff]
          have := hk.1
          simp only [decide_eq_true_eq] at this
          simp only [decide_eq_false_iff_not]
          omega
        rw [h4, h5]
        rfl
      · have h4 : ltI 0 (i : Int) = true := by rw [ltI_iff]; simp; omega
        have h5 : subI .i64 (i : Int) 1 = ((i - 1 : Nat) : Int) := by rw [subI_eq (by omega) (by omega)]; omega
        rw [h4, h5, listAt_some hy]
        simp only [cond_true, Option.bind_some]
        cases leI x u <;> rfl
  · have h1 : ltI (l.length : Int) (lenL l) = false := by rw [ltI_iff, lenL_eq]; simp
    simp only [L49_4, h1, cond_false]
theorem T49_eq (l : List Int) (h : l.length ≤ 1048576) : T49 l = some (excsF l) := by
  unfold T49 excsF
  rw [exc_iter l h]
  cases ltI 100 (lenL l) <;> cases wp excF 0 (-1) l <;> rfl
theorem L162_eq (e : S33) : L29_8 e = L49_4 e.f7 := by
  funext z
  unfold L29_8 L49_4
  cases listAt e.f7 z with
  | none => rfl
  | some x => simp only [Option.bind_some, T61_eq, T35_eq]
theorem wp_exc : ∀ (l : List Int) (i : Nat) (u : Int), (∀ r, wp excF i u l = .inr r → r ≠ 0) ∧ ∀ s, wp excF i u l = .inl s → (∀ x ∈ l, u < x ∧ 0 ≤ x ∧ x ≤ 4000) ∧ l.Pairwise (· < ·)
  | [], i, u => ⟨fun r h => by simp [wp] at h, fun s h => ⟨by simp, .nil⟩⟩
  | x :: l, i, u => by
    simp only [wp]
    cases hf : excF i u x with
    | inl s' =>
      obtain ⟨rfl, h1, h2, h3⟩ := excF_inl hf
      have ih := wp_exc l (i + 1) s'
      refine ⟨ih.1, fun s hs => ?_⟩
      obtain ⟨h4, h5⟩ := ih.2 s hs
      refine ⟨fun y hy => ?_, .cons (fun y hy => (h4 y hy).1) h5⟩
      rcases List.mem_cons.1 hy with rfl | hy
      · exact ⟨h3, h1, h2⟩
      · have := h4 y hy
        exact ⟨by omega, this.2⟩
    | inr r => exact ⟨fun r' h => by cases h; exact excF_inr hf, fun s h => by cases h⟩
theorem excsF_ok {l : List Int} (h : excsF l = 0) : (∀ x ∈ l, 0 ≤ x ∧ x ≤ 4000) ∧ l.Pairwise (· < ·) := by
  unfold excsF at h
  cases h1 : ltI 100 (lenL l) with
  | true => rw [h1] at h; cases h
  | false =>
    rw [h1, cond_false] at h
    cases h2 : wp excF 0 (-1) l with
    | inl s =>
      obtain ⟨h3, h4⟩ := (wp_exc l 0 (-1)).2 s h2
      exact ⟨fun x hx => (h3 x hx).2, h4⟩
    | inr r => rw [h2] at h; exact absurd h ((wp_exc l 0 (-1)).1 r h2)
/-! What is wrong with an entry. -/
def entF (x : S33) : Int :=
  bif !key x.f0 then 5 else bif !key x.f1 then 5 else bif outB x.f2 0 1000000 then 1 else bif outB x.f3 0 x.f4 then 1 else bif ltI 4000 x.f4 then 1 else bif outB x.f5 1 400 then 1 else bif outB x.f6 1 127 then 1 else
  bif neI (excsF x.f7) 0 then excsF x.f7 else bif outB x.f8 0 1439 then 1 else bif outB x.f9 0 1439 then 1 else bif outB x.f10 0 9 then 1 else tagsF x.f11
theorem T30_eq (x : S33) (h : ok33 1048576 x) : T30 x = some (entF x) := by
  obtain ⟨k0, k1, k2, k3, k4, k5, k6, ⟨k7, k7'⟩, k8, k9, k10, ⟨k11, k11'⟩, k12⟩ := h
  unfold T30 entF
  simp only [T31_eq x.f0 k0, T31_eq x.f1 k1, T32_eq, Option.bind_some, T49_eq x.f7 k7, T33_eq x.f11 k11 k11']
  cases key x.f0; · rfl
  cases key x.f1; · rfl
  cases outB x.f2 0 1000000; rotate_left; · rfl
  cases outB x.f3 0 x.f4; rotate_left; · rfl
  cases ltI 4000 x.f4; rotate_left; · rfl
  cases outB x.f5 1 400; rotate_left; · rfl
  cases outB x.f6 1 127; rotate_left; · rfl
  cases neI (excsF x.f7) 0; rotate_left; · rfl
  cases outB x.f8 0 1439; rotate_left; · rfl
  cases outB x.f9 0 1439; rotate_left; · rfl
  cases outB x.f10 0 9 <;> rfl
theorem T29_eq (x : S33) (h : ok33 1048576 x) : T29 x = some (entF x) := by
  obtain ⟨k0, k1, k2, k3, k4, k5, k6, ⟨k7, k7'⟩, k8, k9, k10, ⟨k11, k11'⟩, k12⟩ := h
  unfold T29 entF
  simp only [T34_eq x.f0 k0, T34_eq x.f1 k1, T35_eq, inB, Option.bind_some, L162_eq, exc_iter x.f7 k7, T36_eq x.f11 k11 k11']
  cases key x.f0; · rfl
  cases key x.f1; · rfl
  cases outB x.f2 0 1000000; rotate_left; · rfl
  cases outB x.f3 0 x.f4; rotate_left; · rfl
  cases ltI 4000 x.f4; rotate_left; · rfl
  cases outB x.f5 1 400; rotate_left; · rfl
  cases outB x.f6 1 127; rotate_left; · rfl
  unfold excsF
  cases ltI 100 (lenL x.f7); rotate_left; · rfl
  simp only [Bool.not_true, Bool.not_false, cond_true, cond_false]
  cases hw : wp excF 0 (-1) x.f7 with
  | inr r =>
    have h1 : neI r 0 = true := by
      rw [neI_iff]
      simpa using (wp_exc x.f7 0 (-1)).1 r hw
    simp only [Sum.elim_inr, id, h1, cond_true]
  | inl s =>
    simp only [Sum.elim_inl, neI_self, cond_false]
    cases outB x.f8 0 1439; rotate_left; · rfl
    cases outB x.f9 0 1439; rotate_left; · rfl
    cases outB x.f10 0 9 <;> rfl
theorem entF_key {x : S33} (h : entF x = 0) : key x.f0 = true := by
  unfold entF at h
  cases hk : key x.f0 with
  | true => rfl
  | false => rw [hk] at h; cases h
theorem T156_one (x : S33) (h : ok33 1048576 x) : T13 [x] = some (entF x) := by
  have e1 : L13_4 [x] 0 = some (bif neI (entF x) 0 then .inr (.inr (entF x)) else .inl 1) := by
    show (bif ltI 0 1 then ((some x).bind fun x1 => _) else _) = _
    rw [show ltI 0 1 = true from rfl]
    simp only [cond_true, Option.bind_some, T30_eq x h]
    cases neI (entF x) 0 <;> rfl
  have e2 : L13_4 [x] 1 = some (.inr (.inl (1, false))) := rfl
  unfold T13
  rw [show ltI 200 (lenL [x]) = false from rfl, cond_false]
  cases hn : neI (entF x) 0 with
  | true =>
    rw [hn] at e1
    rw [iter_stop e1]
    rfl
  | false =>
    rw [hn] at e1
    rw [iter_next e1, iter_stop e2, neI_false.1 hn]
    rfl
theorem entF_ok {x : S33} (h : entF x = 0) : (0 ≤ x.f3 ∧ x.f3 ≤ x.f4 ∧ x.f4 ≤ 4000) ∧ (1 ≤ x.f5 ∧ x.f5 ≤ 400) ∧ (1 ≤ x.f6 ∧ x.f6 ≤ 127) ∧ ((∀ d ∈ x.f7, 0 ≤ d ∧ d ≤ 4000) ∧ x.f7.Pairwise (· < ·)) ∧ (0 ≤ x.f8 ∧ x.f8 ≤ 1439) ∧ (0 ≤ x.f9 ∧ x.f9 ≤ 1439) := by
  unfold entF at h
  cases h0 : key x.f0 <;> rw [h0] at h; · cases h
  cases h1 : key x.f1 <;> rw [h1] at h; · cases h
  cases h2 : outB x.f2 0 1000000 <;> rw [h2] at h; rotate_left; · cases h
  cases h3 : outB x.f3 0 x.f4 <;> rw [h3] at h; rotate_left; · cases h
  cases h4 : ltI 4000 x.f4 <;> rw [h4] at h; rotate_left; · cases h
  cases h5 : outB x.f5 1 400 <;> rw [h5] at h; rotate_left; · cases h
  cases h6 : outB x.f6 1 127 <;> rw [h6] at h; rotate_left; · cases h
  cases h7 : neI (excsF x.f7) 0 <;> rw [h7] at h; rotate_left
  · simp only [Bool.not_true, Bool.not_false, cond_true, cond_false] at h
    rw [h] at h7; cases h7
  cases h8 : outB x.f8 0 1439 <;> rw [h8] at h; rotate_left; · cases h
  cases h9 : outB x.f9 0 1439 <;> rw [h9] at h; rotate_left; · cases h
  have g4 : x.f4 ≤ 4000 := by rw [ltI_iff] at h4; simpa using h4
  have g3 := outB_false h3
  exact ⟨⟨g3.1, g3.2, g4⟩, outB_false h5, outB_false h6, excsF_ok (neI_false.1 h7), outB_false h8, outB_false h9⟩
/-! Windows, players. -/
def spanF (w : S72) : Int := bif outB w.f0 0 w.f1 then 1 else bif ltI 345686400000 w.f1 then 1 else bif ltI 34560000000 (subI .i64 w.f1 w.f0) then 2 else 0
theorem T56_eq (w : S72) : T56 w = some (spanF w) := by
  unfold T56 spanF
  rw [T32_eq, Option.bind_some]
  cases outB w.f0 0 w.f1 <;> cases ltI 345686400000 w.f1 <;> cases ltI 34560000000 (subI .i64 w.f1 w.f0) <;> rfl
def playF (p : S24) : Int := bif !key p.f0 then 5 else bif !key p.f1 then 5 else bif outB p.f2 (-1440) 1440 then 1 else tagsF p.f3
theorem T14_eq (p : S24) (h : ok24 1048576 p) : T14 p = some (playF p) := by
  obtain ⟨k0, k1, k2, k3, k3'⟩ := h
  unfold T14 playF
  simp only [T31_eq p.f0 k0, T31_eq p.f1 k1, T32_eq, Option.bind_some, T33_eq p.f3 k3 k3']
  cases key p.f0 <;> cases key p.f1 <;> cases outB p.f2 (-1440) 1440 <;> rfl
theorem T15_eq (p : S24) (h : ok24 1048576 p) : T15 p = some (playF p) := by
  obtain ⟨k0, k1, k2, k3, k3'⟩ := h
  unfold T15 playF
  simp only [T34_eq p.f0 k0, T34_eq p.f1 k1, T35_eq, inB, Option.bind_some, T36_eq p.f3 k3 k3']
  cases key p.f0 <;> cases key p.f1 <;> cases outB p.f2 (-1440) 1440 <;> rfl
theorem T49_two (a b : Int) : T16 [a, b] = some (bif neI a 0 then a else b) := by
  have e0 : L16_2 [a, b] 0 = some (bif neI a 0 then .inr (.inr a) else .inl 1) := by
    show (bif neI a 0 then _ else _) = _
    cases neI a 0 <;> rfl
  have e1 : L16_2 [a, b] 1 = some (bif neI b 0 then .inr (.inr b) else .inl 2) := by
    show (bif neI b 0 then _ else _) = _
    cases neI b 0 <;> rfl
  have e2 : L16_2 [a, b] 2 = some (.inr (.inl (2, false))) := rfl
  unfold T16
  cases ha : neI a 0 with
  | true => rw [ha] at e0; rw [iter_stop e0]; rfl
  | false =>
    rw [ha] at e0
    rw [iter_next e0]
    cases hb : neI b 0 with
    | true => rw [hb] at e1; rw [iter_stop e1]; rfl
    | false => rw [hb] at e1; rw [iter_next e1, iter_stop e2, neI_false.1 hb]; rfl
end Go.Abs.TUM

set_option linter.unusedVariables false
set_option linter.unusedSimpArgs false
namespace Go.Abs.TUM
open Go.RowKit
/-! Looking a number up in rising ones. -/
theorem T98_eq (x t : Int) : T98 x t = some (ltI x t) := by
  unfold T98 T101
  rw [neI_self]
  rfl
theorem T99_eq (x : Int) : T99 x = some false := by
  unfold T99
  rw [neI_self]
theorem rise_get {l : List Int} (h : l.Pairwise (· < ·)) {i j : Nat} {x y : Int} (hij : i < j) (hx : l[i]? = some x) (hy : l[j]? = some y) : x < y := by
  obtain ⟨h1, rfl⟩ := List.getElem?_eq_some_iff.1 hx
  obtain ⟨h2, rfl⟩ := List.getElem?_eq_some_iff.1 hy
  exact List.pairwise_iff_getElem.1 h i j h1 h2 hij
theorem T91_eq (l : List Int) (t : Int) (h : l.length ≤ 1048576) (hr : l.Pairwise (· < ·)) : ∃ i, T91 l t = some (i, l.any fun x => eqI x t) := by
  have hi : ∃ r, iter (L91_3 l t) (((0 : Nat) : Int), (l.length : Int)) = some r ∧ ∃ k : Nat, r.1 = (k : Int) ∧ k ≤ l.length ∧ (∀ i x, i < k → l[i]? = some x → x < t) ∧ (∀ i x, k ≤ i → l[i]? = some x → t ≤ x) := by
    refine iter_meas (fun z => ∃ a b : Nat, z = ((a : Int), (b : Int)) ∧ a ≤ b ∧ b ≤ l.length ∧ (∀ i x, i < a → l[i]? = some x → x < t) ∧ (∀ i x, b ≤ i → l[i]? = some x → t ≤ x)) (fun z => (z.2 - z.1).toNat) _ ?_ _ ⟨0, l.length, rfl, by omega, by omega, fun i x hi => by omega, fun i x hi hx => ?_⟩
    · rintro _ ⟨a, b, rfl, hab, hb, h1, h2⟩
      by_cases hlt : a < b
      · left
        have h3 : ltI (a : Int) (b : Int) = true := by rw [ltI_iff]; simp; omega
        have hm : (a + b) / 2 < l.length := by omega
        have hx := List.getElem?_eq_getElem hm
        by_cases hc : l[(a + b) / 2] < t
        · refine ⟨((((a + b) / 2 + 1 : Nat) : Int), (b : Int)), ?_, ⟨_, b, rfl, by omega, hb, fun i x hi hxi => ?_, h2⟩, by simp only; omega⟩
          · have h4 : addI .i64 (((a + b) / 2 : Nat) : Int) 1 = (((a + b) / 2 + 1 : Nat) : Int) := by rw [addI_eq (by omega) (by omega)]; omega
            have h5 : ltI l[(a + b) / 2] t = true := by rw [ltI_iff]; simpa using hc
            simp only [L91_3, h3, cond_true, half_eq (a := a) (b := b) (by omega), listAt_some hx, Option.bind_some, T98_eq, h5, h4]
          · rcases Nat.lt_or_ge i ((a + b) / 2) with h5 | h5
            · exact Int.lt_trans (rise_get hr h5 hxi hx) hc
            · have : i = (a + b) / 2 := by omega
              subst this
              rw [hx] at hxi
              cases hxi
              exact hc
        · refine ⟨((a : Int), (((a + b) / 2 : Nat) : Int)), ?_, ⟨a, _, rfl, by omega, by omega, h1, fun i x hi hxi => ?_⟩, by simp only; omega⟩
          · have h5 : ltI l[(a + b) / 2] t = false := by rw [ltI_iff]; simpa using hc
            simp only [L91_3, h3, cond_true, half_eq (a := a) (b := b) (by omega), listAt_some hx, Option.bind_some, T98_eq, h5, cond_false]
          · rcases Nat.lt_or_ge ((a + b) / 2) i with h5 | h5
            · have := rise_get hr h5 hx hxi
              omega
            · have : i = (a + b) / 2 := by omega
              subst this
              rw [hx] at hxi
              cases hxi
              omega
      · right
        have h3 : ltI (a : Int) (b : Int) = false := by rw [ltI_iff]; simp; omega
        have : a = b := by omega
        subst this
        refine ⟨((a : Int), (a : Int), false), ?_, a, rfl, hb, h1, h2⟩
        simp only [L91_3, h3, cond_false]
    · have := (List.getElem?_eq_some_iff.1 hx).1
      omega
  obtain ⟨r, h1, k, h2, h3, h4, h5⟩ := hi
  unfold T91
  rw [show (0 : Int) = ((0 : Nat) : Int) from rfl, show lenL l = (l.length : Int) from rfl, h1, Option.bind_some, h2]
  by_cases hk : k < l.length
  · have h6 : ltI (k : Int) (l.length : Int) = true := by rw [ltI_iff]; simpa using hk
    have hx := List.getElem?_eq_getElem hk
    rw [h6]
    simp only [cond_true, listAt_some hx, Option.bind_some, T99_eq, cond_false]
    cases he : eqI l[k] t with
    | true =>
      refine ⟨k, ?_⟩
      have : (l.any fun x => eqI x t) = true := List.any_eq_true.2 ⟨l[k], List.getElem_mem hk, he⟩
      rw [this]
      rfl
    | false =>
      refine ⟨k, ?_⟩
      have : (l.any fun x => eqI x t) = false := by
        rw [List.any_eq_false]
        intro x hxm he2
        obtain ⟨i, hi⟩ := List.getElem?_of_mem hxm
        have hxt : x = t := by rw [eqI_iff] at he2; simpa using he2
        subst hxt
        rcases Nat.lt_trichotomy i k with h7 | h7 | h7
        · have := h4 i x h7 hi; omega
        · subst h7
          rw [hx] at hi
          cases hi
          rw [eqI_self] at he; cases he
        · have h8 := rise_get hr h7 hx hi
          have := h5 k _ (Nat.le_refl _) hx
          omega
      rw [this]
      rfl
  · have h6 : ltI (k : Int) (l.length : Int) = false := by rw [ltI_iff]; simp; omega
    rw [h6]
    refine ⟨k, ?_⟩
    have : (l.any fun x => eqI x t) = false := by
      rw [List.any_eq_false]
      intro x hxm he2
      obtain ⟨i, hi⟩ := List.getElem?_of_mem hxm
      have hxt : x = t := by rw [eqI_iff] at he2; simpa using he2
      subst hxt
      have hil := (List.getElem?_eq_some_iff.1 hi).1
      have := h4 i x (by omega) hi
      omega
    rw [this]
    rfl
/-! Days. -/
def bitB (m d : Int) : Bool := eqI (bitI .and .i64 (m.fdiv (2 ^ min (d.tmod 7).toNat 64)) 1) 1
theorem bits_eq : ∀ a : Fin 128, ∀ r : Fin 7, eqI (bitI .and .i64 (a.val : Int) (IntKind.i64.wrap (1 * 2 ^ min (r.val : Int).toNat 64))) 0 = !eqI (bitI .and .i64 ((a.val : Int).fdiv (2 ^ min (r.val : Int).toNat 64)) 1) 1 := by decide +kernel
theorem bit_eq {m d : Int} (hm : 1 ≤ m ∧ m ≤ 127) (hd : 0 ≤ d) : eqI (bitI .and .i64 m (IntKind.i64.wrap (1 * 2 ^ min (d.tmod 7).toNat 64))) 0 = !bitB m d := by
  have h1 : d.tmod 7 = d % 7 := Int.tmod_eq_emod_of_nonneg hd
  have := bits_eq ⟨m.toNat, by omega⟩ ⟨(d % 7).toNat, by omega⟩
  unfold bitB
  rw [h1]
  simp only at this
  rwa [Int.toNat_of_nonneg (by omega), Int.toNat_of_nonneg (by omega)] at this
def dayB (e : S33) (d : Int) : Bool := !outB d e.f3 e.f4 && (eqI ((d - e.f3).tmod e.f5) 0 && (bitB e.f6 d && !(e.f7.any fun x => eqI x d)))
structure Fine (e : S33) : Prop where
  span : 0 ≤ e.f3 ∧ e.f3 ≤ e.f4 ∧ e.f4 ≤ 4000
  step : 1 ≤ e.f5 ∧ e.f5 ≤ 400
  mask : 1 ≤ e.f6 ∧ e.f6 ≤ 127
  exc : (∀ d ∈ e.f7, 0 ≤ d ∧ d ≤ 4000) ∧ e.f7.Pairwise (· < ·)
  len : e.f7.length ≤ 1048576
  t8 : 0 ≤ e.f8 ∧ e.f8 ≤ 1439
  t9 : 0 ≤ e.f9 ∧ e.f9 ≤ 1439
theorem fine {e : S33} (h : ok33 1048576 e) (h0 : entF e = 0) : Fine e := by
  obtain ⟨h1, h2, h3, h4, h5, h6⟩ := entF_ok h0
  exact ⟨h1, h2, h3, h4, h.2.2.2.2.2.2.2.1.1, h5, h6⟩
theorem T74_eq {e : S33} (F : Fine e) {d : Int} (hd : 0 ≤ d ∧ d ≤ 4000) : T74 e d = some (dayB e d) := by
  obtain ⟨i, h1⟩ := T91_eq e.f7 d F.len F.exc.2
  have hs := F.span
  have hp := F.step
  have h2 : subI .i64 d e.f3 = d - e.f3 := subI_eq (by omega) (by omega)
  have h3 : remO .i64 (d - e.f3) e.f5 = some ((d - e.f3).tmod e.f5) := by unfold remO; rw [if_neg (by omega)]
  have h4 : shlO .i64 1 (remI .i64 d 7) = some (IntKind.i64.wrap (1 * 2 ^ min (d.tmod 7).toNat 64)) := by
    unfold shlO remI
    rw [Int.tmod_eq_emod_of_nonneg hd.1, if_neg (by omega)]
    rfl
  unfold T74 dayB
  rw [T32_eq, Option.bind_some, h1, h2, h3, h4]
  rw [show eqI ((d - e.f3).tmod e.f5) 0 = decide ((d - e.f3).tmod e.f5 = 0) from eqI_iff]
  simp only [Option.bind_some, bit_eq F.mask hd.1, neI_iff]
  cases outB d e.f3 e.f4; rotate_left; · rfl
  cases decide ((d - e.f3).tmod e.f5 = 0); · rfl
  cases bitB e.f6 d <;> rfl
/-! Times. -/
def timeS (e : S33) (off d : Int) : S72 := ⟨d * 86400000 - off * 60000 + e.f8 * 60000, d * 86400000 - off * 60000 + (bif leI e.f9 e.f8 then e.f9 + 1440 else e.f9) * 60000⟩
theorem T75_eq {e : S33} (F : Fine e) {off d : Int} (ho : -1440 ≤ off ∧ off ≤ 1440) (hd : 0 ≤ d ∧ d ≤ 4000) : T75 e off d = some (timeS e off d) := by
  have h8 := F.t8
  have h9 := F.t9
  have h1 : mulI .i64 d 1440 = d * 1440 := mulI_eq (by omega) (by omega)
  have h2 : addI .i64 (d * 1440) e.f8 = d * 1440 + e.f8 := addI_eq (by omega) (by omega)
  have h3 : subI .i64 (d * 1440 + e.f8) off = d * 1440 + e.f8 - off := subI_eq (by omega) (by omega)
  have h4 : mulI .i64 (d * 1440 + e.f8 - off) 60000 = (d * 1440 + e.f8 - off) * 60000 := mulI_eq (by omega) (by omega)
  have h5 : subI .i64 e.f9 e.f8 = e.f9 - e.f8 := subI_eq (by omega) (by omega)
  have h6 : addI .i64 (e.f9 - e.f8) 1440 = e.f9 - e.f8 + 1440 := addI_eq (by omega) (by omega)
  have h7 : mulI .i64 (e.f9 - e.f8) 60000 = (e.f9 - e.f8) * 60000 := mulI_eq (by omega) (by omega)
  have h10 : mulI .i64 (e.f9 - e.f8 + 1440) 60000 = (e.f9 - e.f8 + 1440) * 60000 := mulI_eq (by omega) (by omega)
  have h11 : addI .i64 ((d * 1440 + e.f8 - off) * 60000) ((e.f9 - e.f8) * 60000) = (d * 1440 + e.f8 - off) * 60000 + (e.f9 - e.f8) * 60000 := addI_eq (by omega) (by omega)
  have h12 : addI .i64 ((d * 1440 + e.f8 - off) * 60000) ((e.f9 - e.f8 + 1440) * 60000) = (d * 1440 + e.f8 - off) * 60000 + (e.f9 - e.f8 + 1440) * 60000 := addI_eq (by omega) (by omega)
  unfold T75 timeS
  simp only [h1, h2, h3, h4, h5, h6, h7, h10, h11, h12]
  have hc : leI (e.f9 - e.f8) 0 = leI e.f9 e.f8 := by
    rw [leI_iff, leI_iff, Bool.eq_iff_iff]
    simp only [decide_eq_true_eq]
    omega
  rw [hc]
  have h13 : (d * 1440 + e.f8 - off) * 60000 = d * 86400000 - off * 60000 + e.f8 * 60000 := by omega
  have h14 : (d * 1440 + e.f8 - off) * 60000 + (e.f9 - e.f8) * 60000 = d * 86400000 - off * 60000 + e.f9 * 60000 := by omega
  have h15 : (d * 1440 + e.f8 - off) * 60000 + (e.f9 - e.f8 + 1440) * 60000 = d * 86400000 - off * 60000 + (e.f9 + 1440) * 60000 := by omega
  rw [h14, h15, h13]
  cases leI e.f9 e.f8 <;> rfl
theorem timeS_span {e : S33} (F : Fine e) (off d : Int) : (timeS e off d).f0 < (timeS e off d).f1 ∧ d * 86400000 - off * 60000 ≤ (timeS e off d).f0 ∧ (timeS e off d).f1 ≤ d * 86400000 - off * 60000 + 172740000 := by
  have h8 := F.t8
  have h9 := F.t9
  unfold timeS
  cases h : leI e.f9 e.f8 with
  | true =>
    rw [leI_iff] at h
    simp only [decide_eq_true_eq] at h
    simp only [cond_true]
    omega
  | false =>
    rw [leI_iff] at h
    simp only [decide_eq_false_iff_not] at h
    simp only [cond_false]
    omega
/-! What each day gives, one day after another. -/
def coll {α : Type} (g : Int → Option α) : Int → Nat → List α
  | _, 0 => []
  | a, n + 1 => (g a).toList ++ coll g (a + 1) n
theorem iter_days {α : Type} {st : List α × Int → Option ((List α × Int) ⊕ (Int × Bool × List α))} (g : Int → Option α) (lo b : Int)
    (hstep : ∀ s d, lo ≤ d → d ≤ b → s.length ≤ 4001 → st (s, d) = some (.inl (s ++ (g d).toList, d + 1))) (hend : ∀ s d, b < d → ∃ x y, st (s, d) = some (.inr (x, y, s))) :
    ∀ (n : Nat) (a : Int) (s : List α), lo ≤ a → (b + 1 - a).toNat = n → s.length + n ≤ 4001 → ∃ x y, iter st (s, a) = some (x, y, s ++ coll g a n) := by
  intro n
  induction n with
  | zero =>
    intro a s ha hn hl
    obtain ⟨x, y, h⟩ := hend s a (by omega)
    exact ⟨x, y, by rw [iter_stop h, coll, List.append_nil]⟩
  | succ n ih =>
    intro a s ha hn hl
    have h1 := hstep s a ha (by omega) (by omega)
    have hg : (g a).toList.length ≤ 1 := by cases g a <;> simp
    obtain ⟨x, y, h⟩ := ih (a + 1) (s ++ (g a).toList) (by omega) (by omega) (by rw [List.length_append]; omega)
    exact ⟨x, y, by rw [iter_next h1, h, coll, List.append_assoc]⟩
theorem coll_none {α : Type} (g : Int → Option α) : ∀ (n : Nat) (a : Int), (∀ d, a ≤ d → d < a + n → g d = none) → coll g a n = []
  | 0, _, _ => rfl
  | n + 1, a, h => by
    rw [coll, h a (by omega) (by omega), coll_none g n (a + 1) fun d h1 h2 => h d (by omega) (by omega)]
    rfl
theorem coll_split {α : Type} (g : Int → Option α) : ∀ (n m : Nat) (a : Int), coll g a (n + m) = coll g a n ++ coll g (a + n) m
  | 0, m, a => by simp [coll]
  | n + 1, m, a => by
    rw [show n + 1 + m = (n + m) + 1 by omega, coll, coll_split g n m (a + 1), coll, List.append_assoc]
    congr 3
    omega
theorem coll_map {α β : Type} (g : Int → Option α) (c : α → β) : ∀ (n : Nat) (a : Int), (coll g a n).map c = coll (fun d => (g d).map c) a n
  | 0, _ => rfl
  | n + 1, a => by
    rw [coll, List.map_append, coll_map g c n (a + 1), coll]
    congr 1
    cases g a <;> rfl
theorem coll_congr {α : Type} {g g' : Int → Option α} : ∀ (n : Nat) (a : Int), (∀ d, a ≤ d → d < a + n → g d = g' d) → coll g a n = coll g' a n
  | 0, _, _ => rfl
  | n + 1, a, h => by rw [coll, coll, h a (by omega) (by omega), coll_congr n (a + 1) fun d h1 h2 => h d (by omega) (by omega)]
theorem coll_len {α : Type} (g : Int → Option α) : ∀ (n : Nat) (a : Int), (coll g a n).length ≤ n
  | 0, _ => Nat.le_refl 0
  | n + 1, a => by
    have := coll_len g n (a + 1)
    have hg : (g a).toList.length ≤ 1 := by cases g a <;> simp
    rw [coll, List.length_append]
    omega
theorem coll_sub {α : Type} (g : Int → Option α) {a b lo hi : Int} (h1 : a ≤ lo) (h2 : hi ≤ b) (hn : ∀ d, a ≤ d → d ≤ b → (d < lo ∨ hi < d) → g d = none) : coll g a (b + 1 - a).toNat = coll g lo (hi + 1 - lo).toNat := by
  by_cases h : hi < lo
  · rw [show (hi + 1 - lo).toNat = 0 by omega, coll, coll_none]
    exact fun d h3 h4 => hn d h3 (by omega) (by omega)
  · rw [show (b + 1 - a).toNat = (lo - a).toNat + ((hi + 1 - lo).toNat + (b - hi).toNat) by omega, coll_split, coll_split, coll_none g (lo - a).toNat a (fun d h3 h4 => hn d h3 (by omega) (by omega)),
      coll_none g (b - hi).toNat _ (fun d h3 h4 => hn d (by omega) (by omega) (by omega)), List.nil_append, List.append_nil, show a + ((lo - a).toNat : Int) = lo by omega]
end Go.Abs.TUM

set_option linter.unusedVariables false
set_option linter.unusedSimpArgs false
namespace Go.Abs.TUM
open Go.RowKit
/-! The times of an entry in a window. -/
def cutW (w t : S72) : S72 := ⟨max t.f0 w.f0, min t.f1 w.f1⟩
def hit (w t : S72) : Bool := ltI (max t.f0 w.f0) (min t.f1 w.f1)
def dayG (e : S33) (off : Int) (w : S72) (d : Int) : Option S72 := bif !e.f12 && (dayB e d && hit w (timeS e off d)) then some (cutW w (timeS e off d)) else none
def timesL (e : S33) (off : Int) (w : S72) : List S72 := coll (dayG e off w) e.f3 (e.f4 + 1 - e.f3).toNat
structure FineW (w : S72) : Prop where
  pos : 0 ≤ w.f0
  ord : w.f0 ≤ w.f1
  top : w.f1 ≤ 345686400000
theorem spanF_ok {w : S72} (h : spanF w = 0) : FineW w := by
  unfold spanF at h
  cases h0 : outB w.f0 0 w.f1 <;> rw [h0] at h; rotate_left; · cases h
  cases h1 : ltI 345686400000 w.f1 <;> rw [h1] at h; rotate_left; · cases h
  have := outB_false h0
  rw [ltI_iff] at h1
  simp only [decide_eq_false_iff_not] at h1
  exact ⟨this.1, this.2, by omega⟩
theorem quo_spec (x : Int) (h : -1000000000000 ≤ x ∧ x ≤ 1000000000000) : ∃ q : Int, quoI .i64 x 86400000 = q ∧ (q - 1) * 86400000 ≤ x ∧ x < (q + 1) * 86400000 ∧ -100000 ≤ q ∧ q ≤ 100000 := by
  have key : ∃ q : Int, x.tdiv 86400000 = q ∧ (q - 1) * 86400000 ≤ x ∧ x < (q + 1) * 86400000 ∧ -100000 ≤ q ∧ q ≤ 100000 := by
    rcases Int.le_total 0 x with h1 | h1
    · refine ⟨x / 86400000, Int.tdiv_eq_ediv_of_nonneg h1, ?_⟩
      omega
    · refine ⟨-((-x) / 86400000), ?_, ?_⟩
      · rw [← Int.tdiv_eq_ediv_of_nonneg (by omega : 0 ≤ -x), Int.neg_tdiv, Int.neg_neg]
      · omega
  obtain ⟨q, h1, h2⟩ := key
  refine ⟨q, ?_, h2⟩
  unfold quoI
  rw [h1]
  exact IntWalk.i64_in _ ⟨by omega, by omega⟩
def rawG (e : S33) (off : Int) (w : S72) (d : Int) : Option S72 := bif dayB e d && (ltI (timeS e off d).f0 w.f1 && ltI w.f0 (timeS e off d).f1) then some (timeS e off d) else none
theorem hit_eq {e : S33} (F : Fine e) {w : S72} (hw : w.f0 < w.f1) (off d : Int) : hit w (timeS e off d) = (ltI (timeS e off d).f0 w.f1 && ltI w.f0 (timeS e off d).f1) := by
  have h := (timeS_span F off d).1
  unfold hit
  rw [ltI_iff, ltI_iff, ltI_iff, Bool.eq_iff_iff]
  simp only [Bool.and_eq_true, decide_eq_true_eq]
  omega
theorem T57_eq {e : S33} (F : Fine e) {off : Int} (ho : -1440 ≤ off ∧ off ≤ 1440) {w : S72} (W : FineW w) : ∃ l, T57 e off w = some l ∧ l.length ≤ 4001 ∧ l.map (cutW w) = timesL e off w := by
  have hs := F.span
  have hw0 := W.pos
  have hw1 := W.ord
  have hw2 := W.top
  unfold T57
  cases hp : e.f12 with
  | true =>
    refine ⟨[], rfl, Nat.zero_le _, ?_⟩
    unfold timesL
    rw [coll_none]
    · rfl
    · intro d _ _
      unfold dayG
      rw [hp]
      rfl
  | false =>
    rw [cond_false]
    cases hle : leI w.f1 w.f0 with
    | true =>
      refine ⟨[], rfl, Nat.zero_le _, ?_⟩
      unfold timesL
      rw [coll_none]
      · rfl
      · intro d _ _
        have : hit w (timeS e off d) = false := by
          rw [leI_iff] at hle
          simp only [decide_eq_true_eq] at hle
          unfold hit
          rw [ltI_iff]
          simp only [decide_eq_false_iff_not]
          omega
        unfold dayG
        rw [this, Bool.and_false, Bool.and_false]
        rfl
    | false =>
      have hlt : w.f0 < w.f1 := by
        rw [leI_iff] at hle
        simp only [decide_eq_false_iff_not] at hle
        omega
      rw [cond_false]
      have hm : mulI .i64 off 60000 = off * 60000 := mulI_eq (by omega) (by omega)
      have ha0 : addI .i64 w.f0 (off * 60000) = w.f0 + off * 60000 := addI_eq (by omega) (by omega)
      have ha1 : addI .i64 w.f1 (off * 60000) = w.f1 + off * 60000 := addI_eq (by omega) (by omega)
      obtain ⟨q0, hq0, b0, c0, d0, e0⟩ := quo_spec (w.f0 + off * 60000) ⟨by omega, by omega⟩
      obtain ⟨q1, hq1, b1, c1, d1, e1⟩ := quo_spec (w.f1 + off * 60000) ⟨by omega, by omega⟩
      have hs0 : subI .i64 q0 2 = q0 - 2 := subI_eq (by omega) (by omega)
      have hs1 : addI .i64 q1 1 = q1 + 1 := addI_eq (by omega) (by omega)
      rw [hm, ha0, hq0, hs0, maxI_eq]
      have hst : ∀ (s : List S72) (d : Int), max (q0 - 2) e.f3 ≤ d → d ≤ min (q1 + 1) e.f4 → s.length ≤ 4001 → L57_7 e off w (s, d) = some (.inl (s ++ (rawG e off w d).toList, d + 1)) := fun s d h1 h2 hl => by
        have h3 : leI d (minI (addI .i64 (quoI .i64 (addI .i64 w.f1 (mulI .i64 off 60000)) 86400000) 1) e.f4) = true := by
          rw [hm, ha1, hq1, hs1, minI_eq, leI_iff]; simpa using h2
        have h4 : addI .i64 d 1 = d + 1 := addI_eq (by omega) (by omega)
        have h5 : ∀ x : S72, appO 16 s [x] = some (s ++ [x]) := fun x => appO_eq (by simp; omega) (by simp; omega)
        simp only [L57_7, h3, cond_true, T75_eq F ho (d := d) ⟨by omega, by omega⟩, T74_eq F (d := d) ⟨by omega, by omega⟩, Option.bind_some, h4, h5, rawG]
        cases dayB e d; · simp
        cases ltI (timeS e off d).f0 w.f1; · simp
        cases ltI w.f0 (timeS e off d).f1 <;> simp
      have hen : ∀ (s : List S72) (d : Int), min (q1 + 1) e.f4 < d → ∃ x y, L57_7 e off w (s, d) = some (.inr (x, y, s)) := fun s d h1 => by
        have h3 : leI d (minI (addI .i64 (quoI .i64 (addI .i64 w.f1 (mulI .i64 off 60000)) 86400000) 1) e.f4) = false := by
          rw [hm, ha1, hq1, hs1, minI_eq, leI_iff]; simp only [decide_eq_false_iff_not]; omega
        exact ⟨d, false, by simp only [L57_7, h3, cond_false]⟩
      obtain ⟨x, y, h⟩ := iter_days (rawG e off w) (max (q0 - 2) e.f3) (min (q1 + 1) e.f4) hst hen _ (max (q0 - 2) e.f3) [] (Int.le_refl _) rfl (by simp only [List.length_nil]; omega)
      refine ⟨coll (rawG e off w) (max (q0 - 2) e.f3) (min (q1 + 1) e.f4 + 1 - max (q0 - 2) e.f3).toNat, ?_, ?_, ?_⟩
      · rw [h]; rfl
      · refine Nat.le_trans (coll_len _ _ _) ?_
        omega
      · rw [coll_map]
        unfold timesL
        rw [coll_sub (dayG e off w) (a := e.f3) (b := e.f4) (lo := max (q0 - 2) e.f3) (hi := min (q1 + 1) e.f4) (by omega) (by omega) fun d h1 h2 h3 => ?_]
        · refine coll_congr _ _ fun d h1 h2 => ?_
          unfold rawG dayG
          rw [hp, hit_eq F hlt]
          cases (dayB e d && (ltI (timeS e off d).f0 w.f1 && ltI w.f0 (timeS e off d).f1)) <;> rfl
        · have ht := timeS_span F off d
          have hz : hit w (timeS e off d) = false := by
            rw [hit_eq F hlt, ltI_iff, ltI_iff]
            simp only [Bool.and_eq_false_iff, decide_eq_false_iff_not]
            rcases h3 with h3 | h3
            · right
              omega
            · left
              omega
          unfold dayG
          rw [hz, Bool.and_false, Bool.and_false]
          rfl
theorem idxO_nat {n i : Nat} (h : i < n) : idxO n (i : Int) = some i := by
  unfold idxO
  rw [if_pos (by omega), Int.toNat_natCast, if_pos h]
theorem cut_loop (w : S72) (l : List S72) (h : l.length ≤ 4001) : iter (L44_11 w l) (l, 0) = some ((l.length : Int), false, l.map (cutW w)) := by
  have hi : iter (L44_11 w l) ((l.take 0).map (cutW w) ++ l.drop 0, ((0 : Nat) : Int)) = some (Sum.elim (fun _ : Unit => ((l.length : Int), false, l.map (cutW w))) (fun r : Empty => nomatch r) (wp (fun _ (_ : Unit) (_ : S72) => (.inl () : Unit ⊕ Empty)) 0 () l)) := by
    refine iter_wp (fun _ i => ((l.take i).map (cutW w) ++ l.drop i, (i : Int))) _ _ l _ (fun _ _ => True) (fun i u x hx _ => ⟨?_, fun _ _ => trivial⟩) (fun u _ => ?_) _ trivial
    · have hlt : i < l.length := (List.getElem?_eq_some_iff.1 hx).1
      have h1 : ltI (i : Int) (lenL l) = true := by rw [ltI_iff, lenL_eq]; simpa using hlt
      have h2 : addI .i64 (i : Int) 1 = ((i + 1 : Nat) : Int) := by rw [addI_eq (by omega) (by omega)]; omega
      have h3 : ((l.take i).map (cutW w) ++ l.drop i).length = l.length := by simp; omega
      have h4 : getN ((l.take i).map (cutW w) ++ l.drop i) i = some x := by
        unfold getN
        rw [List.getElem?_append_right (by rw [List.length_map, List.length_take]; omega)]
        simp only [List.length_map, List.length_take, List.getElem?_drop]
        rw [show i + (i - min i l.length) = i by omega, hx]
      have h5 : ((l.take i).map (cutW w) ++ l.drop i).set i (cutW w x) = (l.take (i + 1)).map (cutW w) ++ l.drop (i + 1) := by
        obtain ⟨_, rfl⟩ := List.getElem?_eq_some_iff.1 hx
        rw [List.set_append_right _ _ (by rw [List.length_map, List.length_take]; omega)]
        simp only [List.length_map, List.length_take]
        rw [show i - min i l.length = 0 by omega, List.drop_eq_getElem_cons hlt, List.set_cons_zero, List.take_succ_eq_append_getElem hlt, List.map_append, List.append_assoc]
        rfl
      have h6 : T58 x w = some (cutW w x) := by unfold T58 cutW; rw [maxI_eq, minI_eq]
      simp only [L44_11, h1, cond_true, h3, idxO_nat hlt, Option.bind_some, h4, h6, h5, h2]
    · have h1 : ltI (l.length : Int) (lenL l) = false := by rw [ltI_iff, lenL_eq]; simp
      simp only [L44_11, h1, cond_false, List.take_length, List.drop_length, List.append_nil]
  have hw : ∀ (m : List S72) (i : Nat), wp (fun _ (_ : Unit) (_ : S72) => (.inl () : Unit ⊕ Empty)) i () m = .inl () := by
    intro m
    induction m with
    | nil => intro i; rfl
    | cons a m ih => intro i; exact ih (i + 1)
  rw [hw] at hi
  simpa using hi
theorem T44_eq (e : S33) (h : ok33 1048576 e) (off : Int) (w : S72) : T44 e off w = some (bif neI (entF e) 0 then ([], entF e) else bif outB off (-1440) 1440 then ([], 1) else bif neI (spanF w) 0 then ([], spanF w) else (timesL e off w, 0)) := by
  unfold T44
  rw [T156_one e h, Option.bind_some, T32_eq, Option.bind_some, T56_eq, Option.bind_some]
  cases h1 : neI (entF e) 0; rotate_left; · rfl
  cases h2 : outB off (-1440) 1440; rotate_left; · rfl
  cases h3 : neI (spanF w) 0; rotate_left; · rfl
  obtain ⟨l, h4, h5, h6⟩ := T57_eq (fine h (neI_false.1 h1)) (outB_false h2) (spanF_ok (neI_false.1 h3))
  simp only [cond_false, h4, Option.bind_some, cut_loop w l h5, h6]
end Go.Abs.TUM

set_option linter.unusedVariables false
set_option linter.unusedSimpArgs false
namespace Go.Abs.TUM
open Go.RowKit
/-! Who fits. -/
def fitsB (e : S33) (p : S24) : Bool := e.f11.all fun t => p.f3.any fun x => eqS x t
/-! Copies are the same, and what is the same is told so. -/
theorem T5_eq (l : List S24) (h : l.length ≤ 1048576) (hs : ∀ x ∈ l, ok24 1048576 x) : T5 l = some l := by
  have hi : iter (L5_3 l) ([], ((0 : Nat) : Int)) = some (Sum.elim (fun s => ((l.length : Int), false, s)) (fun r : Empty => nomatch r) (wp (fun _ (s : List S24) x => (.inl (s ++ [x]) : List S24 ⊕ Empty)) 0 [] l)) := by
    refine iter_wp (fun s i => (s, (i : Int))) _ _ l _ (fun i s => s.length = i) (fun i u x hx hI => ⟨?_, fun s' hs' => ?_⟩) (fun u _ => ?_) _ rfl
    · have hlt : i < l.length := (List.getElem?_eq_some_iff.1 hx).1
      have h1 : ltI (i : Int) (lenL l) = true := by rw [ltI_iff, lenL_eq]; simpa using hlt
      have h2 : addI .i64 (i : Int) 1 = ((i + 1 : Nat) : Int) := by rw [addI_eq (by omega) (by omega)]; omega
      obtain ⟨k1, k2, k3, k4, k5⟩ := hs x (List.mem_of_getElem? hx)
      have h3 : appO 16 ([] : List ByteArray) x.f3 = some x.f3 := appO_eq (by simp; omega) (by simp; omega)
      have h4 : appO 64 u [S24.mk x.f0 x.f1 x.f2 x.f3] = some (u ++ [x]) := appO_eq (by simp; omega) (by simp; omega)
      simp only [L5_3, h1, cond_true, listAt_some hx, Option.bind_some, h3, h4, h2]
    · cases hs'; simp [hI]
    · have h1 : ltI (l.length : Int) (lenL l) = false := by rw [ltI_iff, lenL_eq]; simp
      simp only [L5_3, h1, cond_false]
  unfold T5
  rw [show (0 : Int) = ((0 : Nat) : Int) from rfl, hi, wp_copy]
  rfl
theorem T4_eq (l : List S33) (h : l.length ≤ 1048576) (hs : ∀ x ∈ l, ok33 1048576 x) : T4 l = some l := by
  have hi : iter (L4_3 l) ([], ((0 : Nat) : Int)) = some (Sum.elim (fun s => ((l.length : Int), false, s)) (fun r : Empty => nomatch r) (wp (fun _ (s : List S33) x => (.inl (s ++ [x]) : List S33 ⊕ Empty)) 0 [] l)) := by
    refine iter_wp (fun s i => (s, (i : Int))) _ _ l _ (fun i s => s.length = i) (fun i u x hx hI => ⟨?_, fun s' hs' => ?_⟩) (fun u _ => ?_) _ rfl
    · have hlt : i < l.length := (List.getElem?_eq_some_iff.1 hx).1
      have h1 : ltI (i : Int) (lenL l) = true := by rw [ltI_iff, lenL_eq]; simpa using hlt
      have h2 : addI .i64 (i : Int) 1 = ((i + 1 : Nat) : Int) := by rw [addI_eq (by omega) (by omega)]; omega
      obtain ⟨k0, k1, k2, k3, k4, k5, k6, ⟨k7, k7'⟩, k8, k9, k10, ⟨k11, k11'⟩, k12⟩ := hs x (List.mem_of_getElem? hx)
      have h3 : appO 8 ([] : List Int) x.f7 = some x.f7 := appO_eq (by simp; omega) (by simp; omega)
      have h3' : appO 16 ([] : List ByteArray) x.f11 = some x.f11 := appO_eq (by simp; omega) (by simp; omega)
      have h4 : appO 152 u [S33.mk x.f0 x.f1 x.f2 x.f3 x.f4 x.f5 x.f6 x.f7 x.f8 x.f9 x.f10 x.f11 x.f12] = some (u ++ [x]) := appO_eq (by simp; omega) (by simp; omega)
      simp only [L4_3, h1, cond_true, listAt_some hx, Option.bind_some, h3, h3', h4, h2]
    · cases hs'; simp [hI]
    · have h1 : ltI (l.length : Int) (lenL l) = false := by rw [ltI_iff, lenL_eq]; simp
      simp only [L4_3, h1, cond_false]
  unfold T4
  rw [show (0 : Int) = ((0 : Nat) : Int) from rfl, hi, wp_copy]
  rfl
/-- Two lists that are the same, element by element. -/
theorem same_iter {α : Type} (st : Int → Option (Int ⊕ ((Int × Bool) ⊕ Unit))) (l : List α) (h : l.length ≤ 1048576)
    (hs : ∀ (i : Nat) (x : α), l[i]? = some x → ltI (i : Int) (lenL l) = true → addI .i64 (i : Int) 1 = ((i + 1 : Nat) : Int) → st (i : Int) = some (.inl ((i + 1 : Nat) : Int)))
    (he : ltI (l.length : Int) (lenL l) = false → st (l.length : Int) = some (.inr (.inl ((l.length : Int), false)))) : iter st 0 = some (.inl ((l.length : Int), false)) := by
  have hi : iter st ((0 : Nat) : Int) = some (Sum.elim (fun _ => .inl ((l.length : Int), false)) (fun r => .inr r) (wp (fun _ (_ : Unit) (_ : α) => (.inl () : Unit ⊕ Unit)) 0 () l)) := by
    refine iter_wp (fun _ i => (i : Int)) _ _ l _ (fun _ _ => True) (fun i u x hx _ => ⟨?_, fun _ _ => trivial⟩) (fun u _ => ?_) _ trivial
    · have hlt : i < l.length := (List.getElem?_eq_some_iff.1 hx).1
      exact hs i x hx (by rw [ltI_iff, lenL_eq]; simpa using hlt) (by rw [addI_eq (by omega) (by omega)]; omega)
    · exact he (by rw [ltI_iff, lenL_eq]; simp)
  rw [show (0 : Int) = ((0 : Nat) : Int) from rfl, hi, wp_true]
  rfl
theorem lenL_self {α : Type} (l : List α) : neI (lenL l) (lenL l) = false := neI_self _
theorem T112_self (l : List Int) (h : l.length ≤ 1048576) : T43 l l = some true := by
  have hi := same_iter (L43_4 l l) l h (fun i x hx h1 h2 => by simp only [L43_4, h1, cond_true, listAt_some hx, Option.bind_some, h2, neI_self, cond_false]) (fun h1 => by simp only [L43_4, h1, cond_false])
  unfold T43
  rw [hi, lenL_self]
  rfl
theorem T82_self (x : S24) (h : x.f3.length ≤ 1048576) : T22 x x = some true := by
  unfold T22
  simp only [eqS_self, eqI_self, cond_true, T69_self x.f3 h, Option.bind_some]
theorem beq_self_b (b : Bool) : (b == b) = true := by cases b <;> rfl
theorem T84_self (x : S33) (h : ok33 1048576 x) : T19 x x = some true := by
  obtain ⟨k0, k1, k2, k3, k4, k5, k6, ⟨k7, k7'⟩, k8, k9, k10, ⟨k11, k11'⟩, k12⟩ := h
  unfold T19
  simp only [eqS_self, eqI_self, beq_self_b, cond_true, T69_self x.f11 k11, T112_self x.f7 k7, Option.bind_some]
theorem T23_self (l : List S24) (h : l.length ≤ 1048576) (hs : ∀ x ∈ l, ok24 1048576 x) : T8 l l = some true := by
  have hi := same_iter (L21_4 l l) l h (fun i x hx h1 h2 => by simp only [L21_4, h1, cond_true, listAt_some hx, Option.bind_some, h2, T82_self x (hs x (List.mem_of_getElem? hx)).2.2.2.1, Bool.not_true, cond_false]) (fun h1 => by simp only [L21_4, h1, cond_false])
  unfold T8 T21
  rw [hi, lenL_self]
  rfl
theorem T24_self (l : List S33) (h : l.length ≤ 1048576) (hs : ∀ x ∈ l, ok33 1048576 x) : T7 l l = some true := by
  have hi := same_iter (L18_4 l l) l h (fun i x hx h1 h2 => by simp only [L18_4, h1, cond_true, listAt_some hx, Option.bind_some, h2, T84_self x (hs x (List.mem_of_getElem? hx)), Bool.not_true, cond_false]) (fun h1 => by simp only [L18_4, h1, cond_false])
  unfold T7 T18
  rw [hi, lenL_self]
  rfl
/-! The example. -/
def e0 : S33 := S33.mk (ByteArray.mk #[97]) (ByteArray.mk #[98]) 0 0 0 1 127 [] 1 2 0 [] false
def w0 : S72 := S72.mk 0 86400000
theorem e0_ok : ok33 1048576 e0 := by
  refine ⟨by decide, by decide, ?_, ?_, ?_, ?_, ?_, ⟨by decide, by simp [e0]⟩, ?_, ?_, ?_, ⟨by decide, by simp [e0]⟩, trivial⟩ <;> exact ⟨by decide, by decide⟩
theorem times_0 : T44 e0 0 w0 = some ([S72.mk 60000 120000], 0) := by
  rw [T44_eq e0 e0_ok]
  have h1 : entF e0 = 0 := by decide +kernel
  have h2 : outB 0 (-1440) 1440 = false := by decide
  have h3 : spanF w0 = 0 := by decide +kernel
  have h4 : (timesL e0 0 w0).map (fun t => (t.f0, t.f1)) = [(60000, 120000)] := by decide +kernel
  have h5 : timesL e0 0 w0 = [S72.mk 60000 120000] := by
    generalize timesL e0 0 w0 = l at h4
    match l with
    | [] => cases h4
    | [⟨a, b⟩] => simp only [List.map_cons, List.map_nil, List.cons.injEq, Prod.mk.injEq, and_true] at h4; rw [h4.1, h4.2]
    | _ :: _ :: _ => simp at h4
  rw [h1, h2, h3, h5]
  rfl
theorem T20_eq : T20 = some true := by
  have h := times_0
  unfold e0 w0 at h
  unfold T20
  rw [h]
  rfl
/-! All of it. -/
end Go.Abs.TUM

set_option linter.unusedVariables false
set_option linter.unusedSimpArgs false
set_option maxRecDepth 10000
namespace Go.Abs.TUM
open Go.RowKit
/-! Lists of entries. -/
def entsS (_ : Nat) (last : ByteArray) (x : S33) : ByteArray ⊕ Int := bif neI (entF x) 0 then .inr (entF x) else bif leS x.f0 last then .inr 7 else .inl x.f0
def entsF (l : List S33) : Int := bif ltI 200 (lenL l) then 2 else Sum.elim (fun _ => 0) id (wp entsS 0 (ByteArray.mk #[]) l)
theorem T13_eq (l : List S33) (h : l.length ≤ 1048576) (hs : ∀ x ∈ l, ok33 1048576 x) : T13 l = some (entsF l) := by
  have hi : iter (L13_4 l) ((0 : Nat) : Int) = some (Sum.elim (fun _ => .inl ((l.length : Int), false)) (fun r => .inr r) (wp entsS 0 (ByteArray.mk #[]) l)) := by
    refine iter_wp (fun _ i => (i : Int)) _ _ l entsS (Prev l (·.f0)) (fun i u x hx hI => ?_) (fun u _ => ?_) _ (.inl ⟨rfl, rfl⟩)
    · have hlt : i < l.length := (List.getElem?_eq_some_iff.1 hx).1
      have h1 : ltI (i : Int) (lenL l) = true := by rw [ltI_iff, lenL_eq]; simpa using hlt
      have h2 : addI .i64 (i : Int) 1 = ((i + 1 : Nat) : Int) := by rw [addI_eq (by omega) (by omega)]; omega
      have h3 := T30_eq x (hs x (List.mem_of_getElem? hx))
      refine ⟨?_, fun s' hf => ?_⟩
      · simp only [L13_4, h1, cond_true, listAt_some hx, Option.bind_some, h3, h2, entsS]
        cases hk : neI (entF x) 0 with
        | true => rfl
        | false =>
          simp only [cond_false]
          rcases hI with ⟨rfl, rfl⟩ | ⟨y, hi0, hy, hu⟩
          · have h4 : ltI 0 ((0 : Nat) : Int) = false := rfl
            rw [h4, leS_empty (key_pos (entF_key (neI_false.1 hk)))]
            rfl
          · have h4 : ltI 0 (i : Int) = true := by rw [ltI_iff]; simp; omega
            have h5 : subI .i64 (i : Int) 1 = ((i - 1 : Nat) : Int) := by rw [subI_eq (by omega) (by omega)]; omega
            rw [h4, h5, listAt_some hy, hu]
            simp only [cond_true, Option.bind_some, leS]
            cases (ltS x.f0 y.f0 || eqS x.f0 y.f0) <;> rfl
      · refine .inr ⟨x, by omega, by simpa using hx, ?_⟩
        unfold entsS at hf
        cases hk : neI (entF x) 0 <;> rw [hk] at hf
        · simp only [cond_false] at hf
          cases hl : leS x.f0 u <;> rw [hl] at hf
          · exact (Sum.inl.inj hf).symm
          · cases hf
        · cases hf
    · have h1 : ltI (l.length : Int) (lenL l) = false := by rw [ltI_iff, lenL_eq]; simp
      simp only [L13_4, h1, cond_false]
  unfold T13 entsF
  rw [show (0 : Int) = ((0 : Nat) : Int) from rfl, hi, Option.bind_some]
  cases ltI 200 (lenL l); rotate_left; · rfl
  cases wp entsS 0 (ByteArray.mk #[]) l <;> rfl
theorem T12_eq (l : List S33) (h : l.length ≤ 1048576) (hs : ∀ x ∈ l, ok33 1048576 x) : T12 l = some (entsF l) := by
  have hi : iter (L12_5 l) (ByteArray.mk #[], ((0 : Nat) : Int)) = some (Sum.elim (fun s => .inl (s, (l.length : Int), false)) (fun r => .inr r) (wp entsS 0 (ByteArray.mk #[]) l)) := by
    refine iter_wp (fun s i => (s, (i : Int))) _ _ l entsS (fun _ _ => True) (fun i u x hx hI => ⟨?_, fun _ _ => trivial⟩) (fun u _ => ?_) _ trivial
    · have hlt : i < l.length := (List.getElem?_eq_some_iff.1 hx).1
      have h1 : ltI (i : Int) (lenL l) = true := by rw [ltI_iff, lenL_eq]; simpa using hlt
      have h2 : addI .i64 (i : Int) 1 = ((i + 1 : Nat) : Int) := by rw [addI_eq (by omega) (by omega)]; omega
      have h3 := T29_eq x (hs x (List.mem_of_getElem? hx))
      simp only [L12_5, h1, cond_true, listAt_some hx, Option.bind_some, h3, h2, entsS, leS]
      cases neI (entF x) 0; rotate_left; · rfl
      cases (ltS x.f0 u || eqS x.f0 u) <;> rfl
    · have h1 : ltI (l.length : Int) (lenL l) = false := by rw [ltI_iff, lenL_eq]; simp
      simp only [L12_5, h1, cond_false]
  unfold T12 entsF
  rw [show (0 : Int) = ((0 : Nat) : Int) from rfl, hi, Option.bind_some]
  cases ltI 200 (lenL l); rotate_left; · rfl
  cases wp entsS 0 (ByteArray.mk #[]) l <;> rfl
theorem wp_ents : ∀ (l : List S33) (i : Nat) (last s : ByteArray), wp entsS i last l = .inl s → (∀ x ∈ l, entF x = 0 ∧ ltS last x.f0 = true) ∧ l.Pairwise fun x y => ltS x.f0 y.f0 = true
  | [], i, last, s, h => ⟨fun x hx => (by cases hx), .nil⟩
  | x :: l, i, last, s, h => by
    unfold wp at h
    have h1 : neI (entF x) 0 = false ∧ leS x.f0 last = false ∧ entsS i last x = .inl x.f0 := by
      unfold entsS at h ⊢
      cases c1 : neI (entF x) 0 <;> rw [c1] at h
      · cases c2 : leS x.f0 last <;> rw [c2] at h
        · exact ⟨rfl, rfl, rfl⟩
        · cases h
      · cases h
    obtain ⟨h1, h2, h3⟩ := h1
    rw [h3] at h
    obtain ⟨h4, h5⟩ := wp_ents l (i + 1) x.f0 s h
    have h6 : ltS last x.f0 = true := by
      unfold leS at h2
      rw [Bool.or_eq_false_iff] at h2
      rcases ltS_total x.f0 last with q | q | q
      · rw [q] at h2; exact absurd h2.1 (by decide)
      · rw [q] at h2; have : eqS last last = true := by rw [eqS_iff]; simp
        rw [this] at h2; exact absurd h2.2 (by decide)
      · exact q
    refine ⟨fun y hy => ?_, List.pairwise_cons.2 ⟨fun y hy => (h4 y hy).2, h5⟩⟩
    rcases List.mem_cons.1 hy with rfl | hy
    · exact ⟨neI_false.1 h1, h6⟩
    · exact ⟨(h4 y hy).1, ltS_trans h6 (h4 y hy).2⟩
theorem wp_ents_r : ∀ (l : List S33) (i : Nat) (last : ByteArray) (r : Int), wp entsS i last l = .inr r → r ≠ 0
  | [], i, last, r, h => by cases h
  | x :: l, i, last, r, h => by
    unfold wp at h
    unfold entsS at h
    cases c1 : neI (entF x) 0 <;> rw [c1] at h
    · cases c2 : leS x.f0 last <;> rw [c2] at h
      · exact wp_ents_r l (i + 1) x.f0 r h
      · cases h; decide
    · cases h
      rw [neI_iff] at c1
      simpa using c1
/-- A list that is right. -/
structure Ents (l : List S33) : Prop where
  len : l.length ≤ 200
  ok : ∀ x ∈ l, entF x = 0
  rise : l.Pairwise fun x y => ltS x.f0 y.f0 = true
theorem entsF_ok {l : List S33} (h : entsF l = 0) : Ents l := by
  unfold entsF at h
  cases hl : ltI 200 (lenL l) <;> rw [hl] at h
  · simp only [cond_false] at h
    rw [ltI_iff, lenL_eq] at hl
    simp only [decide_eq_false_iff_not] at hl
    cases hw : wp entsS 0 (ByteArray.mk #[]) l with
    | inl s =>
      obtain ⟨h1, h2⟩ := wp_ents l 0 _ s hw
      exact ⟨by omega, fun x hx => (h1 x hx).1, h2⟩
    | inr r =>
      rw [hw] at h
      exact absurd h (wp_ents_r l 0 _ r hw)
  · cases h
/-! Entries that are compared. -/
theorem eqS_t {a b : ByteArray} : eqS a b = true ↔ a = b := by rw [eqS_iff]; simp
theorem eqI_t' {a b : Int} : eqI a b = true ↔ a = b := by rw [eqI_iff]; simp
theorem T43_dec (l l' : List Int) (h : l.length ≤ 1048576) : ∃ b, T43 l l' = some b ∧ (b = true ↔ l = l') := by
  unfold T43
  by_cases hn : l.length = l'.length
  · have h0 : neI (lenL l) (lenL l') = false := by rw [neI_iff, lenL_eq, lenL_eq]; simp; omega
    obtain ⟨r, h2, h3⟩ := iter_upx (st := L43_4 l l') (fun (_ : Unit) (i : Nat) => (i : Int)) l.length (fun i _ => l.take i = l'.take i) (fun r => ((∃ x, r = .inl x) ∧ l = l') ∨ (∃ x, r = .inr x) ∧ l ≠ l')
      (fun i s hi hI => by
        have hx := List.getElem?_eq_getElem hi
        have hy := List.getElem?_eq_getElem (show i < l'.length by omega)
        by_cases e : l[i] = l'[i]
        · refine .inl ⟨(), ?_, ?_⟩
          · unfold L43_4
            refine ct (ltL_true hi) (bs (listAt_some hx) (bs (listAt_some hy) (cf (neI_f e) ?_)))
            rw [nextI (by omega)]
          · rw [take_next hx, take_next hy, hI, e]
        · refine .inr ⟨.inr (), ?_, .inr ⟨⟨_, rfl⟩, fun h => e ?_⟩⟩
          · unfold L43_4
            exact ct (ltL_true hi) (bs (listAt_some hx) (bs (listAt_some hy) (ct (neI_t e) rfl)))
          · subst h; rfl)
      (fun s hI => ⟨.inl ((l.length : Int), false), by
        unfold L43_4
        rw [ltL_false (Nat.le_refl _)]
        rfl, .inl ⟨⟨_, rfl⟩, by rw [List.take_length] at hI; rw [hI, hn, List.take_length]⟩⟩) 0 () (Nat.zero_le _) rfl
    rcases h3 with ⟨⟨x, rfl⟩, h4⟩ | ⟨⟨x, rfl⟩, h4⟩
    · exact ⟨true, cf h0 (bs h2 rfl), by simp [h4]⟩
    · exact ⟨false, cf h0 (bs h2 rfl), by simp [h4]⟩
  · refine ⟨false, ct (neI_t ?_) rfl, ?_⟩
    · rw [lenL_eq, lenL_eq]; omega
    · simp only [Bool.false_eq_true, false_iff]
      rintro rfl
      exact hn rfl
theorem T23_dec (l l' : List ByteArray) (h : l.length ≤ 1048576) : ∃ b, T23 l l' = some b ∧ (b = true ↔ l = l') := by
  unfold T23
  by_cases hn : l.length = l'.length
  · have h0 : neI (lenL l) (lenL l') = false := by rw [neI_iff, lenL_eq, lenL_eq]; simp; omega
    obtain ⟨r, h2, h3⟩ := iter_upx (st := L23_4 l l') (fun (_ : Unit) (i : Nat) => (i : Int)) l.length (fun i _ => l.take i = l'.take i) (fun r => ((∃ x, r = .inl x) ∧ l = l') ∨ (∃ x, r = .inr x) ∧ l ≠ l')
      (fun i s hi hI => by
        have hx := List.getElem?_eq_getElem hi
        have hy := List.getElem?_eq_getElem (show i < l'.length by omega)
        by_cases e : l[i] = l'[i]
        · refine .inl ⟨(), ?_, ?_⟩
          · unfold L23_4
            refine ct (ltL_true hi) (bs (listAt_some hx) (bs (listAt_some hy) (cf ?_ ?_)))
            · rw [eqS_t.2 e]; rfl
            · rw [nextI (by omega)]
          · rw [take_next hx, take_next hy, hI, e]
        · refine .inr ⟨.inr (), ?_, .inr ⟨⟨_, rfl⟩, fun h => e ?_⟩⟩
          · unfold L23_4
            refine ct (ltL_true hi) (bs (listAt_some hx) (bs (listAt_some hy) (ct ?_ rfl)))
            cases hq : eqS l[i] l'[i] with
            | false => rfl
            | true => exact absurd (eqS_t.1 hq) e
          · subst h; rfl)
      (fun s hI => ⟨.inl ((l.length : Int), false), by
        unfold L23_4
        rw [ltL_false (Nat.le_refl _)]
        rfl, .inl ⟨⟨_, rfl⟩, by rw [List.take_length] at hI; rw [hI, hn, List.take_length]⟩⟩) 0 () (Nat.zero_le _) rfl
    rcases h3 with ⟨⟨x, rfl⟩, h4⟩ | ⟨⟨x, rfl⟩, h4⟩
    · exact ⟨true, cf h0 (bs h2 rfl), by simp [h4]⟩
    · exact ⟨false, cf h0 (bs h2 rfl), by simp [h4]⟩
  · refine ⟨false, ct (neI_t ?_) rfl, ?_⟩
    · rw [lenL_eq, lenL_eq]; omega
    · simp only [Bool.false_eq_true, false_iff]
      rintro rfl
      exact hn rfl
/-- A condition, one of the components of two entries. -/
theorem dec_s {α : Type} {a b : ByteArray} {r : Option Bool} {P : Prop} (h : ∃ c, r = some c ∧ (c = true ↔ P)) : ∃ c, (bif eqS a b then r else some false) = some c ∧ (c = true ↔ a = b ∧ P) := by
  obtain ⟨c, h1, h2⟩ := h
  cases hq : eqS a b with
  | true => exact ⟨c, h1, by rw [h2]; simp [eqS_t.1 hq]⟩
  | false => exact ⟨false, rfl, by simp; intro e; rw [eqS_t.2 e] at hq; cases hq⟩
theorem dec_i {a b : Int} {r : Option Bool} {P : Prop} (h : ∃ c, r = some c ∧ (c = true ↔ P)) : ∃ c, (bif eqI a b then r else some false) = some c ∧ (c = true ↔ a = b ∧ P) := by
  obtain ⟨c, h1, h2⟩ := h
  cases hq : eqI a b with
  | true => exact ⟨c, h1, by rw [h2]; simp [eqI_t'.1 hq]⟩
  | false => exact ⟨false, rfl, by simp; intro e; rw [eqI_t'.2 e] at hq; cases hq⟩
theorem dec_b {a b : Bool} {r : Option Bool} {P : Prop} (h : ∃ c, r = some c ∧ (c = true ↔ P)) : ∃ c, (bif a == b then r else some false) = some c ∧ (c = true ↔ a = b ∧ P) := by
  obtain ⟨c, h1, h2⟩ := h
  cases hq : a == b with
  | true => exact ⟨c, h1, by rw [h2]; simp [eq_of_beq hq]⟩
  | false => exact ⟨false, rfl, by simp; intro e; rw [e] at hq; simp at hq⟩
theorem dec_o {x r : Option Bool} {P Q : Prop} (hx : ∃ c, x = some c ∧ (c = true ↔ Q)) (h : ∃ c, r = some c ∧ (c = true ↔ P)) : ∃ c, (x.bind fun x => bif x then r else some false) = some c ∧ (c = true ↔ Q ∧ P) := by
  obtain ⟨c, h1, h2⟩ := h
  obtain ⟨d, h3, h4⟩ := hx
  cases d with
  | true => exact ⟨c, bs h3 h1, by rw [h2]; simp [h4.1 rfl]⟩
  | false => exact ⟨false, bs h3 rfl, by simp; intro q; exact absurd (h4.2 q) (by decide)⟩
theorem s33_ext {x y : S33} : x = y ↔ x.f0 = y.f0 ∧ x.f1 = y.f1 ∧ x.f2 = y.f2 ∧ x.f3 = y.f3 ∧ x.f4 = y.f4 ∧ x.f5 = y.f5 ∧ x.f6 = y.f6 ∧ x.f7 = y.f7 ∧ x.f8 = y.f8 ∧ x.f9 = y.f9 ∧ x.f10 = y.f10 ∧ x.f11 = y.f11 ∧ x.f12 = y.f12 := by
  cases x; cases y; simp
theorem T25_dec (x y : S33) (h7 : x.f7.length ≤ 1048576) (h11 : x.f11.length ≤ 1048576) : ∃ b, T25 x y = some b ∧ (b = true ↔ x = y) := by
  obtain ⟨b, h1, h2⟩ := dec_s (α := Unit) (a := x.f0) (b := y.f0) (dec_s (α := Unit) (a := x.f1) (b := y.f1) (dec_i (a := x.f2) (b := y.f2) (dec_i (a := x.f3) (b := y.f3) (dec_i (a := x.f4) (b := y.f4) (dec_i (a := x.f5) (b := y.f5) (dec_i (a := x.f6) (b := y.f6) (dec_o (T43_dec x.f7 y.f7 h7)
    (dec_i (a := x.f8) (b := y.f8) (dec_i (a := x.f9) (b := y.f9) (dec_i (a := x.f10) (b := y.f10) (dec_o (T23_dec x.f11 y.f11 h11) (r := some (x.f12 == y.f12)) (P := x.f12 = y.f12) ⟨_, rfl, by simp⟩)))))))))))
  exact ⟨b, h1, h2.trans s33_ext.symm⟩
theorem T19_dec (x y : S33) (h7 : x.f7.length ≤ 1048576) (h11 : x.f11.length ≤ 1048576) : ∃ b, T19 x y = some b ∧ (b = true ↔ x = y) := by
  obtain ⟨b, h1, h2⟩ := dec_s (α := Unit) (a := x.f0) (b := y.f0) (dec_s (α := Unit) (a := x.f1) (b := y.f1) (dec_i (a := x.f2) (b := y.f2) (dec_i (a := x.f3) (b := y.f3) (dec_i (a := x.f4) (b := y.f4) (dec_i (a := x.f5) (b := y.f5) (dec_i (a := x.f6) (b := y.f6)
    (dec_i (a := x.f8) (b := y.f8) (dec_i (a := x.f9) (b := y.f9) (dec_i (a := x.f10) (b := y.f10) (dec_b (a := x.f12) (b := y.f12) (dec_o (T43_dec x.f7 y.f7 h7) (r := (T23 x.f11 y.f11).bind fun x2 => some x2) (P := x.f11 = y.f11) (by
      obtain ⟨b, h1, h2⟩ := T23_dec x.f11 y.f11 h11
      exact ⟨b, bs h1 rfl, h2⟩))))))))))))
  refine ⟨b, h1, h2.trans (Iff.trans ?_ s33_ext.symm)⟩
  constructor
  · rintro ⟨a0, a1, a2, a3, a4, a5, a6, a8, a9, a10, a12, a7, a11⟩
    exact ⟨a0, a1, a2, a3, a4, a5, a6, a7, a8, a9, a10, a11, a12⟩
  · rintro ⟨a0, a1, a2, a3, a4, a5, a6, a7, a8, a9, a10, a11, a12⟩
    exact ⟨a0, a1, a2, a3, a4, a5, a6, a8, a9, a10, a12, a7, a11⟩
end Go.Abs.TUM

set_option linter.unusedVariables false
set_option linter.unusedSimpArgs false
set_option maxRecDepth 10000
namespace Go.Abs.TUM.E
open Go.RowKit Go.Proofs Go.Abs
/-! A map from keys to entries. -/
abbrev gt (M : List (ByteArray × S33)) (k : ByteArray) : Option S33 := mgetB eqB M k
theorem eqB_iff {a b : ByteArray} : eqB a b = true ↔ a = b := by
  constructor
  · intro h
    refine Classical.byContradiction fun hn => ?_
    rw [eqB_no hn] at h
    cases h
  · intro h
    rw [h, eqB_self]
theorem eqB_ne {a b : ByteArray} (h : a ≠ b) : eqB a b = false := by
  cases hb : eqB a b with
  | false => rfl
  | true => exact absurd (eqB_iff.1 hb) h
theorem gt_nil (k : ByteArray) : gt [] k = none := rfl
theorem gt_cons (p : ByteArray × S33) (M : List (ByteArray × S33)) (k : ByteArray) : gt (p :: M) k = if k = p.1 then some p.2 else gt M k := by
  unfold gt mgetB
  rw [List.find?_cons]
  by_cases h : k = p.1
  · rw [if_pos h, eqB_iff.2 h]; rfl
  · rw [if_neg h, eqB_ne h]
theorem gt_set : ∀ (M : List (ByteArray × S33)) (k : ByteArray) (v : S33) (k' : ByteArray), gt (msetB eqB M k v) k' = if k' = k then some v else gt M k'
  | [], k, v, k' => by
    show gt [(k, v)] k' = _
    rw [gt_cons]
  | p :: M, k, v, k' => by
    unfold msetB
    by_cases h : k = p.1
    · rw [eqB_iff.2 h, cond_true, gt_cons, gt_cons, h]
      by_cases h2 : k' = p.1
      · rw [if_pos h2, if_pos h2]
      · rw [if_neg h2, if_neg h2, if_neg h2]
    · rw [eqB_ne h, cond_false, gt_cons, gt_cons, gt_set M k v k']
      by_cases h2 : k' = p.1
      · rw [if_pos h2, if_pos h2, if_neg (show ¬ k' = k from fun e => h (e.symm.trans h2))]
      · rw [if_neg h2, if_neg h2]
theorem set_len : ∀ (M : List (ByteArray × S33)) (k : ByteArray) (v : S33), (msetB eqB M k v).length ≤ M.length + 1
  | [], k, v => Nat.le_refl _
  | p :: M, k, v => by
    unfold msetB
    cases eqB k p.1 with
    | true => simp
    | false => simpa using set_len M k v
theorem set_keys : ∀ (M : List (ByteArray × S33)) (k : ByteArray) (v : S33) (x : ByteArray), x ∈ (msetB eqB M k v).map (·.1) ↔ x = k ∨ x ∈ M.map (·.1)
  | [], k, v, x => by simp [msetB]
  | p :: M, k, v, x => by
    unfold msetB
    by_cases h : k = p.1
    · rw [eqB_iff.2 h, cond_true, List.map_cons, List.map_cons, List.mem_cons, ← h]
      constructor
      · rintro (h2 | h2)
        · exact .inl h2
        · exact .inr (.inr h2)
      · rintro (h2 | h2 | h2)
        · exact .inl h2
        · exact .inl h2
        · exact .inr h2
    · rw [eqB_ne h, cond_false, List.map_cons, List.map_cons, List.mem_cons, List.mem_cons, set_keys M k v x]
      constructor
      · rintro (h2 | h2 | h2)
        · exact .inr (.inl h2)
        · exact .inl h2
        · exact .inr (.inr h2)
      · rintro (h2 | h2 | h2)
        · exact .inr (.inl h2)
        · exact .inl h2
        · exact .inr (.inr h2)
theorem set_nodup : ∀ (M : List (ByteArray × S33)) (k : ByteArray) (v : S33), (M.map (·.1)).Nodup → ((msetB eqB M k v).map (·.1)).Nodup
  | [], k, v, _ => by simp [msetB]
  | p :: M, k, v, h => by
    rw [List.map_cons, List.nodup_cons] at h
    unfold msetB
    by_cases h2 : k = p.1
    · rw [eqB_iff.2 h2, cond_true, List.map_cons]
      exact List.nodup_cons.2 h
    · rw [eqB_ne h2, cond_false, List.map_cons, List.nodup_cons, set_keys]
      exact ⟨fun e => e.elim (fun e => h2 e.symm) h.1, set_nodup M k v h.2⟩
theorem gt_keys : ∀ (M : List (ByteArray × S33)) (k : ByteArray), (gt M k).isSome = true ↔ k ∈ M.map (·.1)
  | [], k => by simp [gt_nil]
  | p :: M, k => by
    rw [gt_cons, List.map_cons, List.mem_cons]
    by_cases h : k = p.1
    · simp [h]
    · rw [if_neg h, gt_keys M k]
      simp [h]
/-! One entry more. -/
open Classical in
noncomputable def stepM (M : List (ByteArray × S33)) (e : S33) : Option (List (ByteArray × S33)) := match gt M e.f0 with
  | none => some (msetB eqB M e.f0 e)
  | some o => if o.f2 = e.f2 ∧ o ≠ e then none else if o.f2 < e.f2 then some (msetB eqB M e.f0 e) else some M
noncomputable def runM : List S33 → List (ByteArray × S33) → Option (List (ByteArray × S33))
  | [], M => some M
  | e :: l, M => (stepM M e).bind (runM l)
theorem runM_app : ∀ (l l' : List S33) (M : List (ByteArray × S33)), runM (l ++ l') M = (runM l M).bind (runM l')
  | [], l', M => rfl
  | e :: l, l', M => by
    rw [List.cons_append, runM, runM]
    cases stepM M e with
    | none => rfl
    | some M' => exact runM_app l l' M'
def Sml (e : S33) : Prop := e.f7.length ≤ 1048576 ∧ e.f11.length ≤ 1048576
/-- What a step leaves. -/
theorem step_case {M M' : List (ByteArray × S33)} {e : S33} (h : stepM M e = some M') : (M' = msetB eqB M e.f0 e ∧ ∀ o, gt M e.f0 = some o → o.f2 < e.f2) ∨ (M' = M ∧ ∃ o, gt M e.f0 = some o ∧ ¬ o.f2 < e.f2) := by
  unfold stepM at h
  cases hg : gt M e.f0 with
  | none => rw [hg] at h; cases h; exact .inl ⟨rfl, fun o ho => by cases ho⟩
  | some o =>
    rw [hg] at h
    simp only at h
    split at h
    · cases h
    · split at h
      · rename_i c
        cases h
        exact .inl ⟨rfl, fun o' ho => by cases ho; exact c⟩
      · rename_i c
        cases h
        exact .inr ⟨rfl, o, rfl, c⟩
theorem step_gt {M M' : List (ByteArray × S33)} {e : S33} (h : stepM M e = some M') {k : ByteArray} {o : S33} (ho : gt M' k = some o) : gt M k = some o ∨ (o = e ∧ k = e.f0) := by
  rcases step_case h with ⟨rfl, _⟩ | ⟨rfl, _⟩
  · rw [gt_set] at ho
    split at ho
    · rename_i c
      cases ho
      exact .inr ⟨rfl, c⟩
    · exact .inl ho
  · exact .inl ho
theorem step_nodup {M M' : List (ByteArray × S33)} {e : S33} (h : stepM M e = some M') (hn : (M.map (·.1)).Nodup) : (M'.map (·.1)).Nodup := by
  rcases step_case h with ⟨rfl, _⟩ | ⟨rfl, _⟩
  · exact set_nodup _ _ _ hn
  · exact hn
theorem step_len {M M' : List (ByteArray × S33)} {e : S33} (h : stepM M e = some M') : M'.length ≤ M.length + 1 := by
  rcases step_case h with ⟨rfl, _⟩ | ⟨rfl, _⟩
  · exact set_len _ _ _
  · omega
theorem run_gt : ∀ (l : List S33) {M M' : List (ByteArray × S33)}, runM l M = some M' → ∀ {k : ByteArray} {o : S33}, gt M' k = some o → gt M k = some o ∨ (o ∈ l ∧ k = o.f0)
  | [], M, M', h, k, o, ho => by cases h; exact .inl ho
  | e :: l, M, M', h, k, o, ho => by
    rw [runM] at h
    cases hs : stepM M e with
    | none => rw [hs] at h; cases h
    | some N =>
      rw [hs] at h
      rcases run_gt l h ho with h1 | ⟨h1, h2⟩
      · rcases step_gt hs h1 with h3 | ⟨rfl, h3⟩
        · exact .inl h3
        · exact .inr ⟨List.mem_cons_self, h3⟩
      · exact .inr ⟨List.mem_cons_of_mem _ h1, h2⟩
theorem run_nodup : ∀ (l : List S33) {M M' : List (ByteArray × S33)}, runM l M = some M' → (M.map (·.1)).Nodup → (M'.map (·.1)).Nodup
  | [], M, M', h, hn => by cases h; exact hn
  | e :: l, M, M', h, hn => by
    rw [runM] at h
    cases hs : stepM M e with
    | none => rw [hs] at h; cases h
    | some N =>
      rw [hs] at h
      exact run_nodup l h (step_nodup hs hn)
theorem run_len : ∀ (l : List S33) {M M' : List (ByteArray × S33)}, runM l M = some M' → M'.length ≤ M.length + l.length
  | [], M, M', h => by cases h; simp
  | e :: l, M, M', h => by
    rw [runM] at h
    cases hs : stepM M e with
    | none => rw [hs] at h; cases h
    | some N =>
      rw [hs] at h
      have := run_len l h
      have := step_len hs
      rw [List.length_cons]
      omega
/-- Entries that all have keys of their own. -/
theorem run_fresh : ∀ (l : List S33) (M : List (ByteArray × S33)), (l.map (·.f0)).Nodup → (∀ e ∈ l, gt M e.f0 = none) → ∃ M', runM l M = some M' ∧ ∀ k o, gt M' k = some o ↔ gt M k = some o ∨ (o ∈ l ∧ k = o.f0)
  | [], M, _, _ => ⟨M, rfl, fun k o => by simp⟩
  | e :: l, M, hn, hf => by
    rw [List.map_cons, List.nodup_cons] at hn
    have hs : stepM M e = some (msetB eqB M e.f0 e) := by unfold stepM; rw [hf e List.mem_cons_self]
    obtain ⟨M', h1, h2⟩ := run_fresh l (msetB eqB M e.f0 e) hn.2 (fun x hx => by
      rw [gt_set, if_neg (fun q => hn.1 (List.mem_map.2 ⟨x, hx, q⟩))]
      exact hf x (List.mem_cons_of_mem _ hx))
    refine ⟨M', by rw [runM, hs]; exact h1, fun k o => ?_⟩
    rw [h2 k o, gt_set, List.mem_cons]
    by_cases hk : k = e.f0
    · rw [if_pos hk]
      constructor
      · rintro (h | h)
        · cases h; exact .inr ⟨.inl rfl, hk⟩
        · exact .inr ⟨.inr h.1, h.2⟩
      · rintro (h | ⟨rfl | h, h'⟩)
        · rw [hk, hf e List.mem_cons_self] at h; cases h
        · exact .inl rfl
        · exact .inr ⟨h, h'⟩
    · rw [if_neg hk]
      constructor
      · rintro (h | h)
        · exact .inl h
        · exact .inr ⟨.inr h.1, h.2⟩
      · rintro (h | ⟨rfl | h, h'⟩)
        · exact .inl h
        · exact absurd h' hk
        · exact .inr ⟨h, h'⟩
/-- One entry more, by the code. -/
theorem put_step {all : List S33} {M : List (ByteArray × S33)} {i : Nat} {e : S33} (hi : all[i]? = some e) (hl : all.length ≤ 1000) (ho : ∀ o, gt M e.f0 = some o → Sml o) :
    L11_10 all (M, all, (i : Int)) = some (match stepM M e with | some M' => .inl (M', all, ((i + 1 : Nat) : Int)) | none => .inr (.inr ())) := by
  have hlt : i < all.length := (List.getElem?_eq_some_iff.1 hi).1
  have fin : ∀ N, some (Sum.inl (N, all, addI .i64 (i : Int) 1)) = some (Sum.inl (N, all, ((i + 1 : Nat) : Int)) : (List (ByteArray × S33) × List S33 × Int) ⊕ ((Int × Bool × List (ByteArray × S33) × List S33) ⊕ Unit)) := fun N => by rw [nextI (by omega)]
  unfold L11_10 stepM
  cases hg : gt M e.f0 with
  | none =>
    refine ct (ltL_true hlt) (bs (a := .inl (msetB eqB M e.f0 e)) (bs (idx_nat hlt) (bs (getN_some hi) ?_)) ?_)
    · rw [show mgetB eqB M e.f0 = none from hg]
      rfl
    · exact fin _
  | some o =>
    have hg' : mgetB eqB M e.f0 = some o := hg
    obtain ⟨b, hb, hb2⟩ := T25_dec o e (ho o hg).1 (ho o hg).2
    by_cases hr : o.f2 = e.f2
    · cases b with
      | false =>
        have hne : o ≠ e := fun q => absurd (hb2.2 q) (by decide)
        simp only
        rw [if_pos ⟨hr, hne⟩]
        refine ct (ltL_true hlt) (bs (a := .inr ()) (bs (idx_nat hlt) (bs (getN_some hi) ?_)) rfl)
        simp only [hg', Option.isSome_some, cond_true, Option.getD_some, Bool.not_true, cond_false]
        exact ct (eqI_t hr) (bs hb (ct rfl rfl))
      | true =>
        have he : o = e := hb2.1 rfl
        simp only
        rw [if_neg (fun q => q.2 he), if_neg (by omega)]
        refine ct (ltL_true hlt) (bs (a := .inl M) (bs (idx_nat hlt) (bs (getN_some hi) ?_)) ?_)
        rotate_left; · exact fin _
        simp only [hg', Option.isSome_some, cond_true, Option.getD_some, Bool.not_true, cond_false]
        exact ct (eqI_t hr) (bs hb (cf rfl (cf (ltI_f (by omega)) rfl)))
    · simp only
      rw [if_neg (fun q => hr q.1)]
      by_cases hlt2 : o.f2 < e.f2
      · rw [if_pos hlt2]
        refine ct (ltL_true hlt) (bs (a := .inl (msetB eqB M e.f0 e)) (bs (idx_nat hlt) (bs (getN_some hi) ?_)) ?_)
        rotate_left; · exact fin _
        simp only [hg', Option.isSome_some, cond_true, Option.getD_some, Bool.not_true, cond_false]
        exact cf (eqI_f hr) (ct (ltI_t hlt2) rfl)
      · rw [if_neg hlt2]
        refine ct (ltL_true hlt) (bs (a := .inl M) (bs (idx_nat hlt) (bs (getN_some hi) ?_)) ?_)
        rotate_left; · exact fin _
        simp only [hg', Option.isSome_some, cond_true, Option.getD_some, Bool.not_true, cond_false]
        exact cf (eqI_f hr) (cf (ltI_f (by omega)) rfl)
/-- The loop over all entries. -/
theorem all_loop {all : List S33} (hl : all.length ≤ 1000) (hok : ∀ e ∈ all, Sml e) :
    iter (L11_10 all) ([], all, 0) = some (match runM all [] with | some M => .inl ((all.length : Int), false, M, all) | none => .inr ()) := by
  obtain ⟨r, h2, h3⟩ := iter_upx (st := L11_10 all) (fun (M : List (ByteArray × S33)) (i : Nat) => (M, all, (i : Int))) all.length
    (fun i M => runM (all.take i) [] = some M) (fun r => r = match runM all [] with | some M => .inl ((all.length : Int), false, M, all) | none => .inr ())
    (fun i M hi hI => by
      have hx := List.getElem?_eq_getElem hi
      have hs := put_step (M := M) hx hl (fun o ho => by
        rcases run_gt _ hI ho with h | h
        · cases h
        · exact hok o (List.mem_of_mem_take h.1))
      have hr : runM (all.take (i + 1)) [] = stepM M all[i] := by
        rw [take_next hx, runM_app, hI]
        show (runM [all[i]] M) = _
        rw [runM]
        cases stepM M all[i] <;> rfl
      cases hm : stepM M all[i] with
      | some M' =>
        rw [hm] at hs hr
        exact .inl ⟨M', hs, hr⟩
      | none =>
        rw [hm] at hs hr
        refine .inr ⟨_, hs, ?_⟩
        have : runM all [] = none := by
          have e : all = all.take (i + 1) ++ all.drop (i + 1) := (List.take_append_drop _ _).symm
          rw [e, runM_app, hr]
          rfl
        rw [this])
    (fun M hI => ⟨.inl ((all.length : Int), false, M, all), by
      unfold L11_10
      simp only [ltL_false (Nat.le_refl all.length)]
      rfl, by
        rw [List.take_length] at hI
        rw [hI]⟩) 0 [] (Nat.zero_le _) rfl
  have h2 : iter (L11_10 all) ([], all, 0) = some r := h2
  rw [h2, h3]
end Go.Abs.TUM.E

set_option linter.unusedVariables false
set_option linter.unusedSimpArgs false
set_option maxRecDepth 10000
namespace Go.Abs.TUM.E
open Go.RowKit Go.Proofs Go.Abs
/-! The reference's list beside the map. -/
structure Same (out : List S33) (M : List (ByteArray × S33)) : Prop where
  nd : (out.map (·.f0)).Nodup
  mem : ∀ e, e ∈ out ↔ gt M e.f0 = some e
  key : ∀ k o, gt M k = some o → o.f0 = k
theorem idx_find (out : List S33) (e : S33) (h : out.length ≤ 1048576) :
    (T38 out e.f0 e.f1 e.f2 e.f3 e.f4 e.f5 e.f6 e.f7 e.f8 e.f9 e.f10 e.f11 e.f12 = some (-1) ∧ ∀ x ∈ out, x.f0 ≠ e.f0) ∨
    ∃ (k : Nat) (x : S33), out[k]? = some x ∧ T38 out e.f0 e.f1 e.f2 e.f3 e.f4 e.f5 e.f6 e.f7 e.f8 e.f9 e.f10 e.f11 e.f12 = some (k : Int) ∧ x.f0 = e.f0 := by
  rcases idx_iter (st := L38_2 out e.f0 e.f1 e.f2 e.f3 e.f4 e.f5 e.f6 e.f7 e.f8 e.f9 e.f10 e.f11 e.f12) (l := out) (fun x => eqS x.f0 e.f0) h (fun i x hx => by
      have hlt : i < out.length := (List.getElem?_eq_some_iff.1 hx).1
      unfold L38_2 T39
      refine ct (ltL_true hlt) (bs (listAt_some hx) ?_)
      rw [nextI (by omega), Option.bind_some]
      cases eqS x.f0 e.f0 <;> rfl) (by
      unfold L38_2
      rw [ltL_false (Nat.le_refl _)]
      rfl) with ⟨h1, h2⟩ | ⟨k, x, h1, h2, h3, _⟩
  · refine .inl ⟨?_, fun x hx q => ?_⟩
    · unfold T38
      exact bs h1 rfl
    · have := h2 x hx
      rw [eqS_t.2 q] at this
      cases this
  · refine .inr ⟨k, x, h1, ?_, eqS_t.1 h3⟩
    unfold T38
    exact bs h2 rfl
theorem nodup_at {out : List S33} (h : (out.map (·.f0)).Nodup) {j k : Nat} {x y : S33} (hj : out[j]? = some x) (hk : out[k]? = some y) (he : x.f0 = y.f0) : j = k := by
  have a : (out.map (·.f0))[j]? = some x.f0 := by rw [List.getElem?_map, hj]; rfl
  have b : (out.map (·.f0))[k]? = some x.f0 := by rw [List.getElem?_map, hk, he]; rfl
  have hjl := (List.getElem?_eq_some_iff.1 a).1
  exact (List.getElem?_inj hjl h).1 (a.trans b.symm)
theorem ref_step {b out : List S33} {M : List (ByteArray × S33)} {e : S33} {i : Nat} (hi : b[i]? = some e) (hb : b.length ≤ 1000) (hl : out.length ≤ 1000) (hs : Same out M) (ho : ∀ o ∈ out, Sml o) :
    (∃ M' out', stepM M e = some M' ∧ Same out' M' ∧ out'.length ≤ out.length + 1 ∧ (∀ o ∈ out', o ∈ out ∨ o = e) ∧ L17_3 b (out, (i : Int)) = some (.inl (out', ((i + 1 : Nat) : Int)))) ∨ (stepM M e = none ∧ L17_3 b (out, (i : Int)) = some (.inr (.inr ()))) := by
  have hlt : i < b.length := (List.getElem?_eq_some_iff.1 hi).1
  have fin : ∀ N, some (Sum.inl (N, addI .i64 (i : Int) 1)) = some (Sum.inl (N, ((i + 1 : Nat) : Int)) : (List S33 × Int) ⊕ ((Int × Bool × List S33) ⊕ Unit)) := fun N => by rw [nextI (by omega)]
  rcases idx_find out e (by omega) with ⟨h1, h2⟩ | ⟨k, x, h1, h2, h3⟩
  · have hn : gt M e.f0 = none := by
      cases hg : gt M e.f0 with
      | none => rfl
      | some o =>
        have hk := hs.key _ _ hg
        exact absurd hk (h2 o ((hs.mem o).2 (by rw [hk]; exact hg)))
    refine .inl ⟨msetB eqB M e.f0 e, out ++ [e], by unfold stepM; rw [hn], ⟨?_, fun y => ?_, fun k o hg => ?_⟩, by simp, fun o h => ?_, ?_⟩
    · rw [List.map_append, List.map_cons, List.map_nil]
      refine List.nodup_append.2 ⟨hs.nd, by simp, fun a ha c hc => ?_⟩
      obtain ⟨z, hz, rfl⟩ := List.mem_map.1 ha
      rw [List.mem_singleton] at hc
      subst hc
      exact h2 z hz
    · rw [gt_set, List.mem_append, List.mem_singleton]
      by_cases hy : y.f0 = e.f0
      · rw [if_pos hy]
        constructor
        · rintro (h | rfl)
          · exact absurd hy (h2 y h)
          · rfl
        · intro h
          exact .inr (Option.some.inj h).symm
      · rw [if_neg hy, ← hs.mem y]
        constructor
        · rintro (h | rfl)
          · exact h
          · exact absurd rfl hy
        · exact .inl
    · rw [gt_set] at hg
      split at hg
      · rename_i c
        cases hg
        exact c.symm
      · exact hs.key k o hg
    · rcases List.mem_append.1 h with h | h
      · exact .inl h
      · exact .inr (List.mem_singleton.1 h)
    · unfold L17_3
      exact ct (ltL_true hlt) (bs (listAt_some hi) (bs h1 (ct rfl (bs (appO_eq (by simp; omega) (by simp; omega)) (fin _)))))
  · have hkl : k < out.length := (List.getElem?_eq_some_iff.1 h1).1
    have hx : x ∈ out := List.mem_of_getElem? h1
    have hg : gt M e.f0 = some x := by rw [← h3]; exact (hs.mem x).1 hx
    have hi1 := idx_nat hkl
    have hi2 := getN_some h1
    have hneg : ltI (k : Int) 0 = false := ltI_f (by omega)
    obtain ⟨c, hc, hc2⟩ := T19_dec x e (ho x hx).1 (ho x hx).2
    have stay : ¬ x.f2 < e.f2 → ¬ (x.f2 = e.f2 ∧ x ≠ e) → stepM M e = some M := fun q1 q2 => by
      unfold stepM
      rw [hg]
      simp only
      rw [if_neg q2, if_neg q1]
    have turn : x.f2 < e.f2 → stepM M e = some (msetB eqB M e.f0 e) := fun q1 => by
      unfold stepM
      rw [hg]
      simp only
      rw [if_neg (fun q => by have := q.1; omega), if_pos q1]
    have set_ok : Same (out.set k e) (msetB eqB M e.f0 e) := by
      refine ⟨?_, fun y => ?_, fun k o hg => ?_⟩
      · have : (out.set k e).map (·.f0) = out.map (·.f0) := by
          rw [List.map_set]
          apply List.ext_getElem?
          intro j
          rw [List.getElem?_set]
          split
          · rename_i q
            subst q
            split
            · rw [List.getElem?_map, h1, Option.map_some, h3]
            · rename_i q; rw [List.length_map] at q; omega
          · rfl
        rw [this]
        exact hs.nd
      · rw [gt_set]
        by_cases hy : y.f0 = e.f0
        · rw [if_pos hy]
          constructor
          · intro h
            obtain ⟨j, hj⟩ := List.getElem?_of_mem h
            rw [List.getElem?_set] at hj
            split at hj
            · first
                | exact hj
                | (split at hj; · exact hj
                   · cases hj)
            · rename_i q
              exact absurd (nodup_at hs.nd h1 hj (h3.trans hy.symm)) q
          · intro h
            cases h
            exact List.mem_of_getElem? (i := k) (by rw [List.getElem?_set, if_pos rfl, if_pos hkl])
        · rw [if_neg hy, ← hs.mem y]
          constructor
          · intro h
            rcases List.mem_or_eq_of_mem_set h with h | h
            · exact h
            · subst h; exact absurd rfl hy
          · intro h
            obtain ⟨j, hj⟩ := List.getElem?_of_mem h
            refine List.mem_of_getElem? (i := j) ?_
            rw [List.getElem?_set, if_neg (fun q => ?_), hj]
            subst q
            rw [h1] at hj
            cases hj
            exact hy h3
      · rw [gt_set] at hg
        split at hg
        · rename_i c
          cases hg
          exact c.symm
        · exact hs.key k o hg
    by_cases hr : x.f2 = e.f2
    · cases c with
      | false =>
        have hne : x ≠ e := fun q => absurd (hc2.2 q) (by decide)
        refine .inr ⟨by unfold stepM; rw [hg]; simp only; rw [if_pos ⟨hr, hne⟩], ?_⟩
        unfold L17_3
        exact ct (ltL_true hlt) (bs (listAt_some hi) (bs h2 (cf hneg (bs hi1 (bs hi2 (ct (eqI_t hr) (bs hi1 (bs hi2 (bs hc (ct rfl rfl))))))))))
      | true =>
        have he : x = e := hc2.1 rfl
        refine .inl ⟨M, out, stay (by omega) (fun q => q.2 he), hs, by omega, fun o h => .inl h, ?_⟩
        unfold L17_3
        refine ct (ltL_true hlt) (bs (listAt_some hi) (bs h2 (cf hneg (bs hi1 (bs hi2 (ct (eqI_t hr) (bs hi1 (bs hi2 (bs hc (cf rfl (bs hi1 (bs hi2 (cf (ltI_f (by omega)) ?_)))))))))))))
        exact fin _
    · by_cases hlt2 : x.f2 < e.f2
      · refine .inl ⟨_, out.set k e, turn hlt2, set_ok, by simp, fun o h => ?_, ?_⟩
        · rcases List.mem_or_eq_of_mem_set h with h | h
          · exact .inl h
          · exact .inr h
        · unfold L17_3
          refine ct (ltL_true hlt) (bs (listAt_some hi) (bs h2 (cf hneg (bs hi1 (bs hi2 (cf (eqI_f hr) (bs hi1 (bs hi2 (ct (ltI_t hlt2) (bs hi1 (bs hi2 ?_)))))))))))
          exact fin _
      · refine .inl ⟨M, out, stay hlt2 (fun q => hr q.1), hs, by omega, fun o h => .inl h, ?_⟩
        unfold L17_3
        refine ct (ltL_true hlt) (bs (listAt_some hi) (bs h2 (cf hneg (bs hi1 (bs hi2 (cf (eqI_f hr) (bs hi1 (bs hi2 (cf (ltI_f (by omega)) ?_)))))))))
        exact fin _
/-- The reference's loop. -/
theorem ref_loop {a b : List S33} {Ma : List (ByteArray × S33)} (ha : a.length ≤ 200) (hb : b.length ≤ 200) (hs : Same a Ma) (hoa : ∀ o ∈ a, Sml o) (hob : ∀ o ∈ b, Sml o) :
    (∃ M out, runM b Ma = some M ∧ Same out M ∧ out.length ≤ 400 ∧ (∀ o ∈ out, o ∈ a ∨ o ∈ b) ∧ iter (L17_3 b) (a, 0) = some (.inl ((b.length : Int), false, out))) ∨ (runM b Ma = none ∧ iter (L17_3 b) (a, 0) = some (.inr ())) := by
  obtain ⟨r, h2, h3⟩ := iter_upx (st := L17_3 b) (fun (out : List S33) (i : Nat) => (out, (i : Int))) b.length
    (fun i out => ∃ M, runM (b.take i) Ma = some M ∧ Same out M ∧ out.length ≤ a.length + i ∧ ∀ o ∈ out, o ∈ a ∨ o ∈ b)
    (fun r => (∃ M out, runM b Ma = some M ∧ Same out M ∧ out.length ≤ 400 ∧ (∀ o ∈ out, o ∈ a ∨ o ∈ b) ∧ r = .inl ((b.length : Int), false, out)) ∨ (runM b Ma = none ∧ r = .inr ()))
    (fun i out hi hI => by
      obtain ⟨M, h4, h5, h6, h7⟩ := hI
      have hx := List.getElem?_eq_getElem hi
      have hr : runM (b.take (i + 1)) Ma = stepM M b[i] := by
        rw [take_next hx, runM_app, h4]
        show (runM [b[i]] M) = _
        rw [runM]
        cases stepM M b[i] <;> rfl
      rcases ref_step hx (by omega) (by omega) h5 (fun o ho => (h7 o ho).elim (hoa o) (hob o)) with ⟨M', out', g1, g2, g3, g4, g5⟩ | ⟨g1, g2⟩
      · refine .inl ⟨out', g5, M', hr.trans g1, g2, by omega, fun o ho => ?_⟩
        rcases g4 o ho with h | h
        · exact h7 o h
        · exact .inr (h ▸ List.getElem_mem hi)
      · refine .inr ⟨_, g2, .inr ⟨?_, rfl⟩⟩
        have e : b = b.take (i + 1) ++ b.drop (i + 1) := (List.take_append_drop _ _).symm
        rw [e, runM_app, hr, g1]
        rfl)
    (fun out hI => by
      obtain ⟨M, h4, h5, h6, h7⟩ := hI
      rw [List.take_length] at h4
      refine ⟨.inl ((b.length : Int), false, out), ?_, .inl ⟨M, out, h4, h5, by omega, h7, rfl⟩⟩
      unfold L17_3
      simp only [ltL_false (Nat.le_refl b.length)]
      rfl) 0 a (Nat.zero_le _) ⟨Ma, rfl, hs, by omega, fun o ho => .inl ho⟩
  have h2 : iter (L17_3 b) (a, 0) = some r := h2
  rcases h3 with ⟨M, out, g1, g2, g3, g4, rfl⟩ | ⟨g1, rfl⟩
  · exact .inl ⟨M, out, g1, g2, g3, g4, h2⟩
  · exact .inr ⟨g1, h2⟩
end Go.Abs.TUM.E

set_option linter.unusedVariables false
set_option linter.unusedSimpArgs false
set_option maxRecDepth 10000
namespace Go.Abs.TUM.E
open Go.RowKit Go.Proofs Go.Abs
/-! The keys, sorted; both lists are one. -/
theorem leL_trans (a b c : List UInt8) (h1 : decide (a ≤ b) = true) (h2 : decide (b ≤ c) = true) : decide (a ≤ c) = true := by
  simp only [decide_eq_true_eq] at *
  exact List.le_trans h1 h2
theorem leL_total (a b : List UInt8) : (decide (a ≤ b) || decide (b ≤ a)) = true := by
  simp only [Bool.or_eq_true, decide_eq_true_eq]
  exact List.le_total a b
theorem sortS_of {l c : List ByteArray} (hp : l.Perm c) (hs : c.Pairwise fun a b => a.data.toList ≤ b.data.toList) : sortS l = c := by
  have h1 : (l.map fun s => s.data.toList).mergeSort (fun x y => decide (x ≤ y)) = c.map fun s => s.data.toList := by
    refine List.Perm.eq_of_pairwise (le := fun a b => decide (a ≤ b) = true) (fun a b _ _ h1 h2 => ?_) (List.pairwise_mergeSort leL_trans leL_total _) ?_ ((List.mergeSort_perm _ _).trans (hp.map _))
    · simp only [decide_eq_true_eq] at h1 h2
      exact List.le_antisymm h1 h2
    · refine List.pairwise_map.2 (hs.imp fun h => ?_)
      simpa using h
  unfold sortS
  rw [h1, List.map_map]
  conv => rhs; rw [← List.map_id c]
  exact List.map_congr_left fun s _ => rfl
theorem bl_lt : ∀ a b : List UInt8, Op.bytesLess a b = true ↔ a < b
  | [], [] => by simp [Op.bytesLess]
  | [], _ :: _ => by simp [Op.bytesLess]
  | _ :: _, [] => by simp [Op.bytesLess]
  | a :: x, b :: y => by
    rw [List.cons_lt_cons_iff, ← bl_lt x y]
    simp only [Op.bytesLess, Bool.or_eq_true, decide_eq_true_eq, Bool.and_eq_true, beq_iff_eq]
theorem ltS_lt {a b : ByteArray} : ltS a b = true ↔ a.data.toList < b.data.toList := by rw [ltS_eq, bl_lt]
theorem ba_ext {a b : ByteArray} (h : a.data.toList = b.data.toList) : a = b := ByteArray.ext (Array.toList_inj.1 h)
theorem le_lt {a b : ByteArray} (h : a.data.toList ≤ b.data.toList) (hn : a ≠ b) : ltS a b = true := by
  rw [ltS_lt]
  refine Classical.byContradiction fun h2 => hn (ba_ext (List.le_antisymm h (List.not_lt.1 h2)))
theorem sortS_spec (l : List ByteArray) (hn : l.Nodup) : (sortS l).Perm l ∧ (sortS l).Pairwise fun a b => ltS a b = true := by
  let c := l.mergeSort fun a b => decide (a.data.toList ≤ b.data.toList)
  have hp : c.Perm l := List.mergeSort_perm _ _
  have hs : c.Pairwise fun a b => a.data.toList ≤ b.data.toList := (List.pairwise_mergeSort (le := fun a b : ByteArray => decide (a.data.toList ≤ b.data.toList)) (fun a b c => leL_trans _ _ _) (fun a b => leL_total _ _) l).imp fun h => by simpa using h
  have e : sortS l = c := sortS_of hp.symm hs
  rw [e]
  have hnc : c.Nodup := hp.nodup_iff.2 hn
  exact ⟨hp, (hs.and hnc).imp fun h => le_lt h.1 h.2⟩
/-- What stands at the keys of a map, one after another. -/
theorem out_loop {M : List (ByteArray × S33)} {ns : List ByteArray} (hn : ns.length ≤ 1000) (h : ∀ k ∈ ns, ∃ e, gt M k = some e ∧ Sml e) :
    iter (L11_22 ns) (M, [], 0) = some ((ns.length : Int), false, M, ns.filterMap (gt M)) := by
  obtain ⟨r, h2, h3⟩ := iter_up (st := L11_22 ns) (fun (out : List S33) (i : Nat) => (M, out, (i : Int))) ns.length
    (fun i out => out = (ns.take i).filterMap (gt M)) (fun r => r = ((ns.length : Int), false, M, ns.filterMap (gt M)))
    (fun i out hi hI => by
      have hx := List.getElem?_eq_getElem hi
      obtain ⟨e, h4, h5, h6⟩ := h _ (List.getElem_mem hi)
      have hl : out.length ≤ i := by
        rw [hI]
        refine Nat.le_trans (List.length_filterMap_le _ _) ?_
        rw [List.length_take]
        omega
      have hc : T28 e = some e := by
        unfold T28
        refine bs (appO_eq (by simp; omega) (by simp; omega)) (bs (appO_eq (by simp; omega) (by simp; omega)) ?_)
        simp
      refine ⟨out ++ [e], ?_, ?_⟩
      · unfold L11_22
        refine ct (ltL_true hi) (bs (listAt_some hx) (bs (a := e) ?_ (bs (appO_eq (by simp; omega) (by simp; omega)) ?_)))
        · rw [show mgetB eqB M ns[i] = some e from h4]
          exact hc
        · simp only
          rw [nextI (by omega)]
      · rw [take_next hx, List.filterMap_append, hI, List.filterMap_cons_some h4]
        rfl)
    (fun out hI => ⟨((ns.length : Int), false, M, out), by
      unfold L11_22
      simp only [ltL_false (Nat.le_refl ns.length)]
      rfl, by rw [hI, List.take_length]⟩) [] rfl
  rw [h3] at h2
  exact h2
theorem cmp_spec : ∀ x y : List UInt8, Lib.compareBytes x y = if Op.bytesLess x y = true then -1 else if Op.bytesLess y x = true then 1 else 0
  | [], [] => rfl
  | [], _ :: _ => rfl
  | _ :: _, [] => rfl
  | a :: x, b :: y => by
    have ih := cmp_spec x y
    simp only [Lib.compareBytes, Op.bytesLess]
    by_cases h1 : a < b
    · simp [h1]
    · by_cases h2 : b < a
      · have h3 : ¬ a = b := fun e => by subst e; exact h1 h2
        simp [h1, h2, h3]
      · have h3 : a = b := UInt8.toNat_inj.1 (by
          have h4 := UInt8.lt_iff_toNat_lt (a := a) (b := b)
          have h5 := UInt8.lt_iff_toNat_lt (a := b) (b := a)
          rw [h4] at h1
          rw [h5] at h2
          omega)
        subst h3
        simp [h1, ih]
theorem cmpS_eq (a b : ByteArray) : cmpS a b = if ltS a b = true then -1 else if ltS b a = true then 1 else 0 := by
  unfold cmpS
  rw [cmp_spec, ltS_eq, ltS_eq]
def Up (x y : S33) : Prop := ltS x.f0 y.f0 = true
theorem Up.asym (x y : S33) (h1 : Up x y) (h2 : Up y x) : False := by
  have := ltS_trans h1 h2
  rw [ltS_irrefl] at this
  cases this
theorem sort_ref {out : List S33} (hn : (out.map (·.f0)).Nodup) (hl : out.length ≤ 1000) : ∃ l', sortO (fun x y => T41 x y) out = some l' ∧ l'.Perm out ∧ l'.Pairwise Up := by
  obtain ⟨l', h1, h2, h3⟩ := sortO_le (fun x y => T41 x y) (fun x y => ¬ Up y x) (fun x y => Classical.byContradiction fun h => Up.asym x y (Classical.not_not.1 fun h' => h (.inr h')) (Classical.not_not.1 fun h' => h (.inl h')))
    (fun x y z h1 h2 h => by
      rcases ltS_total x.f0 y.f0 with q | q | q
      · exact h2 (ltS_trans h q)
      · unfold Up at h h2
        rw [q] at h
        exact h2 h
      · exact h1 q) out (by omega) (fun x hx y hy => ⟨cmpS x.f0 y.f0, rfl, by
        rw [Classical.not_not, cmpS_eq]
        unfold Up
        by_cases c1 : ltS x.f0 y.f0 = true
        · rw [if_pos c1]; simp [c1]
        · rw [if_neg c1]
          by_cases c2 : ltS y.f0 x.f0 = true
          · rw [if_pos c2]; simp [c1]
          · rw [if_neg c2]; simp [c1]⟩)
  refine ⟨l', h1, h2, ?_⟩
  have hn' : (l'.map (·.f0)).Nodup := (h2.map _).nodup_iff.2 hn
  rw [List.Nodup, List.pairwise_map] at hn'
  exact (h3.and hn').imp fun {x y} h => by
    rcases ltS_total x.f0 y.f0 with q | q | q
    · exact q
    · exact absurd q h.2
    · exact absurd q h.1
theorem nd_keys {l : List S33} (h : l.Pairwise fun x y => ltS x.f0 y.f0 = true) : (l.map (·.f0)).Nodup := by
  rw [List.Nodup, List.pairwise_map]
  exact h.imp fun {x y} h e => by
    rw [e, ltS_irrefl] at h
    cases h
/-- What the program gives, and what the reference gives. -/
theorem both {a b : List S33} (ha : Ents a) (hb : Ents b) (hoa : ∀ o ∈ a, Sml o) (hob : ∀ o ∈ b, Sml o) (h13a : T13 a = some 0) (h13b : T13 b = some 0) :
    ∃ m e, T11 a b = some (m, e) ∧ T17 a b = some (m, e) ∧ m.length ≤ 1000 ∧ ∀ x ∈ m, Sml x := by
  have la := ha.len
  have lb := hb.len
  obtain ⟨Ma, r1, r2⟩ := run_fresh a [] (nd_keys ha.rise) (fun e he => rfl)
  have sa : Same a Ma := ⟨nd_keys ha.rise, fun e => by
    rw [r2]
    constructor
    · intro h; exact .inr ⟨h, rfl⟩
    · rintro (h | h)
      · cases h
      · exact h.1, fun k o ho => by
    rcases (r2 k o).1 ho with h | h
    · cases h
    · exact h.2.symm⟩
  have lp := all_loop (all := a ++ b) (by rw [List.length_append]; omega) (fun e he => (List.mem_append.1 he).elim (hoa e) (hob e))
  have hrun : runM (a ++ b) [] = runM b Ma := by rw [runM_app, r1]; rfl
  have e1 : iter (L11_2 a b) 0 = some (.inl (2, false)) := by
    rw [iter_inl (s' := (1 : Int)) ?_, iter_inl (s' := (2 : Int)) ?_]
    · exact iter_inr rfl
    · unfold L11_2
      exact ct rfl (bs (a := b) rfl (bs h13b (cf (neI_no _) rfl)))
    · unfold L11_2
      exact ct rfl (bs (a := a) rfl (bs h13a (cf (neI_no _) rfl)))
  have cat : T24 [a, b] = some (a ++ b) := by
    have h1 : iter (L24_3 [a, b]) (0, 0) = some (((a.length + b.length : Nat) : Int), 2, false) := by
      have e1 : addI .i64 0 (lenL a) = ((a.length : Nat) : Int) := by rw [lenL_eq, addI_eq (by omega) (by omega)]; omega
      have e2 : addI .i64 ((a.length : Nat) : Int) (lenL b) = ((a.length + b.length : Nat) : Int) := by rw [lenL_eq, addI_eq (by omega) (by omega)]; omega
      rw [iter_inl (s' := (((a.length : Nat) : Int), 1)) ?_, iter_inl (s' := (((a.length + b.length : Nat) : Int), 2)) ?_]
      · exact iter_inr rfl
      · unfold L24_3
        refine ct rfl (bs (a := b) rfl (cf ?_ ?_))
        · simp only [e2]; exact ltI_f (by omega)
        · simp only [e2]; rfl
      · unfold L24_3
        refine ct rfl (bs (a := a) rfl (cf ?_ ?_))
        · simp only [e1]; exact ltI_f (by omega)
        · simp only [e1]; rfl
    have h2 : iter (L24_11 [a, b]) ([], 0) = some (2, false, a ++ b) := by
      rw [iter_inl (s' := (a, 1)) ?_, iter_inl (s' := (a ++ b, 2)) ?_]
      · exact iter_inr rfl
      · unfold L24_11
        refine ct rfl (bs (a := b) rfl (bs (appO_eq (by simp only; omega) (by simp only; omega)) ?_))
        rfl
      · unfold L24_11
        refine ct rfl (bs (a := a) rfl (bs (appO_eq (by simp; omega) (by simp; omega)) ?_))
        rfl
    unfold T24
    refine bs h1 (bs (a := []) ?_ (bs h2 rfl))
    unfold growO
    rw [if_pos ⟨by omega, by simp only [Int.toNat_natCast]; omega, by omega⟩]
  have ap : appO 152 ([] : List S33) a = some a := by rw [appO_eq (by simp; omega) (by simp; omega)]; rfl
  rcases ref_loop la lb sa hoa hob with ⟨M, out, g1, g2, g3, g4, g5⟩ | ⟨g1, g2⟩
  · rw [hrun, g1] at lp
    have hnM : (M.map (·.1)).Nodup := run_nodup b g1 (run_nodup a r1 List.nodup_nil)
    have hlM : M.length ≤ 400 := by
      have h1 := run_len b g1
      have h2 := run_len a r1
      simp only [List.length_nil] at h2
      omega
    have hkey : ∀ k, k ∈ M.map (·.1) ↔ k ∈ out.map (·.f0) := fun k => by
      rw [← gt_keys, Option.isSome_iff_exists, List.mem_map]
      constructor
      · rintro ⟨o, ho⟩
        have hk := g2.key k o ho
        exact ⟨o, (g2.mem o).2 (by rw [hk]; exact ho), hk⟩
      · rintro ⟨o, ho, rfl⟩
        exact ⟨o, (g2.mem o).1 ho⟩
    have hlen : M.length = out.length := by
      have := ((List.perm_ext_iff_of_nodup hnM g2.nd).2 hkey).length_eq
      simpa using this
    obtain ⟨l', s1, s2, s3⟩ := sort_ref g2.nd (by omega)
    have hl' : l'.length = out.length := s2.length_eq
    have hok : ∀ x ∈ out, entF x = 0 := fun x hx => (g4 x hx).elim (ha.ok x) (hb.ok x)
    have hso : ∀ x ∈ out, Sml x := fun x hx => (g4 x hx).elim (hoa x) (hob x)
    unfold T11 T17
    by_cases hbig : 200 < M.length
    · refine ⟨[], 2, ?_, ?_, by simp, fun x hx => by cases hx⟩
      · exact bs e1 (bs cat (bs lp (ct (ltI_t (by rw [lenL_eq]; simp only; omega)) rfl)))
      · exact bs ap (bs g5 (bs s1 (ct (ltI_t (by rw [lenL_eq]; omega)) rfl)))
    · obtain ⟨p1, p2⟩ := sortS_spec (M.map (·.1)) hnM
      have hns : (sortS (M.map (·.1))).length ≤ 1000 := by rw [p1.length_eq, List.length_map]; omega
      have names : sortSO M = some (sortS (M.map (·.1))) := by
        have hsz : ∀ p ∈ M, p.1.size ≤ 1000000 := fun p hp => by
          obtain ⟨o, ho, e⟩ := List.mem_map.1 ((hkey p.1).1 (List.mem_map.2 ⟨p, hp, rfl⟩))
          have h1 := entF_key (hok o ho)
          have e : o.f0 = p.1 := e
          rw [← e]
          unfold key at h1
          rw [Bool.and_eq_true, leI_iff, decide_eq_true_eq, lenS_eq] at h1
          have := h1.2
          omega
        unfold sortSO
        rw [if_pos ⟨by omega, hsz⟩]
      have ol := out_loop (M := M) (ns := sortS (M.map (·.1))) hns (fun k hk => by
        have h1 := (hkey k).1 (p1.mem_iff.1 hk)
        obtain ⟨o, ho, rfl⟩ := List.mem_map.1 h1
        exact ⟨o, (g2.mem o).1 ho, hso o ho⟩)
      have heq : (sortS (M.map (·.1))).filterMap (gt M) = l' := by
        refine sorted_one Up.asym _ _ ?_ s3 (fun x => ?_)
        · rw [List.pairwise_filterMap]
          refine p2.imp fun {k k'} hk x hx y hy => ?_
          have h1 := g2.key k x hx
          have h2 := g2.key k' y hy
          unfold Up
          rw [h1, h2]
          exact hk
        · rw [s2.mem_iff, g2.mem x, List.mem_filterMap]
          constructor
          · rintro ⟨k, hk, hx⟩
            rw [g2.key k x hx]
            exact hx
          · intro hx
            exact ⟨x.f0, p1.mem_iff.2 ((gt_keys M x.f0).1 (by rw [hx]; rfl)), hx⟩
      rw [heq] at ol
      refine ⟨l', 0, ?_, ?_, by omega, fun x hx => hso x (s2.mem_iff.1 hx)⟩
      · exact bs e1 (bs cat (bs lp (cf (ltI_f (by rw [lenL_eq]; simp only; omega)) (bs rfl (bs names (bs ol rfl))))))
      · exact bs ap (bs g5 (bs s1 (cf (ltI_f (by rw [lenL_eq]; omega)) rfl)))
  · rw [hrun, g1] at lp
    unfold T11 T17
    refine ⟨[], 13, ?_, ?_, by simp, fun x hx => by cases hx⟩
    · exact bs e1 (bs cat (bs lp rfl))
    · exact bs ap (bs g2 rfl)
/-- A list is the same as itself. -/
theorem T18_self (l : List S33) (h : l.length ≤ 1048576) (hs : ∀ x ∈ l, Sml x) : T18 l l = some true := by
  unfold T18
  refine cf (neI_no _) ?_
  obtain ⟨r, h2, h3⟩ := iter_up (st := L18_4 l l) (fun (_ : Unit) (i : Nat) => (i : Int)) l.length (fun _ _ => True) (fun r => ∃ x, r = .inl x)
    (fun i s hi _ => by
      have hx := List.getElem?_eq_getElem hi
      obtain ⟨b, h4, h5⟩ := T19_dec l[i] l[i] (hs _ (List.getElem_mem hi)).1 (hs _ (List.getElem_mem hi)).2
      have : b = true := h5.2 rfl
      subst this
      refine ⟨(), ?_, trivial⟩
      unfold L18_4
      refine ct (ltL_true hi) (bs (listAt_some hx) (bs (listAt_some hx) (bs h4 (cf rfl ?_))))
      rw [nextI (by omega)])
    (fun s _ => ⟨.inl ((l.length : Int), false), by
      unfold L18_4
      rw [ltL_false (Nat.le_refl _)]
      rfl, _, rfl⟩) () trivial
  obtain ⟨x, rfl⟩ := h3
  exact bs h2 rfl
end Go.Abs.TUM.E

set_option linter.unusedVariables false
set_option linter.unusedSimpArgs false
set_option maxRecDepth 10000
namespace Go.Abs.TUM
open Go.RowKit
theorem sml {x : S33} (h : ok33 1048576 x) : E.Sml x := ⟨h.2.2.2.2.2.2.2.1.1, h.2.2.2.2.2.2.2.2.2.2.2.1.1⟩
theorem T6_eq (p0 p1 : List S33) (p2 : S24) (h0 : p0.length ≤ 1048576 ∧ ∀ x ∈ p0, ok33 1048576 x) (h1 : p1.length ≤ 1048576 ∧ ∀ x ∈ p1, ok33 1048576 x) (h2 : ok24 1048576 p2) : T6 p0 p1 p2 = some true := by
  have a0 := T13_eq p0 h0.1 h0.2
  have a1 := T13_eq p1 h1.1 h1.2
  have b0 := T12_eq p0 h0.1 h0.2
  have b1 := T12_eq p1 h1.1 h1.2
  have two := T49_two (entsF p0) (entsF p1)
  have nil : T18 [] [] = some true := E.T18_self [] (by simp) (fun x hx => by cases hx)
  have key : ∃ m e, T11 p0 p1 = some (m, e) ∧ ((eqI (bif neI (entsF p0) 0 then entsF p0 else entsF p1) 0 = true ∧ T17 p0 p1 = some (m, e) ∧ T18 m m = some true) ∨ (eqI (bif neI (entsF p0) 0 then entsF p0 else entsF p1) 0 = false ∧ m = [] ∧ e = bif neI (entsF p0) 0 then entsF p0 else entsF p1)) := by
    by_cases z0 : entsF p0 = 0
    · by_cases z1 : entsF p1 = 0
      · obtain ⟨m, e, g1, g2, g3, g4⟩ := E.both (entsF_ok z0) (entsF_ok z1) (fun o ho => sml (h0.2 o ho)) (fun o ho => sml (h1.2 o ho)) (by rw [a0, z0]) (by rw [a1, z1])
        exact ⟨m, e, g1, .inl ⟨by rw [z0, z1]; rfl, g2, E.T18_self m (by omega) g4⟩⟩
      · refine ⟨[], entsF p1, ?_, .inr ⟨?_, rfl, ?_⟩⟩
        · unfold T11
          refine bs (a := .inr (entsF p1)) ?_ rfl
          rw [iter_inl (s' := (1 : Int)) ?_, iter_inr (r := .inr (entsF p1)) ?_]
          · unfold L11_2
            exact ct rfl (bs (a := p1) rfl (bs a1 (ct (neI_t z1) rfl)))
          · unfold L11_2
            exact ct rfl (bs (a := p0) rfl (bs a0 (cf (neI_f z0) rfl)))
        · rw [neI_f z0]; exact eqI_f z1
        · rw [neI_f z0]; rfl
    · refine ⟨[], entsF p0, ?_, .inr ⟨?_, rfl, ?_⟩⟩
      · unfold T11
        refine bs (a := .inr (entsF p0)) ?_ rfl
        rw [iter_inr (r := .inr (entsF p0)) ?_]
        unfold L11_2
        exact ct rfl (bs (a := p0) rfl (bs a0 (ct (neI_t z0) rfl)))
      · rw [neI_t z0]; exact eqI_f z0
      · rw [neI_t z0]; rfl
  obtain ⟨m, e, g1, g2⟩ := key
  unfold T6
  refine bs g1 (bs b0 (bs a0 (cf (neI_no _) (bs (T14_eq p2 h2) (bs (T15_eq p2 h2) (cf (neI_no _) (bs b1 (bs two ?_))))))))
  rcases g2 with ⟨q1, q2, q3⟩ | ⟨q1, rfl, rfl⟩
  · exact ct q1 (bs q2 (ct (eqI_self _) (bs q3 (ct rfl (bs T20_eq rfl)))))
  · exact cf q1 (ct (eqI_self _) (bs nil (ct rfl (bs T20_eq rfl))))
theorem plain (p0 : (List S33)) (p1 : (List S33)) (p2 : S24) (h0 : (p0.length ≤ 1048576 ∧ ∀ x ∈ p0, ok33 1048576 x)) (h1 : (p1.length ≤ 1048576 ∧ ∀ x ∈ p1, ok33 1048576 x)) (h2 : ok24 1048576 p2) : T3 p0 p1 p2 = some true := by
  have ho : ∀ x ∈ [p2], ok24 1048576 x := by simpa using h2
  unfold T3
  exact bs (T4_eq p0 h0.1 h0.2) (bs (T4_eq p1 h1.1 h1.2) (bs (T5_eq [p2] (by simp) ho) (bs rfl (bs rfl (bs (T6_eq p0 p1 p2 h0 h1 h2) (ct rfl (bs (T24_self p0 h0.1 h0.2) (ct rfl (bs (T24_self p1 h1.1 h1.2) (ct rfl (bs (T23_self [p2] (by simp) ho) rfl)))))))))))
end Go.Abs.TUM
