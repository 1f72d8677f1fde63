import Derived.Test.YtnaibaifmnjpnaaETER
import Derived.Test.YtnaibaifmnjpnaaEPl
set_option linter.unusedVariables false
set_option linter.unusedSimpArgs false
namespace Go.Abs.TE
open Go.RowKit
/-! Keys. -/
def wc (x : Int) : Bool := (leI 97 x && leI x 122) || ((leI 48 x && leI x 57) || eqI x 45 || eqI x 95)
def okAt (i : Nat) (c : UInt8) : Bool := (leI 97 c.toNat && leI c.toNat 122) || (ltI 0 i && ((leI 48 c.toNat && leI c.toNat 57) || eqI c.toNat 45 || eqI c.toNat 95))
def key (s : ByteArray) : Bool := ((by_ s).zipIdx.all fun q => okAt q.2 q.1) && !eqS s (ByteArray.mk #[]) && leI (lenS s) 40
theorem T137_eq (s : ByteArray) (h : s.size ≤ 1048576) : T137 s = some (key s) := by
  have hi : iter (L137_2 s) ((0 : Nat) : Int) = some (Sum.elim (fun _ : Unit => .inl ((s.size : Int), false)) (fun _ : Unit => .inr ()) (wp (fun i (_ : Unit) x => bif okAt i x then (.inl () : Unit ⊕ Unit) else .inr ()) 0 () (by_ s))) := by
    refine iter_wpS (fun _ i => (i : Int)) _ _ s _ (fun _ _ => True) (fun i u x hx _ => ⟨?_, fun _ _ => trivial⟩) (fun u _ => ?_) () trivial
    · have hlt : i < s.size := by rw [← by_len]; exact (List.getElem?_eq_some_iff.1 hx).1
      have h1 : ltI (i : Int) (lenS s) = true := by rw [ltI_iff, lenS_eq]; simpa using hlt
      have h2 : addI .i64 (i : Int) 1 = ((i + 1 : Nat) : Int) := by rw [addI_eq (by omega) (by omega)]; omega
      simp only [L137_2, h1, cond_true, byteAt_some hx, Option.bind_some, h2, okAt]
      generalize leI 97 (x.toNat : Int) = b1
      generalize leI (x.toNat : Int) 122 = b2
      generalize ltI 0 (i : Int) = b3
      generalize leI 48 (x.toNat : Int) = b4
      generalize leI (x.toNat : Int) 57 = b5
      generalize eqI (x.toNat : Int) 45 = b6
      generalize eqI (x.toNat : Int) 95 = b7
      cases b1 <;> cases b2 <;> cases b3 <;> cases b4 <;> cases b5 <;> cases b6 <;> cases b7 <;> rfl
    · have h1 : ltI (s.size : Int) (lenS s) = false := by rw [ltI_iff, lenS_eq]; simp
      simp only [L137_2, h1, cond_false]
  unfold T137
  rw [show (0 : Int) = ((0 : Nat) : Int) from rfl, hi, wp_all okAt, elim_cond, Option.bind_some]
  unfold key
  cases (by_ s).zipIdx.all fun q => okAt q.2 q.1 <;> cases eqS s (ByteArray.mk #[]) <;> rfl
def smalls : ByteArray := ByteArray.mk #[97, 98, 99, 100, 101, 102, 103, 104, 105, 106, 107, 108, 109, 110, 111, 112, 113, 114, 115, 116, 117, 118, 119, 120, 121, 122]
def words : ByteArray := ByteArray.mk #[97, 98, 99, 100, 101, 102, 103, 104, 105, 106, 107, 108, 109, 110, 111, 112, 113, 114, 115, 116, 117, 118, 119, 120, 121, 122, 48, 49, 50, 51, 52, 53, 54, 55, 56, 57, 45, 95]
theorem T143_eq (s t : ByteArray) (h : s.size ≤ 1048576) : T143 s t = some ((by_ s).all fun c => !ltI (idxB t c.toNat) 0) := by
  have hi : iter (L143_2 s t) ((0 : Nat) : Int) = some (Sum.elim (fun _ : Unit => .inl ((s.size : Int), false)) (fun _ : Unit => .inr ()) (wp (fun i (_ : Unit) (x : UInt8) => bif !ltI (idxB t x.toNat) 0 then (.inl () : Unit ⊕ Unit) else .inr ()) 0 () (by_ s))) := by
    refine iter_wpS (fun _ i => (i : Int)) _ _ s _ (fun _ _ => True) (fun i u x hx _ => ⟨?_, fun _ _ => trivial⟩) (fun u _ => ?_) () trivial
    · have hlt : i < s.size := by rw [← by_len]; exact (List.getElem?_eq_some_iff.1 hx).1
      have h1 : ltI (i : Int) (lenS s) = true := by rw [ltI_iff, lenS_eq]; simpa using hlt
      have h2 : addI .i64 (i : Int) 1 = ((i + 1 : Nat) : Int) := by rw [addI_eq (by omega) (by omega)]; omega
      simp only [L143_2, T222, h1, cond_true, byteAt_some hx, Option.bind_some, h2]
      cases ltI (idxB t (x.toNat : Int)) 0 <;> rfl
    · have h1 : ltI (s.size : Int) (lenS s) = false := by rw [ltI_iff, lenS_eq]; simp
      simp only [L143_2, h1, cond_false]
  unfold T143
  rw [show (0 : Int) = ((0 : Nat) : Int) from rfl, hi, wp_all', elim_cond, Option.bind_some]
  cases (by_ s).all fun c => !ltI (idxB t (c.toNat : Int)) 0 <;> rfl
theorem smalls_idx : ∀ n : Fin 256, (!ltI (Lib.indexByte (by_ smalls) (UInt8.ofNat n.val)) 0) = (leI 97 n.val && leI n.val 122) := by decide +kernel
theorem words_idx : ∀ n : Fin 256, (!ltI (Lib.indexByte (by_ words) (UInt8.ofNat n.val)) 0) = wc n.val := by decide +kernel
theorem smalls_at (c : UInt8) : (!ltI (idxB smalls c.toNat) 0) = (leI 97 c.toNat && leI c.toNat 122) := by
  have := smalls_idx ⟨c.toNat, c.toNat_lt⟩
  simpa [idxB] using this
theorem words_at (c : UInt8) : (!ltI (idxB words c.toNat) 0) = wc c.toNat := by
  have := words_idx ⟨c.toNat, c.toNat_lt⟩
  simpa [idxB] using this
theorem okAt_pos {i : Nat} (h : 1 ≤ i) (c : UInt8) : okAt i c = wc c.toNat := by
  have : ltI 0 (i : Int) = true := by rw [ltI_iff]; simp; omega
  simp only [okAt, wc, this, Bool.true_and]
theorem okAt_all (l : List UInt8) (k : Nat) (h : 1 ≤ k) : ((l.zipIdx k).all fun q => okAt q.2 q.1) = l.all fun c => wc c.toNat := by
  induction l generalizing k with
  | nil => rfl
  | cons a l ih => simp only [List.zipIdx_cons, List.all_cons, okAt_pos h, ih (k + 1) (by omega)]
theorem eqS_empty {s : ByteArray} (h : s.size ≠ 0) : eqS s (ByteArray.mk #[]) = false := by
  rw [eqS_iff]
  simp only [decide_eq_false_iff_not]
  intro e
  rw [e] at h
  exact h rfl
theorem T132_eq (a b c : Int) : T132 a b c = some (leI b a && leI a c) := by
  unfold T132
  cases leI b a <;> rfl
theorem T51_eq (s : ByteArray) (h : s.size ≤ 1048576) : T51 s = some (key s) := by
  unfold T51
  rw [T132_eq, Option.bind_some]
  have hlen := by_len s
  rcases hb : by_ s with _ | ⟨c, l⟩
  · rw [hb] at hlen
    have h0 : s.size = 0 := hlen.symm
    have h1 : leI 1 (lenS s) = false := by rw [leI_iff, lenS_eq, h0]; rfl
    have h2 : eqS s (ByteArray.mk #[]) = true := by
      rw [eqS_iff]; simp only [decide_eq_true_eq]; exact by_inj hb
    unfold key
    rw [h1, h2, Bool.false_and, cond_false]
    simp
  · rw [hb, List.length_cons] at hlen
    have h1 : leI 1 (lenS s) = true := by rw [leI_iff, lenS_eq]; simp; omega
    have h2 : eqS s (ByteArray.mk #[]) = false := eqS_empty (by omega)
    have h3 : cutS s none (some 1) = some (s.extract 0 1) := by
      have : (1 : Int) ≤ (s.size : Int) := by omega
      simp [cutS, cutB, this]
    have h4 : by_ (s.extract 0 1) = [c] := by rw [by_extract, hb]; rfl
    have h5 : (s.extract 0 1).size ≤ 1048576 := by rw [← by_len, h4]; simp
    have h6 := T143_eq (s.extract 0 1) smalls h5
    have h7 := T143_eq s words h
    unfold smalls at h6
    unfold words at h7
    rw [h1, h3, Bool.true_and, Option.bind_some, h6, h4, h7, hb]
    simp only [Option.bind_some, List.all_cons, List.all_nil, Bool.and_true]
    have h8 : (!ltI (idxB (ByteArray.mk #[97, 98, 99, 100, 101, 102, 103, 104, 105, 106, 107, 108, 109, 110, 111, 112, 113, 114, 115, 116, 117, 118, 119, 120, 121, 122]) c.toNat) 0) = (leI 97 c.toNat && leI c.toNat 122) := smalls_at c
    have h9 : ∀ c : UInt8, (!ltI (idxB (ByteArray.mk #[97, 98, 99, 100, 101, 102, 103, 104, 105, 106, 107, 108, 109, 110, 111, 112, 113, 114, 115, 116, 117, 118, 119, 120, 121, 122, 48, 49, 50, 51, 52, 53, 54, 55, 56, 57, 45, 95]) c.toNat) 0) = wc c.toNat := words_at
    simp only [h8, h9]
    unfold key
    have h10 : okAt 0 c = (leI 97 c.toNat && leI c.toNat 122) := by simp [okAt, ltI]
    rw [h2, hb, List.zipIdx_cons, List.all_cons, okAt_all l _ (by omega), h10]
    unfold wc
    cases leI 97 (c.toNat : Int) <;> cases leI (c.toNat : Int) 122 <;> cases (l.all fun c => (leI 97 (c.toNat : Int) && leI (c.toNat : Int) 122) || ((leI 48 (c.toNat : Int) && leI (c.toNat : Int) 57) || eqI (c.toNat : Int) 45 || eqI (c.toNat : Int) 95)) <;> cases leI (lenS s) 40 <;> rfl
theorem key_pos {s : ByteArray} (h : key s = true) : s.size ≠ 0 := by
  intro h0
  unfold key at h
  have : eqS s (ByteArray.mk #[]) = true := by
    rw [eqS_iff]; simp only [decide_eq_true_eq]
    apply by_inj
    exact List.eq_nil_of_length_eq_zero (by rw [by_len]; exact h0)
  rw [this] at h
  simp at h
/-! Strings, and how they are ordered. -/
theorem leS_empty {s : ByteArray} (h : s.size ≠ 0) : leS s (ByteArray.mk #[]) = false := by
  unfold leS
  rw [eqS_empty h, ltS_eq]
  cases hb : by_ s with
  | nil => rfl
  | cons c l => rfl
/-! Tags. -/
def risF (_ : Nat) (last : ByteArray) (x : ByteArray) : ByteArray ⊕ Int := bif !key x then .inr 5 else bif leS x last then .inr 7 else .inl x
def tagsF (l : List ByteArray) : Int := bif ltI 20 (lenL l) then 2 else Sum.elim (fun _ => 0) id (wp risF 0 (ByteArray.mk #[]) l)
def Prev {α : Type} (l : List α) (k : α → ByteArray) (i : Nat) (s : ByteArray) : Prop := (i = 0 ∧ s = ByteArray.mk #[]) ∨ ∃ x, 0 < i ∧ l[i - 1]? = some x ∧ s = k x
theorem T225_eq (l : List ByteArray) (h : l.length ≤ 1048576) (hs : ∀ x ∈ l, x.size ≤ 1048576) : T225 l = some (Sum.elim (fun _ => 0) id (wp risF 0 (ByteArray.mk #[]) l)) := by
  have hi : iter (L225_2 l) ((0 : Nat) : Int) = some (Sum.elim (fun _ => .inl ((l.length : Int), false)) (fun r => .inr r) (wp risF 0 (ByteArray.mk #[]) l)) := by
    refine iter_wp (fun _ i => (i : Int)) _ _ l risF (Prev l id) (fun i u x hx hI => ?_) (fun u _ => ?_) _ (.inl ⟨rfl, rfl⟩)
    · have hlt : i < l.length := (List.getElem?_eq_some_iff.1 hx).1
      have h1 : ltI (i : Int) (lenL l) = true := by rw [ltI_iff, lenL_eq]; simpa using hlt
      have h2 : addI .i64 (i : Int) 1 = ((i + 1 : Nat) : Int) := by rw [addI_eq (by omega) (by omega)]; omega
      have h3 := T137_eq x (hs x (List.mem_of_getElem? hx))
      refine ⟨?_, fun s' hf => ?_⟩
      · simp only [L225_2, h1, cond_true, listAt_some hx, Option.bind_some, h3, h2, risF]
        cases hk : key x with
        | false => rfl
        | true =>
          simp only [Bool.not_true, cond_false]
          rcases hI with ⟨rfl, rfl⟩ | ⟨y, hi0, hy, hu⟩
          · have h4 : ltI 0 ((0 : Nat) : Int) = false := rfl
            rw [h4, leS_empty (key_pos hk)]
            rfl
          · have h4 : ltI 0 (i : Int) = true := by rw [ltI_iff]; simp; omega
            have h5 : subI .i64 (i : Int) 1 = ((i - 1 : Nat) : Int) := by rw [subI_eq (by omega) (by omega)]; omega
            rw [h4, h5, listAt_some hy, hu]
            simp only [cond_true, Option.bind_some, leS, id]
            cases (ltS x y || eqS x y) <;> rfl
      · refine .inr ⟨x, by omega, by simpa using hx, ?_⟩
        unfold risF at hf
        cases hk : key x <;> rw [hk] at hf
        · cases hf
        · simp only [Bool.not_true, cond_false] at hf
          cases hl : leS x u <;> rw [hl] at hf
          · exact (Sum.inl.inj hf).symm
          · cases hf
    · have h1 : ltI (l.length : Int) (lenL l) = false := by rw [ltI_iff, lenL_eq]; simp
      simp only [L225_2, h1, cond_false]
  unfold T225
  rw [show (0 : Int) = ((0 : Nat) : Int) from rfl, hi, Option.bind_some]
  cases wp risF 0 (ByteArray.mk #[]) l <;> rfl
theorem listAt_mem {α : Type} {l : List α} {i : Int} {x : α} (h : listAt l i = some x) : x ∈ l := by
  unfold listAt at h
  split at h
  · exact List.mem_of_getElem? h
  · cases h
theorem T226_eq (l : List ByteArray) (h : l.length ≤ 1048576) (hs : ∀ x ∈ l, x.size ≤ 1048576) : T226 l = some (Sum.elim (fun _ => 0) id (wp risF 0 (ByteArray.mk #[]) l)) := by
  rw [← T225_eq l h hs]
  have : L226_2 l = L225_2 l := by
    funext z
    unfold L226_2 L225_2
    cases hx : listAt l z with
    | none => rfl
    | some x => simp only [Option.bind_some, T51_eq x (hs x (listAt_mem hx)), T137_eq x (hs x (listAt_mem hx))]
  unfold T226 T225
  rw [this]
theorem T234_eq (l : List ByteArray) (h : l.length ≤ 1048576) (hs : ∀ x ∈ l, x.size ≤ 1048576) : T234 l = some (tagsF l) := by
  unfold T234 tagsF
  rw [T225_eq l h hs]
  cases ltI 20 (lenL l) <;> rfl
theorem T149_eq (l : List ByteArray) (h : l.length ≤ 1048576) (hs : ∀ x ∈ l, x.size ≤ 1048576) : T149 l = some (tagsF l) := by
  unfold T149 tagsF
  rw [T226_eq l h hs]
  cases ltI 20 (lenL l) <;> rfl
def outB (a b c : Int) : Bool := ltI a b || ltI c a
theorem T126_eq (a b c : Int) : T126 a b c = some (outB a b c) := by
  unfold T126 outB
  cases ltI a b <;> rfl
theorem ltI_not (a b : Int) : ltI a b = !leI b a := by
  rw [ltI_iff, leI_iff, Bool.eq_iff_iff]; simp
theorem leI_not (a b : Int) : leI a b = !ltI b a := by
  rw [ltI_iff, leI_iff, Bool.eq_iff_iff]; simp
theorem inB (a b c : Int) : (leI b a && leI a c) = !outB a b c := by
  unfold outB
  rw [ltI_not a b, ltI_not c a]
  cases leI b a <;> cases leI a c <;> rfl
theorem wp_true {α : Type} (i : Nat) (l : List α) : (wp (fun _ (_ : Unit) (_ : α) => (.inl () : Unit ⊕ Unit)) i () l) = .inl () := by
  induction l generalizing i with
  | nil => rfl
  | cons a l ih => exact ih (i + 1)
theorem T69_self (l : List ByteArray) (h : l.length ≤ 1048576) : T69 l l = some true := by
  have hi : iter (L69_4 l l) ((0 : Nat) : Int) = some (Sum.elim (fun _ => .inl ((l.length : Int), false)) (fun r => .inr r) (wp (fun _ (_ : Unit) (_ : ByteArray) => (.inl () : Unit ⊕ Unit)) 0 () l)) := by
    refine iter_wp (fun _ i => (i : Int)) _ _ l _ (fun _ _ => True) (fun i u x hx _ => ⟨?_, fun _ _ => trivial⟩) (fun u _ => ?_) _ trivial
    · have hlt : i < l.length := (List.getElem?_eq_some_iff.1 hx).1
      have h1 : ltI (i : Int) (lenL l) = true := by rw [ltI_iff, lenL_eq]; simpa using hlt
      have h2 : addI .i64 (i : Int) 1 = ((i + 1 : Nat) : Int) := by rw [addI_eq (by omega) (by omega)]; omega
      simp only [L69_4, h1, cond_true, listAt_some hx, Option.bind_some, h2, eqS_self, Bool.not_true, cond_false]
    · have h1 : ltI (l.length : Int) (lenL l) = false := by rw [ltI_iff, lenL_eq]; simp
      simp only [L69_4, h1, cond_false]
  have h3 : neI (lenL l) (lenL l) = false := by rw [neI_iff]; simp
  unfold T69
  rw [show (0 : Int) = ((0 : Nat) : Int) from rfl, hi, wp_true, h3]
  rfl
theorem eqI_self (a : Int) : eqI a a = true := by rw [eqI_iff]; simp
def Rising (l : List ByteArray) : Prop := ∀ (i j : Nat) (x y : ByteArray), i < j → l[i]? = some x → l[j]? = some y → ltS x y = true
theorem wp_rising : ∀ (l : List ByteArray) (i : Nat) (last s : ByteArray), wp risF i last l = .inl s → (∀ x ∈ l, ltS last x = true) ∧ Rising l
  | [], i, last, s, _ => ⟨by simp, fun i j x y _ h => by simp at h⟩
  | a :: l, i, last, s, h => by
    simp only [wp] at h
    cases hf : risF i last a with
    | inr r => rw [hf] at h; cases h
    | inl s' =>
      rw [hf] at h
      have h1 : s' = a ∧ leS a last = false := by
        unfold risF at hf
        cases hk : key a <;> rw [hk] at hf
        · cases hf
        · simp only [Bool.not_true, cond_false] at hf
          cases hl : leS a last <;> rw [hl] at hf
          · exact ⟨(Sum.inl.inj hf).symm, rfl⟩
          · cases hf
      obtain ⟨rfl, h2⟩ := h1
      obtain ⟨h3, h4⟩ := wp_rising l (i + 1) s' s h
      have h5 := leS_false.1 h2
      refine ⟨fun x hx => ?_, fun i j x y hij hx hy => ?_⟩
      · rcases List.mem_cons.1 hx with rfl | hx
        · exact h5
        · exact ltS_trans h5 (h3 x hx)
      · cases i with
        | zero =>
          cases j with
          | zero => omega
          | succ j =>
            simp only [List.getElem?_cons_zero, Option.some.injEq, List.getElem?_cons_succ] at hx hy
            subst hx
            exact h3 y (List.mem_of_getElem? hy)
        | succ i =>
          cases j with
          | zero => omega
          | succ j =>
            simp only [List.getElem?_cons_succ] at hx hy
            exact h4 i j x y (by omega) hx hy
theorem neI_false {a b : Int} : neI a b = false ↔ a = b := by rw [neI_iff]; simp
theorem tagsF_rising {l : List ByteArray} (h : tagsF l = 0) : Rising l := by
  unfold tagsF at h
  cases h1 : ltI 20 (lenL l) <;> rw [h1] at h
  · simp only [cond_false] at h
    cases hw : wp risF 0 (ByteArray.mk #[]) l with
    | inl s => exact (wp_rising l 0 _ s hw).2
    | inr r =>
      rw [hw] at h
      exfalso
      have : ∀ (l : List ByteArray) (i : Nat) (u : ByteArray) (r : Int), wp risF i u l = .inr r → r = 5 ∨ r = 7 := by
        intro l
        induction l with
        | nil => intro i u r h; cases h
        | cons a l ih =>
          intro i u r h
          simp only [wp] at h
          cases hf : risF i u a with
          | inl s => rw [hf] at h; exact ih _ _ _ h
          | inr q =>
            rw [hf] at h
            cases h
            unfold risF at hf
            cases hk : key a <;> rw [hk] at hf
            · cases hf; exact .inl rfl
            · simp only [Bool.not_true, cond_false] at hf
              cases hl : leS a u <;> rw [hl] at hf
              · cases hf
              · cases hf; exact .inr rfl
      have h2 : r = 0 := h
      rcases this l 0 _ r hw with h3 | h3 <;> omega
  · cases h
theorem T266_eq (x t : ByteArray) : T266 x t = some (ltS x t) := by
  unfold T266 T270
  rw [eqS_self]
  rfl
theorem T267_eq (x : ByteArray) : T267 x = some false := by
  unfold T267
  rw [eqS_self]
  rfl
theorem half_eq {a b : Nat} (h : a + b ≤ 4611686018427387904) : cvI .i64 (shrI (cvI .u64 (addI .i64 (a : Int) (b : Int))) 1) = (((a + b) / 2 : Nat) : Int) := by
  have h1 : addI .i64 (a : Int) (b : Int) = ((a + b : Nat) : Int) := by rw [addI_eq (by omega) (by omega)]; omega
  have h2 : cvI .u64 ((a + b : Nat) : Int) = ((a + b : Nat) : Int) := by
    unfold cvI IntKind.wrap
    simp only [IntKind.bits, IntKind.signed, Bool.false_and, Bool.false_eq_true, if_false]
    omega
  have h3 : shrI ((a + b : Nat) : Int) 1 = (((a + b) / 2 : Nat) : Int) := by
    unfold shrI
    rw [Int.fdiv_eq_ediv_of_nonneg _ (by decide)]
    omega
  rw [h1, h2, h3, cvI_eq (by omega) (by omega)]
theorem T227_eq (l : List ByteArray) (t : ByteArray) (h : l.length ≤ 1048576) (hr : Rising l) : ∃ i, T227 l t = some (i, l.any fun x => eqS x t) := by
  have hi : ∃ r, iter (L227_3 l t) (((0 : Nat) : Int), (l.length : Int)) = some r ∧ ∃ k : Nat, r.1 = (k : Int) ∧ k ≤ l.length ∧ (∀ i x, i < k → l[i]? = some x → ltS x t = true) ∧ (∀ i x, k ≤ i → l[i]? = some x → ltS x t = false) := by
    refine iter_meas (fun z => ∃ a b : Nat, z = ((a : Int), (b : Int)) ∧ a ≤ b ∧ b ≤ l.length ∧ (∀ i x, i < a → l[i]? = some x → ltS x t = true) ∧ (∀ i x, b ≤ i → l[i]? = some x → ltS x t = false)) (fun z => (z.2 - z.1).toNat) _ ?_ _ ⟨0, l.length, rfl, by omega, by omega, fun i x hi => by omega, fun i x hi hx => ?_⟩
    · rintro _ ⟨a, b, rfl, hab, hb, h1, h2⟩
      by_cases hlt : a < b
      · left
        have h3 : ltI (a : Int) (b : Int) = true := by rw [ltI_iff]; simp; omega
        have hm : (a + b) / 2 < l.length := by omega
        have hx := List.getElem?_eq_getElem hm
        cases hc : ltS l[(a + b) / 2] t with
        | true =>
          refine ⟨((((a + b) / 2 + 1 : Nat) : Int), (b : Int)), ?_, ⟨_, b, rfl, by omega, hb, fun i x hi hxi => ?_, h2⟩, by simp only; omega⟩
          · have h4 : addI .i64 (((a + b) / 2 : Nat) : Int) 1 = (((a + b) / 2 + 1 : Nat) : Int) := by rw [addI_eq (by omega) (by omega)]; omega
            simp only [L227_3, h3, cond_true, half_eq (a := a) (b := b) (by omega), listAt_some hx, Option.bind_some, T266_eq, hc, h4]
          · rcases Nat.lt_or_ge i ((a + b) / 2) with h5 | h5
            · exact ltS_trans (hr i _ x _ h5 hxi hx) hc
            · have : i = (a + b) / 2 := by omega
              subst this
              rw [hx] at hxi
              cases hxi
              exact hc
        | false =>
          refine ⟨((a : Int), (((a + b) / 2 : Nat) : Int)), ?_, ⟨a, _, rfl, by omega, by omega, h1, fun i x hi hxi => ?_⟩, by simp only; omega⟩
          · simp only [L227_3, h3, cond_true, half_eq (a := a) (b := b) (by omega), listAt_some hx, Option.bind_some, T266_eq, hc, cond_false]
          · rcases Nat.lt_or_ge ((a + b) / 2) i with h5 | h5
            · cases h6 : ltS x t with
              | false => rfl
              | true =>
                have := ltS_trans (hr _ i _ x h5 hx hxi) h6
                rw [hc] at this; cases this
            · have : i = (a + b) / 2 := by omega
              subst this
              rw [hx] at hxi
              cases hxi
              exact hc
      · right
        have h3 : ltI (a : Int) (b : Int) = false := by rw [ltI_iff]; simp; omega
        have : a = b := by omega
        subst this
        refine ⟨((a : Int), (a : Int), false), ?_, a, rfl, hb, h1, h2⟩
        simp only [L227_3, h3, cond_false]
    · have := (List.getElem?_eq_some_iff.1 hx).1
      omega
  obtain ⟨r, h1, k, h2, h3, h4, h5⟩ := hi
  unfold T227
  rw [show (0 : Int) = ((0 : Nat) : Int) from rfl, show lenL l = (l.length : Int) from rfl, h1, Option.bind_some, h2]
  by_cases hk : k < l.length
  · have h6 : ltI (k : Int) (l.length : Int) = true := by rw [ltI_iff]; simpa using hk
    have hx := List.getElem?_eq_getElem hk
    rw [h6]
    simp only [cond_true, listAt_some hx, Option.bind_some, T267_eq, cond_false]
    cases he : eqS l[k] t with
    | true =>
      refine ⟨k, ?_⟩
      have : (l.any fun x => eqS x t) = true := List.any_eq_true.2 ⟨l[k], List.getElem_mem hk, he⟩
      rw [this]
      rfl
    | false =>
      refine ⟨k, ?_⟩
      have : (l.any fun x => eqS x t) = false := by
        rw [List.any_eq_false]
        intro x hxm he2
        obtain ⟨i, hi⟩ := List.getElem?_of_mem hxm
        have hxt : x = t := by rw [eqS_iff] at he2; simpa using he2
        subst hxt
        rcases Nat.lt_trichotomy i k with h7 | h7 | h7
        · have := h4 i x h7 hi; rw [ltS_irrefl] at this; cases this
        · subst h7
          rw [hx] at hi
          cases hi
          rw [eqS_self] at he; cases he
        · have h8 := hr k i _ x h7 hx hi
          rw [h5 k _ (Nat.le_refl _) hx] at h8
          cases h8
      rw [this]
      rfl
  · have h6 : ltI (k : Int) (l.length : Int) = false := by rw [ltI_iff]; simp; omega
    rw [h6]
    refine ⟨k, ?_⟩
    have : (l.any fun x => eqS x t) = false := by
      rw [List.any_eq_false]
      intro x hxm he2
      obtain ⟨i, hi⟩ := List.getElem?_of_mem hxm
      have hxt : x = t := by rw [eqS_iff] at he2; simpa using he2
      subst hxt
      have hil := (List.getElem?_eq_some_iff.1 hi).1
      have := h4 i x (by omega) hi
      rw [ltS_irrefl] at this; cases this
    rw [this]
    rfl
theorem T154_eq (l : List ByteArray) (t : ByteArray) (h : l.length ≤ 1048576) : T154 l t = some (l.any fun x => eqS x t) := by
  obtain ⟨r, h1, h2⟩ := wp_any (fun x => eqS t x) 0 l
  have hi : iter (L229_2 l t) ((0 : Nat) : Int) = some (Sum.elim (fun _ => .inl ((l.length : Int), false)) (fun r : Nat => .inr (r : Int)) (wp (fun i (_ : Unit) x => bif eqS t x then (.inr i : Unit ⊕ Nat) else .inl ()) 0 () l)) := by
    refine iter_wp (fun _ i => (i : Int)) _ _ l _ (fun _ _ => True) (fun i u x hx _ => ⟨?_, fun _ _ => trivial⟩) (fun u _ => ?_) _ trivial
    · have hlt : i < l.length := (List.getElem?_eq_some_iff.1 hx).1
      have h1 : ltI (i : Int) (lenL l) = true := by rw [ltI_iff, lenL_eq]; simpa using hlt
      have h2 : addI .i64 (i : Int) 1 = ((i + 1 : Nat) : Int) := by rw [addI_eq (by omega) (by omega)]; omega
      simp only [L229_2, h1, cond_true, listAt_some hx, Option.bind_some, h2]
      cases eqS t x <;> rfl
    · have h1 : ltI (l.length : Int) (lenL l) = false := by rw [ltI_iff, lenL_eq]; simp
      simp only [L229_2, h1, cond_false]
  have he : (l.any fun x => eqS x t) = l.any fun x => eqS t x := by
    congr 1
    funext x
    rw [eqS_iff, eqS_iff, Bool.eq_iff_iff]
    simp only [decide_eq_true_eq]
    exact ⟨Eq.symm, Eq.symm⟩
  unfold T154 T229
  rw [show (0 : Int) = ((0 : Nat) : Int) from rfl, hi, h1, he, ← h2]
  cases r with
  | inl u => rfl
  | inr k =>
    simp only [Sum.elim_inr, Option.bind_some, Sum.isRight_inr, leI_iff]
    congr 1
theorem outB_false {a b c : Int} (h : outB a b c = false) : b ≤ a ∧ a ≤ c := by
  unfold outB at h
  rw [ltI_iff, ltI_iff, Bool.or_eq_false_iff, decide_eq_false_iff_not, decide_eq_false_iff_not] at h
  omega
theorem neI_self (a : Int) : neI a a = false := neI_false.2 rfl
theorem bne_self (b : Bool) : (b != b) = false := by cases b <;> rfl
end Go.Abs.TE
