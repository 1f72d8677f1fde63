import Derived.Test.YtpakkikhfkhebaaGreatVTVR
import Derived.Test.YtpakkikhfkhebaaGreatVPl
set_option linter.unusedVariables false
set_option linter.unusedSimpArgs false
namespace Go.Abs.TV
open Go.RowKit
def wc (x : Int) : Bool := (leI 97 x && leI x 122) || ((leI 48 x && leI x 57) || eqI x 45 || eqI x 95)
def okAt (i : Nat) (c : UInt8) : Bool := (leI 97 c.toNat && leI c.toNat 122) || (ltI 0 i && ((leI 48 c.toNat && leI c.toNat 57) || eqI c.toNat 45 || eqI c.toNat 95))
def key (s : ByteArray) : Bool := ((by_ s).zipIdx.all fun q => okAt q.2 q.1) && !eqS s (ByteArray.mk #[]) && leI (lenS s) 40
theorem T50_eq (s : ByteArray) (h : s.size ≤ 1048576) : T50 s = some (key s) := by
  have hi : iter (L50_2 s) ((0 : Nat) : Int) = some (Sum.elim (fun _ : Unit => .inl ((s.size : Int), false)) (fun _ : Unit => .inr ()) (wp (fun i (_ : Unit) x => bif okAt i x then (.inl () : Unit ⊕ Unit) else .inr ()) 0 () (by_ s))) := by
    refine iter_wpS (fun _ i => (i : Int)) _ _ s _ (fun _ _ => True) (fun i u x hx _ => ⟨?_, fun _ _ => trivial⟩) (fun u _ => ?_) () trivial
    · have hlt : i < s.size := by rw [← by_len]; exact (List.getElem?_eq_some_iff.1 hx).1
      have h1 : ltI (i : Int) (lenS s) = true := by rw [ltI_iff, lenS_eq]; simpa using hlt
      have h2 : addI .i64 (i : Int) 1 = ((i + 1 : Nat) : Int) := by rw [addI_eq (by omega) (by omega)]; omega
      simp only [L50_2, h1, cond_true, byteAt_some hx, Option.bind_some, h2, okAt]
      generalize leI 97 (x.toNat : Int) = b1
      generalize leI (x.toNat : Int) 122 = b2
      generalize ltI 0 (i : Int) = b3
      generalize leI 48 (x.toNat : Int) = b4
      generalize leI (x.toNat : Int) 57 = b5
      generalize eqI (x.toNat : Int) 45 = b6
      generalize eqI (x.toNat : Int) 95 = b7
      cases b1 <;> cases b2 <;> cases b3 <;> cases b4 <;> cases b5 <;> cases b6 <;> cases b7 <;> rfl
    · have h1 : ltI (s.size : Int) (lenS s) = false := by rw [ltI_iff, lenS_eq]; simp
      simp only [L50_2, h1, cond_false]
  unfold T50
  rw [show (0 : Int) = ((0 : Nat) : Int) from rfl, hi, wp_all okAt, elim_cond, Option.bind_some]
  unfold key
  cases (by_ s).zipIdx.all fun q => okAt q.2 q.1 <;> cases eqS s (ByteArray.mk #[]) <;> rfl
def smalls : ByteArray := ByteArray.mk #[97, 98, 99, 100, 101, 102, 103, 104, 105, 106, 107, 108, 109, 110, 111, 112, 113, 114, 115, 116, 117, 118, 119, 120, 121, 122]
def words : ByteArray := ByteArray.mk #[97, 98, 99, 100, 101, 102, 103, 104, 105, 106, 107, 108, 109, 110, 111, 112, 113, 114, 115, 116, 117, 118, 119, 120, 121, 122, 48, 49, 50, 51, 52, 53, 54, 55, 56, 57, 45, 95]
theorem T71_eq (s t : ByteArray) (h : s.size ≤ 1048576) : T71 s t = some ((by_ s).all fun c => !ltI (idxB t c.toNat) 0) := by
  have hi : iter (L71_2 s t) ((0 : Nat) : Int) = some (Sum.elim (fun _ : Unit => .inl ((s.size : Int), false)) (fun _ : Unit => .inr ()) (wp (fun i (_ : Unit) (x : UInt8) => bif !ltI (idxB t x.toNat) 0 then (.inl () : Unit ⊕ Unit) else .inr ()) 0 () (by_ s))) := by
    refine iter_wpS (fun _ i => (i : Int)) _ _ s _ (fun _ _ => True) (fun i u x hx _ => ⟨?_, fun _ _ => trivial⟩) (fun u _ => ?_) () trivial
    · have hlt : i < s.size := by rw [← by_len]; exact (List.getElem?_eq_some_iff.1 hx).1
      have h1 : ltI (i : Int) (lenS s) = true := by rw [ltI_iff, lenS_eq]; simpa using hlt
      have h2 : addI .i64 (i : Int) 1 = ((i + 1 : Nat) : Int) := by rw [addI_eq (by omega) (by omega)]; omega
      simp only [L71_2, T89, h1, cond_true, byteAt_some hx, Option.bind_some, h2]
      cases ltI (idxB t (x.toNat : Int)) 0 <;> rfl
    · have h1 : ltI (s.size : Int) (lenS s) = false := by rw [ltI_iff, lenS_eq]; simp
      simp only [L71_2, h1, cond_false]
  unfold T71
  rw [show (0 : Int) = ((0 : Nat) : Int) from rfl, hi, wp_all', elim_cond, Option.bind_some]
  cases (by_ s).all fun c => !ltI (idxB t (c.toNat : Int)) 0 <;> rfl
theorem smalls_idx : ∀ n : Fin 256, (!ltI (Lib.indexByte (by_ smalls) (UInt8.ofNat n.val)) 0) = (leI 97 n.val && leI n.val 122) := by decide +kernel
theorem words_idx : ∀ n : Fin 256, (!ltI (Lib.indexByte (by_ words) (UInt8.ofNat n.val)) 0) = wc n.val := by decide +kernel
theorem smalls_at (c : UInt8) : (!ltI (idxB smalls c.toNat) 0) = (leI 97 c.toNat && leI c.toNat 122) := by
  have := smalls_idx ⟨c.toNat, c.toNat_lt⟩
  simpa [idxB] using this
theorem words_at (c : UInt8) : (!ltI (idxB words c.toNat) 0) = wc c.toNat := by
  have := words_idx ⟨c.toNat, c.toNat_lt⟩
  simpa [idxB] using this
theorem okAt_pos {i : Nat} (h : 1 ≤ i) (c : UInt8) : okAt i c = wc c.toNat := by
  have : ltI 0 (i : Int) = true := by rw [ltI_iff]; simp; omega
  simp only [okAt, wc, this, Bool.true_and]
theorem okAt_all (l : List UInt8) (k : Nat) (h : 1 ≤ k) : ((l.zipIdx k).all fun q => okAt q.2 q.1) = l.all fun c => wc c.toNat := by
  induction l generalizing k with
  | nil => rfl
  | cons a l ih => simp only [List.zipIdx_cons, List.all_cons, okAt_pos h, ih (k + 1) (by omega)]
theorem eqS_empty {s : ByteArray} (h : s.size ≠ 0) : eqS s (ByteArray.mk #[]) = false := by
  rw [eqS_iff]
  simp only [decide_eq_false_iff_not]
  intro e
  rw [e] at h
  exact h rfl
theorem T53_eq (a b c : Int) : T53 a b c = some (leI b a && leI a c) := by
  unfold T53
  cases leI b a <;> rfl
theorem T46_eq (s : ByteArray) (h : s.size ≤ 1048576) : T46 s = some (key s) := by
  unfold T46
  rw [T53_eq, Option.bind_some]
  have hlen := by_len s
  rcases hb : by_ s with _ | ⟨c, l⟩
  · rw [hb] at hlen
    have h0 : s.size = 0 := hlen.symm
    have h1 : leI 1 (lenS s) = false := by rw [leI_iff, lenS_eq, h0]; rfl
    have h2 : eqS s (ByteArray.mk #[]) = true := by
      rw [eqS_iff]; simp only [decide_eq_true_eq]; exact by_inj hb
    unfold key
    rw [h1, h2, Bool.false_and, cond_false]
    simp
  · rw [hb, List.length_cons] at hlen
    have h1 : leI 1 (lenS s) = true := by rw [leI_iff, lenS_eq]; simp; omega
    have h2 : eqS s (ByteArray.mk #[]) = false := eqS_empty (by omega)
    have h3 : cutS s none (some 1) = some (s.extract 0 1) := by
      have : (1 : Int) ≤ (s.size : Int) := by omega
      simp [cutS, cutB, this]
    have h4 : by_ (s.extract 0 1) = [c] := by rw [by_extract, hb]; rfl
    have h5 : (s.extract 0 1).size ≤ 1048576 := by rw [← by_len, h4]; simp
    have h6 := T71_eq (s.extract 0 1) smalls h5
    have h7 := T71_eq s words h
    unfold smalls at h6
    unfold words at h7
    rw [h1, h3, Bool.true_and, Option.bind_some, h6, h4, h7, hb]
    simp only [Option.bind_some, List.all_cons, List.all_nil, Bool.and_true]
    have h8 : (!ltI (idxB (ByteArray.mk #[97, 98, 99, 100, 101, 102, 103, 104, 105, 106, 107, 108, 109, 110, 111, 112, 113, 114, 115, 116, 117, 118, 119, 120, 121, 122]) c.toNat) 0) = (leI 97 c.toNat && leI c.toNat 122) := smalls_at c
    have h9 : ∀ c : UInt8, (!ltI (idxB (ByteArray.mk #[97, 98, 99, 100, 101, 102, 103, 104, 105, 106, 107, 108, 109, 110, 111, 112, 113, 114, 115, 116, 117, 118, 119, 120, 121, 122, 48, 49, 50, 51, 52, 53, 54, 55, 56, 57, 45, 95]) c.toNat) 0) = wc c.toNat := words_at
    simp only [h8, h9]
    unfold key
    have h10 : okAt 0 c = (leI 97 c.toNat && leI c.toNat 122) := by simp [okAt, ltI]
    rw [h2, hb, List.zipIdx_cons, List.all_cons, okAt_all l _ (by omega), h10]
    unfold wc
    cases leI 97 (c.toNat : Int) <;> cases leI (c.toNat : Int) 122 <;> cases (l.all fun c => (leI 97 (c.toNat : Int) && leI (c.toNat : Int) 122) || ((leI 48 (c.toNat : Int) && leI (c.toNat : Int) 57) || eqI (c.toNat : Int) 45 || eqI (c.toNat : Int) 95)) <;> cases leI (lenS s) 40 <;> rfl
theorem key_pos {s : ByteArray} (h : key s = true) : s.size ≠ 0 := by
  intro h0
  unfold key at h
  have : eqS s (ByteArray.mk #[]) = true := by
    rw [eqS_iff]; simp only [decide_eq_true_eq]
    apply by_inj
    exact List.eq_nil_of_length_eq_zero (by rw [by_len]; exact h0)
  rw [this] at h
  simp at h
theorem leS_empty {s : ByteArray} (h : s.size ≠ 0) : leS s (ByteArray.mk #[]) = false := by
  unfold leS
  rw [eqS_empty h, ltS_eq]
  cases hb : by_ s with
  | nil => rfl
  | cons c l => rfl
end Go.Abs.TV
