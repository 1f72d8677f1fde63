import Derived.Test.YtehmcdmjhdlcgaaGreatDoorNTKDR
import Derived.Test.YtehmcdmjhdlcgaaGreatDoorNPl
import Derived.Test.YtehmcdmjhdlcgaaGreatDoorNPlS
import Derived.Test.YtehmcdmjhdlcgaaGreatDoorNPlU
import Derived.Test.YtehmcdmjhdlcgaaGreatDoorNPlL
set_option linter.unusedVariables false
set_option linter.unusedSimpArgs false
namespace Go.Abs.TKD
open Go.RowKit
def wc (x : Int) : Bool := (leI 97 x && leI x 122) || ((leI 48 x && leI x 57) || eqI x 45 || eqI x 95)
def okAt (i : Nat) (c : UInt8) : Bool := (leI 97 c.toNat && leI c.toNat 122) || (ltI 0 i && ((leI 48 c.toNat && leI c.toNat 57) || eqI c.toNat 45 || eqI c.toNat 95))
def key (s : ByteArray) : Bool := ((by_ s).zipIdx.all fun q => okAt q.2 q.1) && !eqS s (ByteArray.mk #[]) && leI (lenS s) 40
theorem T97_eq (s : ByteArray) (h : s.size ≤ 1048576) : T97 s = some (key s) := by
  have hi : iter (L97_2 s) ((0 : Nat) : Int) = some (Sum.elim (fun _ : Unit => .inl ((s.size : Int), false)) (fun _ : Unit => .inr ()) (wp (fun i (_ : Unit) x => bif okAt i x then (.inl () : Unit ⊕ Unit) else .inr ()) 0 () (by_ s))) := by
    refine iter_wpS (fun _ i => (i : Int)) _ _ s _ (fun _ _ => True) (fun i u x hx _ => ⟨?_, fun _ _ => trivial⟩) (fun u _ => ?_) () trivial
    · have hlt : i < s.size := by rw [← by_len]; exact (List.getElem?_eq_some_iff.1 hx).1
      have h1 : ltI (i : Int) (lenS s) = true := by rw [ltI_iff, lenS_eq]; simpa using hlt
      have h2 : addI .i64 (i : Int) 1 = ((i + 1 : Nat) : Int) := by rw [addI_eq (by omega) (by omega)]; omega
      simp only [L97_2, h1, cond_true, byteAt_some hx, Option.bind_some, h2, okAt]
      generalize leI 97 (x.toNat : Int) = b1
      generalize leI (x.toNat : Int) 122 = b2
      generalize ltI 0 (i : Int) = b3
      generalize leI 48 (x.toNat : Int) = b4
      generalize leI (x.toNat : Int) 57 = b5
      generalize eqI (x.toNat : Int) 45 = b6
      generalize eqI (x.toNat : Int) 95 = b7
      cases b1 <;> cases b2 <;> cases b3 <;> cases b4 <;> cases b5 <;> cases b6 <;> cases b7 <;> rfl
    · have h1 : ltI (s.size : Int) (lenS s) = false := by rw [ltI_iff, lenS_eq]; simp
      simp only [L97_2, h1, cond_false]
  unfold T97
  rw [show (0 : Int) = ((0 : Nat) : Int) from rfl, hi, wp_all okAt, elim_cond, Option.bind_some]
  unfold key
  cases (by_ s).zipIdx.all fun q => okAt q.2 q.1 <;> cases eqS s (ByteArray.mk #[]) <;> rfl
def smalls : ByteArray := ByteArray.mk #[97, 98, 99, 100, 101, 102, 103, 104, 105, 106, 107, 108, 109, 110, 111, 112, 113, 114, 115, 116, 117, 118, 119, 120, 121, 122]
def words : ByteArray := ByteArray.mk #[97, 98, 99, 100, 101, 102, 103, 104, 105, 106, 107, 108, 109, 110, 111, 112, 113, 114, 115, 116, 117, 118, 119, 120, 121, 122, 48, 49, 50, 51, 52, 53, 54, 55, 56, 57, 45, 95]
theorem T137_eq (s t : ByteArray) (h : s.size ≤ 1048576) : T137 s t = some ((by_ s).all fun c => !ltI (idxB t c.toNat) 0) := by
  have hi : iter (L137_2 s t) ((0 : Nat) : Int) = some (Sum.elim (fun _ : Unit => .inl ((s.size : Int), false)) (fun _ : Unit => .inr ()) (wp (fun i (_ : Unit) (x : UInt8) => bif !ltI (idxB t x.toNat) 0 then (.inl () : Unit ⊕ Unit) else .inr ()) 0 () (by_ s))) := by
    refine iter_wpS (fun _ i => (i : Int)) _ _ s _ (fun _ _ => True) (fun i u x hx _ => ⟨?_, fun _ _ => trivial⟩) (fun u _ => ?_) () trivial
    · have hlt : i < s.size := by rw [← by_len]; exact (List.getElem?_eq_some_iff.1 hx).1
      have h1 : ltI (i : Int) (lenS s) = true := by rw [ltI_iff, lenS_eq]; simpa using hlt
      have h2 : addI .i64 (i : Int) 1 = ((i + 1 : Nat) : Int) := by rw [addI_eq (by omega) (by omega)]; omega
      simp only [L137_2, T160, h1, cond_true, byteAt_some hx, Option.bind_some, h2]
      cases ltI (idxB t (x.toNat : Int)) 0 <;> rfl
    · have h1 : ltI (s.size : Int) (lenS s) = false := by rw [ltI_iff, lenS_eq]; simp
      simp only [L137_2, h1, cond_false]
  unfold T137
  rw [show (0 : Int) = ((0 : Nat) : Int) from rfl, hi, wp_all', elim_cond, Option.bind_some]
  cases (by_ s).all fun c => !ltI (idxB t (c.toNat : Int)) 0 <;> rfl
theorem smalls_idx : ∀ n : Fin 256, (!ltI (Lib.indexByte (by_ smalls) (UInt8.ofNat n.val)) 0) = (leI 97 n.val && leI n.val 122) := by decide +kernel
theorem words_idx : ∀ n : Fin 256, (!ltI (Lib.indexByte (by_ words) (UInt8.ofNat n.val)) 0) = wc n.val := by decide +kernel
theorem smalls_at (c : UInt8) : (!ltI (idxB smalls c.toNat) 0) = (leI 97 c.toNat && leI c.toNat 122) := by
  have := smalls_idx ⟨c.toNat, c.toNat_lt⟩
  simpa [idxB] using this
theorem words_at (c : UInt8) : (!ltI (idxB words c.toNat) 0) = wc c.toNat := by
  have := words_idx ⟨c.toNat, c.toNat_lt⟩
  simpa [idxB] using this
theorem okAt_pos {i : Nat} (h : 1 ≤ i) (c : UInt8) : okAt i c = wc c.toNat := by
  have : ltI 0 (i : Int) = true := by rw [ltI_iff]; simp; omega
  simp only [okAt, wc, this, Bool.true_and]
theorem okAt_all (l : List UInt8) (k : Nat) (h : 1 ≤ k) : ((l.zipIdx k).all fun q => okAt q.2 q.1) = l.all fun c => wc c.toNat := by
  induction l generalizing k with
  | nil => rfl
  | cons a l ih => simp only [List.zipIdx_cons, List.all_cons, okAt_pos h, ih (k + 1) (by omega)]
theorem eqS_empty {s : ByteArray} (h : s.size ≠ 0) : eqS s (ByteArray.mk #[]) = false := by
  rw [eqS_iff]
  simp only [decide_eq_false_iff_not]
  intro e
  rw [e] at h
  exact h rfl
theorem T136_eq (a b c : Int) : T136 a b c = some (leI b a && leI a c) := by
  unfold T136
  cases leI b a <;> rfl
theorem T115_eq (s : ByteArray) (h : s.size ≤ 1048576) : T115 s = some (key s) := by
  unfold T115
  rw [T136_eq, Option.bind_some]
  have hlen := by_len s
  rcases hb : by_ s with _ | ⟨c, l⟩
  · rw [hb] at hlen
    have h0 : s.size = 0 := hlen.symm
    have h1 : leI 1 (lenS s) = false := by rw [leI_iff, lenS_eq, h0]; rfl
    have h2 : eqS s (ByteArray.mk #[]) = true := by
      rw [eqS_iff]; simp only [decide_eq_true_eq]; exact by_inj hb
    unfold key
    rw [h1, h2, Bool.false_and, cond_false]
    simp
  · rw [hb, List.length_cons] at hlen
    have h1 : leI 1 (lenS s) = true := by rw [leI_iff, lenS_eq]; simp; omega
    have h2 : eqS s (ByteArray.mk #[]) = false := eqS_empty (by omega)
    have h3 : cutS s none (some 1) = some (s.extract 0 1) := by
      have : (1 : Int) ≤ (s.size : Int) := by omega
      simp [cutS, cutB, this]
    have h4 : by_ (s.extract 0 1) = [c] := by rw [by_extract, hb]; rfl
    have h5 : (s.extract 0 1).size ≤ 1048576 := by rw [← by_len, h4]; simp
    have h6 := T137_eq (s.extract 0 1) smalls h5
    have h7 := T137_eq s words h
    unfold smalls at h6
    unfold words at h7
    rw [h1, h3, Bool.true_and, Option.bind_some, h6, h4, h7, hb]
    simp only [Option.bind_some, List.all_cons, List.all_nil, Bool.and_true]
    have h8 : (!ltI (idxB (ByteArray.mk #[97, 98, 99, 100, 101, 102, 103, 104, 105, 106, 107, 108, 109, 110, 111, 112, 113, 114, 115, 116, 117, 118, 119, 120, 121, 122]) c.toNat) 0) = (leI 97 c.toNat && leI c.toNat 122) := smalls_at c
    have h9 : ∀ c : UInt8, (!ltI (idxB (ByteArray.mk #[97, 98, 99, 100, 101, 102, 103, 104, 105, 106, 107, 108, 109, 110, 111, 112, 113, 114, 115, 116, 117, 118, 119, 120, 121, 122, 48, 49, 50, 51, 52, 53, 54, 55, 56, 57, 45, 95]) c.toNat) 0) = wc c.toNat := words_at
    simp only [h8, h9]
    unfold key
    have h10 : okAt 0 c = (leI 97 c.toNat && leI c.toNat 122) := by simp [okAt, ltI]
    rw [h2, hb, List.zipIdx_cons, List.all_cons, okAt_all l _ (by omega), h10]
    unfold wc
    cases leI 97 (c.toNat : Int) <;> cases leI (c.toNat : Int) 122 <;> cases (l.all fun c => (leI 97 (c.toNat : Int) && leI (c.toNat : Int) 122) || ((leI 48 (c.toNat : Int) && leI (c.toNat : Int) 57) || eqI (c.toNat : Int) 45 || eqI (c.toNat : Int) 95)) <;> cases leI (lenS s) 40 <;> rfl
theorem key_pos {s : ByteArray} (h : key s = true) : s.size ≠ 0 := by
  intro h0
  unfold key at h
  have : eqS s (ByteArray.mk #[]) = true := by
    rw [eqS_iff]; simp only [decide_eq_true_eq]
    apply by_inj
    exact List.eq_nil_of_length_eq_zero (by rw [by_len]; exact h0)
  rw [this] at h
  simp at h
theorem leS_empty {s : ByteArray} (h : s.size ≠ 0) : leS s (ByteArray.mk #[]) = false := by
  unfold leS
  rw [eqS_empty h, ltS_eq]
  cases hb : by_ s with
  | nil => rfl
  | cons c l => rfl
end Go.Abs.TKD

set_option linter.unusedVariables false
set_option linter.unusedSimpArgs false
set_option maxRecDepth 10000
namespace Go.Abs.TKD
open Go.RowKit Go.Proofs Go.Abs
theorem lit_sort1 (x : S182) : sortO (fun x y => T129 x y) [x] = some [x] := by
  obtain ⟨l', h1, h2, _⟩ := sortO_le (fun x y => T129 x y) (fun _ _ => True) (fun _ _ => .inl trivial) (fun _ _ _ _ _ => trivial) [x] (by simp) (by
    intro a ha b hb
    simp only [List.mem_singleton] at ha hb
    subst ha; subst hb
    refine ⟨_, rfl, ?_⟩
    have : subI .i64 b.f0 b.f0 = 0 := by unfold subI; rw [Int.sub_self]; rfl
    simp [this])
  rw [h1, List.perm_singleton.1 h2]
theorem lit_sort2 : sortO (fun x y => T129 x y) [⟨0, 2⟩, ⟨1, 3⟩] = some [⟨0, 2⟩, ⟨1, 3⟩] := by
  obtain ⟨l', h1, h2, h3⟩ := sortO_key (fun x y => T129 x y) (·.f0) [⟨0, 2⟩, ⟨1, 3⟩] (by simp) (by
    intro a ha b hb
    simp only [List.mem_cons, List.not_mem_nil, or_false] at ha hb
    rcases ha with rfl | rfl <;> rcases hb with rfl | rfl <;> exact ⟨_, rfl, by decide⟩)
  rw [h1]
  congr 1
  match l', h2.length_eq with
  | [a, b], _ =>
    have ha : a ∈ [(⟨0, 2⟩ : S182), ⟨1, 3⟩] := h2.mem_iff.1 (by simp)
    have hb : b ∈ [(⟨0, 2⟩ : S182), ⟨1, 3⟩] := h2.mem_iff.1 (by simp)
    have hp := h2.countP_eq (fun x : S182 => x.f0 == 0)
    simp only [List.mem_cons, List.not_mem_nil, or_false] at ha hb
    simp only [List.pairwise_cons, List.mem_singleton, forall_eq] at h3
    rcases ha with rfl | rfl <;> rcases hb with rfl | rfl
    · simp at hp
    · rfl
    · have := h3.1
      simp at this
    · simp at hp
abbrev r0 : S28 := S28.mk 0 0 2 2
abbrev r1 : S28 := S28.mk 1 1 2 2
theorem runs_nil (y : Int) : T106 [] y = some [] := by
  unfold T106
  rw [iter_run (r := (0, false, [])) 1 (by kernel_rfl)]
  simp only [Option.bind_some]
  rw [show sortO (fun x y => T129 x y) ([] : List S182) = some [] from by simp [sortO], Option.bind_some, iter_run (r := (0, false, [], [])) 1 (by kernel_rfl)]
  rfl
theorem runs0 : T106 [r0, r1] 0 = some [⟨0, 2⟩] := by
  unfold T106
  rw [iter_run (r := (2, false, [⟨0, 2⟩])) 3 (by kernel_rfl)]
  simp only [Option.bind_some]
  rw [lit_sort1, Option.bind_some, iter_run (r := (1, false, [⟨0, 2⟩], [⟨0, 2⟩])) 2 (by kernel_rfl)]
  rfl
theorem runs1 : T106 [r0, r1] 1 = some [⟨0, 3⟩] := by
  unfold T106
  rw [iter_run (r := (2, false, [⟨0, 2⟩, ⟨1, 3⟩])) 3 (by kernel_rfl)]
  simp only [Option.bind_some]
  rw [lit_sort2, Option.bind_some, iter_run (r := (2, false, [⟨0, 3⟩], [⟨0, 2⟩, ⟨1, 3⟩])) 3 (by kernel_rfl)]
  rfl
theorem runs2 : T106 [r0, r1] 2 = some [⟨1, 3⟩] := by
  unfold T106
  rw [iter_run (r := (2, false, [⟨1, 3⟩])) 3 (by kernel_rfl)]
  simp only [Option.bind_some]
  rw [lit_sort1, Option.bind_some, iter_run (r := (1, false, [⟨1, 3⟩], [⟨1, 3⟩])) 2 (by kernel_rfl)]
  rfl
theorem less_nil (x : S182) (hx : ltI x.f0 x.f1 = true) : T105 [x] [] = some [x] := by
  have h : L105_4 [x] [] ([], 0, 0) = some (.inl ([x], 0, 1)) := by
    unfold L105_4
    have e1 : ltI ((([], 0, 0) : List S182 × Int × Int).2.2) (lenL [x]) = true := rfl
    have e2 : listAt [x] ((([], 0, 0) : List S182 × Int × Int).2.2) = some x := rfl
    rw [e1, e2]
    simp only [cond_true, Option.bind_some]
    rw [iter_run (r := (0, false)) 1 (by kernel_rfl), Option.bind_some, iter_run (r := (0, false, [], x.f0)) 1 (by kernel_rfl)]
    simp only [Option.bind_some, hx, cond_true]
    rfl
  unfold T105
  rw [iter_inl h, iter_inr (r := (0, 1, false, [x])) (by kernel_rfl)]
  rfl
theorem same_no (a b : S182) (h : allB [eqI a.f0 b.f0, eqI a.f1 b.f1] = false) : T107 [a] [b] = some false := by
  unfold T107
  rw [iter_inr (r := .inr ()) (by
    unfold L107_4
    have e1 : ltI 0 (lenL [a]) = true := rfl
    have e2 : listAt [a] 0 = some a := rfl
    have e3 : listAt [b] 0 = some b := rfl
    rw [e1, e2, e3]
    simp only [cond_true, Option.bind_some, h, Bool.not_false])]
  rfl
theorem lit_region : T60 [r0, r1] [] = some [⟨0, 0, 2, 1⟩, ⟨0, 1, 3, 1⟩, ⟨1, 2, 2, 1⟩] := by
  unfold T60 T21
  rw [iter_run (r := (2, 2, false)) 3 (by kernel_rfl)]
  simp only [Option.bind_some]
  rw [show growO S28 32 2 = some [] by unfold growO; rw [if_pos (by decide)], Option.bind_some, iter_run (r := (2, false, [r0, r1])) 3 (by kernel_rfl)]
  simp only [Option.bind_some]
  rw [iter_run (r := (2, false, [0, 2, 1, 3], [r0, r1])) 3 (by kernel_rfl)]
  simp only [Option.bind_some]
  rw [show sortIO [0, 2, 1, 3] = some [0, 1, 2, 3] by
    unfold sortIO
    rw [if_pos (by simp), sortI_of (l' := [0, 1, 2, 3]) (by decide) (by decide)]]
  simp only [Option.bind_some]
  rw [show compIO [0, 1, 2, 3] = some [0, 1, 2, 3] by decide]
  simp only [Option.bind_some]
  have s0 : L60_13 [r0, r1] [] [0, 1, 2, 3] ([0, 1, 2, 3], [], [], 0, 0) = some (.inl ([0, 1, 2, 3], [], [⟨0, 2⟩], 0, 1)) := by
    unfold L60_13
    rw [show ltI ((([0, 1, 2, 3], [], [], 0, 0) : List Int × List S28 × List S182 × Int × Int).2.2.2.2) (lenL ([0, 1, 2, 3] : List Int)) = true by decide]
    simp only [cond_true]
    rw [show idxO (List.length ([0, 1, 2, 3] : List Int)) 0 = some 0 by decide]
    simp only [Option.bind_some]
    rw [show getN ([0, 1, 2, 3] : List Int) 0 = some 0 by decide]
    simp only [Option.bind_some]
    rw [show ltI (addI .i64 0 1) (lenL ([0, 1, 2, 3] : List Int)) = true by decide]
    simp only [cond_true]
    rw [runs0, runs_nil]
    simp only [Option.bind_some]
    rw [less_nil ⟨0, 2⟩ (by decide)]
    simp only [Option.bind_some]
    rw [show T107 [] [⟨0, 2⟩] = some false by unfold T107; rfl]
    simp only [Option.bind_some, cond_false]
    rw [iter_run (r := (0, false, [0, 1, 2, 3], [])) 1 (by kernel_rfl)]
    rfl
  have s1 : L60_13 [r0, r1] [] [0, 1, 2, 3] ([0, 1, 2, 3], [], [⟨0, 2⟩], 0, 1) = some (.inl ([0, 1, 2, 3], [⟨0, 0, 2, 1⟩], [⟨0, 3⟩], 1, 2)) := by
    unfold L60_13
    rw [show ltI ((([0, 1, 2, 3], [], [⟨0, 2⟩], 0, 1) : List Int × List S28 × List S182 × Int × Int).2.2.2.2) (lenL ([0, 1, 2, 3] : List Int)) = true by decide]
    simp only [cond_true]
    rw [show idxO (List.length ([0, 1, 2, 3] : List Int)) 1 = some 1 by decide]
    simp only [Option.bind_some]
    rw [show getN ([0, 1, 2, 3] : List Int) 1 = some 1 by decide]
    simp only [Option.bind_some]
    rw [show ltI (addI .i64 1 1) (lenL ([0, 1, 2, 3] : List Int)) = true by decide]
    simp only [cond_true]
    rw [runs1, runs_nil]
    simp only [Option.bind_some]
    rw [less_nil ⟨0, 3⟩ (by decide)]
    simp only [Option.bind_some]
    rw [same_no _ _ (by decide)]
    simp only [Option.bind_some, cond_false]
    rw [iter_run (r := (1, false, [0, 1, 2, 3], [⟨0, 0, 2, 1⟩])) 2 (by kernel_rfl)]
    rfl
  have s2 : L60_13 [r0, r1] [] [0, 1, 2, 3] ([0, 1, 2, 3], [⟨0, 0, 2, 1⟩], [⟨0, 3⟩], 1, 2) = some (.inl ([0, 1, 2, 3], [⟨0, 0, 2, 1⟩, ⟨0, 1, 3, 1⟩], [⟨1, 3⟩], 2, 3)) := by
    unfold L60_13
    rw [show ltI ((([0, 1, 2, 3], [⟨0, 0, 2, 1⟩], [⟨0, 3⟩], 1, 2) : List Int × List S28 × List S182 × Int × Int).2.2.2.2) (lenL ([0, 1, 2, 3] : List Int)) = true by decide]
    simp only [cond_true]
    rw [show idxO (List.length ([0, 1, 2, 3] : List Int)) 2 = some 2 by decide]
    simp only [Option.bind_some]
    rw [show getN ([0, 1, 2, 3] : List Int) 2 = some 2 by decide]
    simp only [Option.bind_some]
    rw [show ltI (addI .i64 2 1) (lenL ([0, 1, 2, 3] : List Int)) = true by decide]
    simp only [cond_true]
    rw [runs2, runs_nil]
    simp only [Option.bind_some]
    rw [less_nil ⟨1, 3⟩ (by decide)]
    simp only [Option.bind_some]
    rw [same_no _ _ (by decide)]
    simp only [Option.bind_some, cond_false]
    rw [iter_run (r := (1, false, [0, 1, 2, 3], [⟨0, 0, 2, 1⟩, ⟨0, 1, 3, 1⟩])) 2 (by kernel_rfl)]
    rfl
  have s3 : L60_13 [r0, r1] [] [0, 1, 2, 3] ([0, 1, 2, 3], [⟨0, 0, 2, 1⟩, ⟨0, 1, 3, 1⟩], [⟨1, 3⟩], 2, 3) = some (.inl ([0, 1, 2, 3], [⟨0, 0, 2, 1⟩, ⟨0, 1, 3, 1⟩, ⟨1, 2, 2, 1⟩], [], 3, 4)) := by
    unfold L60_13
    rw [show ltI ((([0, 1, 2, 3], [⟨0, 0, 2, 1⟩, ⟨0, 1, 3, 1⟩], [⟨1, 3⟩], 2, 3) : List Int × List S28 × List S182 × Int × Int).2.2.2.2) (lenL ([0, 1, 2, 3] : List Int)) = true by decide]
    simp only [cond_true]
    rw [show idxO (List.length ([0, 1, 2, 3] : List Int)) 3 = some 3 by decide]
    simp only [Option.bind_some]
    rw [show getN ([0, 1, 2, 3] : List Int) 3 = some 3 by decide]
    simp only [Option.bind_some]
    rw [show ltI (addI .i64 3 1) (lenL ([0, 1, 2, 3] : List Int)) = false by decide]
    simp only [cond_false]
    rw [show T107 [⟨1, 3⟩] [] = some false by unfold T107; rfl]
    simp only [Option.bind_some, cond_false]
    rw [iter_run (r := (1, false, [0, 1, 2, 3], [⟨0, 0, 2, 1⟩, ⟨0, 1, 3, 1⟩, ⟨1, 2, 2, 1⟩])) 2 (by kernel_rfl)]
    rfl
  rw [iter_inl s0, iter_inl s1, iter_inl s2, iter_inl s3, iter_inr (r := ([], 3, 4, false, [0, 1, 2, 3], [⟨0, 0, 2, 1⟩, ⟨0, 1, 3, 1⟩, ⟨1, 2, 2, 1⟩])) (by kernel_rfl)]
  rfl
theorem lit_area : T20 [r0, r1] = some (7, 0) := by
  unfold T20 T58 T61
  rw [iter_run (r := .inl (2, false)) 3 (by kernel_rfl)]
  rw [show (bif ltI 2000 (lenL ([r0, r1] : List S28)) then (some 2 : Option Int) else (some (Sum.inl (2, false) : (Int × Bool) ⊕ Int)).bind fun y3 => (Sum.elim (fun y3a => some 0) (fun y3b => some y3b) y3)) = some 0 by decide]
  simp only [Option.bind_some]
  rw [show neI 0 0 = false by decide]
  simp only [cond_false]
  rw [lit_region]
  simp only [Option.bind_some]
  rw [iter_run (r := (7, 3, false)) 4 (by kernel_rfl)]
  rfl
theorem r45 : T45 (S94.mk (ByteArray.mk #[97]) (ByteArray.mk #[]) (S92.mk 0 100) [] 10 0 0) 50 = some (5, 0) := by kernel_rfl
theorem r42 : T42 ([(S87.mk (ByteArray.mk #[112]) 0 100), (S87.mk (ByteArray.mk #[112]) 1000 1300)] : List S87) (ByteArray.mk #[112]) 700 = some (500, 0) := by kernel_rfl
theorem r67 : T67 (S136.mk (ByteArray.mk #[97]) (ByteArray.mk #[98]) 0 0 0 1 127 [] 1 2 0 [] false) 0 (S92.mk 0 86400000) = some ([S92.mk 60000 120000], 0) := by kernel_rfl
theorem r68 : T68 (S138.mk (ByteArray.mk #[97]) (ByteArray.mk #[115]) 1 [] 0 5 1 ([(S28.mk 0 0 2 2)] : List S28) (ByteArray.mk #[120])) (S142.mk (ByteArray.mk #[112]) 1 1) = some (true, 0) := by kernel_rfl
theorem ready_ok : T26 = some true := by
  unfold T26
  rw [lit_area, r45, r42, r67, r68]
  simp only [Option.bind_some]
  kernel_rfl
end Go.Abs.TKD

set_option linter.unusedVariables false
set_option linter.unusedSimpArgs false
set_option maxRecDepth 10000
namespace Go.Abs.TKD
open Go.RowKit Go.Proofs Go.Abs
theorem below_ok (x : Int) {n : Int} (hn : n ≤ 1000000000000000) : ∃ v, T102 x n = some v ∧ (1 ≤ n → 0 ≤ v ∧ v < n) ∧ (n < 1 → v = 0) := by
  unfold T102
  by_cases h : n < 1
  · rw [show ltI n 1 = true by unfold ltI; exact decide_eq_true h]
    exact ⟨0, rfl, fun h1 => by omega, fun _ => rfl⟩
  · rw [show ltI n 1 = false by unfold ltI; exact decide_eq_false h]
    have hr : remO .i64 x n = some (x.tmod n) := by unfold remO; rw [if_neg (by omega)]
    have h1 := Int.tmod_lt_of_pos x (by omega : 0 < n)
    have h2 := Int.lt_tmod_of_pos x (by omega : 0 < n)
    simp only [cond_false, hr, Option.bind_some]
    by_cases h0 : x.tmod n < 0
    · rw [show ltI (x.tmod n) 0 = true by unfold ltI; exact decide_eq_true h0]
      refine ⟨_, rfl, fun _ => ?_, fun h3 => by omega⟩
      rw [addI_eq (by omega) (by omega)]
      omega
    · rw [show ltI (x.tmod n) 0 = false by unfold ltI; exact decide_eq_false h0]
      exact ⟨_, rfl, fun _ => ⟨by omega, h1⟩, fun h3 => by omega⟩
theorem next_ok {L : List Int} {at_ n : Int} (hL : L.length ≤ 1048576) (h0 : 0 ≤ at_) (h1 : at_ ≤ 1000000000) (hn : n ≤ 1000000000000000) : ∃ v, T57 L at_ n = some (v, L, at_ + 1) ∧ (1 ≤ n → 0 ≤ v ∧ v < n) ∧ (n < 1 → v = 0) := by
  unfold T57
  have e1 : addI .i64 at_ 1 = at_ + 1 := addI_eq (by omega) (by omega)
  rw [e1]
  by_cases hl : L.length = 0
  · rw [show eqI (lenL L) 0 = true by rw [eqI_iff, lenL_eq, hl]; rfl]
    obtain ⟨v, h2, h3⟩ := below_ok (mulI .i64 (at_ + 1) 7919) hn
    simp only [cond_true, h2, Option.bind_some]
    exact ⟨v, rfl, h3⟩
  · rw [show eqI (lenL L) 0 = false by rw [eqI_iff, lenL_eq]; exact decide_eq_false (by omega)]
    have e2 : subI .i64 (at_ + 1) 1 = at_ := by rw [subI_eq (by omega) (by omega)]; omega
    have hr : remO .i64 at_ (lenL L) = some (at_.tmod L.length) := by unfold remO; rw [lenL_eq, if_neg (by omega)]
    have hq : ∃ q, quoO .i64 at_ (lenL L) = some q := by unfold quoO; rw [lenL_eq, if_neg (by omega)]; exact ⟨_, rfl⟩
    obtain ⟨q, hq⟩ := hq
    have h2 := Int.tmod_lt_of_pos at_ (by omega : (0 : Int) < L.length)
    have h3 := Int.tmod_nonneg (L.length : Int) h0
    generalize at_.tmod L.length = k at *
    obtain ⟨j, rfl⟩ : ∃ j : Nat, k = j := ⟨k.toNat, by omega⟩
    have hx := List.getElem?_eq_getElem (show j < L.length by omega)
    obtain ⟨v, h4, _⟩ := below_ok (L[j]'(by omega)) (n := 1073741824) (by omega)
    obtain ⟨u, h6, h7⟩ := below_ok (addI .i64 v (mulI .i64 q (addI .i64 7919 j))) hn
    simp only [cond_false, e2, hr, hq, Option.bind_some, listAt_some hx, h4, h6]
    exact ⟨u, rfl, h7⟩
theorem range_ok {L : List Int} {at_ lo hi : Int} (hL : L.length ≤ 1048576) (h0 : 0 ≤ at_) (h1 : at_ ≤ 1000000000) (hlo : -1000000000000 ≤ lo) (hle : lo ≤ hi) (hhi : hi ≤ 1000000000000) : ∃ v, T14 L at_ lo hi = some (v, L, at_ + 1) ∧ lo ≤ v ∧ v ≤ hi := by
  unfold T14
  rw [show ltI hi lo = false by unfold ltI; exact decide_eq_false (by omega)]
  have e1 : subI .i64 hi lo = hi - lo := subI_eq (by omega) (by omega)
  have e2 : addI .i64 (hi - lo) 1 = hi - lo + 1 := addI_eq (by omega) (by omega)
  obtain ⟨v, h2, h3, _⟩ := next_ok (n := hi - lo + 1) hL h0 h1 (by omega)
  have h4 := h3 (by omega)
  simp only [cond_false, e1, e2, h2, Option.bind_some]
  exact ⟨_, rfl, by rw [addI_eq (by omega) (by omega)]; omega, by rw [addI_eq (by omega) (by omega)]; omega⟩
end Go.Abs.TKD

set_option linter.unusedVariables false
set_option linter.unusedSimpArgs false
set_option maxRecDepth 10000
namespace Go.Abs.TKD.R
open Go.RowKit Go.Proofs Go.Abs
def B (a : S182) : Prop := -100000 ≤ a.f0 ∧ a.f0 < a.f1 ∧ a.f1 ≤ 100000
def Can (l : List S182) : Prop := (∀ a ∈ l, B a) ∧ l.Pairwise fun a b => a.f1 < b.f0
def inn (l : List S182) (x : Int) : Prop := ∃ a, a ∈ l ∧ a.f0 ≤ x ∧ x < a.f1
theorem inn_nil (x : Int) : ¬ inn [] x := fun ⟨_, h, _⟩ => by simp at h
theorem inn_cons (a : S182) (l : List S182) (x : Int) : inn (a :: l) x ↔ (a.f0 ≤ x ∧ x < a.f1) ∨ inn l x := by
  unfold inn
  constructor
  · rintro ⟨b, h, h2⟩
    rcases List.mem_cons.1 h with e | e
    · subst e; exact .inl h2
    · exact .inr ⟨b, e, h2⟩
  · rintro (h | ⟨b, e, h2⟩)
    · exact ⟨a, by simp, h⟩
    · exact ⟨b, by simp [e], h2⟩
theorem inn_app (l : List S182) (a : S182) (x : Int) : inn (l ++ [a]) x ↔ inn l x ∨ (a.f0 ≤ x ∧ x < a.f1) := by
  unfold inn
  constructor
  · rintro ⟨b, h, h2⟩
    rcases List.mem_append.1 h with e | e
    · exact .inl ⟨b, e, h2⟩
    · rw [List.mem_singleton] at e
      subst e; exact .inr h2
  · rintro (⟨b, e, h2⟩ | h)
    · exact ⟨b, by simp [e], h2⟩
    · exact ⟨a, by simp, h⟩
theorem can_nil : Can [] := ⟨by simp, .nil⟩
theorem can_cons {a : S182} {l : List S182} : Can (a :: l) ↔ B a ∧ Can l ∧ ∀ b ∈ l, a.f1 < b.f0 := by
  unfold Can
  rw [List.pairwise_cons, List.forall_mem_cons]
  constructor
  · rintro ⟨⟨h1, h2⟩, h3, h4⟩
    exact ⟨h1, ⟨h2, h4⟩, h3⟩
  · rintro ⟨h1, ⟨h2, h4⟩, h3⟩
    exact ⟨⟨h1, h2⟩, h3, h4⟩
theorem can_app {a : S182} {l : List S182} : Can (l ++ [a]) ↔ B a ∧ Can l ∧ ∀ b ∈ l, b.f1 < a.f0 := by
  unfold Can
  rw [List.pairwise_append]
  constructor
  · rintro ⟨h1, h2, h3, h4⟩
    exact ⟨h1 a (by simp), ⟨fun b hb => h1 b (by simp [hb]), h2⟩, fun b hb => h4 b hb a (by simp)⟩
  · rintro ⟨h1, ⟨h2, h4⟩, h3⟩
    refine ⟨fun b hb => ?_, h4, by simp, fun b hb c hc => ?_⟩
    · rcases List.mem_append.1 hb with e | e
      · exact h2 b e
      · rw [List.mem_singleton] at e
        subst e; exact h1
    · rw [List.mem_singleton] at hc
      subst hc; exact h3 b hb
theorem can_lo {a : S182} {l : List S182} (h : Can (a :: l)) {x : Int} (hx : inn (a :: l) x) : a.f0 ≤ x := by
  obtain ⟨h1, h2, h3⟩ := can_cons.1 h
  rcases (inn_cons a l x).1 hx with h | ⟨b, hb, h⟩
  · exact h.1
  · have := h3 b hb
    unfold B at h1
    omega
theorem can_gap {a : S182} {l : List S182} (h : Can (a :: l)) {x : Int} (hx : inn l x) : a.f1 < x := by
  obtain ⟨h1, h2, h3⟩ := can_cons.1 h
  obtain ⟨b, hb, h⟩ := hx
  have := h3 b hb
  omega
theorem can_end {a b : S182} {l m : List S182} (hl : Can (a :: l)) (hm : Can (b :: m)) (h : ∀ x, inn (a :: l) x → inn (b :: m) x) (e : a.f0 = b.f0) : ¬ b.f1 < a.f1 := by
  intro hlt
  have hb := (can_cons.1 hm).1
  unfold B at hb
  have h1 : inn (b :: m) b.f1 := h _ ((inn_cons _ _ _).2 (.inl ⟨by omega, hlt⟩))
  rcases (inn_cons _ _ _).1 h1 with h2 | h2
  · omega
  · have := can_gap hm h2
    omega
theorem can_unique : ∀ (l m : List S182), Can l → Can m → (∀ x, inn l x ↔ inn m x) → l = m := by
  intro l
  induction l with
  | nil =>
    intro m _ hm h
    cases m with
    | nil => rfl
    | cons b m =>
      have hb := (can_cons.1 hm).1
      unfold B at hb
      exact absurd ((h b.f0).2 ((inn_cons _ _ _).2 (.inl ⟨Int.le_refl _, hb.2.1⟩))) (inn_nil _)
  | cons a l ih =>
    intro m hl hm h
    have ha := (can_cons.1 hl).1
    unfold B at ha
    cases m with
    | nil => exact absurd ((h a.f0).1 ((inn_cons _ _ _).2 (.inl ⟨Int.le_refl _, ha.2.1⟩))) (inn_nil _)
    | cons b m =>
      have hb := (can_cons.1 hm).1
      unfold B at hb
      have e0 : a.f0 = b.f0 := by
        have h1 := can_lo hm ((h a.f0).1 ((inn_cons _ _ _).2 (.inl ⟨Int.le_refl _, ha.2.1⟩)))
        have h2 := can_lo hl ((h b.f0).2 ((inn_cons _ _ _).2 (.inl ⟨Int.le_refl _, hb.2.1⟩)))
        omega
      have e1 : a.f1 = b.f1 := by
        have h1 := can_end hl hm (fun x => (h x).1) e0
        have h2 := can_end hm hl (fun x => (h x).2) e0.symm
        omega
      have e : a = b := by cases a; cases b; simp_all
      subst e
      rw [ih m (can_cons.1 hl).2.1 (can_cons.1 hm).2.1 fun x => ⟨fun hx => ?_, fun hx => ?_⟩]
      · have hg := can_gap hl hx
        rcases (inn_cons _ _ _).1 ((h x).1 ((inn_cons _ _ _).2 (.inr hx))) with h1 | h1
        · omega
        · exact h1
      · have hg := can_gap hm hx
        rcases (inn_cons _ _ _).1 ((h x).2 ((inn_cons _ _ _).2 (.inr hx))) with h1 | h1
        · omega
        · exact h1
theorem can_len_lo (l : List S182) (lo : Int) (h : Can l) (hlo : ∀ a ∈ l, lo ≤ a.f0) (hb : lo ≤ 100000) : (l.length : Int) ≤ 100000 - lo := by
  induction l generalizing lo with
  | nil => simp; omega
  | cons a l ih =>
    obtain ⟨h1, h2, h3⟩ := can_cons.1 h
    unfold B at h1
    have := ih a.f1 h2 (fun b hb => by have := h3 b hb; omega) (by omega)
    have h4 := hlo a (by simp)
    rw [List.length_cons]
    omega
theorem can_len {l : List S182} (h : Can l) : l.length ≤ 200000 := by
  have := can_len_lo l (-100000) h (fun a ha => (h.1 a ha).1) (by omega)
  omega
def W (r : S28) : Prop := -100000 ≤ r.f0 ∧ -100000 ≤ r.f1 ∧ 1 ≤ r.f2 ∧ r.f0 + r.f2 ≤ 100000 ∧ 1 ≤ r.f3 ∧ r.f1 + r.f3 ≤ 100000
def has (r : S28) (x y : Int) : Prop := r.f0 ≤ x ∧ x < r.f0 + r.f2 ∧ r.f1 ≤ y ∧ y < r.f1 + r.f3
def hasL (p : List S28) (x y : Int) : Prop := ∃ r, r ∈ p ∧ has r x y
theorem w_edge {r : S28} (h : W r) : addI .i64 r.f0 r.f2 = r.f0 + r.f2 ∧ addI .i64 r.f1 r.f3 = r.f1 + r.f3 := by
  unfold W at h
  exact ⟨addI_eq (by omega) (by omega), addI_eq (by omega) (by omega)⟩
theorem raw_ok (p : List S28) (y : Int) (hW : ∀ r ∈ p, W r) (hl : p.length ≤ 1000000) : ∃ r, iter (L106_3 p y) ([], 0) = some r ∧ r.2.2.length ≤ p.length ∧ (∀ a ∈ r.2.2, B a) ∧ ∀ x, inn r.2.2 x ↔ hasL p x y := by
  refine iter_up (st := L106_3 p y) (fun (s : List S182) i => (s, (i : Int))) p.length (fun i s => s.length ≤ i ∧ (∀ a ∈ s, B a) ∧ ∀ x, inn s x ↔ upto p i fun r => has r x y) (fun r => r.2.2.length ≤ p.length ∧ (∀ a ∈ r.2.2, B a) ∧ ∀ x, inn r.2.2 x ↔ hasL p x y) ?_ ?_ [] ⟨Nat.le_refl _, by simp, fun x => ⟨fun h => absurd h (inn_nil x), fun h => absurd h (upto_zero _ _)⟩⟩
  · intro i s hi ⟨h1, h2, h3⟩
    obtain ⟨r, hr⟩ : ∃ r, p[i]? = some r := ⟨_, List.getElem?_eq_getElem hi⟩
    have hw := hW r (List.mem_of_getElem? hr)
    have he := w_edge hw
    unfold W at hw
    have hno : ∀ s', s' = s → (∀ x, ¬ has r x y) → s'.length ≤ i + 1 ∧ (∀ a ∈ s', B a) ∧ ∀ x, inn s' x ↔ upto p (i + 1) fun r => has r x y := by
      intro s' e hx
      subst e
      refine ⟨by omega, h2, fun x => ?_⟩
      rw [upto_succ _ hr, h3]
      exact ⟨.inl, fun h => h.resolve_right (hx x)⟩
    simp only [L106_3, ltL_true hi, listAt_some hr, cond_true, Option.bind_some, he.1, he.2, nextI (show i < 9223372036854775807 by omega)]
    by_cases c1 : r.f1 ≤ y
    · rw [show leI r.f1 y = true from decide_eq_true c1]
      by_cases c2 : y < r.f1 + r.f3
      · rw [show ltI y (r.f1 + r.f3) = true from decide_eq_true c2, appO_big (by omega) (by simp only [List.length_cons, List.length_nil]; omega)]
        refine ⟨_, rfl, ?_, ?_, fun x => ?_⟩
        · simp only [List.length_append, List.length_cons, List.length_nil]; omega
        · intro a ha
          rcases List.mem_append.1 ha with e | e
          · exact h2 a e
          · rw [List.mem_singleton] at e
            subst e
            unfold B
            simp only
            omega
        · rw [inn_app, h3, upto_succ _ hr]
          simp only [has]
          constructor
          · rintro (h | h)
            · exact .inl h
            · exact .inr ⟨h.1, h.2, c1, c2⟩
          · rintro (h | h)
            · exact .inl h
            · exact .inr ⟨h.1, h.2.1⟩
      · rw [show ltI y (r.f1 + r.f3) = false from decide_eq_false c2]
        exact ⟨s, rfl, hno s rfl fun x h => by unfold has at h; omega⟩
    · rw [show leI r.f1 y = false from decide_eq_false c1]
      exact ⟨s, rfl, hno s rfl fun x h => by unfold has at h; omega⟩
  · intro s ⟨h1, h2, h3⟩
    simp only [L106_3, ltL_false (Nat.le_refl _), cond_false]
    exact ⟨_, rfl, h1, h2, fun x => (h3 x).trans (upto_len _)⟩
theorem sorted_ok (l : List S182) (hB : ∀ a ∈ l, B a) (hl : l.length ≤ 1000000) : ∃ l', sortO (fun x y => T129 x y) l = some l' ∧ l'.Perm l ∧ l'.Pairwise fun a b => a.f0 ≤ b.f0 :=
  sortO_key _ (fun a => a.f0) l (by omega) fun x hx y hy => by
    have h1 := hB x hx
    have h2 := hB y hy
    unfold B at h1 h2
    refine ⟨x.f0 - y.f0, ?_, by omega⟩
    unfold T129
    rw [subI_eq (by omega) (by omega)]
theorem merge_ok (l : List S182) (hB : ∀ a ∈ l, B a) (hs : l.Pairwise fun a b => a.f0 ≤ b.f0) (hl : l.length ≤ 1000000) : ∃ r, iter (L106_11 l) ([], l, 0) = some r ∧ Can r.2.2.1 ∧ ∀ x, inn r.2.2.1 x ↔ inn l x := by
  refine iter_up (st := L106_11 l) (fun (s : List S182) i => (s, l, (i : Int))) l.length (fun i s => Can s ∧ (∀ a ∈ s, ∃ j b, j < i ∧ l[j]? = some b ∧ a.f0 = b.f0) ∧ ∀ x, inn s x ↔ upto l i fun r => r.f0 ≤ x ∧ x < r.f1) (fun r => Can r.2.2.1 ∧ ∀ x, inn r.2.2.1 x ↔ inn l x) ?_ ?_ [] ⟨can_nil, by simp, fun x => ⟨fun h => absurd h (inn_nil x), fun h => absurd h (upto_zero _ _)⟩⟩
  · intro i s hi ⟨h1, h2, h3⟩
    obtain ⟨r, hr⟩ : ∃ r, l[i]? = some r := ⟨_, List.getElem?_eq_getElem hi⟩
    have hb := hB r (List.mem_of_getElem? hr)
    have hle : ∀ a ∈ s, a.f0 ≤ r.f0 := by
      intro a ha
      obtain ⟨j, b, hj, hjb, e⟩ := h2 a ha
      have := List.pairwise_iff_getElem.1 hs j i (by omega) hi hj
      rw [(List.getElem?_eq_some_iff.1 hjb).2, (List.getElem?_eq_some_iff.1 hr).2] at this
      omega
    have hlen := can_len h1
    simp only [L106_11, ltL_true hi, idx_nat hi, getN_some hr, cond_true, Option.bind_some, nextI (show i < 9223372036854775807 by omega)]
    rcases List.eq_nil_or_concat s with e | ⟨q, b, e⟩
    · subst e
      rw [show leI 0 (subI .i64 (lenL ([] : List S182)) 1) = false from rfl]
      simp only [cond_false]
      rw [appO_big (by omega) (by simp)]
      refine ⟨_, rfl, can_app.2 ⟨hb, h1, by simp⟩, ?_, fun x => ?_⟩
      · intro a ha
        rw [List.nil_append, List.mem_singleton] at ha
        subst ha
        exact ⟨i, a, by omega, hr, rfl⟩
      · rw [inn_app, h3, upto_succ _ hr]
    · subst e
      simp only [List.concat_eq_append] at *
      have hql : q.length < 200000 := by simp only [List.length_append, List.length_cons, List.length_nil] at hlen; omega
      have hlast := last_len q b (by omega)
      obtain ⟨hb1, hq, hqb⟩ := can_app.1 h1
      have hbr := hle b (by simp)
      simp only [hlast, idx_nat (show q.length < (q ++ [b]).length by simp), last_at, Option.bind_some, last_set]
      rw [show leI 0 (q.length : Int) = true from decide_eq_true (by omega)]
      simp only [cond_true]
      by_cases c : r.f0 ≤ b.f1
      · rw [show leI r.f0 b.f1 = true from decide_eq_true c]
        simp only [cond_true, maxI_eq]
        refine ⟨_, rfl, can_app.2 ⟨?_, hq, hqb⟩, ?_, fun x => ?_⟩
        · unfold B at *
          simp only
          omega
        · intro a ha
          rcases List.mem_append.1 ha with e | e
          · obtain ⟨j, b, hj, hjb, e⟩ := h2 a (by simp [e])
            exact ⟨j, b, by omega, hjb, e⟩
          · rw [List.mem_singleton] at e
            subst e
            obtain ⟨j, b', hj, hjb, e⟩ := h2 b (by simp)
            exact ⟨j, b', by omega, hjb, e⟩
        · have h4 := h3 x
          rw [inn_app] at h4
          rw [inn_app, upto_succ _ hr, ← h4]
          unfold B at *
          simp only
          generalize inn q x = A
          constructor
          · rintro (h | h)
            · exact .inl (.inl h)
            · by_cases hxb : x < b.f1
              · exact .inl (.inr ⟨h.1, hxb⟩)
              · exact .inr (by omega)
          · rintro ((h | h) | h)
            · exact .inl h
            · exact .inr (by omega)
            · exact .inr (by omega)
      · rw [show leI r.f0 b.f1 = false from decide_eq_false c]
        simp only [cond_false]
        rw [appO_big (by omega) (by simp only [List.length_append, List.length_cons, List.length_nil]; omega)]
        refine ⟨_, rfl, can_app.2 ⟨hb, h1, ?_⟩, ?_, fun x => ?_⟩
        · intro a ha
          rcases List.mem_append.1 ha with e | e
          · have := hqb a e
            unfold B at *
            omega
          · rw [List.mem_singleton] at e
            subst e
            omega
        · intro a ha
          rcases List.mem_append.1 ha with e | e
          · obtain ⟨j, b, hj, hjb, e⟩ := h2 a e
            exact ⟨j, b, by omega, hjb, e⟩
          · rw [List.mem_singleton] at e
            subst e
            exact ⟨i, a, by omega, hr, rfl⟩
        · rw [inn_app, h3, upto_succ _ hr]
  · intro s ⟨h1, h2, h3⟩
    simp only [L106_11, ltL_false (Nat.le_refl _), cond_false]
    exact ⟨_, rfl, h1, fun x => (h3 x).trans (upto_len _)⟩
theorem runs_ok (p : List S28) (y : Int) (hW : ∀ r ∈ p, W r) (hl : p.length ≤ 1000000) : ∃ l, T106 p y = some l ∧ Can l ∧ ∀ x, inn l x ↔ hasL p x y := by
  obtain ⟨r, h1, h2, h3, h4⟩ := raw_ok p y hW hl
  obtain ⟨l, h5, h6, h7⟩ := sorted_ok r.2.2 h3 (by omega)
  have hB : ∀ a ∈ l, B a := fun a ha => h3 a (h6.mem_iff.1 ha)
  obtain ⟨q, h8, h9, h10⟩ := merge_ok l hB h7 (by rw [h6.length_eq]; omega)
  refine ⟨q.2.2.1, ?_, h9, fun x => ?_⟩
  · unfold T106
    rw [h1, Option.bind_some, h5, Option.bind_some, h8, Option.bind_some]
  · rw [h10, ← h4]
    unfold inn
    exact ⟨fun ⟨a, h, e⟩ => ⟨a, h6.mem_iff.1 h, e⟩, fun ⟨a, h, e⟩ => ⟨a, h6.mem_iff.2 h, e⟩⟩
theorem skip_ok (l m : List S182) (z0 : List S182 × Int × Int) (x1 : S182) (hm : m.length ≤ 1000000) (j : Nat) (hj : j ≤ m.length) (hk : ∀ k b, k < j → m[k]? = some b → b.f1 ≤ x1.f0) :
    ∃ r, iter (L105_6 l m z0 x1) (j : Int) = some r ∧ ∃ j' : Nat, r.1 = (j' : Int) ∧ j' ≤ m.length ∧ ∀ k b, k < j' → m[k]? = some b → b.f1 ≤ x1.f0 := by
  refine iter_upx (st := L105_6 l m z0 x1) (fun (_ : Unit) i => (i : Int)) m.length (fun i _ => ∀ k b, k < i → m[k]? = some b → b.f1 ≤ x1.f0) (fun r => ∃ j' : Nat, r.1 = (j' : Int) ∧ j' ≤ m.length ∧ ∀ k b, k < j' → m[k]? = some b → b.f1 ≤ x1.f0) ?_ ?_ j () hj hk
  · intro i _ hi h
    obtain ⟨r, hr⟩ : ∃ r, m[i]? = some r := ⟨_, List.getElem?_eq_getElem hi⟩
    simp only [L105_6, ltL_true hi, listAt_some hr, cond_true, Option.bind_some, nextI (show i < 9223372036854775807 by omega)]
    by_cases c : r.f1 ≤ x1.f0
    · rw [show leI r.f1 x1.f0 = true from decide_eq_true c]
      refine .inl ⟨(), rfl, fun k b hk hb => ?_⟩
      by_cases e : k = i
      · subst e
        rw [hr] at hb
        cases hb
        exact c
      · exact h k b (by omega) hb
    · rw [show leI r.f1 x1.f0 = false from decide_eq_false c]
      exact .inr ⟨_, rfl, i, rfl, by omega, h⟩
  · intro _ h
    simp only [L105_6, ltL_false (Nat.le_refl _), cond_false]
    exact ⟨_, rfl, m.length, rfl, Nat.le_refl _, h⟩
theorem can_lt {m : List S182} (hm : Can m) {i j : Nat} {a b : S182} (ha : m[i]? = some a) (hb : m[j]? = some b) (h : i < j) : a.f1 < b.f0 := by
  have h1 := (List.getElem?_eq_some_iff.1 ha)
  have h2 := (List.getElem?_eq_some_iff.1 hb)
  obtain ⟨h1, e1⟩ := h1
  obtain ⟨h2, e2⟩ := h2
  have := List.pairwise_iff_getElem.1 hm.2 i j h1 h2 h
  rw [e1, e2] at this
  exact this
structure Cut (m : List S182) (x1 : S182) (P : Int → Prop) (i : Nat) (s : List S182) (fr : Int) : Prop where
  can : Can s
  lt : ∀ a ∈ s, a.f1 < fr
  hi : ∀ a ∈ s, a.f1 ≤ x1.f1
  lo : x1.f0 ≤ fr
  past : ∀ k b, k < i → m[k]? = some b → b.f1 ≤ fr
  pts : ∀ x, inn s x ↔ P x ∨ (x1.f0 ≤ x ∧ x < fr ∧ x < x1.f1 ∧ ¬ inn m x)
theorem cut_ok (l m : List S182) (z0 : List S182 × Int × Int) (x1 : S182) (y3 : Int × Bool) (hm : Can m) (hx1 : B x1) (P : Int → Prop) (j : Nat) (hj : j ≤ m.length) (s : List S182) (fr : Int) (hs : Cut m x1 P j s fr) :
    ∃ r, iter (L105_9 l m z0 x1 y3) (s, fr, (j : Int)) = some r ∧ ∃ i, Cut m x1 P i r.2.2.1 r.2.2.2 ∧ ∀ x, r.2.2.2 ≤ x → x < x1.f1 → ¬ inn m x := by
  have hlm := can_len hm
  refine iter_upx (st := L105_9 l m z0 x1 y3) (fun (s : List S182 × Int) i => (s.1, s.2, (i : Int))) m.length (fun i s => Cut m x1 P i s.1 s.2) (fun r => ∃ i, Cut m x1 P i r.2.2.1 r.2.2.2 ∧ ∀ x, r.2.2.2 ≤ x → x < x1.f1 → ¬ inn m x) ?_ ?_ j (s, fr) hj hs
  · rintro i ⟨s, fr⟩ hi h
    obtain ⟨r, hr⟩ : ∃ r, m[i]? = some r := ⟨_, List.getElem?_eq_getElem hi⟩
    have hb := hm.1 r (List.mem_of_getElem? hr)
    unfold B at hb hx1
    have hslen : s.length ≤ 200000 := can_len h.can
    simp only [L105_9, ltL_true hi, listAt_some hr, cond_true, Option.bind_some, nextI (show i < 9223372036854775807 by omega), maxI_eq]
    have hG : ∀ x, r.f0 ≤ x → x < r.f1 → inn m x := fun x h1 h2 => ⟨r, List.mem_of_getElem? hr, h1, h2⟩
    have hpast : ∀ k b, k < i + 1 → m[k]? = some b → b.f1 ≤ max fr r.f1 := by
      intro k b hk hkb
      by_cases e : k = i
      · subst e
        rw [hr] at hkb
        cases hkb
        omega
      · have := h.past k b (by omega) hkb
        omega
    by_cases c : r.f0 < x1.f1
    · rw [show ltI r.f0 x1.f1 = true from decide_eq_true c]
      simp only [cond_true]
      left
      by_cases c2 : fr < r.f0
      · rw [show ltI fr r.f0 = true from decide_eq_true c2, appO_big (by omega) (by simp only [List.length_cons, List.length_nil]; omega)]
        have hF : ∀ x, fr ≤ x → x < r.f0 → ¬ inn m x := by
          rintro x h1 h2 ⟨b, hbm, h3, h4⟩
          obtain ⟨k, hk⟩ := List.getElem?_of_mem hbm
          rcases Nat.lt_trichotomy k i with e | e | e
          · have := h.past k b e hk
            omega
          · subst e
            rw [hr] at hk
            cases hk
            omega
          · have := can_lt hm hr hk e
            omega
        have hlo := h.lo
        refine ⟨(_, _), rfl, ⟨can_app.2 ⟨?_, h.can, h.lt⟩, ?_, ?_, ?_, hpast, fun x => ?_⟩⟩
        · unfold B; simp only; omega
        · intro a ha
          simp only at ha ⊢
          rcases List.mem_append.1 ha with e | e
          · have := h.lt a e
            simp only at this
            omega
          · rw [List.mem_singleton] at e
            subst e
            simp only
            omega
        · intro a ha
          rcases List.mem_append.1 ha with e | e
          · exact h.hi a e
          · rw [List.mem_singleton] at e
            subst e
            simp only
            omega
        · simp only; simp only at hlo; omega
        · simp only
          rw [inn_app, h.pts x]
          simp only
          simp only at hlo
          constructor
          · rintro ((hh | hh) | hh)
            · exact .inl hh
            · exact .inr ⟨hh.1, by omega, hh.2.2.1, hh.2.2.2⟩
            · exact .inr ⟨by omega, by omega, by omega, hF x hh.1 hh.2⟩
          · rintro (hh | ⟨h1, h2, h3, h4⟩)
            · exact .inl (.inl hh)
            · by_cases hx : x < fr
              · exact .inl (.inr ⟨h1, hx, h3, h4⟩)
              · have : ¬ r.f0 ≤ x := fun h5 => h4 (hG x h5 (by omega))
                exact .inr ⟨by omega, by omega⟩
      · rw [show ltI fr r.f0 = false from decide_eq_false c2]
        have hlo := h.lo
        refine ⟨(_, _), rfl, ⟨h.can, ?_, h.hi, ?_, hpast, fun x => ?_⟩⟩
        · intro a ha
          have := h.lt a ha
          simp only at this ⊢
          omega
        · simp only; simp only at hlo; omega
        · simp only
          have := h.pts x
          simp only at this
          rw [this]
          constructor
          · rintro (hh | hh)
            · exact .inl hh
            · exact .inr ⟨hh.1, by omega, hh.2.2.1, hh.2.2.2⟩
          · rintro (hh | ⟨h1, h2, h3, h4⟩)
            · exact .inl hh
            · by_cases hx : x < fr
              · exact .inr ⟨h1, hx, h3, h4⟩
              · exact absurd (hG x (by omega) (by omega)) h4
    · rw [show ltI r.f0 x1.f1 = false from decide_eq_false c]
      right
      refine ⟨_, rfl, i, h, ?_⟩
      simp only
      rintro x h1 h2 ⟨b, hbm, h3, h4⟩
      obtain ⟨k, hk⟩ := List.getElem?_of_mem hbm
      rcases Nat.lt_trichotomy k i with e | e | e
      · have := h.past k b e hk
        simp only at this
        omega
      · subst e
        rw [hr] at hk
        cases hk
        omega
      · have := can_lt hm hr hk e
        omega
  · rintro ⟨s, fr⟩ h
    simp only [L105_9, ltL_false (Nat.le_refl _), cond_false]
    refine ⟨_, rfl, m.length, h, ?_⟩
    simp only
    rintro x h1 h2 ⟨b, hbm, h3, h4⟩
    obtain ⟨k, hk⟩ := List.getElem?_of_mem hbm
    have := h.past k b (List.getElem?_eq_some_iff.1 hk).1 hk
    simp only at this
    omega
theorem less_ok (l m : List S182) (hl : Can l) (hm : Can m) : ∃ o, T105 l m = some o ∧ Can o ∧ ∀ x, inn o x ↔ inn l x ∧ ¬ inn m x := by
  have hll := can_len hl
  have hlm := can_len hm
  suffices H : ∃ r, iter (L105_4 l m) ([], 0, 0) = some r ∧ Can r.2.2.2 ∧ ∀ x, inn r.2.2.2 x ↔ inn l x ∧ ¬ inn m x by
    obtain ⟨r, h1, h2, h3⟩ := H
    refine ⟨r.2.2.2, ?_, h2, h3⟩
    unfold T105
    rw [h1, Option.bind_some]
  refine iter_up (st := L105_4 l m) (fun (s : List S182 × Nat) i => (s.1, (s.2 : Int), (i : Int))) l.length
    (fun i s => Can s.1 ∧ s.2 ≤ m.length ∧ (∀ k b i' x, k < s.2 → m[k]? = some b → i ≤ i' → l[i']? = some x → b.f1 ≤ x.f0) ∧ (∀ a i' x, a ∈ s.1 → i ≤ i' → l[i']? = some x → a.f1 < x.f0) ∧ ∀ x, inn s.1 x ↔ (upto l i fun r => r.f0 ≤ x ∧ x < r.f1) ∧ ¬ inn m x)
    (fun r => Can r.2.2.2 ∧ ∀ x, inn r.2.2.2 x ↔ inn l x ∧ ¬ inn m x) ?_ ?_ ([], 0) ⟨can_nil, Nat.zero_le _, ?_, ?_, fun x => ⟨fun h => absurd h (inn_nil x), fun h => absurd h.1 (upto_zero _ _)⟩⟩
  · rintro i ⟨s, j⟩ hi ⟨h1, h2, h3, h4, h5⟩
    simp only at h1 h2 h3 h4 h5
    obtain ⟨r, hr⟩ : ∃ r, l[i]? = some r := ⟨_, List.getElem?_eq_getElem hi⟩
    have hb := hl.1 r (List.mem_of_getElem? hr)
    obtain ⟨q, q1, j', q2, q3, q4⟩ := skip_ok l m (s, (j : Int), (i : Int)) r (by omega) j h2 fun k b hk hkb => h3 k b i r hk hkb (Nat.le_refl _) hr
    have hcut : Cut m r (fun x => (upto l i fun r => r.f0 ≤ x ∧ x < r.f1) ∧ ¬ inn m x) j' s r.f0 := by
      refine ⟨h1, fun a ha => h4 a i r ha (Nat.le_refl _) hr, fun a ha => ?_, Int.le_refl _, q4, fun x => ?_⟩
      · have := h4 a i r ha (Nat.le_refl _) hr
        unfold B at hb
        omega
      · rw [h5]
        exact ⟨.inl, fun h => h.resolve_right fun h => by omega⟩
    obtain ⟨u, u1, i', u2, u3⟩ := cut_ok l m (s, (j : Int), (i : Int)) r q hm hb _ j' q3 s r.f0 hcut
    have hulen := can_len u2.can
    simp only [L105_4, ltL_true hi, listAt_some hr, cond_true, Option.bind_some, nextI (show i < 9223372036854775807 by omega)]
    rw [q1, Option.bind_some, q2, u1, Option.bind_some]
    have hnext : ∀ k b i' x, k < j' → m[k]? = some b → i + 1 ≤ i' → l[i']? = some x → b.f1 ≤ x.f0 := by
      intro k b i' x hk hkb hi' hx
      have h6 := q4 k b hk hkb
      have h7 := can_lt hl hr hx (by omega)
      unfold B at hb
      omega
    by_cases c : u.2.2.2 < r.f1
    · rw [show ltI u.2.2.2 r.f1 = true from decide_eq_true c, appO_big (by omega) (by simp only [List.length_cons, List.length_nil]; omega)]
      have hlo := u2.lo
      refine ⟨(_, j'), rfl, can_app.2 ⟨?_, u2.can, u2.lt⟩, q3, hnext, ?_, fun x => ?_⟩
      · unfold B at hb ⊢
        simp only
        omega
      · intro a i' x ha hi' hx
        have h7 := can_lt hl hr hx (by omega)
        simp only at ha
        rcases List.mem_append.1 ha with e | e
        · have := u2.hi a e
          omega
        · rw [List.mem_singleton] at e
          subst e
          exact h7
      · simp only
        rw [inn_app, u2.pts x, upto_succ _ hr]
        simp only
        constructor
        · rintro ((hh | hh) | hh)
          · exact ⟨.inl hh.1, hh.2⟩
          · exact ⟨.inr ⟨hh.1, hh.2.2.1⟩, hh.2.2.2⟩
          · exact ⟨.inr ⟨by omega, hh.2⟩, u3 x hh.1 hh.2⟩
        · rintro ⟨hh | hh, hn⟩
          · exact .inl (.inl ⟨hh, hn⟩)
          · by_cases hx : x < u.2.2.2
            · exact .inl (.inr ⟨hh.1, hx, hh.2, hn⟩)
            · exact .inr ⟨by omega, hh.2⟩
    · rw [show ltI u.2.2.2 r.f1 = false from decide_eq_false c]
      refine ⟨(_, j'), rfl, u2.can, q3, hnext, ?_, fun x => ?_⟩
      · intro a i' x ha hi' hx
        have h7 := can_lt hl hr hx (by omega)
        have := u2.hi a ha
        omega
      · simp only
        rw [u2.pts x, upto_succ _ hr]
        constructor
        · rintro (hh | hh)
          · exact ⟨.inl hh.1, hh.2⟩
          · exact ⟨.inr ⟨hh.1, hh.2.2.1⟩, hh.2.2.2⟩
        · rintro ⟨hh | hh, hn⟩
          · exact .inl ⟨hh, hn⟩
          · exact .inr ⟨hh.1, by omega, hh.2, hn⟩
  · rintro ⟨s, j⟩ ⟨h1, h2, h3, h4, h5⟩
    simp only [L105_4, ltL_false (Nat.le_refl _), cond_false]
    refine ⟨_, rfl, h1, fun x => ?_⟩
    simp only
    simp only at h5
    rw [h5, upto_len]
    rfl
  · intro k b i' x hk; exact absurd hk (Nat.not_lt_zero k)
  · intro a i' x ha; simp at ha
theorem same_ok (a b : List S182) (hl : a.length ≤ 1000000) : ∃ c, T107 a b = some c ∧ (c = true ↔ a = b) := by
  unfold T107
  by_cases hlen : a.length = b.length
  · have e : neI (lenL a) (lenL b) = false := by rw [neI_iff, lenL_eq, lenL_eq, hlen]; simp
    rw [e]
    simp only [cond_false]
    obtain ⟨r, h1, h2⟩ : ∃ r, iter (L107_4 a b) 0 = some r ∧ (r.isLeft = true ↔ a = b) := by
      refine iter_upx (st := L107_4 a b) (fun (_ : Unit) i => (i : Int)) a.length (fun i _ => ∀ j, j < i → a[j]? = b[j]?) (fun r => r.isLeft = true ↔ a = b) ?_ ?_ 0 () (Nat.zero_le _) (fun j h => absurd h (Nat.not_lt_zero j))
      · intro i _ hi h
        obtain ⟨r, hr⟩ : ∃ r, a[i]? = some r := ⟨_, List.getElem?_eq_getElem hi⟩
        obtain ⟨q, hq⟩ : ∃ r, b[i]? = some r := ⟨_, List.getElem?_eq_getElem (by omega)⟩
        simp only [L107_4, ltL_true hi, listAt_some hr, listAt_some hq, cond_true, Option.bind_some, nextI (show i < 9223372036854775807 by omega), allB, Bool.and_true]
        by_cases c : r.f0 = q.f0 ∧ r.f1 = q.f1
        · left
          rw [eqI_iff, eqI_iff, decide_eq_true c.1, decide_eq_true c.2]
          refine ⟨(), rfl, fun j hj => ?_⟩
          by_cases e : j = i
          · subst e
            rw [hr, hq]
            cases r; cases q
            simp_all
          · exact h j (by omega)
        · right
          have : (eqI r.f0 q.f0 && eqI r.f1 q.f1) = false := by
            rw [eqI_iff, eqI_iff, Bool.and_eq_false_iff]
            by_cases c1 : r.f0 = q.f0
            · exact .inr (decide_eq_false fun c2 => c ⟨c1, c2⟩)
            · exact .inl (decide_eq_false c1)
          rw [this]
          refine ⟨_, rfl, ?_⟩
          simp only [Sum.isLeft_inr, Bool.false_eq_true, false_iff]
          intro e
          subst e
          rw [hr] at hq
          cases hq
          exact c ⟨rfl, rfl⟩
      · intro _ h
        simp only [L107_4, ltL_false (Nat.le_refl _), cond_false]
        refine ⟨_, rfl, ?_⟩
        simp only [Sum.isLeft_inl, true_iff]
        refine List.ext_getElem? fun j => ?_
        by_cases hj : j < a.length
        · exact h j hj
        · rw [List.getElem?_eq_none (by omega), List.getElem?_eq_none (by omega)]
    rw [h1, Option.bind_some]
    cases r with
    | inl y => exact ⟨true, rfl, by simpa using h2⟩
    | inr y => exact ⟨false, rfl, by simpa using h2⟩
  · have e : neI (lenL a) (lenL b) = true := by
      rw [neI_iff, lenL_eq, lenL_eq]
      have : ¬ (a.length : Int) = b.length := by omega
      simp [this]
    rw [e]
    exact ⟨false, rfl, by simp only [Bool.false_eq_true, false_iff]; intro h; exact hlen (by rw [h])⟩
end Go.Abs.TKD.R

set_option linter.unusedVariables false
set_option linter.unusedSimpArgs false
set_option maxRecDepth 10000
namespace Go.Abs.TKD.R
open Go.RowKit Go.Proofs Go.Abs
noncomputable def G9 (h : Int → Int → Option Bool) (z0 : ((List Int) × (List Int) × (List S28) × (List S28) × Int)) (z1 : ((List Int) × (List Int) × (List S28) × (List S28) × (List S28) × Int)) : Option (((List Int) × (List Int) × (List S28) × (List S28) × (List S28) × Int) ⊕ (Int × Bool × (List Int) × (List Int) × (List S28) × (List S28) × (List S28))) := (bif (ltI (addI .i64 z1.2.2.2.2.2 1) (lenL z1.1)) then ((idxO (List.length z1.1) z1.2.2.2.2.2).bind fun x3 => ((getN z1.1 x3).bind fun x4 => ((idxO (List.length z1.2.1) z0.2.2.2.2).bind fun x5 => ((getN z1.2.1 x5).bind fun x6 => ((h x4 x6).bind fun x7 => (bif (!x7) then (some (.inl (z1.1, z1.2.1, z1.2.2.1, z1.2.2.2.1, z1.2.2.2.2.1, (addI .i64 z1.2.2.2.2.2 1)))) else (bif (leI 0 (subI .i64 (lenL z1.2.2.2.2.1) 1)) then ((idxO (List.length z1.2.2.2.2.1) (subI .i64 (lenL z1.2.2.2.2.1) 1)).bind fun x8 => ((getN z1.2.2.2.2.1 x8).bind fun x9 => ((idxO (List.length z1.2.2.2.2.1) (subI .i64 (lenL z1.2.2.2.2.1) 1)).bind fun x10 => ((getN z1.2.2.2.2.1 x10).bind fun x11 => ((idxO (List.length z1.1) z1.2.2.2.2.2).bind fun x12 => ((getN z1.1 x12).bind fun x13 => (bif (eqI (addI .i64 x9.f0 x11.f2) x13) then ((idxO (List.length z1.1) (addI .i64 z1.2.2.2.2.2 1)).bind fun x14 => ((getN z1.1 x14).bind fun x15 => ((idxO (List.length z1.2.2.2.2.1) (subI .i64 (lenL z1.2.2.2.2.1) 1)).bind fun x16 => ((getN z1.2.2.2.2.1 x16).bind fun x17 => ((idxO (List.length z1.2.2.2.2.1) (subI .i64 (lenL z1.2.2.2.2.1) 1)).bind fun x18 => ((getN z1.2.2.2.2.1 x18).bind fun x19 => (some (.inl (z1.1, z1.2.1, z1.2.2.1, z1.2.2.2.1, (List.set z1.2.2.2.2.1 x18 (S28.mk x19.f0 x19.f1 (subI .i64 x15 x17.f0) x19.f3)), (addI .i64 z1.2.2.2.2.2 1)))))))))) else ((idxO (List.length z1.1) z1.2.2.2.2.2).bind fun x20 => ((getN z1.1 x20).bind fun x21 => ((idxO (List.length z1.2.1) z0.2.2.2.2).bind fun x22 => ((getN z1.2.1 x22).bind fun x23 => ((idxO (List.length z1.1) (addI .i64 z1.2.2.2.2.2 1)).bind fun x24 => ((getN z1.1 x24).bind fun x25 => ((idxO (List.length z1.1) z1.2.2.2.2.2).bind fun x26 => ((getN z1.1 x26).bind fun x27 => ((idxO (List.length z1.2.1) (addI .i64 z0.2.2.2.2 1)).bind fun x28 => ((getN z1.2.1 x28).bind fun x29 => ((idxO (List.length z1.2.1) z0.2.2.2.2).bind fun x30 => ((getN z1.2.1 x30).bind fun x31 => ((appO 32 z1.2.2.2.2.1 ([(S28.mk x21 x23 (subI .i64 x25 x27) (subI .i64 x29 x31))] : List S28)).bind fun x32 => (some (.inl (z1.1, z1.2.1, z1.2.2.1, z1.2.2.2.1, x32, (addI .i64 z1.2.2.2.2.2 1)))))))))))))))))))))))) else ((idxO (List.length z1.1) z1.2.2.2.2.2).bind fun x33 => ((getN z1.1 x33).bind fun x34 => ((idxO (List.length z1.2.1) z0.2.2.2.2).bind fun x35 => ((getN z1.2.1 x35).bind fun x36 => ((idxO (List.length z1.1) (addI .i64 z1.2.2.2.2.2 1)).bind fun x37 => ((getN z1.1 x37).bind fun x38 => ((idxO (List.length z1.1) z1.2.2.2.2.2).bind fun x39 => ((getN z1.1 x39).bind fun x40 => ((idxO (List.length z1.2.1) (addI .i64 z0.2.2.2.2 1)).bind fun x41 => ((getN z1.2.1 x41).bind fun x42 => ((idxO (List.length z1.2.1) z0.2.2.2.2).bind fun x43 => ((getN z1.2.1 x43).bind fun x44 => ((appO 32 z1.2.2.2.2.1 ([(S28.mk x34 x36 (subI .i64 x38 x40) (subI .i64 x42 x44))] : List S28)).bind fun x45 => (some (.inl (z1.1, z1.2.1, z1.2.2.1, z1.2.2.2.1, x45, (addI .i64 z1.2.2.2.2.2 1)))))))))))))))))))))))) else (some (.inr (z1.2.2.2.2.2, (ltI (addI .i64 z1.2.2.2.2.2 1) (lenL z1.1)), z1.1, z1.2.1, z1.2.2.1, z1.2.2.2.1, z1.2.2.2.2.1))))
noncomputable def G19 (h : Int → Int → Option Bool) (z0 : ((List Int) × (List Int) × (List S28) × (List S28) × Int)) (y46 : (Int × Bool × (List Int) × (List Int) × (List S28) × (List S28) × (List S28))) (z2 : ((List Int) × (List Int) × (List S28) × (List S28) × (List S28) × Int)) : Option (((List Int) × (List Int) × (List S28) × (List S28) × (List S28) × Int) ⊕ (Int × Bool × (List Int) × (List Int) × (List S28) × (List S28) × (List S28))) := (bif (ltI z2.2.2.2.2.2 (lenL y46.2.2.2.2.2.1)) then ((idxO (List.length z2.2.2.2.1) z2.2.2.2.2.2).bind fun x48 => ((getN z2.2.2.2.1 x48).bind fun x49 => ((idxO (List.length z2.2.2.2.2.1) z2.2.2.2.2.2).bind fun x50 => ((getN z2.2.2.2.2.1 x50).bind fun x51 => ((idxO (List.length z2.2.2.2.1) z2.2.2.2.2.2).bind fun x52 => ((getN z2.2.2.2.1 x52).bind fun x53 => (some (.inl (z2.1, z2.2.1, z2.2.2.1, (List.set z2.2.2.2.1 x52 (S28.mk x53.f0 x53.f1 x53.f2 (addI .i64 x49.f3 x51.f3))), z2.2.2.2.2.1, (addI .i64 z2.2.2.2.2.2 1)))))))))) else (some (.inr (z2.2.2.2.2.2, (ltI z2.2.2.2.2.2 (lenL y46.2.2.2.2.2.1)), z2.1, z2.2.1, z2.2.2.1, z2.2.2.2.1, z2.2.2.2.2.1))))
def eX (p : List S28) : List Int := p.flatMap fun r => [r.f0, addI .i64 r.f0 r.f2]
def eY (p : List S28) : List Int := p.flatMap fun r => [r.f1, addI .i64 r.f1 r.f3]
theorem eX_len (p : List S28) : (eX p).length = 2 * p.length := by
  unfold eX
  induction p with
  | nil => rfl
  | cons a p ih => rw [List.flatMap_cons, List.length_append, ih, List.length_cons]; simp; omega
theorem eY_len (p : List S28) : (eY p).length = 2 * p.length := by
  unfold eY
  induction p with
  | nil => rfl
  | cons a p ih => rw [List.flatMap_cons, List.length_append, ih, List.length_cons]; simp; omega
theorem take_next {α : Type} {l : List α} {i : Nat} {x : α} (h : l[i]? = some x) : l.take (i + 1) = l.take i ++ [x] := by
  rw [List.take_add_one, h]; rfl
theorem fm_next {α : Type} (f : α → List Int) {l : List α} {i : Nat} {x : α} (h : l[i]? = some x) : (l.take (i + 1)).flatMap f = (l.take i).flatMap f ++ f x := by
  rw [take_next h, List.flatMap_append]; simp
theorem edges_loop (p q x1 : List S28) (hl : x1.length ≤ 1000000) : ∃ r, iter (L60_3 p q x1) ([], x1, 0) = some r ∧ r.2.2 = (eY x1, x1) := by
  refine iter_up (st := L60_3 p q x1) (fun (s : List Int) i => (s, x1, (i : Int))) x1.length (fun i s => s = eY (x1.take i)) (fun r => r.2.2 = (eY x1, x1)) ?_ ?_ [] rfl
  · intro i s hi h
    obtain ⟨r, hr⟩ : ∃ r, x1[i]? = some r := ⟨_, List.getElem?_eq_getElem hi⟩
    have hs : s.length ≤ 2000000 := by rw [h, eY_len, List.length_take]; omega
    simp only [L60_3, ltL_true hi, idx_nat hi, getN_some hr, cond_true, Option.bind_some, nextI (show i < 9223372036854775807 by omega)]
    rw [appO_big (by omega) (by simp only [List.length_cons, List.length_nil]; omega)]
    refine ⟨_, rfl, ?_⟩
    rw [h]
    exact (fm_next _ hr).symm
  · intro s h
    simp only [L60_3, ltL_false (Nat.le_refl _), cond_false]
    refine ⟨_, rfl, ?_⟩
    rw [h, List.take_length]
theorem both_ok (p q : List S28) (hp : p.length ≤ 1000000) (hq : q.length ≤ 1000000) : T21 [p, q] = some (p ++ q) := by
  unfold T21
  have e1 : lenL p = (p.length : Int) := rfl
  have e2 : lenL q = (q.length : Int) := rfl
  have hlt0 : ltI 0 (lenL [p, q]) = true := rfl
  have hlt1 : ltI 1 (lenL [p, q]) = true := rfl
  have hlt2 : ltI 2 (lenL [p, q]) = false := rfl
  have n0 : addI .i64 0 1 = 1 := by decide
  have n1 : addI .i64 1 1 = 2 := by decide
  have a0 : listAt [p, q] 0 = some p := rfl
  have a1 : listAt [p, q] 1 = some q := rfl
  have s0 : addI .i64 0 (p.length : Int) = (p.length : Int) := by rw [addI_eq (by omega) (by omega)]; omega
  have s1 : addI .i64 (p.length : Int) (q.length : Int) = ((p.length + q.length : Nat) : Int) := by rw [addI_eq (by omega) (by omega)]; omega
  have l0 : ltI (p.length : Int) 0 = false := decide_eq_false (by omega)
  have l1 : ltI ((p.length + q.length : Nat) : Int) 0 = false := decide_eq_false (by omega)
  have h0 : L21_3 [p, q] (0, 0) = some (.inl ((p.length : Int), 1)) := by
    simp only [L21_3, hlt0, cond_true, a0, Option.bind_some, e1, s0, l0, cond_false, n0]
  have h1 : L21_3 [p, q] ((p.length : Int), 1) = some (.inl (((p.length + q.length : Nat) : Int), 2)) := by
    simp only [L21_3, hlt1, cond_true, a1, Option.bind_some, e2, s1, l1, cond_false, n1]
  have h2 : L21_3 [p, q] (((p.length + q.length : Nat) : Int), 2) = some (.inr (((p.length + q.length : Nat) : Int), 2, false)) := by
    simp only [L21_3, hlt2, cond_false]
  rw [iter_inl h0, iter_inl h1, iter_inr h2, Option.bind_some]
  have hg : growO S28 32 ((p.length + q.length : Nat) : Int) = some [] := by
    unfold growO
    rw [if_pos ⟨by omega, by omega, by omega⟩]
  simp only [hg, Option.bind_some]
  have k0 : L21_11 [p, q] ([], 0) = some (.inl (p, 1)) := by
    simp only [L21_11, hlt0, cond_true, a0, Option.bind_some, n0]
    rw [appO_big (by omega) (by simp only [List.length_nil]; omega)]
    rfl
  have k1 : L21_11 [p, q] (p, 1) = some (.inl (p ++ q, 2)) := by
    simp only [L21_11, hlt1, cond_true, a1, Option.bind_some, n1]
    rw [appO_big (by omega) (by omega)]
    rfl
  have k2 : L21_11 [p, q] (p ++ q, 2) = some (.inr (2, false, p ++ q)) := by
    simp only [L21_11, hlt2, cond_false]
  rw [iter_inl k0, iter_inl k1, iter_inr k2, Option.bind_some]
theorem next_to {xs : List Int} (hs : xs.Pairwise (· < ·)) {j : Nat} {a b v : Int} (ha : xs[j]? = some a) (hb : xs[j + 1]? = some b) (hv : v ∈ xs) : v ≤ a ∨ b ≤ v := by
  obtain ⟨k, hk, rfl⟩ := List.getElem_of_mem hv
  obtain ⟨h1, rfl⟩ := List.getElem?_eq_some_iff.1 ha
  obtain ⟨h2, rfl⟩ := List.getElem?_eq_some_iff.1 hb
  have hp := List.pairwise_iff_getElem.1 hs
  rcases Nat.lt_trichotomy k j with h | h | h
  · have := hp k j hk h1 h
    omega
  · subst h; exact .inl (Int.le_refl _)
  · by_cases e : k = j + 1
    · subst e; exact .inr (Int.le_refl _)
    · have := hp (j + 1) k h2 hk (by omega)
      omega
theorem between : ∀ (xs : List Int), xs.Pairwise (· < ·) → ∀ x u v : Int, u ∈ xs → u ≤ x → v ∈ xs → x < v → ∃ j a b, xs[j]? = some a ∧ xs[j + 1]? = some b ∧ a ≤ x ∧ x < b := by
  intro xs
  induction xs with
  | nil => intro _ x u v hu; simp at hu
  | cons c t ih =>
    intro hs x u v hu hux hv hxv
    obtain ⟨hc, ht⟩ := List.pairwise_cons.1 hs
    cases t with
    | nil => simp at hu hv; omega
    | cons d t =>
      by_cases hx : x < d
      · refine ⟨0, c, d, rfl, rfl, ?_, hx⟩
        rcases List.mem_cons.1 hu with e | e
        · omega
        · have := hc u e; omega
      · have hcd := hc d (by simp)
        have hv' : v ∈ d :: t := by
          rcases List.mem_cons.1 hv with e | e
          · omega
          · exact e
        obtain ⟨j, a, b, h1, h2, h3⟩ := ih ht x d v (by simp) (by omega) hv' hxv
        exact ⟨j + 1, a, b, h1, h2, h3⟩
def cell (y h : Int) (a : S182) : S28 := ⟨a.f0, y, a.f1 - a.f0, h⟩
def pts (xs : List Int) (H : Int → Prop) (i : Nat) (x : Int) : Prop := ∃ j a b, j < i ∧ xs[j]? = some a ∧ xs[j + 1]? = some b ∧ a ≤ x ∧ x < b ∧ H a
theorem emit_ok {st : ((List Int) × (List S28) × Int) → Option (((List Int) × (List S28) × Int) ⊕ (Int × Bool × (List Int) × (List S28)))} (ys : List Int) (cur : List S182) (f h : Int) (out : List S28) (hout : out.length ≤ 1900000000000) (hcur : cur.length ≤ 1000000)
    (h1 : ∀ (s : List S28) (i : Nat) a, i < cur.length → cur[i]? = some a → st (ys, s, (i : Int)) = (appO 32 s [cell f h a]).bind fun x => some (.inl (ys, x, ((i + 1 : Nat) : Int)))) (h2 : ∀ s, st (ys, s, (cur.length : Int)) = some (.inr ((cur.length : Int), false, ys, s))) :
    ∃ r, iter st (ys, out, 0) = some r ∧ r.2.2 = (ys, out ++ cur.map (cell f h)) := by
  refine iter_up (st := st) (fun (s : List S28) i => (ys, s, (i : Int))) cur.length (fun i s => s = out ++ (cur.take i).map (cell f h)) (fun r => r.2.2 = (ys, out ++ cur.map (cell f h))) ?_ ?_ out (by simp)
  · intro i s hi hs
    obtain ⟨a, ha⟩ : ∃ r, cur[i]? = some r := ⟨_, List.getElem?_eq_getElem hi⟩
    have hlen : s.length ≤ 1900001000000 := by rw [hs, List.length_append, List.length_map, List.length_take]; omega
    refine ⟨s ++ [cell f h a], ?_, ?_⟩
    · rw [h1 s i a hi ha, appO_big (by omega) (by simp only [List.length_cons, List.length_nil]; omega)]
      rfl
    · rw [hs, take_next ha, List.map_append, List.append_assoc]
      rfl
  · intro s hs
    refine ⟨_, h2 s, ?_⟩
    rw [hs, List.take_length]
end Go.Abs.TKD.R

set_option linter.unusedVariables false
set_option linter.unusedSimpArgs false
set_option maxRecDepth 10000
namespace Go.Abs.TKD.R
open Go.RowKit Go.Proofs Go.Abs
noncomputable def rowAt (p q : List S28) (y : Int) : List S182 := ((T106 p y).bind fun a => (T106 q y).bind fun b => T105 a b).getD []
theorem rowAt_ok (p q : List S28) (y : Int) (hp : ∀ r ∈ p, W r) (hq : ∀ r ∈ q, W r) (lp : p.length ≤ 1000000) (lq : q.length ≤ 1000000) :
    ∃ a b, T106 p y = some a ∧ T106 q y = some b ∧ T105 a b = some (rowAt p q y) ∧ Can (rowAt p q y) ∧ ∀ x, inn (rowAt p q y) x ↔ hasL p x y ∧ ¬ hasL q x y := by
  obtain ⟨a, a1, a2, a3⟩ := runs_ok p y hp lp
  obtain ⟨b, b1, b2, b3⟩ := runs_ok q y hq lq
  obtain ⟨o, o1, o2, o3⟩ := less_ok a b a2 b2
  have e : rowAt p q y = o := by
    unfold rowAt
    rw [a1, Option.bind_some, b1, Option.bind_some, o1, Option.getD_some]
  rw [e]
  exact ⟨a, b, a1, b1, o1, o2, fun x => by rw [o3, a3, b3]⟩
attribute [local irreducible] rowAt
open Classical in
noncomputable def St (R : Int → List S182) (ys : List Int) : Nat → List S28 × List S182 × Int
  | 0 => ([], [], 0)
  | k + 1 => if (St R ys k).2.1 = R (ys.getD k 0) then St R ys k else ((St R ys k).1 ++ (St R ys k).2.1.map (cell (St R ys k).2.2 (ys.getD k 0 - (St R ys k).2.2)), R (ys.getD k 0), ys.getD k 0)
noncomputable def Fin (R : Int → List S182) (ys : List Int) : List S28 :=
  (St R ys (ys.length - 1)).1 ++ (St R ys (ys.length - 1)).2.1.map (cell (St R ys (ys.length - 1)).2.2 (ys.getD (ys.length - 1) 0 - (St R ys (ys.length - 1)).2.2))
theorem St_same {R : Int → List S182} {ys : List Int} {k : Nat} {y : Int} (hy : ys[k]? = some y) (h : (St R ys k).2.1 = R y) : St R ys (k + 1) = St R ys k := by
  rw [St]
  rw [List.getD_eq_getElem?_getD, hy, Option.getD_some, if_pos h]
theorem St_new {R : Int → List S182} {ys : List Int} {k : Nat} {y : Int} (hy : ys[k]? = some y) (h : ¬ (St R ys k).2.1 = R y) : St R ys (k + 1) = ((St R ys k).1 ++ (St R ys k).2.1.map (cell (St R ys k).2.2 (y - (St R ys k).2.2)), R y, y) := by
  rw [St]
  rw [List.getD_eq_getElem?_getD, hy, Option.getD_some, if_neg h]
theorem St_ok (R : Int → List S182) (ys : List Int) (hR : ∀ y, Can (R y)) (hys : ∀ y ∈ ys, -100000 ≤ y ∧ y ≤ 100000) : ∀ k, k ≤ ys.length → (St R ys k).1.length ≤ k * 200000 ∧ Can (St R ys k).2.1 ∧ -100000 ≤ (St R ys k).2.2 ∧ (St R ys k).2.2 ≤ 100000 := by
  intro k
  induction k with
  | zero => intro _; exact ⟨by simp [St], can_nil, by simp [St], by simp [St]⟩
  | succ k ih =>
    intro hk
    obtain ⟨h1, h2, h3, h4⟩ := ih (by omega)
    obtain ⟨y, hy⟩ : ∃ r, ys[k]? = some r := ⟨_, List.getElem?_eq_getElem (by omega)⟩
    have hb := hys y (List.mem_of_getElem? hy)
    by_cases c : (St R ys k).2.1 = R y
    · rw [St_same hy c]
      exact ⟨Nat.le_trans h1 (Nat.mul_le_mul_right _ (Nat.le_succ k)), h2, h3, h4⟩
    · rw [St_new hy c]
      have hl := can_len h2
      refine ⟨?_, hR y, hb.1, hb.2⟩
      simp only [List.length_append, List.length_map]
      rw [Nat.succ_mul]
      omega
theorem prog_ok (p q : List S28) (ys : List Int) (hp : ∀ r ∈ p, W r) (hq : ∀ r ∈ q, W r) (lp : p.length ≤ 1000000) (lq : q.length ≤ 1000000) (hys : ∀ y ∈ ys, -100000 ≤ y ∧ y ≤ 100000) (hl : ys.length ≤ 1000000) :
    ∃ r, iter (L60_13 p q ys) (ys, [], [], 0, 0) = some r ∧ r.2.2.2.2.2 = Fin (rowAt p q) ys := by
  have hR : ∀ y, Can (rowAt p q y) := fun y => by obtain ⟨_, _, _, _, _, h, _⟩ := rowAt_ok p q y hp hq lp lq; exact h
  refine iter_up (st := L60_13 p q ys) (fun (s : List S28 × List S182 × Int) i => (ys, s.1, s.2.1, s.2.2, (i : Int))) ys.length (fun i s => (i < ys.length → s = St (rowAt p q) ys i) ∧ (i = ys.length → s.1 = Fin (rowAt p q) ys))
    (fun r => r.2.2.2.2.2 = Fin (rowAt p q) ys) ?_ ?_ ([], [], 0) ⟨fun _ => rfl, fun h => ?_⟩
  · intro i s hi ⟨hs, _⟩
    have hs := hs hi
    obtain ⟨o1, o2, o3, o4⟩ := St_ok (rowAt p q) ys hR hys i (by omega)
    obtain ⟨y, hy⟩ : ∃ r, ys[i]? = some r := ⟨_, List.getElem?_eq_getElem hi⟩
    have hb := hys y (List.mem_of_getElem? hy)
    obtain ⟨a, b, r1, r2, r3, r4, r5⟩ := rowAt_ok p q y hp hq lp lq
    rw [← hs] at o1 o2 o3 o4
    have hlen := can_len o2
    obtain ⟨out, cur, fr⟩ := s
    simp only at o1 o2 o3 o4 hlen hs
    have ho : out.length ≤ 1900000000000 := by
      have : i * 200000 ≤ 1000000 * 200000 := Nat.mul_le_mul (by omega) (Nat.le_refl _)
      omega
    have hsub : subI .i64 y fr = y - fr := subI_eq (by omega) (by omega)
    simp only [L60_13, ltL_true hi, idx_nat hi, getN_some hy, cond_true, Option.bind_some, nextI (show i < 9223372036854775807 by omega)]
    have hcell : ∀ a ∈ cur, subI .i64 a.f1 a.f0 = a.f1 - a.f0 := by
      intro a ha
      have := o2.1 a ha
      unfold B at this
      exact subI_eq (by omega) (by omega)
    by_cases hi1 : i + 1 < ys.length
    · simp only [ltL_true hi1, cond_true, r1, r2, r3, Option.bind_some]
      obtain ⟨c, c1, c2⟩ := same_ok cur (rowAt p q y) (by omega)
      rw [c1, Option.bind_some]
      cases c with
      | true =>
        have e := c2.1 rfl
        refine ⟨(out, cur, fr), rfl, fun _ => ?_, fun h => by omega⟩
        rw [St_same hy (by rw [← hs]; exact e)]
        exact hs
      | false =>
        have e : ¬ cur = rowAt p q y := fun e => by simpa using c2.2 e
        obtain ⟨v, v1, v2⟩ := emit_ok (st := L60_20 p q ys (ys, out, cur, fr, (i : Int)) y (rowAt p q y)) ys cur fr (y - fr) out ho (by omega) (fun s j a hj ha => by
          simp only [L60_20, ltL_true hj, listAt_some ha, cond_true, Option.bind_some, nextI (show j < 9223372036854775807 by omega), hsub, hcell a (List.mem_of_getElem? ha)]
          rfl) (fun s => by simp only [L60_20, ltL_false (Nat.le_refl _), cond_false])
        simp only [cond_false]
        rw [v1, Option.bind_some, v2]
        refine ⟨(_, _, _), rfl, fun _ => ?_, fun h => by omega⟩
        rw [St_new hy (by rw [← hs]; exact e), ← hs]
    · have hlt : ltI ((i + 1 : Nat) : Int) (lenL ys) = false := ltL_false (by omega)
      simp only [hlt, cond_false]
      obtain ⟨c, c1, c2⟩ := same_ok cur [] (by omega)
      rw [c1, Option.bind_some]
      have hii : i = ys.length - 1 := by omega
      have hgd : ys.getD (ys.length - 1) 0 = y := by rw [← hii, List.getD_eq_getElem?_getD, hy, Option.getD_some]
      cases c with
      | true =>
        have e := c2.1 rfl
        refine ⟨(out, cur, fr), rfl, fun h => by omega, fun _ => ?_⟩
        unfold Fin
        rw [← hii, ← hs]
        simp only [e, List.map_nil, List.append_nil]
      | false =>
        obtain ⟨v, v1, v2⟩ := emit_ok (st := L60_20_v1 p q ys (ys, out, cur, fr, (i : Int)) y) ys cur fr (y - fr) out ho (by omega) (fun s j a hj ha => by
          simp only [L60_20_v1, ltL_true hj, listAt_some ha, cond_true, Option.bind_some, nextI (show j < 9223372036854775807 by omega), hsub, hcell a (List.mem_of_getElem? ha)]
          rfl) (fun s => by simp only [L60_20_v1, ltL_false (Nat.le_refl _), cond_false])
        simp only [cond_false]
        rw [v1, Option.bind_some, v2]
        refine ⟨(_, _, _), rfl, fun h => by omega, fun _ => ?_⟩
        unfold Fin
        rw [hgd, ← hii, ← hs]
  · intro s ⟨_, h⟩
    simp only [L60_13, ltL_false (Nat.le_refl _), cond_false]
    exact ⟨_, rfl, h rfl⟩
  · simp only
    unfold Fin
    rw [← h]
    simp [St]
theorem mem_eX {p : List S28} {x : Int} : x ∈ eX p ↔ ∃ r ∈ p, x = r.f0 ∨ x = addI .i64 r.f0 r.f2 := by
  unfold eX
  rw [List.mem_flatMap]
  simp only [List.mem_cons, List.not_mem_nil, or_false]
theorem mem_eY {p : List S28} {x : Int} : x ∈ eY p ↔ ∃ r ∈ p, x = r.f1 ∨ x = addI .i64 r.f1 r.f3 := by
  unfold eY
  rw [List.mem_flatMap]
  simp only [List.mem_cons, List.not_mem_nil, or_false]
end Go.Abs.TKD.R

set_option linter.unusedVariables false
set_option linter.unusedSimpArgs false
set_option maxRecDepth 10000
namespace Go.Abs.TKD.R
open Go.RowKit Go.Proofs Go.Abs
open Classical in
noncomputable def stp (R : Int → List S182) (s : List S28 × List S182 × Int) (y : Int) : List S28 × List S182 × Int :=
  if s.2.1 = R y then s else (s.1 ++ s.2.1.map (cell s.2.2 (y - s.2.2)), R y, y)
theorem row_same (p q : List S28) (a b : Int) (hp : ∀ r ∈ p, W r) (hq : ∀ r ∈ q, W r) (lp : p.length ≤ 1000000) (lq : q.length ≤ 1000000) (h : ∀ r, r ∈ p ∨ r ∈ q → ∀ x, has r x a ↔ has r x b) : rowAt p q a = rowAt p q b := by
  obtain ⟨_, _, _, _, _, c1, d1⟩ := rowAt_ok p q a hp hq lp lq
  obtain ⟨_, _, _, _, _, c2, d2⟩ := rowAt_ok p q b hp hq lp lq
  have key : ∀ (l : List S28), (∀ r ∈ l, r ∈ p ∨ r ∈ q) → ∀ x, hasL l x a ↔ hasL l x b := fun l hl x => ⟨fun ⟨r, hr, h1⟩ => ⟨r, hr, (h r (hl r hr) x).1 h1⟩, fun ⟨r, hr, h1⟩ => ⟨r, hr, (h r (hl r hr) x).2 h1⟩⟩
  refine can_unique _ _ c1 c2 fun x => ?_
  rw [d1, d2, key p (fun r => .inl) x, key q (fun r => .inr) x]
theorem row_none (p q : List S28) (y : Int) (hp : ∀ r ∈ p, W r) (hq : ∀ r ∈ q, W r) (lp : p.length ≤ 1000000) (lq : q.length ≤ 1000000) (h : ∀ r ∈ p, ∀ x, ¬ has r x y) : rowAt p q y = [] := by
  obtain ⟨_, _, _, _, _, c1, d1⟩ := rowAt_ok p q y hp hq lp lq
  refine can_unique _ _ c1 can_nil fun x => ?_
  rw [d1]
  constructor
  · rintro ⟨⟨r, hr, h1⟩, _⟩
    exact absurd h1 (h r hr x)
  · intro h1; exact absurd h1 (inn_nil x)
def edgesY (p : List S28) : List Int := Lib.compact (sortI (eY p))
def edgesX (p : List S28) : List Int := Lib.compact (sortI (eX p))
theorem edgesY_ok (p : List S28) (hp : ∀ r ∈ p, W r) : (edgesY p).Pairwise (· < ·) ∧ (∀ y, y ∈ edgesY p ↔ ∃ r ∈ p, y = r.f1 ∨ y = r.f1 + r.f3) ∧ (∀ y ∈ edgesY p, -100000 ≤ y ∧ y ≤ 100000) ∧ (edgesY p).length ≤ 2 * p.length := by
  have fy := compact_facts (sortI (eY p)) (sortI_sorted _)
  have my : ∀ y, y ∈ edgesY p ↔ ∃ r ∈ p, y = r.f1 ∨ y = r.f1 + r.f3 := fun y => by
    unfold edgesY
    rw [fy.2, (sortI_perm _).mem_iff, mem_eY]
    exact ⟨fun ⟨r, hr, h⟩ => ⟨r, hr, by rw [(w_edge (hp r hr)).2] at h; exact h⟩, fun ⟨r, hr, h⟩ => ⟨r, hr, by rw [(w_edge (hp r hr)).2]; exact h⟩⟩
  refine ⟨fy.1, my, fun y hy => ?_, ?_⟩
  · obtain ⟨r, hr, e⟩ := (my y).1 hy
    have hw := hp r hr
    unfold W at hw
    rcases e with e | e <;> omega
  · have h1 := compact_le (sortI (eY p))
    have h2 := (sortI_perm (eY p)).length_eq
    rw [eY_len] at h2
    unfold edgesY
    omega
theorem edgesX_ok (p : List S28) (hp : ∀ r ∈ p, W r) : (edgesX p).Pairwise (· < ·) ∧ (∀ y, y ∈ edgesX p ↔ ∃ r ∈ p, y = r.f0 ∨ y = r.f0 + r.f2) ∧ (∀ y ∈ edgesX p, -100000 ≤ y ∧ y ≤ 100000) ∧ (edgesX p).length ≤ 2 * p.length := by
  have fy := compact_facts (sortI (eX p)) (sortI_sorted _)
  have my : ∀ y, y ∈ edgesX p ↔ ∃ r ∈ p, y = r.f0 ∨ y = r.f0 + r.f2 := fun y => by
    unfold edgesX
    rw [fy.2, (sortI_perm _).mem_iff, mem_eX]
    exact ⟨fun ⟨r, hr, h⟩ => ⟨r, hr, by rw [(w_edge (hp r hr)).1] at h; exact h⟩, fun ⟨r, hr, h⟩ => ⟨r, hr, by rw [(w_edge (hp r hr)).1]; exact h⟩⟩
  refine ⟨fy.1, my, fun y hy => ?_, ?_⟩
  · obtain ⟨r, hr, e⟩ := (my y).1 hy
    have hw := hp r hr
    unfold W at hw
    rcases e with e | e <;> omega
  · have h1 := compact_le (sortI (eX p))
    have h2 := (sortI_perm (eX p)).length_eq
    rw [eX_len] at h2
    unfold edgesX
    omega
end Go.Abs.TKD.R

set_option linter.unusedVariables false
set_option linter.unusedSimpArgs false
set_option maxRecDepth 10000
namespace Go.Abs.TKD.R
open Go.RowKit Go.Proofs Go.Abs
theorem countP_or {α : Type} (p q : α → Bool) : ∀ (l : List α), (∀ x ∈ l, ¬ (p x = true ∧ q x = true)) → l.countP (fun x => p x || q x) = l.countP p + l.countP q
  | [], _ => rfl
  | a :: l, h => by
    have ih := countP_or p q l fun x hx => h x (by simp [hx])
    have ha := h a (by simp)
    rw [List.countP_cons, List.countP_cons, List.countP_cons, ih]
    cases hp : p a <;> cases hq : q a <;> simp_all <;> omega
theorem count_upto (u v : Nat) : ∀ n, (List.range n).countP (fun i => decide (u ≤ i ∧ i < v)) = min v n - min u n
  | 0 => by simp
  | n + 1 => by
    rw [List.range_succ, List.countP_append, count_upto u v n, List.countP_singleton]
    by_cases h : u ≤ n ∧ n < v
    · rw [decide_eq_true h]
      simp only [if_true]
      omega
    · rw [decide_eq_false h]
      simp only [Bool.false_eq_true, if_false]
      omega
open Classical in
noncomputable def cnt1 (P : Int → Prop) : Nat := (List.range 200001).countP fun i : Nat => decide (P ((i : Int) - 100000))
noncomputable def cnt (P : Int → Int → Prop) : Nat := ((List.range 200001).map fun j : Nat => cnt1 fun x => P x ((j : Int) - 100000)).sum
theorem cnt_ext {P Q : Int → Int → Prop} (h : ∀ x y, P x y ↔ Q x y) : cnt P = cnt Q := by
  have : P = Q := funext fun x => funext fun y => propext (h x y)
  rw [this]
theorem cnt1_or {P Q : Int → Prop} (h : ∀ x, ¬ (P x ∧ Q x)) : cnt1 (fun x => P x ∨ Q x) = cnt1 P + cnt1 Q := by
  unfold cnt1
  rw [← countP_or _ _ _ fun i _ => by simpa using h _]
  congr 1
  funext i
  rw [Bool.eq_iff_iff]
  simp
theorem sum_add {α : Type} (f g : α → Nat) : ∀ l : List α, (l.map fun x => f x + g x).sum = (l.map f).sum + (l.map g).sum
  | [] => rfl
  | a :: l => by simp only [List.map_cons, List.sum_cons, sum_add f g l]; omega
theorem cnt_or {P Q : Int → Int → Prop} (h : ∀ x y, ¬ (P x y ∧ Q x y)) : cnt (fun x y => P x y ∨ Q x y) = cnt P + cnt Q := by
  unfold cnt
  generalize List.range 200001 = L
  rw [← sum_add]
  have e : ∀ j : Nat, cnt1 (fun x => P x ((j : Int) - 100000) ∨ Q x ((j : Int) - 100000)) = cnt1 (fun x => P x ((j : Int) - 100000)) + cnt1 (fun x => Q x ((j : Int) - 100000)) := fun j => cnt1_or fun x => h x _
  simp only [e]
theorem cnt1_none {P : Int → Prop} (h : ∀ x, ¬ P x) : cnt1 P = 0 := by
  unfold cnt1
  rw [List.countP_eq_zero]
  intro i _
  simp [h]
theorem sum_const {α : Type} (f : α → Nat) (p : α → Bool) (c : Nat) : ∀ l : List α, (∀ x ∈ l, f x = if p x = true then c else 0) → (l.map f).sum = c * l.countP p
  | [], _ => by simp
  | a :: l, h => by
    rw [List.map_cons, List.sum_cons, sum_const f p c l fun x hx => h x (by simp [hx]), h a (by simp), List.countP_cons]
    cases p a <;> simp [Nat.mul_add] <;> omega
theorem cnt_none : cnt (fun _ _ => False) = 0 := by
  unfold cnt
  rw [sum_const _ (fun _ => false) 0 _ fun x _ => by simp [cnt1_none]]
  simp
open Classical in
theorem cnt_has {r : S28} (h : W r) : (cnt (has r) : Int) = r.f2 * r.f3 := by
  unfold W at h
  have hx : ∀ y, (r.f1 ≤ y ∧ y < r.f1 + r.f3) → cnt1 (fun x => has r x y) = r.f2.toNat := by
    intro y hy
    unfold cnt1
    rw [List.countP_congr (q := fun i : Nat => decide ((r.f0 + 100000).toNat ≤ i ∧ i < (r.f0 + r.f2 + 100000).toNat)) fun i _ => by
      constructor
      · intro h0
        have h1 := of_decide_eq_true h0
        refine decide_eq_true ?_
        unfold has at h1
        omega
      · intro h0
        have h1 := of_decide_eq_true h0
        refine decide_eq_true ?_
        unfold has
        omega, count_upto]
    omega
  have hx0 : ∀ y, ¬ (r.f1 ≤ y ∧ y < r.f1 + r.f3) → cnt1 (fun x => has r x y) = 0 := fun y hy => cnt1_none fun x hh => by unfold has at hh; omega
  unfold cnt
  rw [sum_const _ (fun j : Nat => decide ((r.f1 + 100000).toNat ≤ j ∧ j < (r.f1 + r.f3 + 100000).toNat)) r.f2.toNat _ fun j _ => by
    by_cases hj : r.f1 ≤ (j : Int) - 100000 ∧ (j : Int) - 100000 < r.f1 + r.f3
    · rw [hx _ hj, decide_eq_true (show (r.f1 + 100000).toNat ≤ j ∧ j < (r.f1 + r.f3 + 100000).toNat by omega)]
      rfl
    · rw [hx0 _ hj, decide_eq_false (show ¬ ((r.f1 + 100000).toNat ≤ j ∧ j < (r.f1 + r.f3 + 100000).toNat) by omega)]
      rfl, count_upto]
  have e : min (r.f1 + r.f3 + 100000).toNat 200001 - min (r.f1 + 100000).toNat 200001 = r.f3.toNat := by omega
  rw [e, Int.natCast_mul]
  congr 1 <;> omega
def disj (r s : S28) : Prop := ∀ x y, ¬ (has r x y ∧ has s x y)
def areaL (l : List S28) : Int := (l.map fun r => r.f2 * r.f3).sum
theorem hasL_cons (r : S28) (l : List S28) (x y : Int) : hasL (r :: l) x y ↔ has r x y ∨ hasL l x y := by
  unfold hasL
  constructor
  · rintro ⟨s, hs, h⟩
    rcases List.mem_cons.1 hs with e | e
    · subst e; exact .inl h
    · exact .inr ⟨s, e, h⟩
  · rintro (h | ⟨s, hs, h⟩)
    · exact ⟨r, by simp, h⟩
    · exact ⟨s, by simp [hs], h⟩
theorem hasL_app (l m : List S28) (x y : Int) : hasL (l ++ m) x y ↔ hasL l x y ∨ hasL m x y := by
  unfold hasL
  constructor
  · rintro ⟨s, hs, h⟩
    rcases List.mem_append.1 hs with e | e
    · exact .inl ⟨s, e, h⟩
    · exact .inr ⟨s, e, h⟩
  · rintro (⟨s, hs, h⟩ | ⟨s, hs, h⟩)
    · exact ⟨s, by simp [hs], h⟩
    · exact ⟨s, by simp [hs], h⟩
theorem cnt_list : ∀ (l : List S28), (∀ r ∈ l, W r) → l.Pairwise disj → (cnt (hasL l) : Int) = areaL l
  | [], _, _ => by
    have : cnt (hasL []) = 0 := by
      rw [← cnt_none]
      exact cnt_ext fun x y => ⟨fun ⟨r, hr, _⟩ => by simp at hr, False.elim⟩
    rw [this]
    rfl
  | r :: l, hW, hd => by
    obtain ⟨h1, h2⟩ := List.pairwise_cons.1 hd
    have ih := cnt_list l (fun s hs => hW s (by simp [hs])) h2
    have e : cnt (hasL (r :: l)) = cnt (has r) + cnt (hasL l) := by
      rw [← cnt_or (P := has r) (Q := hasL l) fun x y ⟨a, s, hs, b⟩ => h1 s hs x y ⟨a, b⟩]
      exact cnt_ext fun x y => hasL_cons r l x y
    rw [e, Int.natCast_add, ih, cnt_has (hW r (by simp))]
    simp [areaL]
theorem hasL_cells (c : List S182) (f h x v : Int) : hasL (c.map (cell f h)) x v ↔ inn c x ∧ f ≤ v ∧ v < f + h := by
  unfold hasL inn
  constructor
  · rintro ⟨r, hr, h1⟩
    obtain ⟨a, ha, rfl⟩ := List.mem_map.1 hr
    unfold has cell at h1
    simp only at h1
    exact ⟨⟨a, ha, by omega⟩, by omega⟩
  · rintro ⟨⟨a, ha, h1⟩, h2⟩
    refine ⟨cell f h a, List.mem_map.2 ⟨a, ha, rfl⟩, ?_⟩
    unfold has cell
    simp only
    omega
theorem cells_disj {c : List S182} (hc : Can c) (f h : Int) : (c.map (cell f h)).Pairwise disj := by
  rw [List.pairwise_map]
  refine hc.2.imp fun {a b} hab => ?_
  rintro x y ⟨h1, h2⟩
  unfold has cell at h1 h2
  simp only at h1 h2
  omega
structure Passed (R : Int → List S182) (ys : List Int) (k : Nat) (y : Int) (S : List S28 × List S182 × Int) : Prop where
  from_lt : (S.2.1 = [] ∧ S.1 = []) ∨ (-100000 ≤ S.2.2 ∧ S.2.2 < y)
  ends : ∀ r ∈ S.1, r.f1 + r.f3 ≤ S.2.2
  wf : ∀ r ∈ S.1, W r
  apart : S.1.Pairwise disj
  pix : ∀ x v, v < y → (hasL (S.1 ++ S.2.1.map (cell S.2.2 (y - S.2.2))) x v ↔ inn (R v) x)
theorem passed_all {R : Int → List S182} {ys : List Int} {k : Nat} {y : Int} {S : List S28 × List S182 × Int} (h : Passed R ys k y S) (hc : Can S.2.1) (hy : y ≤ 100000) :
    (∀ r ∈ S.1 ++ S.2.1.map (cell S.2.2 (y - S.2.2)), W r ∧ r.f1 + r.f3 ≤ y) ∧ (S.1 ++ S.2.1.map (cell S.2.2 (y - S.2.2))).Pairwise disj := by
  have hcell : ∀ a ∈ S.2.1, W (cell S.2.2 (y - S.2.2) a) ∧ (cell S.2.2 (y - S.2.2) a).f1 + (cell S.2.2 (y - S.2.2) a).f3 ≤ y := by
    intro a ha
    have hB := hc.1 a ha
    unfold B at hB
    rcases h.from_lt with ⟨h1, _⟩ | h1
    · rw [h1] at ha; simp at ha
    · unfold W cell
      simp only
      omega
  constructor
  · intro r hr
    rcases List.mem_append.1 hr with e | e
    · refine ⟨h.wf r e, ?_⟩
      have h1 := h.ends r e
      rcases h.from_lt with ⟨_, h2⟩ | h2
      · rw [h2] at e; simp at e
      · omega
    · obtain ⟨a, ha, rfl⟩ := List.mem_map.1 e
      exact hcell a ha
  · refine List.pairwise_append.2 ⟨h.apart, cells_disj hc _ _, fun r hr s hs => ?_⟩
    obtain ⟨a, ha, rfl⟩ := List.mem_map.1 hs
    have h1 := h.ends r hr
    rintro x v ⟨h2, h3⟩
    simp only [has, cell] at h2 h3
    omega
theorem passed (R : Int → List S182) (ys : List Int) (hR : ∀ y, Can (R y)) (hord : ys.Pairwise (· < ·)) (hys : ∀ y ∈ ys, -100000 ≤ y ∧ y ≤ 100000) (hK : ∀ a b, a ≤ b → (∀ e ∈ ys, ¬ (a < e ∧ e ≤ b)) → R a = R b) (hlo : ∀ y, (∀ e ∈ ys, y < e) → R y = []) :
    ∀ k y, ys[k]? = some y → Passed R ys k y (St R ys k) := by
  intro k
  induction k with
  | zero =>
    intro y hy
    refine ⟨.inl ⟨rfl, rfl⟩, by simp [St], by simp [St], by simp [St], fun x v hv => ?_⟩
    have : R v = [] := hlo v fun e he => by
      obtain ⟨j, hj⟩ := List.getElem?_of_mem he
      by_cases e0 : j = 0
      · subst e0; rw [hy] at hj; cases hj; exact hv
      · have := List.pairwise_iff_getElem.1 hord 0 j (List.getElem?_eq_some_iff.1 hy).1 (List.getElem?_eq_some_iff.1 hj).1 (by omega)
        rw [(List.getElem?_eq_some_iff.1 hy).2, (List.getElem?_eq_some_iff.1 hj).2] at this
        omega
    rw [this]
    simp only [St, List.map_nil, List.append_nil]
    exact ⟨fun ⟨r, hr, _⟩ => by simp at hr, fun h => absurd h (inn_nil x)⟩
  | succ k ih =>
    intro y' hy'
    have hlt := (List.getElem?_eq_some_iff.1 hy').1
    obtain ⟨y, hy⟩ : ∃ r, ys[k]? = some r := ⟨_, List.getElem?_eq_getElem (by omega)⟩
    have P := ih y hy
    have hyy : y < y' := by
      have := List.pairwise_iff_getElem.1 hord k (k + 1) (by omega) hlt (by omega)
      rw [(List.getElem?_eq_some_iff.1 hy).2, (List.getElem?_eq_some_iff.1 hy').2] at this
      exact this
    have hb := hys y (List.mem_of_getElem? hy)
    obtain ⟨_, hcan, _⟩ := St_ok R ys hR hys k (by omega)
    obtain ⟨A1, A2⟩ := passed_all P hcan hb.2
    have hconst : ∀ v, y ≤ v → v < y' → R y = R v := fun v h1 h2 => hK y v h1 fun e he hh => by
      rcases next_to hord hy hy' he with h | h <;> omega
    have hnone : ∀ x v, y ≤ v → ¬ hasL ((St R ys k).1 ++ (St R ys k).2.1.map (cell (St R ys k).2.2 (y - (St R ys k).2.2))) x v := by
      rintro x v hv ⟨r, hr, hh⟩
      have := (A1 r hr).2
      unfold has at hh
      omega
    by_cases c : (St R ys k).2.1 = R y
    · rw [St_same hy c]
      refine ⟨?_, P.ends, P.wf, P.apart, fun x v hv => ?_⟩
      · rcases P.from_lt with h | h
        · exact .inl h
        · exact .inr (by omega)
      · rw [hasL_app, hasL_cells]
        have h0 := P.pix x v
        rw [hasL_app, hasL_cells] at h0
        have hends : ∀ v, (St R ys k).2.2 ≤ v → ¬ hasL (St R ys k).1 x v := by
          rintro v hv ⟨r, hr, hh⟩
          have := P.ends r hr
          unfold has at hh
          omega
        by_cases hvy : v < y
        · rw [← h0 hvy]
          constructor
          · rintro (h | h)
            · exact .inl h
            · exact .inr ⟨h.1, h.2.1, by omega⟩
          · rintro (h | h)
            · exact .inl h
            · exact .inr ⟨h.1, h.2.1, by omega⟩
        · rw [← hconst v (by omega) hv, ← c]
          rcases P.from_lt with ⟨g1, g2⟩ | g
          · rw [g1, g2]
            exact ⟨fun h => h.elim (fun ⟨r, hr, _⟩ => by simp at hr) fun h => h.1, fun h => absurd h (inn_nil x)⟩
          · constructor
            · rintro (h | h)
              · exact absurd h (hends v (by omega))
              · exact h.1
            · intro h
              exact .inr ⟨h, by omega, by omega⟩
    · rw [St_new hy c]
      refine ⟨.inr ⟨hb.1, hyy⟩, fun r hr => (A1 r hr).2, fun r hr => (A1 r hr).1, A2, fun x v hv => ?_⟩
      simp only
      rw [hasL_app, hasL_cells]
      by_cases hvy : v < y
      · rw [P.pix x v hvy]
        exact ⟨fun h => h.elim id fun h => by omega, .inl⟩
      · rw [← hconst v (by omega) hv]
        constructor
        · rintro (h | h)
          · exact absurd h (hnone x v (by omega))
          · exact h.1
        · intro h
          exact .inr ⟨h, by omega, by omega⟩
theorem fin_pix (p q : List S28) (hp : ∀ r ∈ p, W r) (hq : ∀ r ∈ q, W r) (lp : p.length ≤ 1000000) (lq : q.length ≤ 1000000) :
    (∀ r ∈ Fin (rowAt p q) (edgesY (p ++ q)), W r) ∧ (Fin (rowAt p q) (edgesY (p ++ q))).Pairwise disj ∧ ∀ x y, hasL (Fin (rowAt p q) (edgesY (p ++ q))) x y ↔ hasL p x y ∧ ¬ hasL q x y := by
  have hall : ∀ r ∈ p ++ q, W r := fun r hr => by
    rcases List.mem_append.1 hr with e | e
    · exact hp r e
    · exact hq r e
  obtain ⟨y1, y2, y3, y4⟩ := edgesY_ok (p ++ q) hall
  have hR : ∀ y, Can (rowAt p q y) := fun y => by obtain ⟨_, _, _, _, _, h, _⟩ := rowAt_ok p q y hp hq lp lq; exact h
  have hRx : ∀ y x, inn (rowAt p q y) x ↔ hasL p x y ∧ ¬ hasL q x y := fun y => by obtain ⟨_, _, _, _, _, _, h⟩ := rowAt_ok p q y hp hq lp lq; exact h
  have mem : ∀ r, r ∈ p ∨ r ∈ q → r.f1 ∈ edgesY (p ++ q) ∧ r.f1 + r.f3 ∈ edgesY (p ++ q) := fun r hr => ⟨(y2 _).2 ⟨r, List.mem_append.2 hr, .inl rfl⟩, (y2 _).2 ⟨r, List.mem_append.2 hr, .inr rfl⟩⟩
  have hK : ∀ a b, a ≤ b → (∀ e ∈ edgesY (p ++ q), ¬ (a < e ∧ e ≤ b)) → rowAt p q a = rowAt p q b := fun a b hab hE => by
    refine row_same p q a b hp hq lp lq fun r hr x => ?_
    have h1 := hE _ (mem r hr).1
    have h2 := hE _ (mem r hr).2
    unfold has
    omega
  have hlo : ∀ y, (∀ e ∈ edgesY (p ++ q), y < e) → rowAt p q y = [] := fun y hE => by
    refine row_none p q y hp hq lp lq fun r hr x hx => ?_
    have h1 := hE _ (mem r (.inl hr)).1
    unfold has at hx
    omega
  have hP := passed (rowAt p q) (edgesY (p ++ q)) hR y1 y3 hK hlo
  have hSt := St_ok (rowAt p q) (edgesY (p ++ q)) hR y3
  generalize hys : edgesY (p ++ q) = ys at *
  cases hn : ys.length with
  | zero =>
    have h0 : ys = [] := List.eq_nil_of_length_eq_zero hn
    subst h0
    have hnone : ∀ r, ¬ (r ∈ p ∨ r ∈ q) := fun r hr => by have := (mem r hr).1; simp at this
    refine ⟨by simp [Fin, St], by simp [Fin, St], fun x y => ?_⟩
    constructor
    · rintro ⟨r, hr, _⟩
      simp [Fin, St] at hr
    · rintro ⟨⟨r, hr, _⟩, _⟩
      exact absurd (.inl hr) (hnone r)
  | succ n =>
    obtain ⟨y, hy⟩ : ∃ r, ys[n]? = some r := ⟨_, List.getElem?_eq_getElem (by omega)⟩
    have P := hP n y hy
    have hb := y3 y (List.mem_of_getElem? hy)
    obtain ⟨_, hcan, _⟩ := hSt n (by omega)
    obtain ⟨A1, A2⟩ := passed_all P hcan hb.2
    have e : Fin (rowAt p q) ys = (St (rowAt p q) ys n).1 ++ (St (rowAt p q) ys n).2.1.map (cell (St (rowAt p q) ys n).2.2 (y - (St (rowAt p q) ys n).2.2)) := by
      unfold Fin
      rw [hn, Nat.add_sub_cancel, List.getD_eq_getElem?_getD, hy, Option.getD_some]
    rw [e]
    refine ⟨fun r hr => (A1 r hr).1, A2, fun x v => ?_⟩
    by_cases hv : v < y
    · rw [P.pix x v hv, hRx]
    · constructor
      · rintro ⟨r, hr, hh⟩
        have := (A1 r hr).2
        unfold has at hh
        omega
      · rintro ⟨⟨r, hr, hh⟩, _⟩
        have hmem := (mem r (.inl hr)).2
        obtain ⟨j, hj⟩ := List.getElem?_of_mem hmem
        have hjl := (List.getElem?_eq_some_iff.1 hj).1
        have hle : r.f1 + r.f3 ≤ y := by
          by_cases e0 : j = n
          · subst e0; rw [hy] at hj; cases hj; exact Int.le_refl _
          · have := List.pairwise_iff_getElem.1 y1 j n hjl (by omega) (by omega)
            rw [(List.getElem?_eq_some_iff.1 hj).2, (List.getElem?_eq_some_iff.1 hy).2] at this
            omega
        unfold has at hh
        omega
end Go.Abs.TKD.R

set_option linter.unusedVariables false
set_option linter.unusedSimpArgs false
set_option maxRecDepth 10000
namespace Go.Abs.TKD.R
open Go.RowKit Go.Proofs Go.Abs
def inB (a b c : Int) : Bool := leI b a && leI a c
theorem t126 (a b c : Int) : T70 a b c = some (!inB a b c) := by
  unfold T70 inB ltI leI
  by_cases h1 : a < b
  · have : ¬ b ≤ a := by omega
    simp [h1, this]
  · have : b ≤ a := by omega
    by_cases h2 : c < a
    · have h3 : ¬ a ≤ c := by omega
      simp [h1, h2, this, h3]
    · have h3 : a ≤ c := by omega
      simp [h1, h2, this, h3]
def good (r : S28) : Bool := inB r.f0 (-100000) 100000 && inB r.f1 (-100000) 100000 && inB r.f2 1 (subI .i64 100000 r.f0) && inB r.f3 1 (subI .i64 100000 r.f1)
theorem t117 (r : S28) : T63 r = some (bif good r then 0 else 1) := by
  unfold T63 good
  simp only [t126, Option.bind_some]
  cases inB r.f0 (-100000) 100000 <;> cases inB r.f1 (-100000) 100000 <;> cases inB r.f2 1 (subI .i64 100000 r.f0) <;> cases inB r.f3 1 (subI .i64 100000 r.f1) <;> rfl
theorem neI_code (b : Bool) : neI (bif b then (0 : Int) else 1) 0 = !b := by cases b <;> rfl
theorem good_W {r : S28} (h : good r = true) : W r := by
  unfold good inB leI at h
  simp only [Bool.and_eq_true, decide_eq_true_eq] at h
  obtain ⟨⟨⟨⟨h1, h2⟩, h3, h4⟩, h5, h6⟩, h7, h8⟩ := h
  rw [subI_eq (by omega) (by omega)] at h6 h8
  unfold W
  omega
def code (p : List S28) : Int := if 2000 < p.length then 2 else if p.all good = true then 0 else 1
end Go.Abs.TKD.R

set_option linter.unusedVariables false
set_option linter.unusedSimpArgs false
set_option maxRecDepth 10000
namespace Go.Abs.TKD.R
open Go.RowKit Go.Proofs Go.Abs
theorem reg_ok (p q : List S28) (hp : ∀ r ∈ p, W r) (hq : ∀ r ∈ q, W r) (lp : p.length ≤ 2000) (lq : q.length ≤ 2000) : T60 p q = some (Fin (rowAt p q) (edgesY (p ++ q))) := by
  have hall : ∀ r ∈ p ++ q, W r := fun r hr => by
    rcases List.mem_append.1 hr with e | e
    · exact hp r e
    · exact hq r e
  have hl4 : (p ++ q).length ≤ 4000 := by rw [List.length_append]; omega
  have hl : (p ++ q).length ≤ 1000000 := by omega
  obtain ⟨y1, y2, y3, y4⟩ := edgesY_ok (p ++ q) hall
  obtain ⟨e, e1, e2⟩ := edges_loop p q (p ++ q) hl
  obtain ⟨u, u1, u2⟩ := prog_ok p q (edgesY (p ++ q)) hp hq (by omega) (by omega) y3 (by omega)
  unfold T60
  rw [both_ok p q (by omega) (by omega), Option.bind_some, e1, Option.bind_some, e2]
  unfold sortIO compIO
  rw [if_pos (by rw [eY_len]; omega), Option.bind_some, Option.bind_some]
  unfold edgesY at u1 u2
  rw [u1, Option.bind_some, u2]
  rfl
theorem row_can (p q : List S28) (hp : ∀ r ∈ p, W r) (hq : ∀ r ∈ q, W r) (lp : p.length ≤ 1000000) (lq : q.length ≤ 1000000) (y : Int) : Can (rowAt p q y) ∧ ∀ x, inn (rowAt p q y) x ↔ hasL p x y ∧ ¬ hasL q x y := by
  obtain ⟨_, _, _, _, _, h1, h2⟩ := rowAt_ok p q y hp hq lp lq
  exact ⟨h1, h2⟩
theorem hasL_one (r : S28) (x y : Int) : hasL [r] x y ↔ has r x y := ⟨fun ⟨s, hs, h⟩ => by rw [List.mem_singleton] at hs; subst hs; exact h, fun h => ⟨r, List.mem_singleton.2 rfl, h⟩⟩
theorem good_of {r : S28} (h : W r) : good r = true := by
  unfold W at h
  unfold good inB leI
  rw [subI_eq (by omega) (by omega), subI_eq (by omega) (by omega)]
  simp only [Bool.and_eq_true, decide_eq_true_eq]
  omega
theorem rect_ok {r : S28} (h : W r) : T63 r = some 0 := by
  rw [t117, good_of h]
  rfl
end Go.Abs.TKD.R

set_option linter.unusedVariables false
set_option linter.unusedSimpArgs false
set_option maxRecDepth 10000
namespace Go.Abs.TKD.R
open Go.RowKit Go.Proofs Go.Abs
theorem t32 (a b c : Int) : T136 a b c = some (inB a b c) := by
  unfold T136 inB
  cases leI b a <;> cases leI a c <;> rfl
theorem t37 (a b c : Int) : T70 a b c = some (!inB a b c) := by
  unfold T70 inB ltI leI
  by_cases h1 : a < b
  · have : ¬ b ≤ a := by omega
    simp [h1, this]
  · have : b ≤ a := by omega
    by_cases h2 : c < a
    · have h3 : ¬ a ≤ c := by omega
      simp [h1, h2, this, h3]
    · have h3 : a ≤ c := by omega
      simp [h1, h2, this, h3]
theorem t35 (r : S28) : T63 r = some (bif good r then 0 else 1) := by
  unfold T63 good
  simp only [t37, Option.bind_some]
  cases inB r.f0 (-100000) 100000 <;> cases inB r.f1 (-100000) 100000 <;> cases inB r.f2 1 (subI .i64 100000 r.f0) <;> cases inB r.f3 1 (subI .i64 100000 r.f1) <;> rfl
theorem t30 (r : S28) : T117 r = some (bif good r then 0 else 1) := by
  unfold T117 good
  simp only [t32, Option.bind_some]
  cases inB r.f0 (-100000) 100000 <;> cases inB r.f1 (-100000) 100000 <;> cases inB r.f2 1 (subI .i64 100000 r.f0) <;> cases inB r.f3 1 (subI .i64 100000 r.f1) <;> rfl
def side (a : Int) : Bool := inB a 1 20000
theorem t46 (a : Int) : T69 a = some (side a) := by
  unfold T69
  rw [t37, Option.bind_some, Bool.not_not]
  rfl
theorem t29 (a : Int) : T116 a = some (side a) := by
  unfold T116
  rw [t32, Option.bind_some]
  rfl
theorem t34 (a b : Int) : T72 [a, b] = some (bif side a && side b then 0 else 1) := by
  unfold T72
  have hlt2 : ltI 2 (lenL [a, b]) = false := rfl
  have n0 : addI .i64 0 1 = 1 := by decide
  have n1 : addI .i64 1 1 = 2 := by decide
  have a0 : listAt [a, b] 0 = some a := rfl
  have a1 : listAt [a, b] 1 = some b := rfl
  have h0 : L72_2 [a, b] 0 = bif side a then some (.inl 1) else some (.inr (.inr ())) := by
    simp only [L72_2, show ltI 0 (lenL [a, b]) = true from rfl, a0, cond_true, Option.bind_some, t46, n0]
    cases side a <;> rfl
  have h1 : L72_2 [a, b] 1 = bif side b then some (.inl 2) else some (.inr (.inr ())) := by
    simp only [L72_2, show ltI 1 (lenL [a, b]) = true from rfl, a1, cond_true, Option.bind_some, t46, n1]
    cases side b <;> rfl
  have h2 : L72_2 [a, b] 2 = some (.inr (.inl (2, false))) := by simp only [L72_2, hlt2, cond_false]
  cases ha : side a with
  | false => rw [ha] at h0; rw [iter_inr h0]; rfl
  | true =>
    rw [ha] at h0
    rw [iter_inl h0]
    cases hb : side b with
    | false => rw [hb] at h1; rw [iter_inr h1]; rfl
    | true => rw [hb] at h1; rw [iter_inl h1, iter_inr h2]; rfl
def ins (r : S28) (w h : Int) : Bool := leI 0 r.f0 && (leI 0 r.f1 && (leI (addI .i64 r.f0 r.f2) w && leI (addI .i64 r.f1 r.f3) h))
theorem t36 (r : S28) (w h : Int) : T71 r w h = some (ins r w h) := by
  unfold T71 ins
  cases leI 0 r.f0 <;> cases leI 0 r.f1 <;> cases leI (addI .i64 r.f0 r.f2) w <;> rfl
theorem t31 (r : S28) (w h : Int) : T118 r w h = some (ins r w h) := by
  unfold T118 ins
  cases leI 0 r.f0 <;> cases leI 0 r.f1 <;> cases leI (addI .i64 r.f0 r.f2) w <;> rfl
end Go.Abs.TKD.R

set_option linter.unusedVariables false
set_option linter.unusedSimpArgs false
set_option maxRecDepth 10000
namespace Go.Abs.TKD.R
open Go.RowKit Go.Proofs Go.Abs
def ok157 (N : Nat) (s : S157) : Prop := s.f0.size ≤ N ∧ True
def ok71 (N : Nat) (s : S71) : Prop := s.f0.size ≤ N ∧ True ∧ True ∧ (s.f3.length ≤ N ∧ ∀ x ∈ s.f3, ok157 N x)
def Prev {α : Type} (l : List α) (k : α → ByteArray) (i : Nat) (s : ByteArray) : Prop := (i = 0 ∧ s = ByteArray.mk #[]) ∨ ∃ x, 0 < i ∧ l[i - 1]? = some x ∧ s = k x
def screenF (w h : Int) (_ : Nat) (last : ByteArray) (z : S157) : ByteArray ⊕ Int :=
  bif !key z.f0 then .inr 5 else bif !good z.f1 then .inr 1 else bif !ins z.f1 w h then .inr 3 else bif leS z.f0 last then .inr 7 else .inl z.f0
theorem screenF_inl {w h : Int} {i : Nat} {u s : ByteArray} {z : S157} (hf : screenF w h i u z = .inl s) : key z.f0 = true ∧ good z.f1 = true ∧ s = z.f0 := by
  unfold screenF at hf
  cases h1 : key z.f0 <;> rw [h1] at hf
  · cases hf
  cases h2 : good z.f1 <;> rw [h2] at hf
  · cases hf
  cases h3 : ins z.f1 w h <;> rw [h3] at hf
  · cases hf
  cases h5 : leS z.f0 u <;> rw [h5] at hf
  · exact ⟨rfl, rfl, (Sum.inl.inj hf).symm⟩
  · cases hf
theorem screenF_inr {w h : Int} {i : Nat} {u : ByteArray} {z : S157} {r : Int} (hf : screenF w h i u z = .inr r) : r ≠ 0 := by
  unfold screenF at hf
  cases h1 : key z.f0 <;> rw [h1] at hf
  · cases hf; decide
  cases h2 : good z.f1 <;> rw [h2] at hf
  · cases hf; decide
  cases h3 : ins z.f1 w h <;> rw [h3] at hf
  · cases hf; decide
  cases h5 : leS z.f0 u <;> rw [h5] at hf
  · cases hf
  · cases hf; decide
theorem meet_some (p q : S28) : ∃ v, T64 p q = some v := by
  unfold T64
  cases leI (subI .i64 (minI (addI .i64 p.f0 p.f2) (addI .i64 q.f0 q.f2)) (maxI p.f0 q.f0)) 0
  · cases leI (subI .i64 (minI (addI .i64 p.f1 p.f3) (addI .i64 q.f1 q.f3)) (maxI p.f1 q.f1)) 0
    · exact ⟨_, rfl⟩
    · exact ⟨_, rfl⟩
  · exact ⟨_, rfl⟩
theorem over_same : L85_23 = L86_22 := rfl
theorem over_in (l : S71) (z1 : Int) (x9 : S157) (x10 : List S157) (hl : x10.length ≤ 1048576) : ∃ y, iter (L86_25 l z1 x9 x10) 0 = some y := by
  obtain ⟨r, h, _⟩ := iter_upx (st := L86_25 l z1 x9 x10) (fun (_ : Unit) i => (i : Int)) x10.length (fun _ _ => True) (fun _ => True) (fun i _ hi _ => by
    obtain ⟨z, hz⟩ : ∃ r, x10[i]? = some r := ⟨_, List.getElem?_eq_getElem hi⟩
    obtain ⟨v, hv⟩ := meet_some x9.f1 z.f1
    simp only [L86_25, ltL_true hi, listAt_some hz, cond_true, Option.bind_some, nextI (show i < 9223372036854775807 by omega), hv]
    cases v.2 with
    | true => exact .inr ⟨_, rfl, trivial⟩
    | false => exact .inl ⟨(), rfl, trivial⟩) (fun _ _ => by
    simp only [L86_25, ltL_false (Nat.le_refl _), cond_false]
    exact ⟨_, rfl, trivial⟩) 0 () (Nat.zero_le _) trivial
  exact ⟨r, h⟩
theorem cutL_take (l : List S157) (i : Nat) (h : i ≤ l.length) : ∃ m, cutL l none (some (i : Int)) = some m ∧ m.length ≤ l.length := by
  have h1 : (0 : Int) ≤ (i : Int) ∧ (i : Int) ≤ (l.length : Int) := by omega
  have e : cutL l none (some (i : Int)) = some ((l.take i).drop 0) := by
    unfold cutL cutB
    simp only [if_pos h1, Option.bind_some, Option.map_some, Int.toNat_natCast]
  refine ⟨_, e, ?_⟩
  rw [List.drop_zero, List.length_take]
  omega
theorem over_some (l : S71) (hl : l.f3.length ≤ 1048576) : ∃ y, iter (L86_22 l) 0 = some y := by
  obtain ⟨r, h, _⟩ := iter_upx (st := L86_22 l) (fun (_ : Unit) i => (i : Int)) l.f3.length (fun _ _ => True) (fun _ => True) (fun i _ hi _ => by
    obtain ⟨z, hz⟩ : ∃ r, l.f3[i]? = some r := ⟨_, List.getElem?_eq_getElem hi⟩
    obtain ⟨m, m1, m2⟩ := cutL_take l.f3 i (by omega)
    obtain ⟨v, hv⟩ := over_in l (i : Int) z m (by omega)
    simp only [L86_22, ltL_true hi, listAt_some hz, cond_true, Option.bind_some, nextI (show i < 9223372036854775807 by omega), m1, hv]
    cases v with
    | inr y => exact .inr ⟨_, rfl, trivial⟩
    | inl y => exact .inl ⟨(), rfl, trivial⟩) (fun _ _ => by
    simp only [L86_22, ltL_false (Nat.le_refl _), cond_false]
    exact ⟨_, rfl, trivial⟩) 0 () (Nat.zero_le _) trivial
  exact ⟨r, h⟩
noncomputable def overF (l : S71) : Int := Sum.elim (fun _ => 0) (fun _ => 13) ((iter (L86_22 l) 0).getD (.inl (0, false)))
noncomputable def faultW (l : S71) : Int := bif !key l.f0 then 5 else bif !(side l.f1 && side l.f2) then 1 else bif ltI 50 (lenL l.f3) then 2 else Sum.elim (fun _ => overF l) id (wp (screenF l.f1 l.f2) 0 (ByteArray.mk #[]) l.f3)
theorem T86_eq (l : S71) (hl : ok71 1048576 l) : T86 l = some (faultW l) := by
  obtain ⟨q1, q2, q3, q4, q5⟩ := hl
  have hi : iter (L86_9 l) ((0 : Nat) : Int) = some (Sum.elim (fun _ => .inl ((l.f3.length : Int), false)) (fun r => .inr r) (wp (screenF l.f1 l.f2) 0 (ByteArray.mk #[]) l.f3)) := by
    refine iter_wp (fun _ i => (i : Int)) _ _ l.f3 (screenF l.f1 l.f2) (Prev l.f3 S157.f0) (fun i u x hx hI => ?_) (fun u _ => ?_) _ (.inl ⟨rfl, rfl⟩)
    · have hlt : i < l.f3.length := (List.getElem?_eq_some_iff.1 hx).1
      obtain ⟨k1, _⟩ := q5 x (List.mem_of_getElem? hx)
      have h3 := T97_eq x.f0 k1
      refine ⟨?_, fun s' hf => ?_⟩
      · simp only [L86_9, ltL_true hlt, cond_true, listAt_some hx, Option.bind_some, h3, nextI (show i < 9223372036854775807 by omega), screenF, t35, t36, neI_code]
        cases hk : key x.f0 with
        | false => rfl
        | true =>
          simp only [Bool.not_true, cond_false]
          rcases hI with ⟨rfl, rfl⟩ | ⟨y, hi0, hy, hu⟩
          · have h4 : ltI 0 ((0 : Nat) : Int) = false := rfl
            rw [h4, leS_empty (key_pos hk)]
            simp only [cond_false]
            cases good x.f1 <;> cases ins x.f1 l.f1 l.f2 <;> rfl
          · have h4 : ltI 0 (i : Int) = true := by rw [ltI_iff]; simp; omega
            have h5 : subI .i64 (i : Int) 1 = ((i - 1 : Nat) : Int) := by rw [subI_eq (by omega) (by omega)]; omega
            rw [h4, h5, listAt_some hy, hu]
            simp only [cond_true, Option.bind_some, leS]
            cases good x.f1 <;> cases ins x.f1 l.f1 l.f2 <;> cases (ltS x.f0 y.f0 || eqS x.f0 y.f0) <;> rfl
      · exact .inr ⟨x, by omega, by simpa using hx, (screenF_inl hf).2.2⟩
    · simp only [L86_9, ltL_false (Nat.le_refl _), cond_false]
  obtain ⟨v, hv⟩ := over_some l q4
  unfold T86 faultW overF
  rw [T97_eq _ q1, Option.bind_some, t34, Option.bind_some, hv, show (0 : Int) = ((0 : Nat) : Int) from rfl, hi]
  cases key l.f0 <;> cases side l.f1 <;> cases side l.f2 <;> cases ltI 50 (lenL l.f3) <;> cases wp (screenF l.f1 l.f2) 0 (ByteArray.mk #[]) l.f3 <;> cases v <;> rfl
theorem T85_eq (l : S71) (hl : ok71 1048576 l) : T85 l = some (faultW l) := by
  obtain ⟨q1, q2, q3, q4, q5⟩ := hl
  have hi : iter (L85_9 l) (ByteArray.mk #[], ((0 : Nat) : Int)) = some (Sum.elim (fun s => .inl (s, (l.f3.length : Int), false)) (fun r => .inr r) (wp (screenF l.f1 l.f2) 0 (ByteArray.mk #[]) l.f3)) := by
    refine iter_wp (fun s i => (s, (i : Int))) _ _ l.f3 (screenF l.f1 l.f2) (fun _ _ => True) (fun i u x hx _ => ⟨?_, fun _ _ => trivial⟩) (fun u _ => ?_) _ trivial
    · have hlt : i < l.f3.length := (List.getElem?_eq_some_iff.1 hx).1
      obtain ⟨k1, _⟩ := q5 x (List.mem_of_getElem? hx)
      have h3 := T115_eq x.f0 k1
      simp only [L85_9, ltL_true hlt, cond_true, listAt_some hx, Option.bind_some, h3, nextI (show i < 9223372036854775807 by omega), screenF, t30, t31, neI_code, leS]
      cases key x.f0 <;> cases good x.f1 <;> cases ins x.f1 l.f1 l.f2 <;> cases (ltS x.f0 u || eqS x.f0 u) <;> rfl
    · simp only [L85_9, ltL_false (Nat.le_refl _), cond_false]
  obtain ⟨v, hv⟩ := over_some l q4
  unfold T85 faultW overF
  rw [T115_eq _ q1, Option.bind_some, t29, Option.bind_some, t29, Option.bind_some, over_same, hv, show (0 : Int) = ((0 : Nat) : Int) from rfl, hi]
  cases key l.f0 <;> cases side l.f1 <;> cases side l.f2 <;> cases ltI 50 (lenL l.f3) <;> cases wp (screenF l.f1 l.f2) 0 (ByteArray.mk #[]) l.f3 <;> cases v <;> rfl
theorem wp_screens (w h : Int) : ∀ (l : List S157) (i : Nat) (u : ByteArray), (∀ r, wp (screenF w h) i u l = .inr r → r ≠ 0) ∧ ∀ s, wp (screenF w h) i u l = .inl s → (∀ z ∈ l, good z.f1 = true)
  | [], i, u => ⟨fun r h => (by cases h), fun s _ => by simp⟩
  | z :: l, i, u => by
    unfold wp
    cases hf : screenF w h i u z with
    | inr r => exact ⟨fun r' h => (by cases h; exact screenF_inr hf), fun s h => (by cases h)⟩
    | inl v =>
      obtain ⟨h1, h2, h4⟩ := screenF_inl hf
      subst h4
      obtain ⟨g1, g2⟩ := wp_screens w h l (i + 1) z.f0
      refine ⟨fun r h => g1 r h, fun s h => ?_⟩
      have g3 := g2 s h
      intro y hy
      rcases List.mem_cons.1 hy with e | e
      · subst e
        exact h2
      · exact g3 y e
structure RightW (l : S71) : Prop where
  few : l.f3.length ≤ 50
  rects : ∀ z ∈ l.f3, W z.f1
  side : 1 ≤ l.f1 ∧ l.f1 ≤ 20000 ∧ 1 ≤ l.f2 ∧ l.f2 ≤ 20000
theorem right_w {l : S71} (h : faultW l = 0) : RightW l := by
  unfold faultW at h
  cases h1 : key l.f0 <;> rw [h1] at h
  · cases h
  simp only [Bool.not_true, cond_false] at h
  cases h2 : (side l.f1 && side l.f2) <;> rw [h2] at h
  · cases h
  simp only [Bool.not_true, cond_false] at h
  cases h3 : ltI 50 (lenL l.f3) <;> rw [h3] at h
  · simp only [cond_false] at h
    obtain ⟨g1, g2⟩ := wp_screens l.f1 l.f2 l.f3 0 (ByteArray.mk #[])
    cases h4 : wp (screenF l.f1 l.f2) 0 (ByteArray.mk #[]) l.f3 with
    | inr r =>
      rw [h4] at h
      exact absurd h (g1 r h4)
    | inl s =>
      have g3 := g2 s h4
      refine ⟨?_, fun z hz => good_W (g3 z hz), ?_⟩
      · rw [ltI_iff, lenL_eq] at h3
        have := of_decide_eq_false h3
        omega
      · unfold side inB leI at h2
        simp only [Bool.and_eq_true, decide_eq_true_eq] at h2
        omega
  · cases h
theorem rects_ok (l : S71) (hl : RightW l) : T88 l = some (l.f3.map (·.f1)) := by
  have hfew := hl.few
  · obtain ⟨u, u1, u2⟩ : ∃ r, iter (L88_3 l) ([], 0) = some r ∧ r.2.2 = l.f3.map (·.f1) := by
      refine iter_up (st := L88_3 l) (fun (s : List S28) i => (s, (i : Int))) l.f3.length (fun i s => s = (l.f3.take i).map (·.f1)) (fun r => r.2.2 = l.f3.map (·.f1)) ?_ ?_ [] rfl
      · intro i s hi hs
        obtain ⟨z, hz⟩ : ∃ r, l.f3[i]? = some r := ⟨_, List.getElem?_eq_getElem hi⟩
        have hlen : s.length ≤ 50 := by rw [hs, List.length_map, List.length_take]; omega
        simp only [L88_3, ltL_true hi, listAt_some hz, cond_true, Option.bind_some, nextI (show i < 9223372036854775807 by omega)]
        rw [appO_big (by omega) (by simp only [List.length_cons, List.length_nil]; omega)]
        refine ⟨_, rfl, ?_⟩
        rw [hs, take_next hz, List.map_append]
        rfl
      · intro s hs
        simp only [L88_3, ltL_false (Nat.le_refl _), cond_false]
        refine ⟨_, rfl, ?_⟩
        rw [hs, List.take_length]
    unfold T88
    rw [u1, Option.bind_some, u2]
end Go.Abs.TKD.R

set_option linter.unusedVariables false
set_option linter.unusedSimpArgs false
set_option maxRecDepth 10000
namespace Go.Abs.TKD.R
open Go.RowKit Go.Proofs Go.Abs
def inside (r : S28) (w h : Int) : Prop := 0 ≤ r.f0 ∧ 0 ≤ r.f1 ∧ r.f0 + r.f2 ≤ w ∧ r.f1 + r.f3 ≤ h
theorem ins_inside {r : S28} {w h : Int} (hw : W r) (hi : ins r w h = true) : inside r w h := by
  have he := w_edge hw
  unfold ins leI at hi
  rw [he.1, he.2] at hi
  simp only [Bool.and_eq_true, decide_eq_true_eq] at hi
  unfold inside
  omega
theorem meet_ok (p q : S28) (hp : W p) (hq : W q) : ∃ v, T64 p q = some v ∧ (v.2 = true → W v.1 ∧ ∀ x y, has v.1 x y ↔ has p x y ∧ has q x y) ∧ (v.2 = false → disj p q) := by
  have e1 := w_edge hp
  have e2 := w_edge hq
  unfold W at hp hq
  unfold T64
  rw [e1.1, e1.2, e2.1, e2.2, minI_eq, minI_eq, maxI_eq, maxI_eq, subI_eq (by omega) (by omega), subI_eq (by omega) (by omega)]
  by_cases c1 : min (p.f0 + p.f2) (q.f0 + q.f2) - max p.f0 q.f0 ≤ 0
  · rw [show leI (min (p.f0 + p.f2) (q.f0 + q.f2) - max p.f0 q.f0) 0 = true from decide_eq_true c1]
    refine ⟨_, rfl, fun h => (by cases h), fun _ x y h => ?_⟩
    unfold has at h
    omega
  · rw [show leI (min (p.f0 + p.f2) (q.f0 + q.f2) - max p.f0 q.f0) 0 = false from decide_eq_false c1]
    by_cases c2 : min (p.f1 + p.f3) (q.f1 + q.f3) - max p.f1 q.f1 ≤ 0
    · rw [show leI (min (p.f1 + p.f3) (q.f1 + q.f3) - max p.f1 q.f1) 0 = true from decide_eq_true c2]
      refine ⟨_, rfl, fun h => (by cases h), fun _ x y h => ?_⟩
      unfold has at h
      omega
    · rw [show leI (min (p.f1 + p.f3) (q.f1 + q.f3) - max p.f1 q.f1) 0 = false from decide_eq_false c2]
      refine ⟨_, rfl, fun _ => ⟨?_, fun x y => ?_⟩, fun h => (by cases h)⟩
      · unfold W
        simp only
        omega
      · unfold has
        simp only
        omega
def sx (a w t : Int) : Int := a * t / w
structure Sides (w h t u : Int) : Prop where
  a : 1 ≤ w ∧ w ≤ 20000
  b : 1 ≤ h ∧ h ≤ 20000
  c : 1 ≤ t ∧ t ≤ 20000
  d : 1 ≤ u ∧ u ≤ 20000
def scR (r : S28) (w h t u : Int) : S28 := ⟨sx r.f0 w t, sx r.f1 h u, sx (r.f0 + r.f2) w t - sx r.f0 w t, sx (r.f1 + r.f3) h u - sx r.f1 h u⟩
theorem wp_screens2 (w h : Int) : ∀ (l : List S157) (i : Nat) (u : ByteArray) s, wp (screenF w h) i u l = .inl s → ∀ z ∈ l, ins z.f1 w h = true
  | [], i, u, s, _ => by simp
  | z :: l, i, u, s, hh => by
    unfold wp at hh
    cases hf : screenF w h i u z with
    | inr r => rw [hf] at hh; cases hh
    | inl v =>
      rw [hf] at hh
      have g := wp_screens2 w h l (i + 1) v s hh
      intro y hy
      rcases List.mem_cons.1 hy with e | e
      · subst e
        have hg := screenF_inl hf
        unfold screenF at hf
        cases h3 : ins y.f1 w h with
        | true => rfl
        | false =>
          rw [hg.1, hg.2.1, h3] at hf
          cases hf
      · exact g y e
theorem cutL_eq (l : List S157) (i : Nat) (h : i ≤ l.length) : cutL l none (some (i : Int)) = some (l.take i) := by
  have h1 : (0 : Int) ≤ (i : Int) ∧ (i : Int) ≤ (l.length : Int) := by omega
  unfold cutL cutB
  simp only [if_pos h1, Option.bind_some, Option.map_some, Int.toNat_natCast, List.drop_zero]
theorem over_in2 (l : S71) (z1 : Int) (x9 : S157) (x10 : List S157) (hl : x10.length ≤ 1048576) : ∃ y, iter (L86_25 l z1 x9 x10) 0 = some y ∧ (y.isLeft = true → ∀ z ∈ x10, ∃ v, T64 x9.f1 z.f1 = some v ∧ v.2 = false) := by
  refine iter_upx (st := L86_25 l z1 x9 x10) (fun (_ : Unit) i => (i : Int)) x10.length (fun i _ => ∀ j z, j < i → x10[j]? = some z → ∃ v, T64 x9.f1 z.f1 = some v ∧ v.2 = false) (fun y => y.isLeft = true → ∀ z ∈ x10, ∃ v, T64 x9.f1 z.f1 = some v ∧ v.2 = false) ?_ ?_ 0 () (Nat.zero_le _) (fun j z h => absurd h (Nat.not_lt_zero j))
  · intro i _ hi hinv
    obtain ⟨z, hz⟩ : ∃ r, x10[i]? = some r := ⟨_, List.getElem?_eq_getElem hi⟩
    obtain ⟨v, hv⟩ := meet_some x9.f1 z.f1
    simp only [L86_25, ltL_true hi, listAt_some hz, cond_true, Option.bind_some, nextI (show i < 9223372036854775807 by omega), hv]
    cases hv2 : v.2 with
    | true => exact .inr ⟨_, rfl, fun h => by cases h⟩
    | false =>
      refine .inl ⟨(), rfl, fun j z' hj hz' => ?_⟩
      by_cases e : j = i
      · subst e
        rw [hz] at hz'
        cases hz'
        exact ⟨v, hv, hv2⟩
      · exact hinv j z' (by omega) hz'
  · intro _ hinv
    simp only [L86_25, ltL_false (Nat.le_refl _), cond_false]
    refine ⟨_, rfl, fun _ z hz => ?_⟩
    obtain ⟨j, hj⟩ := List.getElem?_of_mem hz
    exact hinv j z (List.getElem?_eq_some_iff.1 hj).1 hj
theorem over_all (l : S71) (hl : l.f3.length ≤ 1048576) : ∃ y, iter (L86_22 l) 0 = some y ∧ (y.isLeft = true → ∀ (i j : Nat) (a b : S157), j < i → l.f3[i]? = some a → l.f3[j]? = some b → ∃ v, T64 a.f1 b.f1 = some v ∧ v.2 = false) := by
  refine iter_upx (st := L86_22 l) (fun (_ : Unit) i => (i : Int)) l.f3.length (fun k _ => ∀ (i j : Nat) (a b : S157), i < k → j < i → l.f3[i]? = some a → l.f3[j]? = some b → ∃ v, T64 a.f1 b.f1 = some v ∧ v.2 = false) (fun y => y.isLeft = true → ∀ (i j : Nat) (a b : S157), j < i → l.f3[i]? = some a → l.f3[j]? = some b → ∃ v, T64 a.f1 b.f1 = some v ∧ v.2 = false) ?_ ?_ 0 () (Nat.zero_le _) (fun i j a b h => absurd h (Nat.not_lt_zero i))
  · intro i _ hi hinv
    obtain ⟨z, hz⟩ : ∃ r, l.f3[i]? = some r := ⟨_, List.getElem?_eq_getElem hi⟩
    obtain ⟨y, hy, hy2⟩ := over_in2 l (i : Int) z (l.f3.take i) (by rw [List.length_take]; omega)
    simp only [L86_22, ltL_true hi, listAt_some hz, cond_true, Option.bind_some, nextI (show i < 9223372036854775807 by omega), cutL_eq l.f3 i (by omega), hy]
    cases y with
    | inr y => exact .inr ⟨_, rfl, fun h => by cases h⟩
    | inl y =>
      refine .inl ⟨(), rfl, fun i' j a b hi' hj ha hb => ?_⟩
      by_cases e : i' = i
      · subst e
        rw [hz] at ha
        cases ha
        refine hy2 rfl b ?_
        have : (l.f3.take i')[j]? = some b := by rw [List.getElem?_take, if_pos hj]; exact hb
        exact List.mem_of_getElem? this
      · exact hinv i' j a b (by omega) hj ha hb
  · intro _ hinv
    simp only [L86_22, ltL_false (Nat.le_refl _), cond_false]
    exact ⟨_, rfl, fun _ i j a b hj ha hb => hinv i j a b (List.getElem?_eq_some_iff.1 ha).1 hj ha hb⟩
theorem screens_apart {l : S71} (h : faultW l = 0) : (∀ z ∈ l.f3, inside z.f1 l.f1 l.f2) ∧ l.f3.Pairwise fun a b => disj a.f1 b.f1 := by
  have hr := right_w h
  unfold faultW at h
  cases h1 : key l.f0 <;> rw [h1] at h
  · cases h
  simp only [Bool.not_true, cond_false] at h
  cases h2 : (side l.f1 && side l.f2) <;> rw [h2] at h
  · cases h
  simp only [Bool.not_true, cond_false] at h
  cases h3 : ltI 50 (lenL l.f3) <;> rw [h3] at h
  · simp only [cond_false] at h
    obtain ⟨g1, g2⟩ := wp_screens l.f1 l.f2 l.f3 0 (ByteArray.mk #[])
    cases h4 : wp (screenF l.f1 l.f2) 0 (ByteArray.mk #[]) l.f3 with
    | inr r =>
      rw [h4] at h
      exact absurd h (g1 r h4)
    | inl s =>
      rw [h4] at h
      have hov : overF l = 0 := h
      have hfew := hr.few
      obtain ⟨y, hy, hy2⟩ := over_all l (by omega)
      unfold overF at hov
      rw [hy] at hov
      have hleft : y.isLeft = true := by
        cases y with
        | inl y => rfl
        | inr y => cases hov
      refine ⟨fun z hz => ins_inside (hr.rects z hz) (wp_screens2 _ _ _ _ _ s h4 z hz), ?_⟩
      rw [List.pairwise_iff_getElem]
      intro i j hi hj hij
      obtain ⟨v, v1, v2⟩ := hy2 hleft j i _ _ hij (List.getElem?_eq_getElem hj) (List.getElem?_eq_getElem hi)
      obtain ⟨u, u1, _, u3⟩ := meet_ok l.f3[j].f1 l.f3[i].f1 (hr.rects _ (List.getElem_mem _)) (hr.rects _ (List.getElem_mem _))
      rw [v1] at u1
      cases u1
      have := u3 v2
      exact fun x y ⟨a, b⟩ => this x y ⟨b, a⟩
  · cases h
end Go.Abs.TKD.R

set_option linter.unusedVariables false
set_option linter.unusedSimpArgs false
set_option maxRecDepth 10000
namespace Go.Abs.TKD.R
open Go.RowKit Go.Proofs Go.Abs
theorem nodup_len : ∀ {l m : List Int}, l.Nodup → (∀ x ∈ l, x ∈ m) → l.length ≤ m.length
  | [], m, _, _ => Nat.zero_le _
  | a :: l, m, h, hs => by
    have ha := hs a (by simp)
    have h1 := List.nodup_cons.1 h
    have h2 := nodup_len (m := m.erase a) h1.2 fun x hx => (List.mem_erase_of_ne (fun (e : x = a) => h1.1 (by rw [← e]; exact hx))).2 (hs x (by simp [hx]))
    have h3 := List.length_erase_of_mem ha
    have h4 : 0 < m.length := List.length_pos_of_mem ha
    simp only [List.length_cons]
    omega
theorem can_starts : ∀ {l : List S182}, Can l → (l.map (·.f0)).Nodup
  | [], _ => by simp
  | a :: l, h => by
    obtain ⟨h1, h2, h3⟩ := can_cons.1 h
    rw [List.map_cons, List.nodup_cons]
    refine ⟨fun hm => ?_, can_starts h2⟩
    obtain ⟨b, hb, e⟩ := List.mem_map.1 hm
    have := h3 b hb
    unfold B at h1
    omega
theorem can_before {l : List S182} (h : Can l) {a : S182} (ha : a ∈ l) : inn l a.f0 ∧ ¬ inn l (a.f0 - 1) := by
  have hB := h.1 a ha
  unfold B at hB
  refine ⟨⟨a, ha, by omega, by omega⟩, ?_⟩
  rintro ⟨b, hb, h1, h2⟩
  obtain ⟨i, hi⟩ := List.getElem?_of_mem ha
  obtain ⟨j, hj⟩ := List.getElem?_of_mem hb
  by_cases hij : i = j
  · subst hij
    rw [hi] at hj; cases hj
    omega
  · rcases Nat.lt_or_gt_of_ne hij with h3 | h3
    · have := can_lt h hi hj h3; omega
    · have := can_lt h hj hi h3; omega
theorem row_few (p q : List S28) (hp : ∀ r ∈ p, W r) (hq : ∀ r ∈ q, W r) (lp : p.length ≤ 1000000) (lq : q.length ≤ 1000000) (y : Int) : (rowAt p q y).length ≤ 2 * (p.length + q.length) := by
  obtain ⟨hc, hx⟩ := row_can p q hp hq lp lq y
  have hall : ∀ r ∈ p ++ q, W r := fun r hr => (List.mem_append.1 hr).elim (hp r) (hq r)
  obtain ⟨_, e1, _, e2⟩ := edgesX_ok (p ++ q) hall
  have h1 := nodup_len (m := edgesX (p ++ q)) (can_starts hc) fun x hm => by
    obtain ⟨a, ha, rfl⟩ := List.mem_map.1 hm
    obtain ⟨h2, h3⟩ := can_before hc ha
    rw [hx] at h2 h3
    obtain ⟨⟨r, hr, hr2⟩, h4⟩ := h2
    rw [e1]
    by_cases h5 : a.f0 = r.f0
    · exact ⟨r, List.mem_append.2 (.inl hr), .inl h5⟩
    · have h6 : hasL p (a.f0 - 1) y := ⟨r, hr, by unfold has at hr2 ⊢; omega⟩
      have h7 : hasL q (a.f0 - 1) y := Classical.byContradiction fun h => h3 ⟨h6, h⟩
      obtain ⟨s, hs, hs2⟩ := h7
      have h8 : ¬ has s a.f0 y := fun h => h4 ⟨s, hs, h⟩
      exact ⟨s, List.mem_append.2 (.inr hs), .inr (by unfold has at hs2 h8; omega)⟩
  rw [List.length_map] at h1
  rw [List.length_append] at e2
  omega
theorem St_few (R : Int → List S182) (ys : List Int) (N : Nat) (hN : ∀ y, (R y).length ≤ N) : ∀ k, k ≤ ys.length → (St R ys k).1.length ≤ k * N ∧ (St R ys k).2.1.length ≤ N := by
  intro k
  induction k with
  | zero => intro _; exact ⟨by simp [St], by simp [St]⟩
  | succ k ih =>
    intro hk
    obtain ⟨h1, h2⟩ := ih (by omega)
    obtain ⟨y, hy⟩ : ∃ r, ys[k]? = some r := ⟨_, List.getElem?_eq_getElem (by omega)⟩
    by_cases c : (St R ys k).2.1 = R y
    · rw [St_same hy c]
      exact ⟨Nat.le_trans h1 (Nat.mul_le_mul_right _ (Nat.le_succ k)), h2⟩
    · rw [St_new hy c]
      refine ⟨?_, hN y⟩
      simp only [List.length_append, List.length_map]
      rw [Nat.succ_mul]
      omega
theorem Fin_few (R : Int → List S182) (ys : List Int) (N : Nat) (hN : ∀ y, (R y).length ≤ N) : (Fin R ys).length ≤ (ys.length + 1) * N := by
  obtain ⟨h1, h2⟩ := St_few R ys N hN (ys.length - 1) (by omega)
  unfold Fin
  rw [List.length_append, List.length_map]
  have : (ys.length - 1) * N ≤ ys.length * N := Nat.mul_le_mul_right _ (by omega)
  rw [Nat.succ_mul]
  omega
noncomputable def drk (w : S71) : List S28 := Fin (rowAt [S28.mk 0 0 w.f1 w.f2] (w.f3.map (·.f1))) (edgesY ([S28.mk 0 0 w.f1 w.f2] ++ w.f3.map (·.f1)))
theorem wall_W {w : S71} (h : RightW w) : W (S28.mk 0 0 w.f1 w.f2) := by
  have := h.side
  unfold W; simp only; omega
theorem dark_ok (w : S71) (h71 : ok71 1048576 w) (h : faultW w = 0) (hl : w.f3.length ≤ 4) : T39 w = some (drk w, 0) := by
  have hr := right_w h
  have hp : ∀ r ∈ [S28.mk 0 0 w.f1 w.f2], W r := fun r hr' => by rw [List.mem_singleton] at hr'; subst hr'; exact wall_W hr
  have hq : ∀ r ∈ w.f3.map (·.f1), W r := fun r hr' => by obtain ⟨z, hz, rfl⟩ := List.mem_map.1 hr'; exact hr.rects z hz
  have hlm : (w.f3.map (·.f1)).length ≤ 4 := by rw [List.length_map]; exact hl
  have h1 := reg_ok [S28.mk 0 0 w.f1 w.f2] (w.f3.map (·.f1)) hp hq (by simp) (by omega)
  have hall : ∀ r ∈ [S28.mk 0 0 w.f1 w.f2] ++ w.f3.map (·.f1), W r := fun r hr => (List.mem_append.1 hr).elim (hp r) (hq r)
  have hey := (edgesY_ok _ hall).2.2.2
  rw [List.length_append, List.length_singleton] at hey
  have hf := Fin_few (rowAt [S28.mk 0 0 w.f1 w.f2] (w.f3.map (·.f1))) (edgesY ([S28.mk 0 0 w.f1 w.f2] ++ w.f3.map (·.f1))) 10 fun y => by
    have := row_few _ _ hp hq (by simp) (by omega) y
    rw [List.length_singleton] at this
    omega
  have hd : (drk w).length ≤ 110 := by
    unfold drk
    refine Nat.le_trans hf ?_
    omega
  unfold T39
  rw [T86_eq w h71, h, Option.bind_some, show neI 0 0 = false from rfl, cond_false, rects_ok w hr, Option.bind_some, h1, Option.bind_some]
  show (T59 (drk w)).bind _ = _
  unfold T59
  rw [show ltI 2000 (lenL (drk w)) = false by rw [ltI_iff, lenL_eq]; exact decide_eq_false (by omega)]
  rfl
theorem dark_pix (w : S71) (h : faultW w = 0) : (∀ r ∈ drk w, W r) ∧ (drk w).Pairwise disj ∧ ∀ x y, hasL (drk w) x y ↔ has (S28.mk 0 0 w.f1 w.f2) x y ∧ ¬ hasL (w.f3.map (·.f1)) x y := by
  have hr := right_w h
  have hfew := hr.few
  have hp : ∀ r ∈ [S28.mk 0 0 w.f1 w.f2], W r := fun r hr' => by rw [List.mem_singleton] at hr'; subst hr'; exact wall_W hr
  have hq : ∀ r ∈ w.f3.map (·.f1), W r := fun r hr' => by obtain ⟨z, hz, rfl⟩ := List.mem_map.1 hr'; exact hr.rects z hz
  obtain ⟨h1, h2, h3⟩ := fin_pix _ _ hp hq (by simp) (by rw [List.length_map]; omega)
  exact ⟨h1, h2, fun x y => by rw [← hasL_one]; exact h3 x y⟩
noncomputable def mt (a b : S28) : S28 × Bool := (T64 a b).getD (⟨0, 0, 0, 0⟩, false)
theorem mt_ok {p q : S28} (hp : W p) (hq : W q) : T64 p q = some (mt p q) ∧ ((mt p q).2 = true → W (mt p q).1 ∧ ∀ x y, has (mt p q).1 x y ↔ has p x y ∧ has q x y) ∧ ((mt p q).2 = false → disj p q) := by
  obtain ⟨v, h1, h2⟩ := meet_ok p q hp hq
  have e : mt p q = v := by unfold mt; rw [h1]; rfl
  rw [e]
  exact ⟨h1, h2⟩
noncomputable def mtO (b a : S28) : Option S28 := if (mt a b).2 = true then some (mt a b).1 else none
noncomputable def mts (l : List S28) (b : S28) : List S28 := l.filterMap (mtO b)
theorem mtO_some {a b m : S28} (h : mtO b a = some m) : (mt a b).2 = true ∧ m = (mt a b).1 := by
  unfold mtO at h
  split at h
  · rename_i h1; cases h; exact ⟨h1, rfl⟩
  · cases h
theorem mts_ok {l : List S28} {b : S28} (hl : ∀ a ∈ l, W a) (hb : W b) : (∀ m ∈ mts l b, W m) ∧ (l.Pairwise disj → (mts l b).Pairwise disj) ∧ ∀ x y, hasL (mts l b) x y ↔ hasL l x y ∧ has b x y := by
  refine ⟨fun m hm => ?_, fun hd => ?_, fun x y => ?_⟩
  · obtain ⟨a, ha, h1⟩ := List.mem_filterMap.1 hm
    obtain ⟨h2, rfl⟩ := mtO_some h1
    exact ((mt_ok (hl a ha) hb).2.1 h2).1
  · unfold mts
    rw [List.pairwise_filterMap]
    refine hd.imp_of_mem fun {a c} ha hc h m hm n hn => ?_
    obtain ⟨h2, rfl⟩ := mtO_some hm
    obtain ⟨h3, rfl⟩ := mtO_some hn
    intro x y ⟨g1, g2⟩
    exact h x y ⟨((((mt_ok (hl a ha) hb).2.1 h2).2 x y).1 g1).1, ((((mt_ok (hl c hc) hb).2.1 h3).2 x y).1 g2).1⟩
  · constructor
    · rintro ⟨m, hm, hx⟩
      obtain ⟨a, ha, h1⟩ := List.mem_filterMap.1 hm
      obtain ⟨h2, rfl⟩ := mtO_some h1
      have := (((mt_ok (hl a ha) hb).2.1 h2).2 x y).1 hx
      exact ⟨⟨a, ha, this.1⟩, this.2⟩
    · rintro ⟨⟨a, ha, hx⟩, hx2⟩
      cases h2 : (mt a b).2 with
      | false => exact absurd ⟨hx, hx2⟩ ((mt_ok (hl a ha) hb).2.2 h2 x y)
      | true =>
        exact ⟨(mt a b).1, List.mem_filterMap.2 ⟨a, ha, by unfold mtO; rw [if_pos h2]⟩, (((mt_ok (hl a ha) hb).2.1 h2).2 x y).2 ⟨hx, hx2⟩⟩
theorem sub_in {m r : S28} (hm : W m) (h : ∀ x y, has m x y → has r x y) : r.f0 ≤ m.f0 ∧ r.f1 ≤ m.f1 ∧ m.f0 + m.f2 ≤ r.f0 + r.f2 ∧ m.f1 + m.f3 ≤ r.f1 + r.f3 := by
  have h1 := h m.f0 m.f1
  have h2 := h (m.f0 + m.f2 - 1) (m.f1 + m.f3 - 1)
  unfold W at hm
  unfold has at h1 h2
  omega
theorem parts_dark (w : S71) (h : faultW w = 0) (r : S28) (hr : W r) :
    ((mt r (S28.mk 0 0 w.f1 w.f2)).2 = false → areaL (mts (w.f3.map (·.f1)) r) = 0) ∧
    ((mt r (S28.mk 0 0 w.f1 w.f2)).2 = true → areaL (mts (w.f3.map (·.f1)) r) + areaL (mts (drk w) (mt r (S28.mk 0 0 w.f1 w.f2)).1) = (mt r (S28.mk 0 0 w.f1 w.f2)).1.f2 * (mt r (S28.mk 0 0 w.f1 w.f2)).1.f3) := by
  have hw := right_w h
  have hq : ∀ r ∈ w.f3.map (·.f1), W r := fun r hr' => by obtain ⟨z, hz, rfl⟩ := List.mem_map.1 hr'; exact hw.rects z hz
  obtain ⟨ha, hb⟩ := screens_apart h
  have hin : ∀ x y, hasL (w.f3.map (·.f1)) x y → has (S28.mk 0 0 w.f1 w.f2) x y := by
    rintro x y ⟨s, hs, hx⟩
    obtain ⟨z, hz, rfl⟩ := List.mem_map.1 hs
    have := ha z hz
    unfold inside at this
    unfold has at hx ⊢
    simp only
    omega
  obtain ⟨m1, m2, m3⟩ := mts_ok hq hr
  have hsd : (w.f3.map (·.f1)).Pairwise disj := List.pairwise_map.2 hb
  have c1 := cnt_list _ m1 (m2 hsd)
  obtain ⟨_, n1, n2⟩ := mt_ok hr (wall_W hw)
  refine ⟨fun hf => ?_, fun ht => ?_⟩
  · rw [← c1]
    have : cnt (hasL (mts (w.f3.map (·.f1)) r)) = cnt fun _ _ => False := cnt_ext fun x y => ⟨fun hx => by
      have := (m3 x y).1 hx
      exact n2 hf x y ⟨this.2, hin x y this.1⟩, fun h => h.elim⟩
    rw [this, cnt_none]
    rfl
  · obtain ⟨hW, hpx⟩ := n1 ht
    obtain ⟨d1, d2, d3⟩ := dark_pix w h
    obtain ⟨k1, k2, k3⟩ := mts_ok d1 hW
    have c2 := cnt_list _ k1 (k2 d2)
    have c3 := cnt_has hW
    rw [← c1, ← c2, ← c3]
    have : cnt (has (mt r (S28.mk 0 0 w.f1 w.f2)).1) = cnt (hasL (mts (w.f3.map (·.f1)) r)) + cnt (hasL (mts (drk w) (mt r (S28.mk 0 0 w.f1 w.f2)).1)) := by
      rw [← cnt_or (P := hasL (mts (w.f3.map (·.f1)) r)) (Q := hasL (mts (drk w) (mt r (S28.mk 0 0 w.f1 w.f2)).1)) fun x y ⟨h1, h2⟩ => ((d3 x y).1 ((k3 x y).1 h2).1).2 ((m3 x y).1 h1).1]
      refine cnt_ext fun x y => ?_
      rw [m3, k3, d3, hpx]
      constructor
      · rintro ⟨h1, h2⟩
        by_cases hs : hasL (w.f3.map (·.f1)) x y
        · exact .inl ⟨hs, h1⟩
        · exact .inr ⟨⟨h2, hs⟩, h1, h2⟩
      · rintro (⟨h1, h2⟩ | ⟨h1, h2⟩)
        · exact ⟨h2, hin x y h1⟩
        · exact h2
    omega
end Go.Abs.TKD.R

set_option linter.unusedVariables false
set_option linter.unusedSimpArgs false
set_option maxRecDepth 10000
namespace Go.Abs.TKD
open Go.RowKit Go.Proofs Go.Abs R
theorem ltI_f {a b : Int} (h : b ≤ a) : ltI a b = false := by unfold ltI; exact decide_eq_false (by omega)
theorem bs {α β : Type} {x : Option α} {a : α} {f : α → Option β} {b : Option β} (h : x = some a) (h2 : f a = b) : x.bind f = b := by rw [h]; exact h2
theorem cf {α : Type} {c : Bool} {x y b : α} (h : c = false) (h2 : y = b) : (bif c then x else y) = b := by rw [h]; exact h2
theorem ct {α : Type} {c : Bool} {x y b : α} (h : c = true) (h2 : x = b) : (bif c then x else y) = b := by rw [h]; exact h2
theorem se {α β γ : Type} {f : α → γ} {g : β → γ} {a : α} {b : γ} (h : f a = b) : Sum.elim f g (.inl a) = b := h
theorem rect_drawn {L : List Int} {at_ : Int} (hL : L.length ≤ 1048576) (h0 : 0 ≤ at_) (h1 : at_ ≤ 1000000) : ∃ r, T15 L at_ = some (r, L, at_ + 1 + 1 + 1 + 1) ∧ W r := by
  obtain ⟨x, e1, x1, x2⟩ := range_ok (L := L) (at_ := at_) (lo := -2) (hi := 8) hL h0 (by omega) (by decide) (by decide) (by decide)
  obtain ⟨y, e2, y1, y2⟩ := range_ok (L := L) (at_ := at_ + 1) (lo := -2) (hi := 8) hL (by omega) (by omega) (by decide) (by decide) (by decide)
  obtain ⟨w, e3, w1, w2⟩ := range_ok (L := L) (at_ := at_ + 1 + 1) (lo := 1) (hi := 5) hL (by omega) (by omega) (by decide) (by decide) (by decide)
  obtain ⟨h, e4, h1, h2⟩ := range_ok (L := L) (at_ := at_ + 1 + 1 + 1) (lo := 1) (hi := 5) hL (by omega) (by omega) (by decide) (by decide) (by decide)
  refine ⟨⟨x, y, w, h⟩, ?_, ?_⟩
  · unfold T15
    simp only [e1, e2, e3, e4, Option.bind_some]
  · unfold W; simp only; omega
theorem pick_ok {L : List Int} {at_ : Int} {l : List Int} (hL : L.length ≤ 1048576) (h0 : 0 ≤ at_) (h1 : at_ ≤ 1000000) (hl : 1 ≤ l.length ∧ l.length ≤ 100) : ∃ v, T75 L at_ l = some (v, L, at_ + 1) ∧ v ∈ l := by
  obtain ⟨v, e1, e2, _⟩ := next_ok (L := L) (at_ := at_) (n := lenL l) hL h0 (by omega) (by rw [lenL_eq]; omega)
  obtain ⟨e3, e4⟩ := e2 (by rw [lenL_eq]; omega)
  rw [lenL_eq] at e4
  obtain ⟨j, rfl⟩ : ∃ j : Nat, v = j := ⟨v.toNat, by omega⟩
  have hj := List.getElem?_eq_getElem (show j < l.length by omega)
  unfold T75
  rw [e1, Option.bind_some, listAt_some hj]
  exact ⟨_, rfl, List.getElem_mem _⟩
def keys4 : List ByteArray := [ByteArray.mk #[115, 97], ByteArray.mk #[115, 98], ByteArray.mk #[115, 99], ByteArray.mk #[115, 100]]
def wl (a b : Int) (l : List S157) : S71 := ⟨ByteArray.mk #[119], a, b, l⟩
structure WI (L : List Int) (a b : Int) (i : Nat) (s : Int × List S157) : Prop where
  at_ : 0 ≤ s.1 ∧ s.1 ≤ 2 + 10 * i
  few : s.2.length ≤ i
  ok : ok71 1048576 (wl a b s.2)
  right : faultW (wl a b s.2) = 0
theorem ok_more {a b : Int} {l : List S157} {z : S157} (h : ok71 1048576 (wl a b l)) (hz : z.f0.size ≤ 1048576) (hl : l.length ≤ 10) : ok71 1048576 (wl a b (l ++ [z])) := by
  obtain ⟨h1, h2, h3, h4, h5⟩ := h
  refine ⟨h1, h2, h3, by simp only [wl, List.length_append, List.length_singleton]; omega, fun x hx => ?_⟩
  rcases List.mem_append.1 hx with hx | hx
  · exact h5 x hx
  · rw [List.mem_singleton] at hx; subst hx; exact ⟨hz, trivial⟩
theorem wall_step (L : List Int) (hL : L.length ≤ 1048576) (a b : Int) (ha : 1 ≤ a ∧ a ≤ 100) (hb : 1 ≤ b ∧ b ≤ 100) (q1 q2 : List Int × Int) (i : Nat) (s : Int × List S157) (hi : i < 4) (h : WI L a b i s) :
    ∃ s', L37_3 (a, q1) (b, q2) (L, s.1, s.2, keys4, (i : Int)) = some (.inl (L, s'.1, s'.2, keys4, ((i + 1 : Nat) : Int))) ∧ WI L a b (i + 1) s' := by
  obtain ⟨⟨h1, h2⟩, h3, h4, h5⟩ := h
  have e0 : subI .i64 a 1 = a - 1 := subI_eq (by omega) (by omega)
  have e0' : subI .i64 b 1 = b - 1 := subI_eq (by omega) (by omega)
  obtain ⟨x5, e1, r1, r2⟩ := range_ok (L := L) (at_ := s.1) (lo := 0) (hi := a - 1) hL h1 (by omega) (by omega) (by omega) (by omega)
  obtain ⟨x6, e2, r3, r4⟩ := range_ok (L := L) (at_ := s.1 + 1) (lo := 0) (hi := b - 1) hL (by omega) (by omega) (by omega) (by omega) (by omega)
  have e5 : subI .i64 a x5 = a - x5 := subI_eq (by omega) (by omega)
  have e6 : subI .i64 b x6 = b - x6 := subI_eq (by omega) (by omega)
  obtain ⟨x7, e3, r5, r6⟩ := range_ok (L := L) (at_ := s.1 + 1 + 1) (lo := 1) (hi := a - x5) hL (by omega) (by omega) (by omega) (by omega) (by omega)
  obtain ⟨x8, e4, r7, r8⟩ := range_ok (L := L) (at_ := s.1 + 1 + 1 + 1) (lo := 1) (hi := b - x6) hL (by omega) (by omega) (by omega) (by omega) (by omega)
  have hk := List.getElem?_eq_getElem (l := keys4) (show i < keys4.length from hi)
  have hks : (keys4[i]'(show i < keys4.length from hi)).size ≤ 1048576 := by
    have : ∀ k ∈ keys4, k.size ≤ 1048576 := by decide
    exact this _ (List.getElem_mem _)
  generalize keys4[i]'(show i < keys4.length from hi) = key at hk hks
  have o1 : appO 48 ([] : List S157) s.2 = some s.2 := appO_big (by decide) (by simp only [List.length_nil]; omega)
  have o2 : appO 48 s.2 [S157.mk key (S28.mk x5 x6 x7 x8)] = some (s.2 ++ [S157.mk key (S28.mk x5 x6 x7 x8)]) := appO_big (by decide) (by simp only [List.length_cons, List.length_nil]; omega)
  obtain ⟨x11, e7, _⟩ := next_ok (L := L) (at_ := s.1 + 1 + 1 + 1 + 1) (n := 4) hL (by omega) (by omega) (by decide)
  have e8 : T76 L (s.1 + 1 + 1 + 1 + 1) 4 = some (eqI x11 0, L, s.1 + 1 + 1 + 1 + 1 + 1) := by unfold T76; rw [e7]; rfl
  have hok := ok_more (z := S157.mk key (S28.mk x5 x6 x7 x8)) h4 hks (by omega)
  have e9 := T85_eq _ hok
  have same : WI L a b (i + 1) (s.1 + 1 + 1 + 1 + 1 + 1, s.2) := ⟨by simp only; omega, by simp only; omega, h4, h5⟩
  have body : ∀ y, ((bif !(eqI x11 0) then ((T85 (wl a b (s.2 ++ [S157.mk key (S28.mk x5 x6 x7 x8)]))).bind fun x12 => (bif eqI x12 0 then some (.inl (L, s.1 + 1 + 1 + 1 + 1 + 1, s.2 ++ [S157.mk key (S28.mk x5 x6 x7 x8)], keys4, addI .i64 (i : Int) 1)) else some (.inl (L, s.1 + 1 + 1 + 1 + 1 + 1, s.2, keys4, addI .i64 (i : Int) 1)))) else some (.inl (L, s.1 + 1 + 1 + 1 + 1 + 1, s.2, keys4, addI .i64 (i : Int) 1))) : Option ((List Int × Int × List S157 × List ByteArray × Int) ⊕ (Int × Bool × List Int × Int × List S157 × List ByteArray))) = y →
      ∃ s', y = some (.inl (L, s'.1, s'.2, keys4, ((i + 1 : Nat) : Int))) ∧ WI L a b (i + 1) s' := by
    intro y hy
    rw [← hy, e9, nextI (i := i) (by omega), Option.bind_some]
    cases eqI x11 0
    · rw [Bool.not_false, cond_true]
      cases hf : eqI (faultW (wl a b (s.2 ++ [S157.mk key (S28.mk x5 x6 x7 x8)]))) 0
      · exact ⟨(_, _), rfl, same⟩
      · rw [eqI_iff] at hf
        exact ⟨(s.1 + 1 + 1 + 1 + 1 + 1, s.2 ++ [S157.mk key (S28.mk x5 x6 x7 x8)]), rfl, by simp only; omega, by simp only [List.length_append, List.length_singleton]; omega, hok, of_decide_eq_true hf⟩
    · exact ⟨(_, _), rfl, same⟩
  refine body _ ?_
  unfold L37_3
  have hlt : ltI (i : Int) (lenL ([(ByteArray.mk #[115, 97]), (ByteArray.mk #[115, 98]), (ByteArray.mk #[115, 99]), (ByteArray.mk #[115, 100])] : List ByteArray)) = true := ltL_true (l := keys4) hi
  symm
  refine ct hlt ?_
  refine bs (idx_nat (show i < (List.length keys4) from hi)) ?_
  refine bs (getN_some hk) ?_
  refine bs (a := (x5, L, s.1 + 1)) (by rw [← e1, ← e0]) ?_
  refine bs (a := (x6, L, s.1 + 1 + 1)) (by rw [← e2, ← e0']) ?_
  refine bs (a := (x7, L, s.1 + 1 + 1 + 1)) (by rw [← e3, ← e5]) ?_
  refine bs (a := (x8, L, s.1 + 1 + 1 + 1 + 1)) (by rw [← e4, ← e6]) ?_
  refine bs o1 ?_
  refine bs o2 ?_
  refine bs e8 ?_
  rfl
theorem wall0 (a b : Int) (ha : a ∈ ([10, 20, 24, 100] : List Int)) (hb : b ∈ ([6, 10, 30] : List Int)) : T85 (wl a b []) = some 0 := by
  have : ∀ a ∈ ([10, 20, 24, 100] : List Int), ∀ b ∈ ([6, 10, 30] : List Int), T85 (wl a b []) = some 0 := by
    intro a ha b hb
    simp only [List.mem_cons, List.not_mem_nil, or_false] at ha hb
    rcases ha with rfl | rfl | rfl | rfl <;> rcases hb with rfl | rfl | rfl <;> kernel_rfl
  exact this a ha b hb
theorem wall_drawn {L : List Int} (hL : L.length ≤ 1048576) : ∃ w at_, T37 L 0 = some (w, L, at_) ∧ ok71 1048576 w ∧ faultW w = 0 ∧ w.f3.length ≤ 4 ∧ 0 ≤ at_ ∧ at_ ≤ 100 := by
  obtain ⟨a, e1, ha⟩ := pick_ok (L := L) (at_ := 0) (l := [10, 20, 24, 100]) hL (by decide) (by decide) (by decide)
  obtain ⟨b, e2, hb⟩ := pick_ok (L := L) (at_ := 0 + 1) (l := [6, 10, 30]) hL (by decide) (by decide) (by decide)
  have ha' : 1 ≤ a ∧ a ≤ 100 := by simp only [List.mem_cons, List.not_mem_nil, or_false] at ha; omega
  have hb' : 1 ≤ b ∧ b ≤ 100 := by simp only [List.mem_cons, List.not_mem_nil, or_false] at hb; omega
  have ok0 : ok71 1048576 (wl a b []) := ⟨(by decide : (1 : Nat) ≤ 1048576), trivial, trivial, (by simp [wl]), fun x hx => (by cases hx)⟩
  have f0 : faultW (wl a b []) = 0 := Option.some.inj ((T85_eq _ ok0).symm.trans (wall0 a b ha hb))
  obtain ⟨r, h1, at_, l, rfl, h2⟩ := iter_up (st := L37_3 (a, L, 0 + 1) (b, L, 0 + 1 + 1)) (fun (s : Int × List S157) i => (L, s.1, s.2, keys4, (i : Int))) 4 (fun i s => WI L a b i s)
    (fun r => ∃ at_ l, r = (((4 : Nat) : Int), false, L, at_, l, keys4) ∧ WI L a b 4 (at_, l)) (fun i s hi h => wall_step L hL a b ha' hb' _ _ i s hi h)
    (fun s h => ⟨_, by unfold L37_3; exact cf (ltL_false (l := keys4) (i := 4) (Nat.le_refl _)) rfl, s.1, s.2, rfl, h⟩) (0 + 1 + 1, []) ⟨by decide, by simp, ok0, f0⟩
  refine ⟨wl a b l, at_, ?_, h2.ok, h2.right, h2.few, h2.at_.1, by have := h2.at_.2; simp only at this; omega⟩
  unfold T37
  refine bs e1 ?_
  refine bs e2 ?_
  refine bs h1 ?_
  rfl
end Go.Abs.TKD

set_option linter.unusedVariables false
set_option linter.unusedSimpArgs false
set_option maxRecDepth 10000
namespace Go.Abs.TKD
open Go.RowKit Go.Proofs Go.Abs R
def mv (m b : S28) : S28 := ⟨subI .i64 m.f0 b.f0, subI .i64 m.f1 b.f1, m.f2, m.f3⟩
noncomputable def prt (r : S28) (z : S157) : Option S78 := if (mt z.f1 r).2 = true then some ⟨z.f0, mv (mt z.f1 r).1 z.f1, mv (mt z.f1 r).1 r⟩ else none
noncomputable def prts (w : S71) (r : S28) : List S78 := w.f3.filterMap (prt r)
theorem parts_ok (w : S71) (h71 : ok71 1048576 w) (h : faultW w = 0) (r : S28) (hr : W r) : T38 w r = some (prts w r, 0) := by
  have hw := right_w h
  have hfew := hw.few
  obtain ⟨u, u1, u2⟩ : ∃ u, iter (L38_9 w r) ([], 0) = some u ∧ u.2.2 = prts w r := by
    refine iter_up (st := L38_9 w r) (fun (s : List S78) i => (s, (i : Int))) w.f3.length (fun i s => s = (w.f3.take i).filterMap (prt r)) (fun u => u.2.2 = prts w r) ?_ ?_ [] rfl
    · intro i s hi hs
      obtain ⟨z, hz⟩ : ∃ z, w.f3[i]? = some z := ⟨_, List.getElem?_eq_getElem hi⟩
      have hzW := hw.rects z (List.mem_of_getElem? hz)
      obtain ⟨m1, m2, m3⟩ := mt_ok hzW hr
      have hlen : s.length ≤ 50 := by
        rw [hs]
        have h1 := List.length_filterMap_le (prt r) (w.f3.take i)
        rw [List.length_take] at h1
        omega
      have hnext : (w.f3.take (i + 1)).filterMap (prt r) = s ++ (prt r z).toList := by
        rw [take_next hz, List.filterMap_append, ← hs]
        cases hp : prt r z <;> simp [hp]
      cases hm : (mt z.f1 r).2 with
      | false =>
        refine ⟨s, ?_, ?_⟩
        · simp only [L38_9, ltL_true hi, listAt_some hz, cond_true, Option.bind_some, m1, hm, cond_false, nextI (show i < 9223372036854775807 by omega)]
        · rw [hnext, show prt r z = none by unfold prt; rw [hm]; rfl]
          simp
      | true =>
        have hp : prt r z = some ⟨z.f0, mv (mt z.f1 r).1 z.f1, mv (mt z.f1 r).1 r⟩ := by unfold prt; rw [if_pos hm]
        refine ⟨s ++ [⟨z.f0, mv (mt z.f1 r).1 z.f1, mv (mt z.f1 r).1 r⟩], ?_, ?_⟩
        · have ho : appO 80 s [S78.mk z.f0 (mv (mt z.f1 r).1 z.f1) (mv (mt z.f1 r).1 r)] = some (s ++ [S78.mk z.f0 (mv (mt z.f1 r).1 z.f1) (mv (mt z.f1 r).1 r)]) := appO_eq (Nat.le_trans (Nat.mul_le_mul_right 80 (show _ ≤ 51 by simp only [List.length_cons, List.length_nil]; omega)) (by decide)) (by simp only [List.length_cons, List.length_nil]; omega)
          have t1 : T87 (mt z.f1 r).1 z.f1 = some (mv (mt z.f1 r).1 z.f1) := rfl
          have t2 : T87 (mt z.f1 r).1 r = some (mv (mt z.f1 r).1 r) := rfl
          simp only [L38_9, ltL_true hi, listAt_some hz, cond_true, Option.bind_some, m1, hm, t1, t2, ho, nextI (show i < 9223372036854775807 by omega)]
        · rw [hnext, hp]
          simp
    · intro s hs
      simp only [L38_9, ltL_false (Nat.le_refl _), cond_false]
      refine ⟨_, rfl, ?_⟩
      rw [hs, List.take_length]
      rfl
  unfold T38
  rw [T86_eq w h71, h, Option.bind_some, show neI 0 0 = false from rfl, cond_false, rect_ok hr, Option.bind_some, show neI 0 0 = false from rfl, cond_false, u1, Option.bind_some, u2]
def PartOK (r : S28) (p : S78) : Prop := p.f1.f2 = p.f2.f2 ∧ p.f1.f3 = p.f2.f3 ∧ 0 ≤ p.f2.f0 ∧ 0 ≤ p.f2.f1 ∧ p.f2.f0 + p.f2.f2 ≤ r.f2 ∧ p.f2.f1 + p.f2.f3 ≤ r.f3 ∧ 1 ≤ p.f1.f2 ∧ 1 ≤ p.f1.f3
theorem part_fine (w : S71) (h : faultW w = 0) (r : S28) (hr : W r) : ∀ p ∈ prts w r, PartOK r p := by
  have hw := right_w h
  intro p hp
  obtain ⟨z, hz, h1⟩ := List.mem_filterMap.1 hp
  unfold prt at h1
  split at h1
  case isFalse => cases h1
  rename_i hm
  cases h1
  obtain ⟨m1, m2⟩ := (mt_ok (hw.rects z hz) hr).2.1 hm
  obtain ⟨s1, s2, s3, s4⟩ := sub_in m1 fun x y hx => ((m2 x y).1 hx).2
  unfold W at m1 hr
  have e1 : subI .i64 (mt z.f1 r).1.f0 r.f0 = (mt z.f1 r).1.f0 - r.f0 := subI_eq (by omega) (by omega)
  have e2 : subI .i64 (mt z.f1 r).1.f1 r.f1 = (mt z.f1 r).1.f1 - r.f1 := subI_eq (by omega) (by omega)
  refine ⟨rfl, rfl, ?_, ?_, ?_, ?_, m1.2.2.1, m1.2.2.2.2.1⟩
  · show 0 ≤ subI .i64 (mt z.f1 r).1.f0 r.f0
    omega
  · show 0 ≤ subI .i64 (mt z.f1 r).1.f1 r.f1
    omega
  · show subI .i64 (mt z.f1 r).1.f0 r.f0 + (mt z.f1 r).1.f2 ≤ r.f2
    omega
  · show subI .i64 (mt z.f1 r).1.f1 r.f1 + (mt z.f1 r).1.f3 ≤ r.f3
    omega
theorem parts_area (w : S71) (r : S28) : ((prts w r).map fun p => p.f1.f2 * p.f1.f3).sum = areaL (mts (w.f3.map (·.f1)) r) := by
  unfold prts mts areaL
  induction w.f3 with
  | nil => rfl
  | cons z l ih =>
    rw [List.map_cons, List.filterMap_cons, List.filterMap_cons]
    cases hm : (mt z.f1 r).2 with
    | false =>
      rw [show prt r z = none by unfold prt; rw [hm]; rfl, show mtO r z.f1 = none by unfold mtO; rw [hm]; rfl]
      exact ih
    | true =>
      rw [show prt r z = some ⟨z.f0, mv (mt z.f1 r).1 z.f1, mv (mt z.f1 r).1 r⟩ by unfold prt; rw [if_pos hm], show mtO r z.f1 = some (mt z.f1 r).1 by unfold mtO; rw [if_pos hm]]
      simp only [List.map_cons, List.sum_cons]
      rw [ih]
      rfl
theorem prod_small {a b : Int} (h1 : 1 ≤ a) (h2 : a ≤ 200000) (h3 : 1 ≤ b) (h4 : b ≤ 200000) : 0 ≤ a * b ∧ a * b ≤ 40000000000 :=
  ⟨Int.mul_nonneg (by omega) (by omega), Int.le_trans (Int.mul_le_mul h2 h4 (by omega) (by omega)) (by decide)⟩
theorem sum_small {l : List Int} (h : ∀ x ∈ l, 0 ≤ x ∧ x ≤ 40000000000) : 0 ≤ l.sum ∧ l.sum ≤ 40000000000 * l.length := by
  induction l with
  | nil => simp
  | cons a l ih =>
    have h1 := h a (by simp)
    have h2 := ih fun x hx => h x (by simp [hx])
    simp only [List.sum_cons, List.length_cons]
    omega
theorem loop1 (x1 : S71 × List Int × Int) (x2 : S28 × List Int × Int) (x4 : List S28 × Int) (l : List S78) (e : Int) (hl : l.length ≤ 50) (hr : W x2.1) (h : ∀ p ∈ l, PartOK x2.1 p) :
    iter (L8_9 x1 x2 (l, e) x4) (0, l, 0) = some (.inl ((l.map fun p => p.f1.f2 * p.f1.f3).sum, (l.length : Int), false, l)) := by
  have hW := hr
  unfold W at hW
  have hsm : ∀ x ∈ l.map (fun p => p.f1.f2 * p.f1.f3), 0 ≤ x ∧ x ≤ 40000000000 := fun x hx => by
    obtain ⟨p, hp, rfl⟩ := List.mem_map.1 hx
    have := h p hp
    unfold PartOK at this
    exact prod_small (by omega) (by omega) (by omega) (by omega)
  obtain ⟨u, u1, u2⟩ := iter_up (st := L8_9 x1 x2 (l, e) x4) (fun (s : Int) i => (s, l, (i : Int))) l.length (fun i s => s = ((l.take i).map fun p => p.f1.f2 * p.f1.f3).sum) (fun u => u = .inl ((l.map fun p => p.f1.f2 * p.f1.f3).sum, (l.length : Int), false, l)) (fun i s hi hs => by
    obtain ⟨p, hp⟩ : ∃ p, l[i]? = some p := ⟨_, List.getElem?_eq_getElem hi⟩
    have hP := h p (List.mem_of_getElem? hp)
    have h0 := hsm _ (List.mem_map.2 ⟨p, List.mem_of_getElem? hp, rfl⟩)
    unfold PartOK at hP
    obtain ⟨q1, q2, q3, q4, q5, q6, q7, q8⟩ := hP
    have hs1 := sum_small (l := (l.take i).map fun p => p.f1.f2 * p.f1.f3) fun x hx => by
      obtain ⟨p, hp, rfl⟩ := List.mem_map.1 hx
      exact hsm _ (List.mem_map.2 ⟨p, List.mem_of_mem_take hp, rfl⟩)
    rw [← hs, List.length_map, List.length_take] at hs1
    refine ⟨s + p.f1.f2 * p.f1.f3, ?_, ?_⟩
    · unfold L8_9
      refine ct (ltL_true hi) ?_
      refine bs (idx_nat hi) ?_
      refine bs (getN_some hp) ?_
      refine cf (by rw [q1, neI_iff]; simp) ?_
      refine cf (by rw [q2, neI_iff]; simp) ?_
      refine cf (ltI_f q3) ?_
      refine cf (ltI_f q4) ?_
      refine cf (by rw [addI_eq (by omega) (by omega)]; exact ltI_f q5) ?_
      refine cf (by rw [addI_eq (by omega) (by omega)]; exact ltI_f q6) ?_
      rw [mulI_eq (by omega) (by omega), addI_eq (by omega) (by omega), nextI (i := i) (by omega)]
    · rw [take_next hp, List.map_append, List.sum_append, ← hs]
      simp) (fun s hs => ⟨_, by unfold L8_9; exact cf (ltL_false (Nat.le_refl _)) rfl, by
      rw [hs, List.take_length, ltL_false (Nat.le_refl _)]⟩) 0 (by simp)
  rw [u2] at u1
  exact u1
theorem meet_is {a b : S28} (ha : W a) (hb : W b) : T24 a b = some ((mt a b).1, (mt a b).2, 0) := by
  have n0 : addI .i64 0 1 = 1 := by decide
  have n1 : addI .i64 1 1 = 2 := by decide
  have h0 : L24_2 a b 0 = some (.inl 1) := by
    unfold L24_2
    refine ct rfl ?_
    refine bs (a := a) rfl ?_
    refine bs (rect_ok ha) ?_
    refine cf rfl ?_
    rw [n0]
  have h1 : L24_2 a b 1 = some (.inl 2) := by
    unfold L24_2
    refine ct rfl ?_
    refine bs (a := b) rfl ?_
    refine bs (rect_ok hb) ?_
    refine cf rfl ?_
    rw [n1]
  have h2 : L24_2 a b 2 = some (.inr (.inl (2, false))) := by
    unfold L24_2
    exact cf rfl rfl
  unfold T24
  refine bs ((iter_inl h0).trans ((iter_inl h1).trans (iter_inr h2))) ?_
  refine se ?_
  refine bs (mt_ok ha hb).1 ?_
  rfl
theorem loop2 (D : List S28) (e : Int) (x8 : S28 × Bool × Int) (s0 : Int) (hl : D.length ≤ 2000) (hD : ∀ r ∈ D, W r) (hi8 : W x8.1) (h0 : 0 ≤ s0 ∧ s0 ≤ 4000000000000) :
    iter (L8_21 (D, e) x8) (s0, 0) = some (.inl (s0 + areaL (mts D x8.1), (D.length : Int), false)) := by
  have step : ∀ d ∈ D, (mt d x8.1).2 = true → 0 ≤ (mt d x8.1).1.f2 * (mt d x8.1).1.f3 ∧ (mt d x8.1).1.f2 * (mt d x8.1).1.f3 ≤ 40000000000 := fun d hd hm => by
    have := ((mt_ok (hD d hd) hi8).2.1 hm).1
    unfold W at this
    exact prod_small (by omega) (by omega) (by omega) (by omega)
  obtain ⟨u, u1, u2⟩ := iter_up (st := L8_21 (D, e) x8) (fun (s : Int) i => (s, (i : Int))) D.length (fun i s => s = s0 + areaL (mts (D.take i) x8.1) ∧ 0 ≤ s ∧ s ≤ 4000000000000 + 40000000000 * i) (fun u => u = .inl (s0 + areaL (mts D x8.1), (D.length : Int), false)) (fun i s hi hs => by
    obtain ⟨d, hd⟩ : ∃ p, D[i]? = some p := ⟨_, List.getElem?_eq_getElem hi⟩
    have hdm := List.mem_of_getElem? hd
    obtain ⟨hs1, hs2, hs3⟩ := hs
    have hnext : areaL (mts (D.take (i + 1)) x8.1) = areaL (mts (D.take i) x8.1) + areaL (mtO x8.1 d).toList := by
      unfold mts areaL
      rw [take_next hd, List.filterMap_append, List.map_append, List.sum_append]
      cases hp : mtO x8.1 d <;> simp [hp]
    have hm := meet_is (hD d hdm) hi8
    cases hb : (mt d x8.1).2 with
    | false =>
      refine ⟨s, ?_, ?_, hs2, by omega⟩
      · unfold L8_21
        refine ct (ltL_true hi) ?_
        refine bs (listAt_some hd) ?_
        refine bs hm ?_
        refine cf rfl ?_
        refine cf hb ?_
        rw [nextI (i := i) (by omega)]
      · rw [hnext, show mtO x8.1 d = none by unfold mtO; rw [hb]; rfl, hs1]
        simp [areaL]
    | true =>
      have hb2 := step d hdm hb
      refine ⟨s + (mt d x8.1).1.f2 * (mt d x8.1).1.f3, ?_, ?_, by omega, by omega⟩
      · unfold L8_21
        refine ct (ltL_true hi) ?_
        refine bs (listAt_some hd) ?_
        refine bs hm ?_
        refine cf rfl ?_
        refine ct hb ?_
        rw [nextI (i := i) (by omega)]
        simp only
        rw [mulI_eq (by omega) (by omega), addI_eq (by omega) (by omega)]
      · rw [hnext, show mtO x8.1 d = some (mt d x8.1).1 by unfold mtO; rw [if_pos hb], hs1]
        simp [areaL]
        omega) (fun s hs => ⟨_, by unfold L8_21; exact cf (ltL_false (Nat.le_refl _)) rfl, by
      rw [hs.1, List.take_length, ltL_false (Nat.le_refl _)]⟩) s0 ⟨by simp [mts, areaL], h0.1, by omega⟩
  rw [u2] at u1
  exact u1
theorem plain (p0 : List Int) (o0 : p0.length ≤ 1048576 ∧ ∀ x ∈ p0, okI x) : T8 p0 = some true := by
  have hL := o0.1
  obtain ⟨w, at_, e1, h71, hf, hl4, a1, a2⟩ := wall_drawn hL
  obtain ⟨r, e2, hr⟩ := rect_drawn (L := p0) (at_ := at_) hL a1 (by omega)
  have e3 := parts_ok w h71 hf r hr
  have e4 := dark_ok w h71 hf hl4
  have hw := right_w hf
  have hlp : (prts w r).length ≤ 50 := by
    have h1 := List.length_filterMap_le (prt r) w.f3
    unfold prts
    omega
  have hl1 := loop1 (w, p0, at_) (r, p0, at_ + 1 + 1 + 1 + 1) (drk w, 0) (prts w r) 0 hlp hr (part_fine w hf r hr)
  rw [parts_area] at hl1
  have hm := meet_is hr (wall_W hw)
  obtain ⟨pd1, pd2⟩ := parts_dark w hf r hr
  have hrd := ready_ok
  have hdl : (drk w).length ≤ 2000 := by
    have h5 := e4
    unfold T39 at h5
    rw [T86_eq w h71, hf, Option.bind_some, show neI 0 0 = false from rfl, cond_false, rects_ok w hw, Option.bind_some] at h5
    obtain ⟨o, o1, h6⟩ := Option.bind_eq_some_iff.1 h5
    unfold T59 at h6
    cases hc : ltI 2000 (lenL o) <;> rw [hc] at h6
    · simp only [cond_false, Option.bind_some, Option.some.injEq, Prod.mk.injEq] at h6
      rw [← h6.1]
      rw [ltI_iff, lenL_eq] at hc
      have := of_decide_eq_false hc
      omega
    · simp only [cond_true, Option.bind_some, Option.some.injEq, Prod.mk.injEq] at h6
      exact absurd h6.2 (by decide)
  unfold T8
  refine bs e1 ?_
  refine bs e2 ?_
  refine bs e3 ?_
  refine bs e4 ?_
  refine cf rfl ?_
  refine cf rfl ?_
  refine bs hl1 ?_
  refine se ?_
  refine bs hm ?_
  refine cf rfl ?_
  cases hb : (mt r (S28.mk 0 0 w.f1 w.f2)).2 with
  | false =>
    refine ct rfl ?_
    rw [pd1 hb]
    refine ct rfl ?_
    refine bs hrd ?_
    rfl
  | true =>
    have hW := ((mt_ok hr (wall_W hw)).2.1 hb).1
    have hpd := pd2 hb
    have hWu := hW
    unfold W at hWu
    have hps := prod_small (a := (mt r (S28.mk 0 0 w.f1 w.f2)).1.f2) (b := (mt r (S28.mk 0 0 w.f1 w.f2)).1.f3) (by omega) (by omega) (by omega) (by omega)
    have hsm := sum_small (l := (prts w r).map fun p => p.f1.f2 * p.f1.f3) fun x hx => by
      obtain ⟨p, hp, rfl⟩ := List.mem_map.1 hx
      have := part_fine w hf r hr p hp
      unfold PartOK at this
      unfold W at hr
      exact prod_small (by omega) (by omega) (by omega) (by omega)
    rw [parts_area, List.length_map] at hsm
    refine cf rfl ?_
    refine bs (loop2 (drk w) 0 ((mt r (S28.mk 0 0 w.f1 w.f2)).1, true, 0) _ hdl (dark_pix w hf).1 hW ⟨hsm.1, by omega⟩) ?_
    refine se ?_
    refine ct ?_ ?_
    · show eqI _ (mulI .i64 (mt r (S28.mk 0 0 w.f1 w.f2)).1.f2 (mt r (S28.mk 0 0 w.f1 w.f2)).1.f3) = true
      rw [mulI_eq (by omega) (by omega), eqI_iff]
      exact decide_eq_true hpd
    refine bs hrd ?_
    rfl
end Go.Abs.TKD
