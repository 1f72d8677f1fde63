import Derived.Test.YtpnddbpcioepnaaGreatDoorETUAR
import Derived.Test.YtpnddbpcioepnaaGreatDoorEPl
import Derived.Test.YtpnddbpcioepnaaGreatDoorEPlV
import Derived.Test.YtpnddbpcioepnaaGreatDoorEPlD
import Derived.Test.YtpnddbpcioepnaaGreatDoorEPlT
import Derived.Lib.DecodeN
import Derived.Test.YtpnddbpcioepnaaGreatDoorEPlS
set_option linter.unusedVariables false
set_option linter.unusedSimpArgs false
namespace Go.Abs.TUA
open Go.RowKit
/-! Keys. -/
def wc (x : Int) : Bool := (leI 97 x && leI x 122) || ((leI 48 x && leI x 57) || eqI x 45 || eqI x 95)
def okAt (i : Nat) (c : UInt8) : Bool := (leI 97 c.toNat && leI c.toNat 122) || (ltI 0 i && ((leI 48 c.toNat && leI c.toNat 57) || eqI c.toNat 45 || eqI c.toNat 95))
def key (s : ByteArray) : Bool := ((by_ s).zipIdx.all fun q => okAt q.2 q.1) && !eqS s (ByteArray.mk #[]) && leI (lenS s) 40
theorem T108_eq (s : ByteArray) (h : s.size ≤ 1048576) : T108 s = some (key s) := by
  have hi : iter (L108_2 s) ((0 : Nat) : Int) = some (Sum.elim (fun _ : Unit => .inl ((s.size : Int), false)) (fun _ : Unit => .inr ()) (wp (fun i (_ : Unit) x => bif okAt i x then (.inl () : Unit ⊕ Unit) else .inr ()) 0 () (by_ s))) := by
    refine iter_wpS (fun _ i => (i : Int)) _ _ s _ (fun _ _ => True) (fun i u x hx _ => ⟨?_, fun _ _ => trivial⟩) (fun u _ => ?_) () trivial
    · have hlt : i < s.size := by rw [← by_len]; exact (List.getElem?_eq_some_iff.1 hx).1
      have h1 : ltI (i : Int) (lenS s) = true := by rw [ltI_iff, lenS_eq]; simpa using hlt
      have h2 : addI .i64 (i : Int) 1 = ((i + 1 : Nat) : Int) := by rw [addI_eq (by omega) (by omega)]; omega
      simp only [L108_2, h1, cond_true, byteAt_some hx, Option.bind_some, h2, okAt]
      generalize leI 97 (x.toNat : Int) = b1
      generalize leI (x.toNat : Int) 122 = b2
      generalize ltI 0 (i : Int) = b3
      generalize leI 48 (x.toNat : Int) = b4
      generalize leI (x.toNat : Int) 57 = b5
      generalize eqI (x.toNat : Int) 45 = b6
      generalize eqI (x.toNat : Int) 95 = b7
      cases b1 <;> cases b2 <;> cases b3 <;> cases b4 <;> cases b5 <;> cases b6 <;> cases b7 <;> rfl
    · have h1 : ltI (s.size : Int) (lenS s) = false := by rw [ltI_iff, lenS_eq]; simp
      simp only [L108_2, h1, cond_false]
  unfold T108
  rw [show (0 : Int) = ((0 : Nat) : Int) from rfl, hi, wp_all okAt, elim_cond, Option.bind_some]
  unfold key
  cases (by_ s).zipIdx.all fun q => okAt q.2 q.1 <;> cases eqS s (ByteArray.mk #[]) <;> rfl
def smalls : ByteArray := ByteArray.mk #[97, 98, 99, 100, 101, 102, 103, 104, 105, 106, 107, 108, 109, 110, 111, 112, 113, 114, 115, 116, 117, 118, 119, 120, 121, 122]
def words : ByteArray := ByteArray.mk #[97, 98, 99, 100, 101, 102, 103, 104, 105, 106, 107, 108, 109, 110, 111, 112, 113, 114, 115, 116, 117, 118, 119, 120, 121, 122, 48, 49, 50, 51, 52, 53, 54, 55, 56, 57, 45, 95]
theorem T143_eq (s t : ByteArray) (h : s.size ≤ 1048576) : T143 s t = some ((by_ s).all fun c => !ltI (idxB t c.toNat) 0) := by
  have hi : iter (L143_2 s t) ((0 : Nat) : Int) = some (Sum.elim (fun _ : Unit => .inl ((s.size : Int), false)) (fun _ : Unit => .inr ()) (wp (fun i (_ : Unit) (x : UInt8) => bif !ltI (idxB t x.toNat) 0 then (.inl () : Unit ⊕ Unit) else .inr ()) 0 () (by_ s))) := by
    refine iter_wpS (fun _ i => (i : Int)) _ _ s _ (fun _ _ => True) (fun i u x hx _ => ⟨?_, fun _ _ => trivial⟩) (fun u _ => ?_) () trivial
    · have hlt : i < s.size := by rw [← by_len]; exact (List.getElem?_eq_some_iff.1 hx).1
      have h1 : ltI (i : Int) (lenS s) = true := by rw [ltI_iff, lenS_eq]; simpa using hlt
      have h2 : addI .i64 (i : Int) 1 = ((i + 1 : Nat) : Int) := by rw [addI_eq (by omega) (by omega)]; omega
      simp only [L143_2, T171, h1, cond_true, byteAt_some hx, Option.bind_some, h2]
      cases ltI (idxB t (x.toNat : Int)) 0 <;> rfl
    · have h1 : ltI (s.size : Int) (lenS s) = false := by rw [ltI_iff, lenS_eq]; simp
      simp only [L143_2, h1, cond_false]
  unfold T143
  rw [show (0 : Int) = ((0 : Nat) : Int) from rfl, hi, wp_all', elim_cond, Option.bind_some]
  cases (by_ s).all fun c => !ltI (idxB t (c.toNat : Int)) 0 <;> rfl
theorem smalls_idx : ∀ n : Fin 256, (!ltI (Lib.indexByte (by_ smalls) (UInt8.ofNat n.val)) 0) = (leI 97 n.val && leI n.val 122) := by decide +kernel
theorem words_idx : ∀ n : Fin 256, (!ltI (Lib.indexByte (by_ words) (UInt8.ofNat n.val)) 0) = wc n.val := by decide +kernel
theorem smalls_at (c : UInt8) : (!ltI (idxB smalls c.toNat) 0) = (leI 97 c.toNat && leI c.toNat 122) := by
  have := smalls_idx ⟨c.toNat, c.toNat_lt⟩
  simpa [idxB] using this
theorem words_at (c : UInt8) : (!ltI (idxB words c.toNat) 0) = wc c.toNat := by
  have := words_idx ⟨c.toNat, c.toNat_lt⟩
  simpa [idxB] using this
theorem okAt_pos {i : Nat} (h : 1 ≤ i) (c : UInt8) : okAt i c = wc c.toNat := by
  have : ltI 0 (i : Int) = true := by rw [ltI_iff]; simp; omega
  simp only [okAt, wc, this, Bool.true_and]
theorem okAt_all (l : List UInt8) (k : Nat) (h : 1 ≤ k) : ((l.zipIdx k).all fun q => okAt q.2 q.1) = l.all fun c => wc c.toNat := by
  induction l generalizing k with
  | nil => rfl
  | cons a l ih => simp only [List.zipIdx_cons, List.all_cons, okAt_pos h, ih (k + 1) (by omega)]
theorem eqS_empty {s : ByteArray} (h : s.size ≠ 0) : eqS s (ByteArray.mk #[]) = false := by
  rw [eqS_iff]
  simp only [decide_eq_false_iff_not]
  intro e
  rw [e] at h
  exact h rfl
theorem T94_eq (a b c : Int) : T94 a b c = some (leI b a && leI a c) := by
  unfold T94
  cases leI b a <;> rfl
theorem T93_eq (s : ByteArray) (h : s.size ≤ 1048576) : T93 s = some (key s) := by
  unfold T93
  rw [T94_eq, Option.bind_some]
  have hlen := by_len s
  rcases hb : by_ s with _ | ⟨c, l⟩
  · rw [hb] at hlen
    have h0 : s.size = 0 := hlen.symm
    have h1 : leI 1 (lenS s) = false := by rw [leI_iff, lenS_eq, h0]; rfl
    have h2 : eqS s (ByteArray.mk #[]) = true := by
      rw [eqS_iff]; simp only [decide_eq_true_eq]; exact by_inj hb
    unfold key
    rw [h1, h2, Bool.false_and, cond_false]
    simp
  · rw [hb, List.length_cons] at hlen
    have h1 : leI 1 (lenS s) = true := by rw [leI_iff, lenS_eq]; simp; omega
    have h2 : eqS s (ByteArray.mk #[]) = false := eqS_empty (by omega)
    have h3 : cutS s none (some 1) = some (s.extract 0 1) := by
      have : (1 : Int) ≤ (s.size : Int) := by omega
      simp [cutS, cutB, this]
    have h4 : by_ (s.extract 0 1) = [c] := by rw [by_extract, hb]; rfl
    have h5 : (s.extract 0 1).size ≤ 1048576 := by rw [← by_len, h4]; simp
    have h6 := T143_eq (s.extract 0 1) smalls h5
    have h7 := T143_eq s words h
    unfold smalls at h6
    unfold words at h7
    rw [h1, h3, Bool.true_and, Option.bind_some, h6, h4, h7, hb]
    simp only [Option.bind_some, List.all_cons, List.all_nil, Bool.and_true]
    have h8 : (!ltI (idxB (ByteArray.mk #[97, 98, 99, 100, 101, 102, 103, 104, 105, 106, 107, 108, 109, 110, 111, 112, 113, 114, 115, 116, 117, 118, 119, 120, 121, 122]) c.toNat) 0) = (leI 97 c.toNat && leI c.toNat 122) := smalls_at c
    have h9 : ∀ c : UInt8, (!ltI (idxB (ByteArray.mk #[97, 98, 99, 100, 101, 102, 103, 104, 105, 106, 107, 108, 109, 110, 111, 112, 113, 114, 115, 116, 117, 118, 119, 120, 121, 122, 48, 49, 50, 51, 52, 53, 54, 55, 56, 57, 45, 95]) c.toNat) 0) = wc c.toNat := words_at
    simp only [h8, h9]
    unfold key
    have h10 : okAt 0 c = (leI 97 c.toNat && leI c.toNat 122) := by simp [okAt, ltI]
    rw [h2, hb, List.zipIdx_cons, List.all_cons, okAt_all l _ (by omega), h10]
    unfold wc
    cases leI 97 (c.toNat : Int) <;> cases leI (c.toNat : Int) 122 <;> cases (l.all fun c => (leI 97 (c.toNat : Int) && leI (c.toNat : Int) 122) || ((leI 48 (c.toNat : Int) && leI (c.toNat : Int) 57) || eqI (c.toNat : Int) 45 || eqI (c.toNat : Int) 95)) <;> cases leI (lenS s) 40 <;> rfl
/-! Strings, and how they are ordered. -/
/-! Tags. -/
def risF (_ : Nat) (last : ByteArray) (x : ByteArray) : ByteArray ⊕ Int := bif !key x then .inr 5 else bif leS x last then .inr 7 else .inl x
def tagsF (l : List ByteArray) : Int := bif ltI 20 (lenL l) then 2 else Sum.elim (fun _ => 0) id (wp risF 0 (ByteArray.mk #[]) l)
def Prev {α : Type} (l : List α) (k : α → ByteArray) (i : Nat) (s : ByteArray) : Prop := (i = 0 ∧ s = ByteArray.mk #[]) ∨ ∃ x, 0 < i ∧ l[i - 1]? = some x ∧ s = k x
theorem listAt_mem {α : Type} {l : List α} {i : Int} {x : α} (h : listAt l i = some x) : x ∈ l := by
  unfold listAt at h
  split at h
  · exact List.mem_of_getElem? h
  · cases h
def outB (a b c : Int) : Bool := ltI a b || ltI c a
theorem T30_eq (a b c : Int) : T30 a b c = some (outB a b c) := by
  unfold T30 outB
  cases ltI a b <;> rfl
theorem ltI_not (a b : Int) : ltI a b = !leI b a := by
  rw [ltI_iff, leI_iff, Bool.eq_iff_iff]; simp
theorem inB (a b c : Int) : (leI b a && leI a c) = !outB a b c := by
  unfold outB
  rw [ltI_not a b, ltI_not c a]
  cases leI b a <;> cases leI a c <;> rfl
def Rising (l : List ByteArray) : Prop := ∀ (i j : Nat) (x y : ByteArray), i < j → l[i]? = some x → l[j]? = some y → ltS x y = true
end Go.Abs.TUA

set_option linter.unusedVariables false
set_option linter.unusedSimpArgs false
set_option maxRecDepth 10000
namespace Go.Abs.TUA
open Go.RowKit
/-! Lists of entries. -/
/-! Entries that are compared. -/
theorem eqS_t {a b : ByteArray} : eqS a b = true ↔ a = b := by rw [eqS_iff]; simp
theorem eqI_t' {a b : Int} : eqI a b = true ↔ a = b := by rw [eqI_iff]; simp
theorem T23_dec (l l' : List ByteArray) (h : l.length ≤ 1048576) : ∃ b, T90 l l' = some b ∧ (b = true ↔ l = l') := by
  unfold T90
  by_cases hn : l.length = l'.length
  · have h0 : neI (lenL l) (lenL l') = false := by rw [neI_iff, lenL_eq, lenL_eq]; simp; omega
    obtain ⟨r, h2, h3⟩ := iter_upx (st := L90_4 l l') (fun (_ : Unit) (i : Nat) => (i : Int)) l.length (fun i _ => l.take i = l'.take i) (fun r => ((∃ x, r = .inl x) ∧ l = l') ∨ (∃ x, r = .inr x) ∧ l ≠ l')
      (fun i s hi hI => by
        have hx := List.getElem?_eq_getElem hi
        have hy := List.getElem?_eq_getElem (show i < l'.length by omega)
        by_cases e : l[i] = l'[i]
        · refine .inl ⟨(), ?_, ?_⟩
          · unfold L90_4
            refine ct (ltL_true hi) (bs (listAt_some hx) (bs (listAt_some hy) (cf ?_ ?_)))
            · rw [eqS_t.2 e]; rfl
            · rw [nextI (by omega)]
          · rw [take_next hx, take_next hy, hI, e]
        · refine .inr ⟨.inr (), ?_, .inr ⟨⟨_, rfl⟩, fun h => e ?_⟩⟩
          · unfold L90_4
            refine ct (ltL_true hi) (bs (listAt_some hx) (bs (listAt_some hy) (ct ?_ rfl)))
            cases hq : eqS l[i] l'[i] with
            | false => rfl
            | true => exact absurd (eqS_t.1 hq) e
          · subst h; rfl)
      (fun s hI => ⟨.inl ((l.length : Int), false), by
        unfold L90_4
        rw [ltL_false (Nat.le_refl _)]
        rfl, .inl ⟨⟨_, rfl⟩, by rw [List.take_length] at hI; rw [hI, hn, List.take_length]⟩⟩) 0 () (Nat.zero_le _) rfl
    rcases h3 with ⟨⟨x, rfl⟩, h4⟩ | ⟨⟨x, rfl⟩, h4⟩
    · exact ⟨true, cf h0 (bs h2 rfl), by simp [h4]⟩
    · exact ⟨false, cf h0 (bs h2 rfl), by simp [h4]⟩
  · refine ⟨false, ct (neI_t ?_) rfl, ?_⟩
    · rw [lenL_eq, lenL_eq]; omega
    · simp only [Bool.false_eq_true, false_iff]
      rintro rfl
      exact hn rfl
/-- A condition, one of the components of two entries. -/
theorem dec_s {α : Type} {a b : ByteArray} {r : Option Bool} {P : Prop} (h : ∃ c, r = some c ∧ (c = true ↔ P)) : ∃ c, (bif eqS a b then r else some false) = some c ∧ (c = true ↔ a = b ∧ P) := by
  obtain ⟨c, h1, h2⟩ := h
  cases hq : eqS a b with
  | true => exact ⟨c, h1, by rw [h2]; simp [eqS_t.1 hq]⟩
  | false => exact ⟨false, rfl, by simp; intro e; rw [eqS_t.2 e] at hq; cases hq⟩
theorem dec_i {a b : Int} {r : Option Bool} {P : Prop} (h : ∃ c, r = some c ∧ (c = true ↔ P)) : ∃ c, (bif eqI a b then r else some false) = some c ∧ (c = true ↔ a = b ∧ P) := by
  obtain ⟨c, h1, h2⟩ := h
  cases hq : eqI a b with
  | true => exact ⟨c, h1, by rw [h2]; simp [eqI_t'.1 hq]⟩
  | false => exact ⟨false, rfl, by simp; intro e; rw [eqI_t'.2 e] at hq; cases hq⟩
theorem dec_o {x r : Option Bool} {P Q : Prop} (hx : ∃ c, x = some c ∧ (c = true ↔ Q)) (h : ∃ c, r = some c ∧ (c = true ↔ P)) : ∃ c, (x.bind fun x => bif x then r else some false) = some c ∧ (c = true ↔ Q ∧ P) := by
  obtain ⟨c, h1, h2⟩ := h
  obtain ⟨d, h3, h4⟩ := hx
  cases d with
  | true => exact ⟨c, bs h3 h1, by rw [h2]; simp [h4.1 rfl]⟩
  | false => exact ⟨false, bs h3 rfl, by simp; intro q; exact absurd (h4.2 q) (by decide)⟩
end Go.Abs.TUA

set_option linter.unusedVariables false
set_option linter.unusedSimpArgs false
set_option maxRecDepth 10000
namespace Go.Abs.TUA
open Go.RowKit Go.Proofs Go.Abs
/-! Plain texts: two ways to say so. -/
theorem dec_lo {n b0 b1 b2 b3 : Nat} (h : b0 < 128) : Lib.decodeN n b0 b1 b2 b3 = (b0, 1) := by
  unfold Lib.decodeN
  rw [if_pos h]
theorem dec_hi {n b0 b1 b2 b3 : Nat} (h : 128 ≤ b0) : 128 ≤ (Lib.decodeN n b0 b1 b2 b3).1 ∧ 1 ≤ (Lib.decodeN n b0 b1 b2 b3).2 ∧ (1 < (Lib.decodeN n b0 b1 b2 b3).2 → 128 ≤ b1) ∧ (2 < (Lib.decodeN n b0 b1 b2 b3).2 → 128 ≤ b2) ∧ (3 < (Lib.decodeN n b0 b1 b2 b3).2 → 128 ≤ b3) ∧ (Lib.decodeN n b0 b1 b2 b3).2 ≤ 4 := by
  unfold Lib.decodeN
  rw [if_neg (by omega)]
  split
  · rename_i hc
    split
    · exact ⟨by simp only; omega, by simp only; omega, fun _ => by omega, fun h => by simp only at h; omega, fun h => by simp only at h; omega, by simp only; omega⟩
    · exact ⟨by simp only; omega, by simp only; omega, fun h => by simp only at h; omega, fun h => by simp only at h; omega, fun h => by simp only at h; omega, by simp only; omega⟩
  · split
    · rename_i hc
      split
      · rename_i hd
        exact ⟨by simp only; omega, by simp only; omega, fun _ => by omega, fun h => by omega, fun h => by simp only at h; omega, by simp only; omega⟩
      · exact ⟨by simp only; omega, by simp only; omega, fun h => by simp only at h; omega, fun h => by simp only at h; omega, fun h => by simp only at h; omega, by simp only; omega⟩
    · split
      · rename_i hc
        split
        · rename_i hd
          exact ⟨by simp only; omega, by simp only; omega, fun _ => by omega, fun h => by omega, fun h => by omega, by simp only; omega⟩
        · exact ⟨by simp only; omega, by simp only; omega, fun h => by simp only at h; omega, fun h => by simp only at h; omega, fun h => by simp only at h; omega, by simp only; omega⟩
      · exact ⟨by simp only; omega, by simp only; omega, fun h => by simp only at h; omega, fun h => by simp only at h; omega, fun h => by simp only at h; omega, by simp only; omega⟩
/-- A control sign. -/
def ct_ (n : Nat) : Bool := decide (n < 32) || decide (n = 127)
def at0 (s : ByteArray) (i : Nat) : Nat := (s.get! i).toNat
theorem idx_ctrl (s : ByteArray) : ∀ (f pos : Nat), s.size - pos ≤ f → ((0 ≤ Lib.idxFuncFrom ct_ true s f pos) ↔ ∃ j, pos ≤ j ∧ j < s.size ∧ ct_ (at0 s j) = true)
  | 0, pos, h => by
    unfold Lib.idxFuncFrom
    constructor
    · intro h2
      omega
    · rintro ⟨j, h1, h2, _⟩
      omega
  | f + 1, pos, h => by
    unfold Lib.idxFuncFrom
    by_cases hp : pos < s.size
    · rw [if_pos hp, Lib.decode_at]
      by_cases h0 : at0 s pos < 128
      · rw [dec_lo (b0 := (s.get! pos).toNat) h0]
        simp only
        cases hc : ct_ (s.get! pos).toNat with
        | true =>
          rw [if_pos rfl]
          exact ⟨fun _ => ⟨pos, Nat.le_refl _, hp, hc⟩, fun _ => by omega⟩
        | false =>
          rw [if_neg (by decide), idx_ctrl s f (pos + 1) (by omega)]
          constructor
          · rintro ⟨j, h1, h2, h3⟩
            exact ⟨j, by omega, h2, h3⟩
          · rintro ⟨j, h1, h2, h3⟩
            by_cases hj : j = pos
            · subst hj
              unfold at0 at h3
              rw [hc] at h3
              cases h3
            · exact ⟨j, by omega, h2, h3⟩
      · have hh := dec_hi (n := s.size - pos) (b0 := (s.get! pos).toNat) (b1 := (s.get! (pos + 1)).toNat) (b2 := (s.get! (pos + 2)).toNat) (b3 := (s.get! (pos + 3)).toNat) (Nat.le_of_not_lt h0)
        obtain ⟨d1, d2, d3, d4, d5, d6⟩ := hh
        generalize Lib.decodeN (s.size - pos) (s.get! pos).toNat (s.get! (pos + 1)).toNat (s.get! (pos + 2)).toNat (s.get! (pos + 3)).toNat = D at d1 d2 d3 d4 d5 d6 ⊢
        have hc : ct_ D.1 = false := by unfold ct_; rw [decide_eq_false (by omega), decide_eq_false (by omega)]; rfl
        rw [hc, if_neg (by decide), idx_ctrl s f (pos + D.2) (by omega)]
        constructor
        · rintro ⟨j, h1, h2, h3⟩
          exact ⟨j, by omega, h2, h3⟩
        · rintro ⟨j, h1, h2, h3⟩
          refine ⟨j, ?_, h2, h3⟩
          refine Nat.le_of_not_lt fun hlt => ?_
          have hb : 128 ≤ at0 s j := by
            rcases (show j = pos ∨ j = pos + 1 ∨ j = pos + 2 ∨ j = pos + 3 by omega) with e | e | e | e
            · rw [e]; exact Nat.le_of_not_lt h0
            · rw [e]; exact d3 (by omega)
            · rw [e]; exact d4 (by omega)
            · rw [e]; exact d5 (by omega)
          have : ct_ (at0 s j) = false := by unfold ct_; rw [decide_eq_false (by omega), decide_eq_false (by omega)]; rfl
          rw [this] at h3
          cases h3
    · rw [if_neg hp]
      constructor
      · intro h2
        omega
      · rintro ⟨j, h1, h2, _⟩
        omega
theorem get_by {s : ByteArray} {j : Nat} {c : UInt8} (h : (by_ s)[j]? = some c) : at0 s j = c.toNat := by
  have hj : j < (by_ s).length := (List.getElem?_eq_some_iff.1 h).1
  rw [by_len] at hj
  unfold at0
  have e : s.get! j = c := by
    unfold by_ at h
    rw [Array.getElem?_toList] at h
    show s.data[j]! = c
    rw [getElem!_def, h]
  rw [e]
def anyC (s : ByteArray) : Bool := (by_ s).any fun c => ct_ c.toNat
theorem idx_any (s : ByteArray) : decide (0 ≤ Lib.idxFunc ct_ true s) = anyC s := by
  unfold Lib.idxFunc anyC
  rw [Bool.eq_iff_iff, decide_eq_true_eq, idx_ctrl s s.size 0 (by omega), List.any_eq_true]
  constructor
  · rintro ⟨j, _, h2, h3⟩
    have hj : j < (by_ s).length := by rw [by_len]; exact h2
    have hx := List.getElem?_eq_getElem hj
    exact ⟨_, List.getElem_mem hj, by rw [← get_by hx]; exact h3⟩
  · rintro ⟨c, hc, h3⟩
    obtain ⟨j, hj⟩ := List.getElem?_of_mem hc
    refine ⟨j, Nat.zero_le _, ?_, by rw [get_by hj]; exact h3⟩
    have := (List.getElem?_eq_some_iff.1 hj).1
    rw [by_len] at this
    exact this
theorem has_ok (s : ByteArray) : hasO T166 s = some (anyC s) := by
  have hT : ∀ r : Nat, T166 (r : Int) = some (ct_ r) := fun r => by
    unfold T166 ct_
    by_cases h : r < 32
    · rw [ltI_t (by omega), decide_eq_true h]
      rfl
    · rw [ltI_f (by omega), decide_eq_false h, cond_false, eqI_iff]
      congr 1
      rw [Bool.false_or, Bool.eq_iff_iff, decide_eq_true_eq, decide_eq_true_eq]
      omega
  unfold hasO
  rw [if_pos (fun r _ => by rw [hT]; rfl)]
  congr 1
  rw [← idx_any]
  have e : (fun r : Nat => (T166 (r : Int)).getD false) = ct_ := by
    funext r
    rw [hT]
    rfl
  rw [e]
theorem scan_eq (s : ByteArray) (h : s.size ≤ 1048576) : iter (L141_2 s) 0 = some (bif !anyC s then .inl ((s.size : Int), false) else .inr ()) := by
  have hi : iter (L141_2 s) ((0 : Nat) : Int) = some (Sum.elim (fun _ : Unit => .inl ((s.size : Int), false)) (fun _ : Unit => .inr ()) (wp (fun i (_ : Unit) (x : UInt8) => bif !ct_ x.toNat then (.inl () : Unit ⊕ Unit) else .inr ()) 0 () (by_ s))) := by
    refine iter_wpS (fun _ i => (i : Int)) _ _ s _ (fun _ _ => True) (fun i u x hx _ => ⟨?_, fun _ _ => trivial⟩) (fun u _ => ?_) () trivial
    · have hlt : i < s.size := by rw [← by_len]; exact (List.getElem?_eq_some_iff.1 hx).1
      have h1 : ltI (i : Int) (lenS s) = true := by rw [ltI_iff, lenS_eq]; simpa using hlt
      have h2 : addI .i64 (i : Int) 1 = ((i + 1 : Nat) : Int) := by rw [addI_eq (by omega) (by omega)]; omega
      have h3 : ct_ x.toNat = (ltI (x.toNat : Int) 32 || eqI (x.toNat : Int) 127) := by
        unfold ct_
        rw [ltI_iff, eqI_iff, Bool.eq_iff_iff]
        simp only [Bool.or_eq_true, decide_eq_true_eq]
        omega
      simp only [L141_2, h1, cond_true, byteAt_some hx, Option.bind_some, h2, h3]
      generalize ltI (x.toNat : Int) 32 = b1
      generalize eqI (x.toNat : Int) 127 = b2
      cases b1 <;> cases b2 <;> rfl
    · have h1 : ltI (s.size : Int) (lenS s) = false := by rw [ltI_iff, lenS_eq]; simp
      simp only [L141_2, h1, cond_false]
  rw [show (0 : Int) = ((0 : Nat) : Int) from rfl, hi, wp_all']
  have e : ((by_ s).all fun x => !ct_ x.toNat) = !anyC s := by
    unfold anyC
    rw [← List.not_any_eq_all_not]
  rw [e, elim_cond]
/-! Both ends cut. -/
theorem extract_size (s : ByteArray) {a b : Nat} (h : b ≤ s.size) : (s.extract a b).size = b - a := by
  rw [← by_len, by_extract, List.length_drop, List.length_take, by_len]
  omega
theorem right_ok (c : Int) (s : ByteArray) (h : s.size ≤ 1048576) : ∃ v, T193 s c = some v ∧ v.size ≤ 1048576 := by
  obtain ⟨r, h1, h2⟩ := iter_meas (st := L193_1 c) (fun z => z.size ≤ 1048576) (fun z => z.size) (fun r => r.1.size ≤ 1048576) (fun z hz => by
    unfold L193_1
    rw [ltI_iff, lenS_eq]
    by_cases h0 : (0 : Int) < (z.size : Int)
    · rw [decide_eq_true h0, cond_true]
      have hn : subI .i64 (z.size : Int) 1 = ((z.size - 1 : Nat) : Int) := by rw [subI_eq (by omega) (by omega)]; omega
      have hj : z.size - 1 < (by_ z).length := by rw [by_len]; omega
      rw [hn, byteAt_some (List.getElem?_eq_getElem hj), Option.bind_some]
      cases hc : eqI ((by_ z)[z.size - 1].toNat : Int) c with
      | true =>
        have h3 : cutS z none (some ((z.size - 1 : Nat) : Int)) = some (z.extract 0 (z.size - 1)) := by
          have q1 : ((z.size - 1 : Nat) : Int) ≤ (z.size : Int) := by omega
          have q2 : (0 : Int) ≤ ((z.size - 1 : Nat) : Int) := by omega
          simp [cutS, cutB, q1, q2]
        rw [cond_true, h3, Option.bind_some]
        have hs := extract_size z (a := 0) (b := z.size - 1) (by omega)
        exact .inl ⟨_, rfl, by omega, by omega⟩
      | false =>
        rw [cond_false]
        exact .inr ⟨_, rfl, hz⟩
    · rw [decide_eq_false h0, cond_false]
      exact .inr ⟨_, rfl, hz⟩) s h
  refine ⟨r.1, ?_, h2⟩
  unfold T193
  rw [h1]
  rfl
theorem left_ok (c : Int) (s : ByteArray) (h : s.size ≤ 1048576) : ∃ v, T192 s c = some v := by
  obtain ⟨r, h1, _⟩ := iter_meas (st := L192_1 c) (fun z => z.size ≤ 1048576) (fun z => z.size) (fun r => True) (fun z hz => by
    unfold L192_1
    rw [ltI_iff, lenS_eq]
    by_cases h0 : (0 : Int) < (z.size : Int)
    · rw [decide_eq_true h0, cond_true]
      have hj : 0 < (by_ z).length := by rw [by_len]; omega
      rw [show (0 : Int) = ((0 : Nat) : Int) from rfl, byteAt_some (List.getElem?_eq_getElem hj), Option.bind_some]
      cases hc : eqI ((by_ z)[0].toNat : Int) c with
      | true =>
        have h3 : cutS z (some 1) none = some (z.extract 1 z.size) := by
          have q1 : (1 : Int) ≤ (z.size : Int) := by omega
          simp [cutS, cutB, q1]
        rw [cond_true, h3, Option.bind_some]
        have hs := extract_size z (a := 1) (b := z.size) (by omega)
        exact .inl ⟨_, rfl, by omega, by omega⟩
      | false =>
        rw [cond_false]
        exact .inr ⟨_, rfl, trivial⟩
    · rw [decide_eq_false h0, cond_false]
      exact .inr ⟨_, rfl, trivial⟩) s h
  refine ⟨r.1, ?_⟩
  unfold T192
  rw [h1]
  rfl
theorem trim_ok (s : ByteArray) (h : s.size ≤ 1048576) : ∃ v, T167 s (ByteArray.mk #[32]) = some v := by
  unfold T167
  cases eqS s (ByteArray.mk #[]) with
  | true => exact ⟨s, rfl⟩
  | false =>
    obtain ⟨v, h1, h2⟩ := right_ok 32 s h
    obtain ⟨w, h3⟩ := left_ok 32 v h2
    exact ⟨w, cf rfl (cf (by kernel_rfl) (ct (by kernel_rfl) (bs (a := 32) (by kernel_rfl) (ct rfl (bs (a := 32) (by kernel_rfl) (bs h1 (bs (a := 32) (by kernel_rfl) (bs h3 rfl))))))))⟩
/-- Is a text plain? -/
noncomputable def plainB (s : ByteArray) : Bool := !anyC s && (validB s && (eqS ((T167 s (ByteArray.mk #[32])).getD s) s && !contB s (ByteArray.mk #[32, 32])))
theorem T141_eq (s : ByteArray) (h : s.size ≤ 1048576) : T141 s = some (plainB s) := by
  obtain ⟨v, hv⟩ := trim_ok s h
  unfold T141 plainB
  rw [scan_eq s h, Option.bind_some, hv]
  unfold validO contO
  rw [if_pos (by omega), if_pos (by omega)]
  simp only [Option.bind_some, Option.getD_some]
  cases anyC s
  · simp only [Bool.not_false, cond_true, Sum.elim_inl, Bool.true_and]
    cases validB s
    · rfl
    · cases eqS v s <;> rfl
  · rfl
theorem T138_eq (s : ByteArray) (h : s.size ≤ 1048576) : T138 s = some (plainB s) := by
  obtain ⟨v, hv⟩ := trim_ok s h
  unfold T138 plainB
  rw [has_ok, hv]
  unfold validO contO
  rw [if_pos (by omega), if_pos (by omega)]
  simp only [Option.bind_some, Option.getD_some]
  cases anyC s
  · cases validB s
    · rfl
    · cases eqS v s <;> rfl
  · cases validB s <;> rfl
end Go.Abs.TUA

set_option linter.unusedVariables false
set_option linter.unusedSimpArgs false
set_option maxRecDepth 10000
namespace Go.Abs.TUA
open Go.RowKit Go.Proofs Go.Abs
/-! What is wrong with an alert. -/
theorem eqI_neI (a b : Int) : eqI a b = !neI a b := by rw [eqI_iff, neI_iff, Bool.not_not]
def inT (a : Int) : Bool := leI 0 a && ltI a 345686400000
theorem T31_eq (a : Int) : T31 a = some (inT a) := by
  unfold T31 inT
  cases leI 0 a <;> rfl
theorem T136_eq (a : Int) : T136 a = some (inT a) := by
  unfold T136 inT
  rw [T94_eq, Option.bind_some]
  have : leI a 345686399999 = ltI a 345686400000 := by rw [leI_iff, ltI_iff]; exact decide_eq_decide.2 (by omega)
  rw [this]
theorem T94_out (a b c : Int) : T94 a b c = some (!outB a b c) := by rw [T94_eq, inB]
noncomputable def rectF (r : S64) : Int := bif outB r.f0 (-100000) 100000 then 1 else bif outB r.f1 (-100000) 100000 then 1 else bif outB r.f2 1 (subI .i64 100000 r.f0) then 1 else bif outB r.f3 1 (subI .i64 100000 r.f1) then 1 else 0
theorem T121_eq (r : S64) : T121 r = some (rectF r) := by
  unfold T121 rectF
  simp only [T30_eq, Option.bind_some]
  cases outB r.f0 (-100000) 100000 <;> cases outB r.f1 (-100000) 100000 <;> cases outB r.f2 1 (subI .i64 100000 r.f0) <;> cases outB r.f3 1 (subI .i64 100000 r.f1) <;> rfl
theorem T137_eq (r : S64) : T137 r = some (rectF r) := by
  unfold T137 rectF
  simp only [T94_out, Option.bind_some, Bool.not_not]
  cases outB r.f0 (-100000) 100000 <;> cases outB r.f1 (-100000) 100000 <;> cases outB r.f2 1 (subI .i64 100000 r.f0) <;> cases outB r.f3 1 (subI .i64 100000 r.f1) <;> rfl
/-- A loop that passes all, or ends at the first that is wrong. -/
theorem loopE {st : Int → Option (Int ⊕ ((Int × Bool) ⊕ Int))} (n : Nat) (hn : n ≤ 1048576) (hs : ∀ i : Nat, i < n → st (i : Int) = some (.inl ((i + 1 : Nat) : Int)) ∨ ∃ e, e ≠ 0 ∧ st (i : Int) = some (.inr (.inr e)))
    (he : st (n : Int) = some (.inr (.inl ((n : Int), false)))) : iter st 0 = some (.inl ((n : Int), false)) ∨ ∃ e, e ≠ 0 ∧ iter st 0 = some (.inr e) := by
  obtain ⟨r, h1, h2⟩ := iter_upx (st := st) (fun (_ : Unit) i => (i : Int)) n (fun _ _ => True) (fun r => r = .inl ((n : Int), false) ∨ ∃ e, e ≠ 0 ∧ r = .inr e)
    (fun i _ hi _ => by
      rcases hs i hi with h | ⟨e, h0, h⟩
      · exact .inl ⟨(), h, trivial⟩
      · exact .inr ⟨_, h, .inr ⟨e, h0, rfl⟩⟩)
    (fun _ _ => ⟨_, he, .inl rfl⟩) 0 () (Nat.zero_le _) trivial
  have h1 : iter st 0 = some r := h1
  rcases h2 with rfl | ⟨e, h0, rfl⟩
  · exact .inl h1
  · exact .inr ⟨e, h0, h1⟩
theorem refs_same (x : S46) (hs : ∀ y ∈ x.f3, y.size ≤ 1048576) : L140_4 x = L85_8 x := by
  funext z
  unfold L140_4 L85_8
  cases ltI z (lenL x.f3) with
  | false => rfl
  | true =>
    simp only [cond_true]
    cases h : listAt x.f3 z with
    | none => rfl
    | some y =>
      simp only [Option.bind_some]
      have hy := hs y (listAt_mem h)
      rw [T108_eq y hy, T93_eq y hy]
theorem refs_loop (x : S46) (hl : x.f3.length ≤ 1048576) (hs : ∀ y ∈ x.f3, y.size ≤ 1048576) : iter (L140_4 x) 0 = some (.inl ((x.f3.length : Int), false)) ∨ ∃ e, e ≠ 0 ∧ iter (L140_4 x) 0 = some (.inr e) := by
  refine loopE x.f3.length hl (fun i hi => ?_) (by unfold L140_4; rw [ltL_false (Nat.le_refl _)]; rfl)
  have hx := List.getElem?_eq_getElem hi
  have hk := T108_eq x.f3[i] (hs _ (List.getElem_mem hi))
  have hn := nextI (i := i) (by omega)
  unfold L140_4
  rw [ltL_true hi, listAt_some hx]
  simp only [cond_true, Option.bind_some, hk, hn]
  cases key x.f3[i] with
  | false => exact .inr ⟨5, by decide, rfl⟩
  | true =>
    simp only [Bool.not_true, cond_false]
    rcases Nat.eq_zero_or_pos i with hz | hz
    · have e : ltI 0 (i : Int) = false := by rw [hz]; rfl
      rw [e, cond_false]
      cases eqS x.f3[i] x.f0 with
      | true => exact .inr ⟨14, by decide, rfl⟩
      | false => exact .inl rfl
    · have e : ltI 0 (i : Int) = true := ltI_t (by omega)
      have hp : i - 1 < x.f3.length := by omega
      rw [e, cond_true, prevI hz (by omega), listAt_some (List.getElem?_eq_getElem hp), Option.bind_some]
      cases (ltS x.f3[i] x.f3[i - 1] || eqS x.f3[i] x.f3[i - 1]) with
      | true => exact .inr ⟨7, by decide, rfl⟩
      | false =>
        cases eqS x.f3[i] x.f0 with
        | true => exact .inr ⟨14, by decide, rfl⟩
        | false => exact .inl rfl
theorem areas_same (x : S46) : L87_13 x = L85_24 x := by
  funext z
  unfold L87_13 L85_24
  simp only [T121_eq, T137_eq]
theorem areas_loop (x : S46) (hl : x.f7.length ≤ 1048576) : iter (L87_13 x) 0 = some (.inl ((x.f7.length : Int), false)) ∨ ∃ e, e ≠ 0 ∧ iter (L87_13 x) 0 = some (.inr e) := by
  refine loopE x.f7.length hl (fun i hi => ?_) (by unfold L87_13; rw [ltL_false (Nat.le_refl _)]; rfl)
  have hx := List.getElem?_eq_getElem hi
  have hn := nextI (i := i) (by omega)
  unfold L87_13
  rw [ltL_true hi, listAt_some hx]
  simp only [cond_true, Option.bind_some, T121_eq, hn]
  by_cases h0 : rectF x.f7[i] = 0
  · rw [neI_f h0]
    exact .inl rfl
  · rw [neI_t h0]
    exact .inr ⟨_, h0, rfl⟩
noncomputable def R87 (p0 : S46) : Option Int := ((T31 p0.f4).bind fun x5 => (bif (!x5) then (some 1) else ((T30 p0.f5 (addI .i64 p0.f4 1) (addI .i64 p0.f4 2592000000)).bind fun x6 => (bif x6 then (some 1) else ((T30 p0.f6 1 9).bind fun x7 => (bif x7 then (some 1) else (bif (ltI 20 (lenL p0.f7)) then (some 2) else ((iter (L87_13 p0) 0).bind fun y10 => (Sum.elim (fun y10a => (bif ((eqI p0.f2 3) != (eqI (lenL p0.f7) 0)) then (some 3) else (bif (ltI 500 (lenS p0.f8)) then (some 2) else ((T141 p0.f8).bind fun x11 => (bif (!x11) then (some 3) else (bif (eqS p0.f8 (ByteArray.mk #[])) then (bif (!(eqI p0.f2 3)) then (some 3) else (some 0)) else (some 0))))))) (fun y10b => (some y10b)) y10)))))))))
noncomputable def R85 (p0 : S46) : Option Int := ((T136 p0.f4).bind fun x8 => (bif (!x8) then (some 1) else ((T94 p0.f5 (addI .i64 p0.f4 1) (addI .i64 p0.f4 2592000000)).bind fun x9 => (bif (!x9) then (some 1) else ((T94 p0.f6 1 9).bind fun x10 => (bif (!x10) then (some 1) else (bif (ltI 20 (lenL p0.f7)) then (some 2) else ((iter (L85_24 p0) 0).bind fun y13 => (Sum.elim (fun y13a => (bif ((eqI p0.f2 3) != (eqI (lenL p0.f7) 0)) then (some 3) else (bif (ltI 500 (lenS p0.f8)) then (some 2) else ((T138 p0.f8).bind fun x14 => (bif (!x14) then (some 3) else (bif (eqS p0.f8 (ByteArray.mk #[])) then (bif (neI p0.f2 3) then (some 3) else (some 0)) else (some 0))))))) (fun y13b => (some y13b)) y13)))))))))
theorem rest_ok (x : S46) (h : ok46 1048576 x) : ∃ v, R87 x = some v ∧ R85 x = some v ∧ (v = 0 → inT x.f4 = true) := by
  have h8 : x.f8.size ≤ 1048576 := h.2.2.2.2.2.2.2.2
  have h7 : x.f7.length ≤ 1048576 := h.2.2.2.2.2.2.2.1.1
  have ha := areas_loop x h7
  unfold R87 R85
  rw [T31_eq, T136_eq]
  simp only [T94_out, T30_eq, T141_eq _ h8, T138_eq _ h8, Option.bind_some, Bool.not_not, ← areas_same, eqI_neI]
  cases inT x.f4 with
  | false => exact ⟨1, rfl, rfl, fun c => by cases c⟩
  | true =>
  simp only [Bool.not_true, cond_false]
  cases outB x.f5 (addI .i64 x.f4 1) (addI .i64 x.f4 2592000000) with
  | true => exact ⟨1, rfl, rfl, fun c => trivial⟩
  | false =>
  cases outB x.f6 1 9 with
  | true => exact ⟨1, rfl, rfl, fun c => trivial⟩
  | false =>
  simp only [cond_false]
  cases ltI 20 (lenL x.f7) with
  | true => exact ⟨2, rfl, rfl, fun c => trivial⟩
  | false =>
  simp only [cond_false]
  rcases ha with ha | ⟨e, h0, ha⟩
  · rw [ha]
    simp only [Option.bind_some, Sum.elim_inl]
    cases ((!neI x.f2 3) != (!neI (lenL x.f7) 0)) with
    | true => exact ⟨3, rfl, rfl, fun c => trivial⟩
    | false =>
    simp only [cond_false]
    cases ltI 500 (lenS x.f8) with
    | true => exact ⟨2, rfl, rfl, fun c => trivial⟩
    | false =>
    simp only [cond_false]
    cases plainB x.f8 with
    | false => exact ⟨3, rfl, rfl, fun c => trivial⟩
    | true =>
    simp only [Bool.not_true, cond_false]
    cases eqS x.f8 (ByteArray.mk #[]) with
    | false => exact ⟨0, rfl, rfl, fun c => trivial⟩
    | true =>
    cases neI x.f2 3 with
    | true => exact ⟨3, rfl, rfl, fun c => trivial⟩
    | false => exact ⟨0, rfl, rfl, fun c => trivial⟩
  · rw [ha]
    exact ⟨e, rfl, rfl, fun c => trivial⟩
theorem fault_ok (x : S46) (h : ok46 1048576 x) : ∃ v, T87 x = some v ∧ T85 x = some v ∧ (v = 0 → inT x.f4 = true) := by
  have q0 := h.1
  have q1 := h.2.1
  have q3 : x.f3.length ≤ 1048576 ∧ ∀ y ∈ x.f3, y.size ≤ 1048576 := h.2.2.2.1
  obtain ⟨v, r1, r2, r3⟩ := rest_ok x h
  have d87 : T87 x = ((T108 x.f0).bind fun x1 => (bif (!x1) then (some 5) else ((T108 x.f1).bind fun x2 => (bif (!x2) then (some 5) else ((T30 x.f2 1 3).bind fun x3 => (bif x3 then (some 4) else ((T140 x).bind fun x4 => (bif (neI x4 0) then (some x4) else R87 x)))))))) := rfl
  have d85 : T85 x = ((T93 x.f0).bind fun x1 => (bif (!x1) then (some 5) else ((T93 x.f1).bind fun x2 => (bif (!x2) then (some 5) else ((T94 x.f2 1 3).bind fun x3 => (bif (!x3) then (some 4) else (bif (ltI 20 (lenL x.f3)) then (some 2) else ((iter (L85_8 x) 0).bind fun y7 => (Sum.elim (fun y7a => (bif ((eqI x.f2 1) != (eqI (lenL x.f3) 0)) then (some 3) else R85 x)) (fun y7b => (some y7b)) y7))))))))) := rfl
  rw [d87, d85, T108_eq _ q0, T93_eq _ q0, T108_eq _ q1, T93_eq _ q1, T30_eq, T94_out, ← refs_same x q3.2]
  simp only [Option.bind_some, Bool.not_not]
  unfold T140
  cases key x.f0 with
  | false => exact ⟨5, rfl, rfl, fun c => by cases c⟩
  | true =>
  cases key x.f1 with
  | false => exact ⟨5, rfl, rfl, fun c => by cases c⟩
  | true =>
  simp only [Bool.not_true, cond_false]
  cases outB x.f2 1 3 with
  | true => exact ⟨4, rfl, rfl, fun c => by cases c⟩
  | false =>
  simp only [cond_false]
  cases ltI 20 (lenL x.f3) with
  | true => exact ⟨2, rfl, rfl, fun c => by cases c⟩
  | false =>
  simp only [cond_false]
  rcases refs_loop x q3.1 q3.2 with hr | ⟨e, h0, hr⟩
  · rw [hr]
    simp only [Option.bind_some, Sum.elim_inl]
    cases (eqI x.f2 1 != eqI (lenL x.f3) 0) with
    | true => exact ⟨3, rfl, rfl, fun c => by cases c⟩
    | false => exact ⟨v, r1, r2, r3⟩
  · rw [hr]
    simp only [Option.bind_some, Sum.elim_inr, neI_t h0, cond_true]
    exact ⟨e, rfl, rfl, fun c => absurd c h0⟩
end Go.Abs.TUA

set_option linter.unusedVariables false
set_option linter.unusedSimpArgs false
set_option maxRecDepth 10000
namespace Go.Abs.TUA
open Go.RowKit Go.Proofs Go.Abs
/-! Lists of alerts: two ways to check them. -/
theorem T163_eq (x : Int) : T163 x = some false := by unfold T163; rw [neI_no]
theorem t135 (x y : Int) : T135 x y = some (if x < y then -1 else if y < x then 1 else 0) := by
  unfold T135
  refine bs (T163_eq x) (bs (T163_eq y) (cf rfl (cf rfl ?_)))
  by_cases h : x < y
  · rw [ltI_t h, if_pos h]; rfl
  · rw [ltI_f (by omega), if_neg h]
    by_cases h2 : y < x
    · rw [ltI_t h2, if_pos h2]; rfl
    · rw [ltI_f (by omega), if_neg h2]; rfl
theorem or2_ok (a b : Int) : T37 [a, b] = some (if a ≠ 0 then a else b) := by
  unfold T37
  have st : ∀ (i : Nat) (x : Int), ([a, b] : List Int)[i]? = some x → L37_3 [a, b] (i : Int) = some (if x ≠ 0 then .inr (.inr x) else .inl ((i + 1 : Nat) : Int)) := by
    intro i x hx
    have hi : i < ([a, b] : List Int).length := (List.getElem?_eq_some_iff.1 hx).1
    unfold L37_3
    refine ct (ltL_true hi) (bs (listAt_some hx) ?_)
    by_cases h : x = 0
    · rw [neI_f h, if_neg (by simp [h]), nextI (by simp at hi; omega)]
      rfl
    · rw [neI_t h, if_pos h]
      rfl
  have en : L37_3 [a, b] ((2 : Nat) : Int) = some (.inr (.inl (2, false))) := rfl
  have s0 := st 0 a rfl
  have s1 := st 1 b rfl
  by_cases ha : a ≠ 0
  · rw [if_pos ha] at s0 ⊢
    rw [show (0 : Int) = ((0 : Nat) : Int) from rfl, iter_inr s0]
    rfl
  · rw [if_neg ha] at s0 ⊢
    by_cases hb : b ≠ 0
    · rw [if_pos hb] at s1
      rw [show (0 : Int) = ((0 : Nat) : Int) from rfl, iter_inl s0, iter_inr s1]
      rfl
    · rw [if_neg hb] at s1
      have hb : b = 0 := by omega
      rw [show (0 : Int) = ((0 : Nat) : Int) from rfl, iter_inl s0, iter_inl s1, iter_inr en, hb]
      rfl
def cmpA (x y : S46) : Int := if x.f4 < y.f4 then -1 else if y.f4 < x.f4 then 1 else cmpS x.f0 y.f0
theorem T84_eq (x y : S46) : T84 x y = some (cmpA x y) := by
  unfold T84 cmpA
  refine bs (t135 _ _) (bs (a := cmpS x.f0 y.f0) rfl (bs (or2_ok _ _) ?_))
  congr 1
  by_cases h1 : x.f4 < y.f4
  · simp [h1]
  · by_cases h2 : y.f4 < x.f4
    · simp [h1, h2]
    · simp [h1, h2]
theorem T86_eq {x y : S46} (hx : inT x.f4 = true) (hy : inT y.f4 = true) : T86 x y = some (cmpA x y) := by
  unfold inT at hx hy
  rw [leI_iff, ltI_iff, Bool.and_eq_true, decide_eq_true_eq, decide_eq_true_eq] at hx hy
  unfold T86 cmpA
  by_cases h : x.f4 = y.f4
  · rw [neI_f h, cond_false, if_neg (by omega), if_neg (by omega)]
    rfl
  · rw [neI_t h, cond_true, subI_eq (by omega) (by omega)]
    unfold T139
    by_cases h1 : x.f4 < y.f4
    · rw [if_pos h1, ltI_t (by omega)]
      rfl
    · rw [if_neg h1, if_pos (by omega), ltI_f (by omega), ltI_t (by omega)]
      rfl
noncomputable def alF (x : S46) : Int := (T87 x).getD 0
theorem alF_ok {x : S46} (h : ok46 1048576 x) : T87 x = some (alF x) ∧ T85 x = some (alF x) ∧ (alF x = 0 → inT x.f4 = true) := by
  obtain ⟨v, h1, h2, h3⟩ := fault_ok x h
  have e : alF x = v := by unfold alF; rw [h1]; rfl
  rw [e]
  exact ⟨h1, h2, h3⟩
noncomputable def ordF (_ : Nat) (p : Option S46) (x : S46) : Option S46 ⊕ Int := bif neI (alF x) 0 then .inr (alF x) else match p with
  | none => .inl (some x)
  | some q => bif leI 0 (cmpA q x) then .inr 7 else .inl (some x)
def PrevA (l : List S46) (i : Nat) (p : Option S46) : Prop := (i = 0 ∧ p = none) ∨ ∃ q, 0 < i ∧ l[i - 1]? = some q ∧ p = some q ∧ inT q.f4 = true
theorem ord_next {l : List S46} {i : Nat} {p p' : Option S46} {x : S46} (hx : l[i]? = some x) (hk : ok46 1048576 x) (h : ordF i p x = .inl p') : PrevA l (i + 1) p' := by
  have h0 : alF x = 0 := by
    by_cases h0 : alF x = 0
    · exact h0
    · unfold ordF at h
      rw [neI_t h0] at h
      cases h
  have hp : p' = some x := by
    unfold ordF at h
    rw [neI_f h0] at h
    cases p with
    | none => cases h; rfl
    | some q =>
      simp only [cond_false] at h
      cases hc : leI 0 (cmpA q x) with
      | true => rw [hc] at h; cases h
      | false => rw [hc] at h; cases h; rfl
  exact .inr ⟨x, by omega, by simpa using hx, hp, (alF_ok hk).2.2 h0⟩
theorem ord50 (l : List S46) (hl : l.length ≤ 1048576) (hs : ∀ x ∈ l, ok46 1048576 x) : iter (L50_4 l) 0 = some (Sum.elim (fun _ => .inl ((l.length : Int), false)) (fun e => .inr e) (wp ordF 0 none l)) := by
  refine iter_wp (fun (_ : Option S46) i => (i : Int)) _ _ l ordF (PrevA l) (fun i p x hx hI => ?_) (fun p _ => by unfold L50_4; rw [ltL_false (Nat.le_refl _)]; rfl) none (.inl ⟨rfl, rfl⟩)
  have hm := hs x (List.mem_of_getElem? hx)
  obtain ⟨k1, k2, k3⟩ := alF_ok hm
  have hi := (List.getElem?_eq_some_iff.1 hx).1
  refine ⟨?_, fun p' h => ord_next hx hm h⟩
  unfold L50_4
  rw [ltL_true hi, listAt_some hx]
  simp only [cond_true, Option.bind_some, k1, nextI (i := i) (by omega)]
  unfold ordF
  by_cases h0 : alF x = 0
  · rw [neI_f h0]
    simp only [cond_false]
    rcases hI with ⟨rfl, rfl⟩ | ⟨q, hz, hq, rfl, hb⟩
    · rfl
    · rw [show ltI 0 (i : Int) = true from ltI_t (by omega), cond_true, prevI hz (by omega), listAt_some hq, Option.bind_some, T84_eq, Option.bind_some]
      cases hc : leI 0 (cmpA q x) <;> simp only [hc, cond_true, cond_false]
  · rw [neI_t h0]
    rfl
theorem ord49 (l : List S46) (hl : l.length ≤ 1048576) (hs : ∀ x ∈ l, ok46 1048576 x) : iter (L49_4 l) 0 = some (Sum.elim (fun _ => .inl ((l.length : Int), false)) (fun e => .inr e) (wp ordF 0 none l)) := by
  refine iter_wp (fun (_ : Option S46) i => (i : Int)) _ _ l ordF (PrevA l) (fun i p x hx hI => ?_) (fun p _ => by unfold L49_4; rw [ltL_false (Nat.le_refl _)]; rfl) none (.inl ⟨rfl, rfl⟩)
  have hm := hs x (List.mem_of_getElem? hx)
  obtain ⟨k1, k2, k3⟩ := alF_ok hm
  have hi := (List.getElem?_eq_some_iff.1 hx).1
  refine ⟨?_, fun p' h => ord_next hx hm h⟩
  unfold L49_4
  rw [ltL_true hi, listAt_some hx]
  simp only [cond_true, Option.bind_some, k2, nextI (i := i) (by omega)]
  unfold ordF
  by_cases h0 : alF x = 0
  · rw [neI_f h0]
    simp only [cond_false]
    rcases hI with ⟨rfl, rfl⟩ | ⟨q, hz, hq, rfl, hb⟩
    · rfl
    · rw [show ltI 0 (i : Int) = true from ltI_t (by omega), cond_true, prevI hz (by omega), listAt_some hq, Option.bind_some, T86_eq hb (k3 h0), Option.bind_some]
      cases hc : leI 0 (cmpA q x) <;> simp only [hc, cond_true, cond_false]
  · rw [neI_t h0]
    rfl
theorem wp_ord : ∀ (l : List S46) (i : Nat) (p : Option S46), (∀ s, wp ordF i p l = .inl s → ∀ x ∈ l, alF x = 0) ∧ ∀ r, wp ordF i p l = .inr r → r ≠ 0
  | [], i, p => ⟨fun s h x hx => (by cases hx), fun r h => (by cases h)⟩
  | x :: l, i, p => by
    unfold wp
    by_cases h0 : alF x = 0
    · cases hf : ordF i p x with
      | inl s' =>
        obtain ⟨h1, h2⟩ := wp_ord l (i + 1) s'
        refine ⟨fun s h y hy => ?_, h2⟩
        rcases List.mem_cons.1 hy with rfl | hy
        · exact h0
        · exact h1 s h y hy
      | inr r =>
        refine ⟨fun s h => (by cases h), fun r' h => ?_⟩
        cases h
        unfold ordF at hf
        rw [neI_f h0] at hf
        cases p with
        | none => cases hf
        | some q =>
          simp only [cond_false] at hf
          cases hc : leI 0 (cmpA q x) with
          | true => rw [hc] at hf; cases hf; decide
          | false => rw [hc] at hf; cases hf
    · have hf : ordF i p x = .inr (alF x) := by unfold ordF; rw [neI_t h0]; rfl
      rw [hf]
      exact ⟨fun s h => (by cases h), fun r h => (by cases h; exact h0)⟩
/-! No alert twice. -/
theorem mget_all {m : List (ByteArray × Bool)} {k : ByteArray} (h : k ∈ m.map (·.1)) (ha : ∀ q ∈ m, q.2 = true) : mgetB eqB m k = some true := by
  unfold mgetB
  obtain ⟨q, hq, e⟩ := List.mem_map.1 h
  cases hf : m.find? fun p => eqB k p.1 with
  | none =>
    have := List.find?_eq_none.1 hf q hq
    rw [← e, eqB_self] at this
    exact absurd rfl this
  | some p => rw [Option.map_some, ha p (List.mem_of_find?_eq_some hf)]
theorem mset_old {β : Type} (v : β) : ∀ {m : List (ByteArray × β)} {k : ByteArray}, k ∈ m.map (·.1) → (msetB eqB m k v).map (·.1) = m.map (·.1)
  | [], k, h => by cases h
  | p :: m, k, h => by
    unfold msetB
    by_cases hk : k = p.1
    · subst hk
      rw [eqB_self]
      rfl
    · rw [eqB_no hk]
      rw [List.map_cons, List.mem_cons] at h
      have := mset_old v (h.resolve_left hk)
      simp only [cond_false, List.map_cons, this]
theorem nodup_next {l : List S46} {i : Nat} {x : S46} (hx : l[i]? = some x) : ((l.take (i + 1)).map (·.f0)).Nodup ↔ ((l.take i).map (·.f0)).Nodup ∧ x.f0 ∉ (l.take i).map (·.f0) := by
  rw [take_next hx, List.map_append, List.nodup_append]
  simp only [List.map_cons, List.map_nil, List.mem_singleton, forall_eq]
  constructor
  · rintro ⟨h1, _, h3⟩
    exact ⟨h1, fun h => h3 _ h rfl⟩
  · rintro ⟨h1, h2⟩
    exact ⟨h1, by simp, fun y hy e => h2 (e ▸ hy)⟩
theorem nodup_take {l : List S46} (h : (l.map (·.f0)).Nodup) (i : Nat) : ((l.take i).map (·.f0)).Nodup := by
  rw [List.map_take]
  exact h.sublist (List.take_sublist _ _)
theorem twice50 (l : List S46) (hl : l.length ≤ 1048576) : ∃ r, iter (L50_14 l) ([], 0) = some r ∧ ((r = .inr () ∧ ¬ (l.map (·.f0)).Nodup) ∨ ∃ y, r = .inl y ∧ (l.map (·.f0)).Nodup) := by
  exact iter_upx (st := L50_14 l) (fun (m : List (ByteArray × Bool)) i => (m, (i : Int))) l.length
    (fun i m => m.map (·.1) = (l.take i).map (·.f0) ∧ (∀ q ∈ m, q.2 = true) ∧ ((l.take i).map (·.f0)).Nodup)
    (fun r => (r = .inr () ∧ ¬ (l.map (·.f0)).Nodup) ∨ ∃ y, r = .inl y ∧ (l.map (·.f0)).Nodup)
    (fun i m hi hI => by
      obtain ⟨i1, i2, i3⟩ := hI
      have hx := List.getElem?_eq_getElem hi
      by_cases hk : l[i].f0 ∈ m.map (·.1)
      · refine .inr ⟨.inr (), ?_, .inl ⟨rfl, fun hn => ?_⟩⟩
        · unfold L50_14
          exact ct (ltL_true hi) (bs (listAt_some hx) (ct (by rw [mget_all hk i2]; rfl) rfl))
        · have := (nodup_next hx).1 (nodup_take hn (i + 1))
          rw [← i1] at this
          exact this.2 hk
      · refine .inl ⟨m ++ [(l[i].f0, true)], ?_, ?_, ?_, ?_⟩
        · unfold L50_14
          refine ct (ltL_true hi) (bs (listAt_some hx) (cf (by rw [mget_none hk]; rfl) (bs (congrArg some (mset_new true hk)) ?_)))
          simp only
          rw [nextI (by omega)]
        · rw [List.map_append, i1, take_next hx, List.map_append]
          rfl
        · intro q hq
          rcases List.mem_append.1 hq with hq | hq
          · exact i2 q hq
          · rw [List.mem_singleton] at hq
            rw [hq]
        · exact (nodup_next hx).2 ⟨i3, by rw [← i1]; exact hk⟩)
    (fun m hI => ⟨_, by unfold L50_14; exact cf (ltL_false (Nat.le_refl _)) rfl, .inr ⟨_, rfl, by have := hI.2.2; rwa [List.take_length] at this⟩⟩) 0 [] (Nat.zero_le _) ⟨by simp, fun q hq => (by cases hq), by simp⟩
theorem twice49 (l : List S46) (hl : l.length ≤ 1048576) : ∃ b m, iter (L49_14 l) ([], 0) = some ((l.length : Int), b, m) ∧ (ltI (lenL m) (lenL l) = true ↔ ¬ (l.map (·.f0)).Nodup) := by
  obtain ⟨r, h1, b, m, rfl, h2⟩ := iter_up (st := L49_14 l) (fun (m : List (ByteArray × Bool)) i => (m, (i : Int))) l.length
    (fun i m => (∀ k, k ∈ m.map (·.1) ↔ k ∈ (l.take i).map (·.f0)) ∧ m.length ≤ i ∧ (m.length = i ↔ ((l.take i).map (·.f0)).Nodup))
    (fun r => ∃ b m, r = ((l.length : Int), b, m) ∧ (ltI (lenL m) (lenL l) = true ↔ ¬ (l.map (·.f0)).Nodup))
    (fun i m hi hI => by
      obtain ⟨i1, i2, i3⟩ := hI
      have hx := List.getElem?_eq_getElem hi
      refine ⟨msetB eqB m l[i].f0 true, ?_, ?_⟩
      · unfold L49_14
        refine ct (ltL_true hi) (bs (listAt_some hx) (bs rfl ?_))
        simp only
        rw [nextI (by omega)]
      · have hn := nodup_next hx
        by_cases hk : l[i].f0 ∈ m.map (·.1)
        · have hm := mset_old true hk
          have hlen : (msetB eqB m l[i].f0 true).length = m.length := by
            have := congrArg List.length hm
            simpa using this
          refine ⟨fun k => ?_, by omega, ?_⟩
          · rw [hm, i1, take_next hx, List.map_append, List.mem_append]
            constructor
            · exact .inl
            · rintro (h | h)
              · exact h
              · simp only [List.map_cons, List.map_nil, List.mem_singleton] at h
                rw [h]
                exact (i1 _).1 hk
          · constructor
            · intro h
              omega
            · intro h
              exact absurd ((i1 _).1 hk) (hn.1 h).2
        · rw [mset_new true hk]
          refine ⟨fun k => ?_, by simp only [List.length_append, List.length_cons, List.length_nil]; omega, ?_⟩
          · rw [List.map_append, List.mem_append, i1, take_next hx, List.map_append, List.mem_append]
            exact Iff.rfl
          · rw [hn]
            simp only [List.length_append, List.length_cons, List.length_nil]
            constructor
            · intro h
              exact ⟨i3.1 (by omega), fun hc => hk ((i1 _).2 hc)⟩
            · rintro ⟨h, _⟩
              have := i3.2 h
              omega)
    (fun m hI => ⟨_, by unfold L49_14; exact cf (ltL_false (Nat.le_refl _)) rfl, _, m, rfl, by
      obtain ⟨i1, i2, i3⟩ := hI
      rw [List.take_length] at i3
      rw [ltI_iff, lenL_eq, lenL_eq, decide_eq_true_eq, ← i3]
      omega⟩) [] ⟨fun k => by simp, by simp, by simp⟩
  exact ⟨b, m, h1, h2⟩
/-- What is wrong with a list of alerts. -/
theorem lists_ok (l : List S46) (hl : l.length ≤ 1048576) (hs : ∀ x ∈ l, ok46 1048576 x) : ∃ v, T50 l = some v ∧ T49 l = some v ∧ (v = 0 → l.length ≤ 300 ∧ (∀ x ∈ l, inT x.f4 = true) ∧ (l.map (·.f0)).Nodup) := by
  unfold T50 T49
  rw [ord50 l hl hs, ord49 l hl hs]
  cases h0 : ltI 300 (lenL l) with
  | true => exact ⟨2, rfl, rfl, fun c => by cases c⟩
  | false =>
  have hlen : l.length ≤ 300 := by
    rw [ltI_iff, lenL_eq, decide_eq_false_iff_not] at h0
    omega
  simp only [cond_false, Option.bind_some]
  obtain ⟨w1, w2⟩ := wp_ord l 0 none
  cases hw : wp ordF 0 none l with
  | inr e => exact ⟨e, rfl, rfl, fun c => absurd c (w2 e hw)⟩
  | inl s =>
    simp only [Sum.elim_inl]
    obtain ⟨r, t1, t2⟩ := twice50 l hl
    obtain ⟨b, m, u1, u2⟩ := twice49 l hl
    have t1 : iter (L50_14 l) ([], 0) = some r := t1
    rw [t1, u1]
    simp only [Option.bind_some]
    rcases t2 with ⟨rfl, t2⟩ | ⟨y, rfl, t2⟩
    · rw [u2.2 t2]
      exact ⟨6, rfl, rfl, fun c => by cases c⟩
    · have : ltI (lenL m) (lenL l) = false := by
        cases hq : ltI (lenL m) (lenL l) with
        | false => rfl
        | true => exact absurd t2 (u2.1 hq)
      rw [this]
      exact ⟨0, rfl, rfl, fun _ => ⟨hlen, fun x hx => (alF_ok (hs x hx)).2.2 (w1 s hw x hx), t2⟩⟩
end Go.Abs.TUA

set_option linter.unusedVariables false
set_option linter.unusedSimpArgs false
set_option maxRecDepth 10000
namespace Go.Abs.TUA
open Go.RowKit Go.Proofs Go.Abs
/-! Orders. -/
theorem cmp_spec : ∀ x y : List UInt8, Lib.compareBytes x y = if Op.bytesLess x y = true then -1 else if Op.bytesLess y x = true then 1 else 0
  | [], [] => rfl
  | [], _ :: _ => rfl
  | _ :: _, [] => rfl
  | a :: x, b :: y => by
    have ih := cmp_spec x y
    simp only [Lib.compareBytes, Op.bytesLess]
    by_cases h1 : a < b
    · simp [h1]
    · by_cases h2 : b < a
      · have h3 : ¬ a = b := fun e => by subst e; exact h1 h2
        simp [h1, h2, h3]
      · have h3 : a = b := UInt8.toNat_inj.1 (by
          have h4 := UInt8.lt_iff_toNat_lt (a := a) (b := b)
          have h5 := UInt8.lt_iff_toNat_lt (a := b) (b := a)
          rw [h4] at h1
          rw [h5] at h2
          omega)
        subst h3
        simp [h1, ih]
theorem cmpS_eq (a b : ByteArray) : cmpS a b = if ltS a b = true then -1 else if ltS b a = true then 1 else 0 := by
  unfold cmpS
  rw [cmp_spec, ltS_eq, ltS_eq]
theorem leS_iff (a b : ByteArray) : leS a b = true ↔ ltS b a = false := by
  cases h : ltS b a with
  | true => rw [leS_false.2 h]; simp
  | false =>
    cases h2 : leS a b with
    | true => simp
    | false => rw [leS_false.1 h2] at h; cases h
theorem leS_tot (a b : ByteArray) : leS a b = true ∨ leS b a = true := by
  rw [leS_iff, leS_iff]
  rcases ltS_total a b with h | h | h
  · refine .inl ?_
    cases h2 : ltS b a with
    | false => rfl
    | true => have := ltS_trans h h2; rw [ltS_irrefl] at this; cases this
  · rw [h]; exact .inl (ltS_irrefl _)
  · refine .inr ?_
    cases h2 : ltS a b with
    | false => rfl
    | true => have := ltS_trans h h2; rw [ltS_irrefl] at this; cases this
theorem leS_tr {a b c : ByteArray} (h1 : leS a b = true) (h2 : leS b c = true) : leS a c = true := by
  rw [leS_iff] at *
  cases h : ltS c a with
  | false => rfl
  | true =>
    rcases ltS_total b a with g | g | g
    · rw [g] at h1; cases h1
    · rw [g, h] at h2; cases h2
    · have := ltS_trans h g
      rw [this] at h2; cases h2
def AB (a b : S46) : Prop := a.f4 < b.f4 ∨ (a.f4 = b.f4 ∧ leS a.f0 b.f0 = true)
theorem ab_tot (a b : S46) : AB a b ∨ AB b a := by
  unfold AB
  have := leS_tot a.f0 b.f0
  rcases Int.lt_trichotomy a.f4 b.f4 with h | h | h
  · exact .inl (.inl h)
  · rcases this with g | g
    · exact .inl (.inr ⟨h, g⟩)
    · exact .inr (.inr ⟨h.symm, g⟩)
  · exact .inr (.inl h)
theorem ab_tr (a b c : S46) (h1 : AB a b) (h2 : AB b c) : AB a c := by
  unfold AB at *
  rcases h1 with h1 | ⟨h1, g1⟩
  · rcases h2 with h2 | ⟨h2, g2⟩
    · exact .inl (by omega)
    · exact .inl (by omega)
  · rcases h2 with h2 | ⟨h2, g2⟩
    · exact .inl (by omega)
    · exact .inr ⟨by omega, leS_tr g1 g2⟩
theorem cmpA_ab (x y : S46) : cmpA x y < 0 ↔ ¬ AB y x := by
  unfold cmpA AB
  by_cases h1 : x.f4 < y.f4
  · rw [if_pos h1]
    constructor
    · rintro _ (h | ⟨h, _⟩) <;> omega
    · intro _; decide
  · rw [if_neg h1]
    by_cases h2 : y.f4 < x.f4
    · rw [if_pos h2]
      exact ⟨fun h => by omega, fun h => absurd (.inl h2) h⟩
    · rw [if_neg h2, cmpS_eq]
      have h3 : y.f4 = x.f4 := by omega
      cases g1 : ltS x.f0 y.f0 with
      | true =>
        rw [if_pos rfl]
        refine ⟨fun _ => ?_, fun _ => by decide⟩
        rintro (h | ⟨_, h⟩)
        · omega
        · rw [leS_iff, g1] at h
          cases h
      | false =>
        rw [if_neg (by decide)]
        constructor
        · intro h
          cases g2 : ltS y.f0 x.f0 <;> rw [g2] at h <;> simp at h
        · intro h
          exact absurd (.inr ⟨h3, (leS_iff _ _).2 g1⟩) h
theorem sort_same {l : List S46} (h : ∀ x ∈ l, inT x.f4 = true) : sortO (fun x y => T86 x y) l = sortO (fun x y => T84 x y) l := by
  have e : ltT (fun x y => T86 x y) l = ltT (fun x y => T84 x y) l := by
    funext i j
    unfold ltT
    cases hx : l[min i (l.length - 1)]? with
    | none => rfl
    | some x =>
      cases hy : l[min j (l.length - 1)]? with
      | none => rfl
      | some y =>
        have q : T86 x y = T84 x y := by rw [T86_eq (h x (List.mem_of_getElem? hx)) (h y (List.mem_of_getElem? hy)), T84_eq]
        simp only [q]
  have e2 : (∀ x ∈ l, ∀ y ∈ l, (T86 x y).isSome = true) ↔ ∀ x ∈ l, ∀ y ∈ l, (T84 x y).isSome = true :=
    ⟨fun _ x _ y _ => by rw [T84_eq]; rfl, fun _ x hx y hy => by rw [T86_eq (h x hx) (h y hy)]; rfl⟩
  unfold sortO
  rw [e]
  by_cases hl : l = []
  · rw [if_pos hl, if_pos hl]
  · rw [if_neg hl, if_neg hl]
    split
    · rename_i h2
      rw [if_pos ⟨h2.1, e2.1 h2.2.1, h2.2.2⟩]
    · rename_i h2
      rw [if_neg fun q => h2 ⟨q.1, e2.2 q.2.1, q.2.2⟩]
theorem sort_ok (l : List S46) (hl : l.length ≤ 1000000) : ∃ l', sortO (fun x y => T84 x y) l = some l' ∧ l'.length = l.length := by
  obtain ⟨l', h1, h2, _⟩ := sortO_le (fun x y => T84 x y) AB ab_tot ab_tr l (by omega) (fun x _ y _ => ⟨_, T84_eq x y, cmpA_ab x y⟩)
  exact ⟨l', h1, h2.length_eq⟩
/-! The same alert. -/
def same64 (a b : S64) : Bool := allB [eqI a.f0 b.f0, eqI a.f1 b.f1, eqI a.f2 b.f2, eqI a.f3 b.f3]
theorem r64_t {a b : S64} : same64 a b = true ↔ a = b := by
  obtain ⟨a0, a1, a2, a3⟩ := a
  obtain ⟨b0, b1, b2, b3⟩ := b
  unfold same64
  simp only [allB, Bool.and_true, Bool.and_eq_true, eqI_t', S64.mk.injEq]
theorem T91_dec (l l' : List S64) (h : l.length ≤ 1048576) : ∃ b, T91 l l' = some b ∧ (b = true ↔ l = l') := by
  unfold T91
  by_cases hn : l.length = l'.length
  · have h0 : neI (lenL l) (lenL l') = false := by rw [neI_iff, lenL_eq, lenL_eq]; simp; omega
    obtain ⟨r, h2, h3⟩ := iter_upx (st := L91_4 l l') (fun (_ : Unit) (i : Nat) => (i : Int)) l.length (fun i _ => l.take i = l'.take i) (fun r => ((∃ x, r = .inl x) ∧ l = l') ∨ (∃ x, r = .inr x) ∧ l ≠ l')
      (fun i s hi hI => by
        have hx := List.getElem?_eq_getElem hi
        have hy := List.getElem?_eq_getElem (show i < l'.length by omega)
        by_cases e : l[i] = l'[i]
        · refine .inl ⟨(), ?_, ?_⟩
          · unfold L91_4
            refine ct (ltL_true hi) (bs (listAt_some hx) (bs (listAt_some hy) (cf ?_ ?_)))
            · show (!same64 l[i] l'[i]) = false
              rw [r64_t.2 e]; rfl
            · rw [nextI (by omega)]
          · rw [take_next hx, take_next hy, hI, e]
        · refine .inr ⟨.inr (), ?_, .inr ⟨⟨_, rfl⟩, fun h => e ?_⟩⟩
          · unfold L91_4
            refine ct (ltL_true hi) (bs (listAt_some hx) (bs (listAt_some hy) (ct ?_ rfl)))
            show (!same64 l[i] l'[i]) = true
            cases hq : same64 l[i] l'[i] with
            | false => rfl
            | true => exact absurd (r64_t.1 hq) e
          · subst h; rfl)
      (fun s hI => ⟨.inl ((l.length : Int), false), by
        unfold L91_4
        rw [ltL_false (Nat.le_refl _)]
        rfl, .inl ⟨⟨_, rfl⟩, by rw [List.take_length] at hI; rw [hI, hn, List.take_length]⟩⟩) 0 () (Nat.zero_le _) rfl
    rcases h3 with ⟨⟨x, rfl⟩, h4⟩ | ⟨⟨x, rfl⟩, h4⟩
    · exact ⟨true, cf h0 (bs h2 rfl), by simp [h4]⟩
    · exact ⟨false, cf h0 (bs h2 rfl), by simp [h4]⟩
  · refine ⟨false, ct (neI_t ?_) rfl, ?_⟩
    · rw [lenL_eq, lenL_eq]; omega
    · simp only [Bool.false_eq_true, false_iff]
      rintro rfl
      exact hn rfl
theorem s46_ext {x y : S46} : x = y ↔ x.f0 = y.f0 ∧ x.f1 = y.f1 ∧ x.f2 = y.f2 ∧ x.f3 = y.f3 ∧ x.f4 = y.f4 ∧ x.f5 = y.f5 ∧ x.f6 = y.f6 ∧ x.f7 = y.f7 ∧ x.f8 = y.f8 := by
  cases x; cases y; simp
theorem T54_dec (x y : S46) (h : ok46 1048576 x) : ∃ b, T54 x y = some b ∧ (b = true ↔ x = y) := by
  rw [s46_ext]
  exact dec_s (α := Unit) (dec_s (α := Unit) (dec_i (dec_o (T23_dec _ _ h.2.2.2.1.1) (dec_i (dec_i (dec_i (dec_o (T91_dec _ _ h.2.2.2.2.2.2.2.1.1) ⟨_, rfl, eqS_t⟩)))))))
theorem T54_self (x : S46) (h : ok46 1048576 x) : T54 x x = some true := by
  obtain ⟨b, h1, h2⟩ := T54_dec x x h
  rw [h1, h2.2 rfl]
theorem T53_self (l : List S46) (hl : l.length ≤ 1048576) (hs : ∀ x ∈ l, ok46 1048576 x) : T53 l l = some true := by
  obtain ⟨r, h1, y, rfl⟩ := iter_up (st := L53_4 l l) (fun (_ : Unit) i => (i : Int)) l.length (fun _ _ => True) (fun r => ∃ y, r = .inl y)
    (fun i _ hi _ => by
      have hx := List.getElem?_eq_getElem hi
      refine ⟨(), ?_, trivial⟩
      unfold L53_4
      refine ct (ltL_true hi) (bs (listAt_some hx) (bs (listAt_some hx) (bs (T54_self _ (hs _ (List.getElem_mem hi))) (cf rfl ?_))))
      rw [nextI (by omega)])
    (fun _ _ => ⟨_, by unfold L53_4; exact cf (ltL_false (Nat.le_refl _)) rfl, _, rfl⟩) () trivial
  have h1 : iter (L53_4 l l) 0 = some (.inl y) := h1
  unfold T53
  exact cf (neI_no _) (bs h1 rfl)
/-! Copies. -/
theorem T82_eq (x : S46) (h : ok46 1048576 x) : T82 x = some x := by
  have h3 := h.2.2.2.1.1
  have h7 := h.2.2.2.2.2.2.2.1.1
  unfold T82
  exact bs (appO_eq (by simp only [List.length_nil]; omega) (by simp only [List.length_nil]; omega)) (bs (appO_eq (by simp only [List.length_nil]; omega) (by simp only [List.length_nil]; omega)) rfl)
theorem T17_eq (l : List S46) (hl : l.length ≤ 1048576) (hs : ∀ x ∈ l, ok46 1048576 x) : T17 l = some l := by
  obtain ⟨r, h1, rfl⟩ := iter_up (st := L17_3 l) (fun (s : List S46) i => (s, (i : Int))) l.length (fun i s => s = l.take i) (fun r => r = ((l.length : Int), false, l))
    (fun i s hi hI => by
      have hx := List.getElem?_eq_getElem hi
      have hk := hs _ (List.getElem_mem hi)
      have h3 := hk.2.2.2.1.1
      have h7 := hk.2.2.2.2.2.2.2.1.1
      subst hI
      refine ⟨l.take i ++ [l[i]], ?_, (take_next hx).symm⟩
      unfold L17_3
      refine ct (ltL_true hi) (bs (listAt_some hx) (bs (appO_eq (by simp only [List.length_nil]; omega) (by simp only [List.length_nil]; omega)) (bs (appO_eq (by simp only [List.length_nil]; omega) (by simp only [List.length_nil]; omega)) (bs (appO_eq (by simp; omega) (by simp; omega)) ?_))))
      simp only
      rw [nextI (by omega)]
      rfl)
    (fun s hI => ⟨_, by unfold L17_3; exact cf (ltL_false (Nat.le_refl _)) rfl, by simp only; rw [ltL_false (Nat.le_refl _), hI, List.take_length]⟩) [] (by simp)
  have h1 : iter (L17_3 l) ([], 0) = some ((l.length : Int), false, l) := h1
  unfold T17
  exact bs h1 rfl
end Go.Abs.TUA

set_option linter.unusedVariables false
set_option linter.unusedSimpArgs false
set_option maxRecDepth 10000
namespace Go.Abs.TUA
open Go.RowKit Go.Proofs Go.Abs
/-! Two lists of alerts put together. -/
def fnd (out : List S46) (k : ByteArray) : Option S46 := out.find? fun o => eqS o.f0 k
open Classical in
noncomputable def mrgF (_ : Nat) (out : List S46) (x : S46) : List S46 ⊕ Unit := match fnd out x.f0 with
  | none => .inl (out ++ [x])
  | some o => if o = x then .inl out else .inr ()
theorem mrg_ix : ∀ (l : List S46) (i j : Nat) (out : List S46), wp mrgF i out l = wp mrgF j out l
  | [], _, _, _ => rfl
  | x :: l, i, j, out => by
    unfold wp
    rw [show mrgF i out x = mrgF j out x from rfl]
    cases mrgF j out x with
    | inl s => exact mrg_ix l _ _ s
    | inr r => rfl
theorem mrg_app : ∀ (l l' : List S46) (i : Nat) (out s : List S46), wp mrgF i out l = .inl s → wp mrgF i out (l ++ l') = wp mrgF 0 s l'
  | [], l', i, out, s, h => by
    cases h
    exact mrg_ix l' _ _ _
  | x :: l, l', i, out, s, h => by
    unfold wp at h
    cases hf : mrgF i out x with
    | inl s' =>
      rw [hf] at h
      simp only [List.cons_append, wp, hf]
      exact mrg_app l l' (i + 1) s' s h
    | inr r =>
      rw [hf] at h
      cases h
theorem fnd_none {out : List S46} {k : ByteArray} (h : k ∉ out.map (·.f0)) : fnd out k = none := by
  unfold fnd
  rw [List.find?_eq_none]
  intro o ho hc
  rw [eqS_iff, decide_eq_true_eq] at hc
  exact h (List.mem_map.2 ⟨o, ho, hc⟩)
theorem fnd_some {out : List S46} {k : ByteArray} {o : S46} (h : fnd out k = some o) : o ∈ out ∧ o.f0 = k := by
  unfold fnd at h
  refine ⟨List.mem_of_find?_eq_some h, ?_⟩
  have := List.find?_some h
  rwa [eqS_iff, decide_eq_true_eq] at this
theorem mrg_fresh : ∀ (l : List S46) (i : Nat) (out : List S46), ((out ++ l).map (·.f0)).Nodup → wp mrgF i out l = .inl (out ++ l)
  | [], i, out, h => by rw [List.append_nil]; rfl
  | x :: l, i, out, h => by
    have hx : x.f0 ∉ out.map (·.f0) := by
      rw [List.map_append, List.nodup_append] at h
      exact fun hc => h.2.2 _ hc _ (List.mem_map.2 ⟨x, List.mem_cons_self, rfl⟩) rfl
    have hf : mrgF i out x = .inl (out ++ [x]) := by
      unfold mrgF
      rw [fnd_none hx]
    unfold wp
    rw [hf]
    have := mrg_fresh l (i + 1) (out ++ [x]) (by rw [List.append_assoc]; exact h)
    rw [List.append_assoc] at this
    exact this
theorem mrg_mem : ∀ (l : List S46) (i : Nat) (out r : List S46), wp mrgF i out l = .inl r → r.length ≤ out.length + l.length ∧ ∀ x ∈ r, x ∈ out ∨ x ∈ l
  | [], i, out, r, h => by
    cases h
    exact ⟨Nat.le_add_right _ _, fun x hx => .inl hx⟩
  | x :: l, i, out, r, h => by
    unfold wp at h
    cases hf : mrgF i out x with
    | inr e => rw [hf] at h; cases h
    | inl s =>
      rw [hf] at h
      obtain ⟨h1, h2⟩ := mrg_mem l (i + 1) s r h
      have hs : s.length ≤ out.length + 1 ∧ ∀ y ∈ s, y ∈ out ∨ y = x := by
        unfold mrgF at hf
        split at hf
        · cases hf
          refine ⟨by simp, fun y hy => ?_⟩
          rcases List.mem_append.1 hy with hy | hy
          · exact .inl hy
          · exact .inr (List.mem_singleton.1 hy)
        · split at hf
          · cases hf
            exact ⟨by omega, fun y hy => .inl hy⟩
          · cases hf
      refine ⟨by rw [List.length_cons]; omega, fun y hy => ?_⟩
      rcases h2 y hy with hy | hy
      · rcases hs.2 y hy with hy | hy
        · exact .inl hy
        · exact .inr (by rw [hy]; exact List.mem_cons_self)
      · exact .inr (List.mem_cons_of_mem _ hy)
/-! By number. -/
theorem idx_fnd (out : List S46) (x : S46) (h : out.length ≤ 1048576) :
    (T11 out x.f0 x.f1 x.f2 x.f3 x.f4 x.f5 x.f6 x.f7 x.f8 = some (-1) ∧ fnd out x.f0 = none) ∨ ∃ (k : Nat) (o : S46), out[k]? = some o ∧ T11 out x.f0 x.f1 x.f2 x.f3 x.f4 x.f5 x.f6 x.f7 x.f8 = some (k : Int) ∧ fnd out x.f0 = some o := by
  have hs : ∀ (i : Nat) y, out[i]? = some y → L11_2 out x.f0 x.f1 x.f2 x.f3 x.f4 x.f5 x.f6 x.f7 x.f8 (i : Int) = some (bif eqS y.f0 x.f0 then .inr (.inr (i : Int)) else .inl ((i + 1 : Nat) : Int)) := fun i y hy => by
    have hi := (List.getElem?_eq_some_iff.1 hy).1
    unfold L11_2 T89
    refine ct (ltL_true hi) (bs (listAt_some hy) (bs rfl ?_))
    rw [nextI (by omega)]
    cases eqS y.f0 x.f0 <;> rfl
  have he : L11_2 out x.f0 x.f1 x.f2 x.f3 x.f4 x.f5 x.f6 x.f7 x.f8 (out.length : Int) = some (.inr (.inl ((out.length : Int), false))) := by
    unfold L11_2
    rw [ltL_false (Nat.le_refl _)]
    rfl
  rcases idx_iter (fun y : S46 => eqS y.f0 x.f0) h hs he with ⟨h1, h2⟩ | ⟨k, o, h1, h2, h3, h4⟩
  · refine .inl ⟨by unfold T11; exact bs h1 rfl, ?_⟩
    unfold fnd
    rw [List.find?_eq_none]
    intro o ho hc
    rw [h2 o ho] at hc
    cases hc
  · refine .inr ⟨k, o, h1, by unfold T11; exact bs h2 rfl, ?_⟩
    unfold fnd
    obtain ⟨hk, hko⟩ := List.getElem?_eq_some_iff.1 h1
    rw [List.find?_eq_some_iff_getElem]
    refine ⟨h3, k, hk, hko, fun j hj => ?_⟩
    have := h4 j _ hj (List.getElem?_eq_getElem (by omega))
    rw [this]
    rfl
theorem ref_loop {a b : List S46} (ha : a.length ≤ 300) (hb : b.length ≤ 300) (hs : ∀ x ∈ a, ok46 1048576 x) (ht : ∀ x ∈ b, ok46 1048576 x) :
    iter (L52_3 b) (a, 0) = some (Sum.elim (fun out => .inl ((b.length : Int), false, out)) (fun _ => .inr ()) (wp mrgF 0 a b)) := by
  refine iter_wp (st := L52_3 b) (fun (out : List S46) i => (out, (i : Int))) (fun out => (.inl ((b.length : Int), false, out) : (Int × Bool × List S46) ⊕ Unit)) (fun _ => .inr ()) b mrgF (fun i out => out.length ≤ 300 + i ∧ ∀ x ∈ out, ok46 1048576 x) (fun i out x hx hI => ?_) (fun out _ => by
    unfold L52_3
    refine cf (ltL_false (Nat.le_refl _)) ?_
    simp only
    rw [ltL_false (Nat.le_refl _)]) a ⟨by omega, hs⟩
  have hi := (List.getElem?_eq_some_iff.1 hx).1
  have hk := ht x (List.mem_of_getElem? hx)
  obtain ⟨i1, i2⟩ := hI
  refine ⟨?_, fun s' h => ?_⟩
  · rcases idx_fnd out x (by omega) with ⟨h1, h2⟩ | ⟨k, o, h1, h2, h3⟩
    · unfold L52_3 mrgF
      rw [h2]
      refine ct (ltL_true hi) (bs (listAt_some hx) (bs h1 (ct (by decide) (bs (appO_eq (by simp; omega) (by simp; omega)) ?_))))
      simp only
      rw [nextI (by omega)]
    · have hk2 := (List.getElem?_eq_some_iff.1 h1).1
      obtain ⟨c, c1, c2⟩ := T54_dec o x (i2 o (List.mem_of_getElem? h1))
      unfold L52_3 mrgF
      rw [h3]
      refine ct (ltL_true hi) (bs (listAt_some hx) (bs h2 (cf (ltI_f (by omega)) (bs (idx_nat hk2) (bs (getN_some h1) (bs c1 ?_))))))
      cases c with
      | true =>
        simp only [c2.1 rfl, Bool.not_true, cond_false, if_true]
        rw [nextI (by omega)]
      | false =>
        have hne : ¬ o = x := fun e => by have := c2.2 e; cases this
        simp only [hne, Bool.not_false, cond_true, if_false]
  · unfold mrgF at h
    split at h
    · cases h
      refine ⟨by simp; omega, fun y hy => ?_⟩
      rcases List.mem_append.1 hy with hy | hy
      · exact i2 y hy
      · rw [List.mem_singleton] at hy
        rw [hy]
        exact hk
    · split at h
      · cases h
        exact ⟨by omega, i2⟩
      · cases h
/-! By a map. -/
def mp (out : List S46) : List (ByteArray × S46) := out.map fun a => (a.f0, a)
theorem eqB_S (a b : ByteArray) : eqB a b = eqS b a := by
  rw [eqS_iff]
  by_cases h : b = a
  · rw [h, eqB_self]
    simp
  · rw [eqB_no fun e => h e.symm]
    simp [h]
theorem mget_mp (k : ByteArray) : ∀ out : List S46, mgetB eqB (mp out) k = fnd out k
  | [] => rfl
  | a :: out => by
    have ih := mget_mp k out
    unfold mgetB mp fnd at *
    rw [List.map_cons, List.find?_cons, List.find?_cons]
    simp only
    rw [eqB_S]
    cases eqS a.f0 k with
    | true => rfl
    | false => exact ih
theorem put_loop {c : List S46} (hc : c.length ≤ 600) (hs : ∀ x ∈ c, ok46 1048576 x) :
    iter (L48_11 c) ([], [], c, 0) = some (Sum.elim (fun out => .inl ((c.length : Int), false, mp out, out, c)) (fun _ => .inr ()) (wp mrgF 0 [] c)) := by
  refine iter_wp (st := L48_11 c) (fun (out : List S46) i => (mp out, out, c, (i : Int))) (fun out => (.inl ((c.length : Int), false, mp out, out, c) : (Int × Bool × List (ByteArray × S46) × List S46 × List S46) ⊕ Unit)) (fun _ => .inr ()) c mrgF (fun i out => out.length ≤ i ∧ ∀ x ∈ out, ok46 1048576 x) (fun i out x hx hI => ?_) (fun out _ => by
    unfold L48_11
    refine cf (ltL_false (Nat.le_refl _)) ?_
    simp only
    rw [ltL_false (Nat.le_refl _)]) [] ⟨Nat.le_refl _, fun x hx => by cases hx⟩
  have hi := (List.getElem?_eq_some_iff.1 hx).1
  have hk := hs x (List.mem_of_getElem? hx)
  obtain ⟨i1, i2⟩ := hI
  refine ⟨?_, fun s' h => ?_⟩
  · have hm := mget_mp x.f0 out
    cases hf : fnd out x.f0 with
    | none =>
      have hnot : x.f0 ∉ (mp out).map (·.1) := fun hmem => by
        obtain ⟨q, hq, e⟩ := List.mem_map.1 hmem
        obtain ⟨o, ho, rfl⟩ := List.mem_map.1 hq
        unfold fnd at hf
        have := List.find?_eq_none.1 hf o ho
        simp only at e
        rw [e, eqS_self] at this
        exact this rfl
      unfold L48_11 mrgF
      rw [hf]
      refine ct (ltL_true hi) (bs (idx_nat hi) (bs (getN_some hx) (ct (by simp only; rw [hm, hf]; rfl) (bs (congrArg some (mset_new x hnot)) (bs (T82_eq x hk) (bs (appO_eq (by simp; omega) (by simp; omega)) ?_))))))
      simp only
      rw [nextI (by omega)]
      unfold mp
      rw [List.map_append]
      rfl
    | some o =>
      obtain ⟨ho, _⟩ := fnd_some hf
      obtain ⟨d, c1, c2⟩ := T54_dec o x (i2 o ho)
      have hg : ∀ z : S46, (mgetB eqB (mp out) x.f0).getD z = o := fun z => by rw [hm, hf]; rfl
      unfold L48_11 mrgF
      rw [hf]
      refine ct (ltL_true hi) (bs (idx_nat hi) (bs (getN_some hx) (cf (by simp only; rw [hm, hf]; rfl) (bs (a := d) ?_ ?_))))
      · simp only [hg]
        exact c1
      · cases d with
        | true =>
          simp only [c2.1 rfl, Bool.not_true, cond_false, if_true]
          rw [nextI (by omega)]
        | false =>
          have hne : ¬ o = x := fun e => by have := c2.2 e; cases this
          simp only [hne, Bool.not_false, cond_true, if_false]
  · unfold mrgF at h
    split at h
    · cases h
      refine ⟨by simp; omega, fun y hy => ?_⟩
      rcases List.mem_append.1 hy with hy | hy
      · exact i2 y hy
      · rw [List.mem_singleton] at hy
        rw [hy]
        exact hk
    · split at h
      · cases h
        exact ⟨by omega, i2⟩
      · cases h
theorem concat_ok (a b : List S46) (ha : a.length ≤ 300) (hb : b.length ≤ 300) : T81 [a, b] = some (a ++ b) := by
  have k0 : ltI 0 (lenL ([a, b] : List (List S46))) = true := rfl
  have k1 : ltI 1 (lenL ([a, b] : List (List S46))) = true := rfl
  have k2 : ltI 2 (lenL ([a, b] : List (List S46))) = false := rfl
  have n0 : addI .i64 0 1 = 1 := by decide
  have n1 : addI .i64 1 1 = 2 := by decide
  have l0 : addI .i64 0 (lenL a) = (a.length : Int) := by rw [lenL_eq, addI_eq (by omega) (by omega)]; omega
  have l1 : addI .i64 (a.length : Int) (lenL b) = ((a.length + b.length : Nat) : Int) := by rw [lenL_eq, addI_eq (by omega) (by omega)]; omega
  have s0 : L81_3 [a, b] (0, 0) = some (.inl ((a.length : Int), 1)) := by
    unfold L81_3
    refine ct k0 (bs (a := a) rfl (cf (by simp only; rw [l0]; exact ltI_f (by omega)) ?_))
    simp only
    rw [l0, n0]
  have s1 : L81_3 [a, b] ((a.length : Int), 1) = some (.inl (((a.length + b.length : Nat) : Int), 2)) := by
    unfold L81_3
    refine ct k1 (bs (a := b) rfl (cf (by simp only; rw [l1]; exact ltI_f (by omega)) ?_))
    simp only
    rw [l1, n1]
  have s2 : L81_3 [a, b] (((a.length + b.length : Nat) : Int), 2) = some (.inr (((a.length + b.length : Nat) : Int), 2, false)) := by
    unfold L81_3
    exact cf k2 (by simp only; rw [k2])
  have u0 : L81_11 [a, b] ([], 0) = some (.inl (a, 1)) := by
    unfold L81_11
    refine ct k0 (bs (a := a) rfl (bs (appO_eq (by simp; omega) (by simp; omega)) ?_))
    simp only
    rw [n0, List.nil_append]
  have u1 : L81_11 [a, b] (a, 1) = some (.inl (a ++ b, 2)) := by
    unfold L81_11
    refine ct k1 (bs (a := b) rfl (bs (appO_eq (by simp only; omega) (by simp only; omega)) ?_))
    simp only
    rw [n1]
  have u2 : L81_11 [a, b] (a ++ b, 2) = some (.inr (2, false, a ++ b)) := by
    unfold L81_11
    exact cf k2 (by simp only; rw [k2])
  unfold T81
  refine bs ((iter_inl s0).trans ((iter_inl s1).trans (iter_inr s2))) (bs (a := []) ?_ (bs ((iter_inl u0).trans ((iter_inl u1).trans (iter_inr u2))) rfl))
  unfold growO
  rw [if_pos ⟨by simp only; omega, by simp only; omega, by simp only; omega⟩]

theorem merge_ok {a b : List S46} (ha : a.length ≤ 300) (hb : b.length ≤ 300) (hs : ∀ x ∈ a, ok46 1048576 x) (ht : ∀ x ∈ b, ok46 1048576 x) (ia : ∀ x ∈ a, inT x.f4 = true) (ib : ∀ x ∈ b, inT x.f4 = true) (hn : (a.map (·.f0)).Nodup)
    (fa : T50 a = some 0) (fb : T50 b = some 0) : ∃ l e, T48 a b = some (l, e) ∧ T52 a b = some (l, e) ∧ l.length ≤ 1048576 ∧ ∀ x ∈ l, ok46 1048576 x := by
  have c0 : L48_2 a b 0 = some (.inl 1) := by
    unfold L48_2
    refine ct (by decide) (bs (a := a) rfl (bs fa (cf (neI_no 0) ?_)))
    rw [show addI .i64 0 1 = 1 by decide]
  have c1 : L48_2 a b 1 = some (.inl 2) := by
    unfold L48_2
    refine ct (by decide) (bs (a := b) rfl (bs fb (cf (neI_no 0) ?_)))
    rw [show addI .i64 1 1 = 2 by decide]
  have c2 : L48_2 a b 2 = some (.inr (.inl (2, false))) := by
    unfold L48_2
    exact cf (by decide) (by rw [show ltI 2 2 = false by decide])
  have hab : ∀ x ∈ a ++ b, ok46 1048576 x := fun x hx => by
    rcases List.mem_append.1 hx with hx | hx
    · exact hs x hx
    · exact ht x hx
  have p1 := put_loop (c := a ++ b) (by simp; omega) hab
  have p2 := ref_loop ha hb hs ht
  have hw : wp mrgF 0 [] (a ++ b) = wp mrgF 0 a b := mrg_app a b 0 [] a (by
    have := mrg_fresh a 0 [] (by rw [List.nil_append]; exact hn)
    rwa [List.nil_append] at this)
  rw [hw] at p1
  have d48 : T48 a b = ((iter (L48_11 (a ++ b)) (([] : (List (ByteArray × S46))), [], a ++ b, 0)).bind fun y11 => (Sum.elim (fun y11a => (bif (ltI 300 (lenL y11a.2.2.2.1)) then (some ([], 2)) else ((sortO (fun x y => T84 x y) y11a.2.2.2.1).bind fun x12 => (some (x12, 0))))) (fun y11b => (some ([], 13))) y11)) := by
    unfold T48
    exact bs ((iter_inl c0).trans ((iter_inl c1).trans (iter_inr c2))) (si (bs (concat_ok a b ha hb) rfl))
  have d52 : T52 a b = ((iter (L52_3 b) (a, 0)).bind fun y8 => (Sum.elim (fun y8a => ((sortO (fun x y => T86 x y) y8a.2.2).bind fun x9 => (bif (ltI 300 (lenL x9)) then (some ([], 2)) else (some (x9, 0))))) (fun y8b => (some ([], 13))) y8)) := by
    unfold T52
    exact bs (appO_eq (by simp; omega) (by simp; omega)) rfl
  rw [d48, d52, p1, p2]
  cases hr : wp mrgF 0 a b with
  | inr e => exact ⟨[], 13, rfl, rfl, by simp, fun x hx => by cases hx⟩
  | inl out =>
    obtain ⟨m1, m2⟩ := mrg_mem b 0 a out hr
    obtain ⟨l, s1, s2⟩ := sort_ok out (by omega)
    obtain ⟨l2, q1, q2, _⟩ := sortO_le (fun x y => T84 x y) AB ab_tot ab_tr out (by omega) (fun x _ y _ => ⟨_, T84_eq x y, cmpA_ab x y⟩)
    obtain rfl : l2 = l := Option.some.inj (q1.symm.trans s1)
    have hin : ∀ x ∈ out, inT x.f4 = true := fun x hx => by
      rcases m2 x hx with hx | hx
      · exact ia x hx
      · exact ib x hx
    have s3 : sortO (fun x y => T86 x y) out = some l2 := by rw [sort_same hin]; exact s1
    simp only [Option.bind_some, Sum.elim_inl]
    rw [s1, s3]
    simp only [Option.bind_some]
    have hlen : lenL l2 = lenL out := by rw [lenL_eq, lenL_eq, s2]
    rw [hlen]
    cases ltI 300 (lenL out) with
    | true => exact ⟨[], 2, rfl, rfl, by simp, fun x hx => by cases hx⟩
    | false =>
      refine ⟨l2, 0, rfl, rfl, by omega, fun x hx => ?_⟩
      have hx := q2.mem_iff.1 hx
      rcases m2 x hx with hx | hx
      · exact hs x hx
      · exact ht x hx
end Go.Abs.TUA

set_option linter.unusedVariables false
set_option linter.unusedSimpArgs false
set_option maxRecDepth 10000
namespace Go.Abs.TUA
open Go.RowKit Go.Proofs Go.Abs
/-! CheckAlerts and Merge are as specified. -/
theorem err2_ok (a b : Int) : T51 [a, b] = some (if a ≠ 0 then a else b) := by
  unfold T51
  have st : ∀ (i : Nat) (x : Int), ([a, b] : List Int)[i]? = some x → L51_2 [a, b] (i : Int) = some (if x ≠ 0 then .inr (.inr x) else .inl ((i + 1 : Nat) : Int)) := by
    intro i x hx
    have hi : i < ([a, b] : List Int).length := (List.getElem?_eq_some_iff.1 hx).1
    unfold L51_2
    refine ct (ltL_true hi) (bs (listAt_some hx) ?_)
    by_cases h : x = 0
    · rw [neI_f h, if_neg (by simp [h]), nextI (by simp at hi; omega)]
      rfl
    · rw [neI_t h, if_pos h]
      rfl
  have en : L51_2 [a, b] ((2 : Nat) : Int) = some (.inr (.inl (2, false))) := rfl
  have s0 := st 0 a rfl
  have s1 := st 1 b rfl
  by_cases ha : a ≠ 0
  · rw [if_pos ha] at s0 ⊢
    rw [show (0 : Int) = ((0 : Nat) : Int) from rfl, iter_inr s0]
    rfl
  · rw [if_neg ha] at s0 ⊢
    by_cases hb : b ≠ 0
    · rw [if_pos hb] at s1
      rw [show (0 : Int) = ((0 : Nat) : Int) from rfl, iter_inl s0, iter_inr s1]
      rfl
    · rw [if_neg hb] at s1
      have hb : b = 0 := by omega
      rw [show (0 : Int) = ((0 : Nat) : Int) from rfl, iter_inl s0, iter_inl s1, iter_inr en, hb]
      rfl
theorem T55_eq : T55 = some true := by
  unfold T55
  exact bs rfl (ct rfl rfl)
theorem bad_one {a b : List S46} {v : Int} (h : T50 a = some v) (h0 : v ≠ 0) : T48 a b = some ([], v) := by
  have c0 : L48_2 a b 0 = some (.inr (.inr v)) := by
    unfold L48_2
    exact ct (by decide) (bs (a := a) rfl (bs h (ct (neI_t h0) rfl)))
  unfold T48
  exact bs (iter_inr c0) (sr rfl)
theorem bad_two {a b : List S46} {v : Int} (ha : T50 a = some 0) (h : T50 b = some v) (h0 : v ≠ 0) : T48 a b = some ([], v) := by
  have c0 : L48_2 a b 0 = some (.inl 1) := by
    unfold L48_2
    refine ct (by decide) (bs (a := a) rfl (bs ha (cf (neI_no 0) ?_)))
    rw [show addI .i64 0 1 = 1 by decide]
  have c1 : L48_2 a b 1 = some (.inr (.inr v)) := by
    unfold L48_2
    exact ct (by decide) (bs (a := b) rfl (bs h (ct (neI_t h0) rfl)))
  unfold T48
  exact bs ((iter_inl c0).trans (iter_inr c1)) (sr rfl)
theorem T18_eq (a b : List S46) (ha : a.length ≤ 1048576) (hb : b.length ≤ 1048576) (hs : ∀ x ∈ a, ok46 1048576 x) (ht : ∀ x ∈ b, ok46 1048576 x) : T18 a b = some true := by
  obtain ⟨v, v1, v2, v3⟩ := lists_ok a ha hs
  obtain ⟨w, w1, w2, w3⟩ := lists_ok b hb ht
  have hnil : T53 [] [] = some true := T53_self [] (by simp) (fun x hx => by cases hx)
  unfold T18
  by_cases hv : v = 0
  · subst hv
    obtain ⟨p1, p2, p3⟩ := v3 rfl
    by_cases hw : w = 0
    · subst hw
      obtain ⟨q1, q2, q3⟩ := w3 rfl
      obtain ⟨l, e, m1, m2, m3, m4⟩ := merge_ok p1 q1 hs ht p2 q2 p3 v1 w1
      exact bs m1 (bs v2 (bs v1 (cf (neI_no 0) (bs w2 (bs (err2_ok 0 0) (ct (by decide) (bs m2 (ct (eqI_t rfl) (bs (T53_self l m3 m4) (ct rfl (bs T55_eq rfl)))))))))))
    · exact bs (bad_two v1 w1 hw) (bs v2 (bs v1 (cf (neI_no 0) (bs w2 (bs (err2_ok 0 w) (cf (by rw [if_neg (by decide)]; exact eqI_f hw) (ct (by rw [if_neg (by decide)]; exact eqI_t rfl) (bs hnil (ct rfl (bs T55_eq rfl))))))))))
  · exact bs (bad_one v1 hv) (bs v2 (bs v1 (cf (neI_no v) (bs w2 (bs (err2_ok v w) (cf (by rw [if_pos hv]; exact eqI_f hv) (ct (by rw [if_pos hv]; exact eqI_t rfl) (bs hnil (ct rfl (bs T55_eq rfl))))))))))
theorem plain (p0 : (List S46)) (p1 : (List S46)) (h0 : (p0.length ≤ 1048576 ∧ ∀ x ∈ p0, ok46 1048576 x)) (h1 : (p1.length ≤ 1048576 ∧ ∀ x ∈ p1, ok46 1048576 x)) : T4 p0 p1 = some true := by
  have s0 : T19 p0 p0 = some true := by unfold T19; exact bs (T53_self p0 h0.1 h0.2) rfl
  have s1 : T19 p1 p1 = some true := by unfold T19; exact bs (T53_self p1 h1.1 h1.2) rfl
  unfold T4
  exact bs (T17_eq p0 h0.1 h0.2) (bs (T17_eq p1 h1.1 h1.2) (bs (T18_eq p0 p1 h0.1 h1.1 h0.2 h1.2) (ct rfl (bs s0 (ct rfl (bs s1 rfl))))))
end Go.Abs.TUA
