import Derived.Test.YtnaibaifmnjpnaaCTCPlain
set_option linter.unusedVariables false
set_option linter.unusedSimpArgs false
namespace Go.Abs.TC
open Go.RowKit
/-! How strings compare. -/
theorem cmp_spec : ∀ x y : List UInt8, Lib.compareBytes x y = if Op.bytesLess x y = true then -1 else if Op.bytesLess y x = true then 1 else 0
  | [], [] => rfl
  | [], _ :: _ => rfl
  | _ :: _, [] => rfl
  | a :: x, b :: y => by
    have ih := cmp_spec x y
    simp only [Lib.compareBytes, Op.bytesLess]
    by_cases h1 : a < b
    · simp [h1]
    · by_cases h2 : b < a
      · have h3 : ¬ a = b := fun e => by subst e; exact h1 h2
        simp [h1, h2, h3]
      · have h3 : a = b := UInt8.toNat_inj.1 (by
          have h4 := UInt8.lt_iff_toNat_lt (a := a) (b := b)
          have h5 := UInt8.lt_iff_toNat_lt (a := b) (b := a)
          rw [h4] at h1
          rw [h5] at h2
          omega)
        subst h3
        simp [h1, ih]
theorem cmpS_eq (a b : ByteArray) : cmpS a b = if ltS a b = true then -1 else if ltS b a = true then 1 else 0 := by
  unfold cmpS
  rw [cmp_spec, ltS_eq, ltS_eq]
theorem T196_eq (p q : Int) : T196 p q = some (bif ltI p q then -1 else bif ltI q p then 1 else 0) := by
  unfold T196 T247
  rw [neI_self, neI_self]
  cases ltI p q <;> cases ltI q p <;> rfl
theorem T194_eq (a b : Int) : T194 [a, b] = some (bif neI a 0 then a else b) := T49_two a b
/-- The order of beats. -/
def aft (a b : S24) : Bool := ltS a.f0 b.f0 || (eqS a.f0 b.f0 && ltI a.f1 b.f1)
theorem eqS_comm (a b : ByteArray) : eqS a b = eqS b a := by
  rw [eqS_iff, eqS_iff, Bool.eq_iff_iff]
  simp only [decide_eq_true_eq]
  exact ⟨Eq.symm, Eq.symm⟩
theorem ltS_cases (a b : ByteArray) : (ltS a b = true ∧ ltS b a = false ∧ eqS a b = false) ∨ (a = b ∧ ltS a b = false ∧ ltS b a = false ∧ eqS a b = true) ∨ (ltS a b = false ∧ ltS b a = true ∧ eqS a b = false) := by
  have hne : ∀ x y, ltS x y = true → ltS y x = false ∧ eqS x y = false := fun x y h => by
    constructor
    · cases h1 : ltS y x with
      | false => rfl
      | true => have := ltS_trans h h1; rw [ltS_irrefl] at this; cases this
    · rw [eqS_iff]
      simp only [decide_eq_false_iff_not]
      intro e
      rw [e, ltS_irrefl] at h
      cases h
  rcases ltS_total a b with h | h | h
  · exact .inl ⟨h, hne a b h⟩
  · subst h
    exact .inr (.inl ⟨rfl, ltS_irrefl a, ltS_irrefl a, eqS_self a⟩)
  · refine .inr (.inr ⟨(hne b a h).1, h, ?_⟩)
    rw [eqS_comm]
    exact (hne b a h).2
theorem T142_eq (a b : S24) : ∃ c, T142 a b = some c ∧ leI 0 c = !aft a b := by
  unfold T142 T195
  rw [T196_eq, cmpS_eq]
  simp only [Option.bind_some, T194_eq]
  refine ⟨_, rfl, ?_⟩
  unfold aft
  rcases ltS_cases a.f0 b.f0 with ⟨h1, h2, h3⟩ | ⟨_, h1, h2, h3⟩ | ⟨h1, h2, h3⟩
  · simp only [h1, if_true, Bool.true_or]
    rfl
  · simp only [h1, h2, h3, Bool.false_eq_true, if_false, Bool.false_or, Bool.true_and, neI_self, cond_false]
    cases hlt : ltI a.f1 b.f1 <;> cases hgt : ltI b.f1 a.f1 <;> rfl
  · simp only [h1, h2, h3, Bool.false_eq_true, if_false, if_true, Bool.false_or, Bool.false_and]
    rfl
def mom (x : Int) : Bool := leI 0 x && leI x 345686399999
theorem ltI_leI (x : Int) : ltI x 345686400000 = leI x 345686399999 := by
  rw [ltI_iff, leI_iff, Bool.eq_iff_iff]
  simp only [decide_eq_true_eq]
  omega
theorem T141_eq (x : Int) : T141 x = some (mom x) := by
  unfold T141 mom
  rw [ltI_leI]
  cases leI 0 x <;> rfl
theorem T140_eq (x : Int) : T140 x = some (mom x) := by
  unfold T140
  rw [T132_eq]
  rfl
theorem out_mom (x : Int) : outB x 0 345686399999 = !mom x := by
  unfold mom
  rw [inB, Bool.not_not]
def bF (_ : Nat) (last : Option S24) (x : S24) : Option S24 ⊕ Int :=
  bif !key x.f0 then .inr 5 else bif !(mom x.f1 && mom x.f2) then .inr 1 else match last with
    | none => .inl (some x)
    | some o => bif !aft o x then .inr 7 else bif eqS x.f0 o.f0 && leI x.f2 o.f2 then .inr 16 else .inl (some x)
def beatsF (l : List S24) : Int := bif ltI 500 (lenL l) then 2 else Sum.elim (fun _ => 0) id (wp bF 0 none l)
def PrevB (l : List S24) (i : Nat) (s : Option S24) : Prop := (i = 0 ∧ s = none) ∨ ∃ x, 0 < i ∧ l[i - 1]? = some x ∧ s = some x
theorem bF_inl {i : Nat} {u s : Option S24} {x : S24} (h : bF i u x = .inl s) : s = some x ∧ mom x.f1 = true ∧ mom x.f2 = true ∧ ∀ o, u = some o → aft o x = true ∧ (eqS x.f0 o.f0 && leI x.f2 o.f2) = false := by
  unfold bF at h
  cases h1 : key x.f0 <;> rw [h1] at h; · cases h
  cases h2 : (mom x.f1 && mom x.f2) <;> rw [h2] at h; · cases h
  have h3 := (Bool.and_eq_true _ _).mp h2
  cases u with
  | none => cases h; exact ⟨rfl, h3.1, h3.2, fun o ho => by cases ho⟩
  | some o =>
    simp only [Bool.not_true, cond_false] at h
    cases h4 : aft o x <;> rw [h4] at h; · cases h
    cases h5 : (eqS x.f0 o.f0 && leI x.f2 o.f2) <;> rw [h5] at h; rotate_left; · cases h
    cases h
    exact ⟨rfl, h3.1, h3.2, fun o' ho => by cases ho; exact ⟨h4, h5⟩⟩
theorem bF_inr {i : Nat} {u : Option S24} {r : Int} {x : S24} (h : bF i u x = .inr r) : r ≠ 0 := by
  unfold bF at h
  cases h1 : key x.f0 <;> rw [h1] at h; · cases h; decide
  cases h2 : (mom x.f1 && mom x.f2) <;> rw [h2] at h; · cases h; decide
  cases u with
  | none => cases h
  | some o =>
    simp only [Bool.not_true, cond_false] at h
    cases h4 : aft o x <;> rw [h4] at h; · cases h; decide
    cases h5 : (eqS x.f0 o.f0 && leI x.f2 o.f2) <;> rw [h5] at h
    · cases h
    · cases h; decide
theorem T48_eq (l : List S24) (h : l.length ≤ 1048576) (hs : ∀ x ∈ l, ok24 1048576 x) : T48 l = some (beatsF l) := by
  have hi : iter (L48_4 l) ((0 : Nat) : Int) = some (Sum.elim (fun _ => .inl ((l.length : Int), false)) (fun r => .inr r) (wp bF 0 none l)) := by
    refine iter_wp (fun _ i => (i : Int)) _ _ l bF (PrevB l) (fun i u x hx hI => ?_) (fun u _ => ?_) _ (.inl ⟨rfl, rfl⟩)
    · have hlt : i < l.length := (List.getElem?_eq_some_iff.1 hx).1
      have h1 : ltI (i : Int) (lenL l) = true := by rw [ltI_iff, lenL_eq]; simpa using hlt
      have h2 : addI .i64 (i : Int) 1 = ((i + 1 : Nat) : Int) := by rw [addI_eq (by omega) (by omega)]; omega
      have h3 := T137_eq x.f0 (hs x (List.mem_of_getElem? hx)).1
      refine ⟨?_, fun s' hf => .inr ⟨x, by omega, by simpa using hx, (bF_inl hf).1⟩⟩
      simp only [L48_4, h1, cond_true, listAt_some hx, Option.bind_some, h3, T141_eq, T126_eq, out_mom, h2, bF]
      cases key x.f0; · rfl
      cases mom x.f1; · rfl
      cases mom x.f2; · rfl
      simp only [Bool.not_true, cond_false, Bool.and_self]
      rcases hI with ⟨rfl, rfl⟩ | ⟨y, hi0, hy, rfl⟩
      · have h4 : ltI 0 ((0 : Nat) : Int) = false := rfl
        rw [h4]
        rfl
      · have h4 : ltI 0 (i : Int) = true := by rw [ltI_iff]; simp; omega
        have h5 : subI .i64 (i : Int) 1 = ((i - 1 : Nat) : Int) := by rw [subI_eq (by omega) (by omega)]; omega
        obtain ⟨c, h6, h7⟩ := T142_eq y x
        simp only [h4, cond_true, h5, listAt_some hy, Option.bind_some, h6, h7]
        cases aft y x; · rfl
        cases eqS x.f0 y.f0; · rfl
        cases leI x.f2 y.f2 <;> rfl
    · have h1 : ltI (l.length : Int) (lenL l) = false := by rw [ltI_iff, lenL_eq]; simp
      simp only [L48_4, h1, cond_false]
  unfold T48 beatsF
  rw [show (0 : Int) = ((0 : Nat) : Int) from rfl, hi]
  cases ltI 500 (lenL l) <;> cases wp bF 0 none l <;> rfl
theorem T47_eq (l : List S24) (h : l.length ≤ 1048576) (hs : ∀ x ∈ l, ok24 1048576 x) : T47 l = some (beatsF l) := by
  have hi : iter (L47_4 l) ((0 : Nat) : Int) = some (Sum.elim (fun _ => .inl ((l.length : Int), false)) (fun r => .inr r) (wp bF 0 none l)) := by
    refine iter_wp (fun _ i => (i : Int)) _ _ l bF (PrevB l) (fun i u x hx hI => ?_) (fun u _ => ?_) _ (.inl ⟨rfl, rfl⟩)
    · have hlt : i < l.length := (List.getElem?_eq_some_iff.1 hx).1
      have h1 : ltI (i : Int) (lenL l) = true := by rw [ltI_iff, lenL_eq]; simpa using hlt
      have h2 : addI .i64 (i : Int) 1 = ((i + 1 : Nat) : Int) := by rw [addI_eq (by omega) (by omega)]; omega
      have h3 := T51_eq x.f0 (hs x (List.mem_of_getElem? hx)).1
      refine ⟨?_, fun s' hf => .inr ⟨x, by omega, by simpa using hx, (bF_inl hf).1⟩⟩
      simp only [L47_4, h1, cond_true, listAt_some hx, Option.bind_some, h3, T140_eq, h2, bF]
      cases key x.f0; · rfl
      cases mom x.f1; · rfl
      cases mom x.f2; · rfl
      simp only [Bool.not_true, cond_false, Bool.and_self]
      rcases hI with ⟨rfl, rfl⟩ | ⟨y, hi0, hy, rfl⟩
      · have h4 : eqI ((0 : Nat) : Int) 0 = true := rfl
        rw [h4]
        rfl
      · have h4 : eqI (i : Int) 0 = false := by rw [eqI_iff]; simp; omega
        have h5 : subI .i64 (i : Int) 1 = ((i - 1 : Nat) : Int) := by rw [subI_eq (by omega) (by omega)]; omega
        simp only [h4, cond_false, h5, listAt_some hy, Option.bind_some, aft]
        rcases ltS_cases y.f0 x.f0 with ⟨k1, k2, k3⟩ | ⟨_, k1, k2, k3⟩ | ⟨k1, k2, k3⟩
        · rw [eqS_comm] at k3
          simp only [k1, k2, k3, Bool.true_or, Bool.not_true, cond_false, Bool.false_and]
        · have k4 := k3
          rw [eqS_comm] at k4
          simp only [k1, k2, k3, k4, Bool.false_or, Bool.true_and, cond_false, cond_true, ltI_not y.f1 x.f1, Bool.not_not]
          cases leI x.f1 y.f1 <;> cases leI x.f2 y.f2 <;> rfl
        · have k4 := k3
          rw [eqS_comm] at k4
          simp only [k1, k2, k3, k4, Bool.false_or, Bool.false_and, Bool.not_false, cond_true]
    · have h1 : ltI (l.length : Int) (lenL l) = false := by rw [ltI_iff, lenL_eq]; simp
      simp only [L47_4, h1, cond_false]
  unfold T47 beatsF
  rw [show (0 : Int) = ((0 : Nat) : Int) from rfl, hi]
  cases ltI 500 (lenL l) <;> cases wp bF 0 none l <;> rfl
/-! What right beats are like. -/
def Aft (a b : S24) : Prop := ltS a.f0 b.f0 = true ∨ (a.f0 = b.f0 ∧ a.f1 < b.f1 ∧ a.f2 < b.f2)
theorem Aft.trans {a b c : S24} (h1 : Aft a b) (h2 : Aft b c) : Aft a c := by
  rcases h1 with h1 | ⟨e1, h1, h1'⟩
  · rcases h2 with h2 | ⟨e2, _⟩
    · exact .inl (ltS_trans h1 h2)
    · exact .inl (e2 ▸ h1)
  · rcases h2 with h2 | ⟨e2, h2, h2'⟩
    · exact .inl (e1 ▸ h2)
    · exact .inr ⟨e1.trans e2, by omega, by omega⟩
theorem aft_Aft {o x : S24} (h1 : aft o x = true) (h2 : (eqS x.f0 o.f0 && leI x.f2 o.f2) = false) : Aft o x := by
  unfold aft at h1
  rcases ltS_cases o.f0 x.f0 with ⟨k1, k2, k3⟩ | ⟨e, k1, k2, k3⟩ | ⟨k1, k2, k3⟩
  · exact .inl k1
  · rw [k1, k3, Bool.false_or, Bool.true_and, ltI_iff] at h1
    rw [eqS_comm, k3, Bool.true_and, leI_iff] at h2
    simp only [decide_eq_true_eq] at h1
    simp only [decide_eq_false_iff_not] at h2
    exact .inr ⟨e, h1, by omega⟩
  · rw [k1, k3] at h1; cases h1
theorem mom_iff {x : Int} : mom x = true ↔ 0 ≤ x ∧ x ≤ 345686399999 := by
  unfold mom
  rw [leI_iff, leI_iff]
  simp
theorem wp_bF : ∀ (l : List S24) (i : Nat) (u : Option S24), (∀ r, wp bF i u l = .inr r → r ≠ 0) ∧ ∀ s, wp bF i u l = .inl s → (∀ x ∈ l, (mom x.f1 = true ∧ mom x.f2 = true) ∧ ∀ o, u = some o → Aft o x) ∧ l.Pairwise Aft
  | [], i, u => ⟨fun r h => by simp [wp] at h, fun s h => ⟨by simp, .nil⟩⟩
  | x :: l, i, u => by
    simp only [wp]
    cases hf : bF i u x with
    | inl s' =>
      obtain ⟨rfl, h1, h2, h3⟩ := bF_inl hf
      have ih := wp_bF l (i + 1) (some x)
      refine ⟨ih.1, fun s hs => ?_⟩
      obtain ⟨h4, h5⟩ := ih.2 s hs
      refine ⟨fun y hy => ?_, .cons (fun y hy => (h4 y hy).2 x rfl) h5⟩
      rcases List.mem_cons.1 hy with rfl | hy
      · exact ⟨⟨h1, h2⟩, fun o ho => aft_Aft (h3 o ho).1 (h3 o ho).2⟩
      · exact ⟨(h4 y hy).1, fun o ho => (aft_Aft (h3 o ho).1 (h3 o ho).2).trans ((h4 y hy).2 x rfl)⟩
    | inr r => exact ⟨fun r' h => by cases h; exact bF_inr hf, fun s h => by cases h⟩
theorem beatsF_ok {l : List S24} (h : beatsF l = 0) : l.length ≤ 500 ∧ (∀ x ∈ l, mom x.f1 = true ∧ mom x.f2 = true) ∧ l.Pairwise Aft := by
  unfold beatsF at h
  cases h1 : ltI 500 (lenL l) with
  | true => rw [h1] at h; cases h
  | false =>
    rw [h1, cond_false] at h
    have h0 : l.length ≤ 500 := by
      rw [ltI_iff, lenL_eq] at h1
      simp only [decide_eq_false_iff_not] at h1
      omega
    cases h2 : wp bF 0 none l with
    | inl s =>
      obtain ⟨h3, h4⟩ := (wp_bF l 0 none).2 s h2
      exact ⟨h0, fun x hx => (h3 x hx).1, h4⟩
    | inr r => rw [h2] at h; exact absurd h ((wp_bF l 0 none).1 r h2)
end Go.Abs.TC
