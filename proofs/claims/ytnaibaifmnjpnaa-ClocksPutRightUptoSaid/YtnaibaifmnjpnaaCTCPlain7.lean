import Derived.Test.YtnaibaifmnjpnaaCTCPlain6
set_option linter.unusedVariables false
set_option linter.unusedSimpArgs false
namespace Go.Abs.TC
open Go.RowKit
/-! The example; lists that are the same; all of it. -/
def b0 : List S24 := [(S24.mk (ByteArray.mk #[112]) 0 100), (S24.mk (ByteArray.mk #[112]) 1000 1300)]
def p0' : ByteArray := ByteArray.mk #[112]
theorem b0_ok : ∀ x ∈ b0, ok24 1048576 x := by
  intro x hx
  simp only [b0, List.mem_cons, List.not_mem_nil, or_false] at hx
  rcases hx with rfl | rfl <;> exact ⟨by decide, ⟨by decide, by decide⟩, ⟨by decide, by decide⟩⟩
theorem T44_0 : T44 b0 p0' 700 = some (500, 0) := by
  rw [T44_eq b0 p0' 700 (by decide) b0_ok (by decide)]
  congr 1
  decide +kernel
theorem T56_eq : T56 = some true := by
  have h := T44_0
  unfold b0 p0' at h
  unfold T56
  rw [h]
  rfl
theorem eqB_self (a : ByteArray) : eqB a a = true := by
  unfold eqB
  cases a with
  | mk x => show (x == x) = true; simp
theorem T14_self (l : List S24) (h : l.length ≤ 1048576) : T14 l l = some true := by
  have hi := same_iter (L14_4 l l) l h (fun i x hx h1 h2 => by simp only [L14_4, h1, cond_true, listAt_some hx, Option.bind_some, h2, eqI_self, eqB_self, allB, Bool.and_true, Bool.not_true, cond_false]) (fun h1 => by simp only [L14_4, h1, cond_false])
  unfold T14
  rw [hi, lenL_self]
  rfl
theorem T50_eq (b : Bool) (x : Int) : T50 b x = some (bif b then x else 0) := by
  unfold T50
  cases b <;> rfl
theorem T52_eq (n : Int) : T52 n = some (bif !mom n then 1 else 0) := by
  unfold T52
  rw [T140_eq, Option.bind_some, T50_eq]
  rfl
theorem allB_tt : allB [true, true] = true := rfl
theorem T13_eq (l : List S24) (p : ByteArray) (n : Int) (h : l.length ≤ 1048576) (hs : ∀ x ∈ l, ok24 1048576 x) (hp : p.size ≤ 1048576) : T13 l p n = some true := by
  obtain ⟨s, b, hd, h46⟩ := T46_eq l p h hs hp
  unfold T13
  simp only [T44_eq l p n h hs hp, T45_eq l p n h hs hp, h46, T47_eq l h hs, T48_eq l h hs, Option.bind_some, neI_self, cond_false, T51_eq p hp, T50_eq, T49_two, T52_eq, T56_eq]
  unfold codeB
  cases hF : neI (beatsF l) 0 with
  | true =>
    have hF' : eqI (beatsF l) 0 = false := by rw [eqI_neI, hF]; rfl
    simp only [cond_true, cond_false, hF, hF', eqI_self, allB_tt]
  | false =>
    have hF0 := neI_false.1 hF
    cases hK : key p with
    | false =>
      simp only [hF0, cond_true, cond_false, Bool.not_false, Bool.not_true, show neI 0 0 = false from rfl, show neI 5 0 = true from rfl, show eqI 5 0 = false from rfl, eqI_self, allB_tt]
    | true =>
      have I := inc_own hF0 p
      have h55 := hd hF0 hK
      cases hM : mom n with
      | false =>
        cases b <;> simp only [hF0, h55, Option.bind_some, cond_true, cond_false, Bool.not_false, Bool.not_true, show neI 0 0 = false from rfl, show neI 1 0 = true from rfl, show eqI 1 0 = false from rfl, eqI_self, allB_tt]
      | true =>
        have hn := mom_iff.1 hM
        cases b <;> simp only [hF0, h55, T53_eq l p n h I hn, T54_eq l p n h I hn, Option.bind_some, cond_true, cond_false, Bool.not_false, Bool.not_true, show neI 0 0 = false from rfl, eqI_self, allB_tt]
theorem plain (p0 : (List S24)) (p1 : ByteArray) (p2 : Int) (h0 : (p0.length ≤ 1048576 ∧ ∀ x ∈ p0, ok24 1048576 x)) (h1 : p1.size ≤ 1048576) (h2 : okI p2) : T3 p0 p1 p2 = some true := by
  unfold T3
  rw [appO_eq (by have := h0.1; simp; omega) (by have := h0.1; simp; omega), Option.bind_some, List.nil_append, T13_eq p0 p1 p2 h0.1 h0.2 h1, Option.bind_some, cond_true, T14_self p0 h0.1]
  rfl
end Go.Abs.TC
