import Derived.Test.YtnaibaifmnjpnaaCTCPlain5
set_option linter.unusedVariables false
set_option linter.unusedSimpArgs false
namespace Go.Abs.TC
open Go.RowKit
/-! Lowest terms. -/
theorem gcd_run (a b : Int) (ha : a.natAbs ≤ 1000000000000) (hb : b.natAbs ≤ 1000000000000) (hne : a ≠ 0 ∨ b ≠ 0) : ∃ r, iter L221_1 (a, b) = some r ∧ r.1 ≠ 0 ∧ r.1.natAbs ≤ 1000000000000 := by
  refine iter_meas (fun z => z.1.natAbs ≤ 1000000000000 ∧ z.2.natAbs ≤ 1000000000000 ∧ (z.1 ≠ 0 ∨ z.2 ≠ 0)) (fun z => z.2.natAbs) (fun r : Int × Int × Bool => r.1 ≠ 0 ∧ r.1.natAbs ≤ 1000000000000) ?_ (a, b) ⟨ha, hb, hne⟩
  rintro ⟨x, y⟩ ⟨hx, hy, hn⟩
  simp only at hx hy hn
  by_cases h0 : y = 0
  · right
    have h1 : neI y 0 = false := by rw [neI_iff]; simp [h0]
    refine ⟨(x, y, false), by simp only [L221_1, h1, cond_false], ?_, hx⟩
    simp only
    rcases hn with h | h
    · exact h
    · exact absurd h0 h
  · left
    have h1 : neI y 0 = true := by rw [neI_iff]; simp [h0]
    have h2 : remO .i64 x y = some (x.tmod y) := by unfold remO; rw [if_neg h0]
    have h3 : (x.tmod y).natAbs = x.natAbs % y.natAbs := Int.natAbs_tmod x y
    have h4 : x.natAbs % y.natAbs < y.natAbs := Nat.mod_lt _ (by omega)
    exact ⟨(y, x.tmod y), by simp only [L221_1, h1, cond_true, h2, Option.bind_some], ⟨hy, by simp only; omega, .inl h0⟩, by simp only; omega⟩
theorem L146_eq (p q : Int) : L146_2 p q = L221_1 := rfl
theorem quoO_some (a : Int) {b : Int} (hb : b ≠ 0) : ∃ c, quoO .i64 a b = some c := ⟨_, by unfold quoO; rw [if_neg hb]⟩
theorem low_eq (a b : Int) (ha : a.natAbs ≤ 1000000000000) (hb : 0 < b ∧ b ≤ 1000000000000) : ∃ s, T146 a b = some s ∧ T139 a b = some s := by
  obtain ⟨r, h1, h2, h3⟩ := gcd_run a b ha (by omega) (.inr (by omega))
  have hlt : ltI b 0 = false := by rw [ltI_iff]; simp; omega
  have e1 : subI .i64 0 r.1 = 0 - r.1 := subI_eq (by omega) (by omega)
  unfold T146 T139 T221
  rw [L146_eq, h1, hlt]
  simp only [Option.bind_some, cond_false, e1, maxI_eq]
  by_cases hr : r.1 < 0
  · have h4 : ltI r.1 0 = true := by rw [ltI_iff]; simpa using hr
    have h5 : max r.1 (0 - r.1) = 0 - r.1 := by omega
    obtain ⟨c, hc⟩ := quoO_some a (b := 0 - r.1) (by omega)
    obtain ⟨d, hd⟩ := quoO_some b (b := 0 - r.1) (by omega)
    simp only [h4, cond_true, h5, hc, hd, Option.bind_some]
    exact ⟨_, rfl, rfl⟩
  · have h4 : ltI r.1 0 = false := by rw [ltI_iff]; simpa using hr
    have h5 : max r.1 (0 - r.1) = r.1 := by omega
    obtain ⟨c, hc⟩ := quoO_some a (b := r.1) (by omega)
    obtain ⟨d, hd⟩ := quoO_some b (b := r.1) (by omega)
    simp only [h4, cond_false, h5, hc, hd, Option.bind_some]
    exact ⟨_, rfl, rfl⟩
/-! What is asked. -/
def codeB (l : List S24) (p : ByteArray) (n : Int) (back : Bool) : Int × Int := bif neI (beatsF l) 0 then (0, beatsF l) else bif !key p then (0, 5) else bif !mom n then (0, 1) else code (bif back then (own l p).map swp else own l p) n
theorem T136_eq (l : List S24) (p : ByteArray) (n : Int) (back : Bool) (h : l.length ≤ 1048576) (hs : ∀ x ∈ l, ok24 1048576 x) (hp : p.size ≤ 1048576) : T136 l p n back = some (codeB l p n back) := by
  unfold T136 codeB
  rw [T48_eq l h hs, Option.bind_some, T137_eq p hp, Option.bind_some, T141_eq, Option.bind_some]
  cases hF : neI (beatsF l) 0; rotate_left; · rfl
  cases hK : key p; · rfl
  cases hM : mom n; · rfl
  have I := inc_own (neI_false.1 hF) p
  have hn := mom_iff.1 hM
  simp only [cond_false, Bool.not_true, T138_eq l p back h, Option.bind_some]
  have hmap : ((own l p).map fun b => bif back then fwd (swp b) else fwd b) = (bif back then (own l p).map swp else own l p).map fwd := by
    cases back
    · rfl
    · simp [Function.comp_def]
  rw [hmap, T220_code _ (by cases back <;> first | exact I | exact inc_swp I) hn]
  rfl
theorem T44_eq (l : List S24) (p : ByteArray) (n : Int) (h : l.length ≤ 1048576) (hs : ∀ x ∈ l, ok24 1048576 x) (hp : p.size ≤ 1048576) : T44 l p n = some (codeB l p n false) := by
  unfold T44
  rw [T136_eq l p n false h hs hp]
  rfl
theorem T45_eq (l : List S24) (p : ByteArray) (n : Int) (h : l.length ≤ 1048576) (hs : ∀ x ∈ l, ok24 1048576 x) (hp : p.size ≤ 1048576) : T45 l p n = some (codeB l p n true) := by
  unfold T45
  rw [T136_eq l p n true h hs hp]
  rfl
theorem T54_eq (l : List S24) (p : ByteArray) (n : Int) (h : l.length ≤ 1048576) (I : Inc (own l p)) (hn : 0 ≤ n ∧ n ≤ 345686399999) : T54 l p n = some (code ((own l p).map swp) n) := by
  unfold T54
  rw [T145_eq l h, Option.bind_some, T53_eq (l.map swp) p n (by simpa using h) (by rw [own_swp]; exact inc_swp I) hn, own_swp]
  rfl
theorem T46_eq (l : List S24) (p : ByteArray) (h : l.length ≤ 1048576) (hs : ∀ x ∈ l, ok24 1048576 x) (hp : p.size ≤ 1048576) :
    ∃ s b, (beatsF l = 0 → key p = true → T55 l p = some (s, b)) ∧ T46 l p = some (bif neI (beatsF l) 0 then (⟨0, 0⟩, beatsF l) else bif !key p then (⟨0, 0⟩, 5) else (s, bif b then 0 else 8)) := by
  unfold T46
  rw [T48_eq l h hs, Option.bind_some, T137_eq p hp, Option.bind_some]
  cases hF : neI (beatsF l) 0; rotate_left
  · exact ⟨⟨0, 0⟩, false, fun h0 => (by rw [h0] at hF; cases hF), rfl⟩
  cases hK : key p
  · exact ⟨⟨0, 0⟩, false, fun _ h0 => (by cases h0), rfl⟩
  have I := inc_own (neI_false.1 hF) p
  have hI := I.len
  unfold T55
  rw [T144_eq l p h]
  simp only [cond_false, Bool.not_true, T138_eq l p true h, Option.bind_some, cond_true]
  generalize own l p = gl at I hI
  by_cases h2 : gl.length < 2
  · have h3 : ltI (lenL gl) 2 = true := by rw [ltI_iff, lenL_eq]; simp; omega
    have h4 : ltI (lenL (gl.map fun b => fwd (swp b))) 2 = true := by rw [ltI_iff, lenL_eq, List.length_map]; simp; omega
    simp only [h3, h4, cond_true]
    exact ⟨⟨0, 0⟩, false, fun _ _ => rfl, rfl⟩
  · have h3 : ltI (lenL gl) 2 = false := by rw [ltI_iff, lenL_eq]; simp; omega
    have h4 : ltI (lenL (gl.map fun b => fwd (swp b))) 2 = false := by rw [ltI_iff, lenL_eq, List.length_map]; simp; omega
    have hl0 : 0 < gl.length := by omega
    have hl1 : gl.length - 1 < gl.length := by omega
    have ha := List.getElem?_eq_getElem hl0
    have hb := List.getElem?_eq_getElem hl1
    generalize gl[0] = a at ha
    generalize gl[gl.length - 1] = b at hb
    have hav := I.get ha
    have hbv := I.get hb
    have hab := I.lt (by omega : 0 < gl.length - 1) ha hb
    have e0 : subI .i64 (lenL gl) 1 = ((gl.length - 1 : Nat) : Int) := by rw [lenL_eq, subI_eq (by omega) (by omega)]; omega
    have e0' : subI .i64 (lenL (gl.map fun b => fwd (swp b))) 1 = ((gl.length - 1 : Nat) : Int) := by rw [lenL_eq, List.length_map, subI_eq (by omega) (by omega)]; omega
    have i0 : idxO gl.length 0 = some 0 := idxO_nat hl0
    have i1 : idxO gl.length ((gl.length - 1 : Nat) : Int) = some (gl.length - 1) := idxO_nat hl1
    have g0 : getN gl 0 = some a := ha
    have g1 : getN gl (gl.length - 1) = some b := hb
    have g0' : getN (gl.map fun b => fwd (swp b)) 0 = some (fwd (swp a)) := by unfold getN; rw [List.getElem?_map, ha]; rfl
    have g1' : getN (gl.map fun b => fwd (swp b)) (gl.length - 1) = some (fwd (swp b)) := by unfold getN; rw [List.getElem?_map, hb]; rfl
    have e1 : subI .i64 b.f2 a.f2 = b.f2 - a.f2 := subI_eq (by omega) (by omega)
    have e2 : subI .i64 b.f1 a.f1 = b.f1 - a.f1 := subI_eq (by omega) (by omega)
    have e3 : subI .i64 (b.f2 - a.f2) (b.f1 - a.f1) = b.f2 - a.f2 - (b.f1 - a.f1) := subI_eq (by omega) (by omega)
    obtain ⟨s, k1, k2⟩ := low_eq (b.f2 - a.f2 - (b.f1 - a.f1)) (b.f1 - a.f1) (by omega) ⟨by omega, by omega⟩
    simp only [h3, h4, cond_false, List.length_map, e0, e0', i0, i1, g0, g1, g0', g1', Option.bind_some]
    simp only [fwd, swp, e1, e2, e3, k1, k2, Option.bind_some]
    exact ⟨s, true, fun _ _ => rfl, rfl⟩
end Go.Abs.TC
