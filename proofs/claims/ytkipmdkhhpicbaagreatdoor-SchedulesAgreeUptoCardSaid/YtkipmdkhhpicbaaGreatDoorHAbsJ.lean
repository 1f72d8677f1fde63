import Derived.Test.YtkipmdkhhpicbaaGreatDoorHAbsI
import Derived.Laws.Tables
import Derived.Great.BuildSlice
set_option linter.unusedVariables false
set_option linter.unusedSimpArgs false
namespace Go.Abs
open Go.RowKit

/-! ### Parts laid into cells -/
theorem foldl_set (off : Nat) : ∀ (l : List Value) (k : Nat) (arr : Array Value), off + k + l.length ≤ arr.size →
    ((l.zipIdx k).foldl (fun cs p => cs.setIfInBounds (off + p.2) p.1) arr).size = arr.size ∧
    ∀ i, ((l.zipIdx k).foldl (fun cs p => cs.setIfInBounds (off + p.2) p.1) arr)[i]? = if off + k ≤ i ∧ i < off + k + l.length then l[i - (off + k)]? else arr[i]?
  | [], k, arr, h => by
    refine ⟨rfl, fun i => ?_⟩
    rw [if_neg (by simp)]
    rfl
  | v :: l, k, arr, h => by
    simp only [List.length_cons] at h
    simp only [List.zipIdx_cons, List.foldl_cons]
    obtain ⟨h1, h2⟩ := foldl_set off l (k + 1) (arr.setIfInBounds (off + k) v) (by rw [Array.size_setIfInBounds]; omega)
    refine ⟨by rw [h1]; simp, fun i => ?_⟩
    rw [h2 i]
    by_cases hi : i = off + k
    · subst hi
      rw [if_neg (by omega), if_pos (by simp), Array.getElem?_setIfInBounds, if_pos rfl, if_pos (by omega)]
      simp
    · by_cases hi2 : off + k ≤ i ∧ i < off + k + (v :: l).length
      · rw [if_pos hi2]
        simp only [List.length_cons] at hi2
        rw [if_pos (by omega)]
        rw [show i - (off + k) = (i - (off + (k + 1))) + 1 by omega, List.getElem?_cons_succ]
      · rw [if_neg hi2]
        simp only [List.length_cons] at hi2
        rw [if_neg (by omega), Array.getElem?_setIfInBounds_ne (by omega)]
theorem put_cells (off : Nat) (vs arr : Array Value) (h : off + vs.size ≤ arr.size) :
    (vs.zipIdx.foldl (fun cs (p : Value × Nat) => cs.setIfInBounds (off + p.2) p.1) arr).toList = arr.toList.take off ++ vs.toList ++ arr.toList.drop (off + vs.size) := by
  have e : vs.zipIdx.foldl (fun cs (p : Value × Nat) => cs.setIfInBounds (off + p.2) p.1) arr = (vs.toList.zipIdx 0).foldl (fun cs p => cs.setIfInBounds (off + p.2) p.1) arr := by
    rw [← Array.foldl_toList, Array.toList_zipIdx]
  rw [e]
  obtain ⟨h1, h2⟩ := foldl_set off vs.toList 0 arr (by simpa using h)
  apply List.ext_getElem?
  intro i
  rw [Array.getElem?_toList, h2 i]
  simp only [Nat.add_zero, Array.length_toList, List.append_assoc]
  by_cases ha : i < off
  · rw [if_neg (by omega), List.getElem?_append_left (by simp; omega), List.getElem?_take, if_pos ha, Array.getElem?_toList]
  · rw [List.getElem?_append_right (by simp; omega)]
    simp only [List.length_take, Array.length_toList]
    rw [Nat.min_eq_left (by omega)]
    by_cases hb : i < off + vs.size
    · rw [if_pos ⟨by omega, hb⟩, List.getElem?_append_left (by simp; omega)]
    · rw [if_neg (by omega), List.getElem?_append_right (by simp; omega)]
      simp only [Array.length_toList, List.getElem?_drop, Array.getElem?_toList]
      congr 1
      omega
section
variable {S : Nat → Prop} {w : World} {κ : Nat → Value} {objs : Nat → Option AObj}
theorem AllV_append {xs ys : List AV} {us vs : List Value} (h1 : AllV (RelL S w κ objs xs) us) (h2 : AllV (RelL S w κ objs ys) vs) : AllV (RelL S w κ objs (xs ++ ys)) (us ++ vs) := by
  obtain ⟨a1, b1⟩ := AllV_get _ _ _ _ h1
  obtain ⟨a2, b2⟩ := AllV_get _ _ _ _ h2
  refine AllV_of _ _ _ _ (by simp [a1, a2]) fun i x u hx hu => ?_
  by_cases hi : i < xs.length
  · rw [List.getElem?_append_left hi] at hx
    rw [List.getElem?_append_left (by omega)] at hu
    exact b1 i x u hx hu
  · rw [List.getElem?_append_right (by omega)] at hx
    rw [List.getElem?_append_right (by omega), ← a1] at hu
    exact b2 _ x u hx hu
theorem AllV_take {xs : List AV} {us : List Value} (h : AllV (RelL S w κ objs xs) us) (n : Nat) : AllV (RelL S w κ objs (xs.take n)) (us.take n) := by
  simpa using take_drop_V h 0 n
theorem AllV_drop {xs : List AV} {us : List Value} (h : AllV (RelL S w κ objs xs) us) (n : Nat) : AllV (RelL S w κ objs (xs.drop n)) (us.drop n) := by
  have := take_drop_V h n us.length
  have e := (AllV_get _ _ _ _ h).1
  rw [List.take_of_length_le (by rw [List.length_drop]; omega), List.take_of_length_le (by rw [List.length_drop]; omega)] at this
  exact this
theorem putAt_sound {cs vs cs' : List AV} {off : Nat} {us ws : List Value} (h1 : AllV (RelL S w κ objs cs) us) (h2 : AllV (RelL S w κ objs vs) ws) (h : putAt cs off vs = some cs') :
    off + ws.length ≤ us.length ∧ AllV (RelL S w κ objs cs') (us.take off ++ ws ++ us.drop (off + ws.length)) := by
  unfold putAt at h
  split at h
  · rename_i hle
    simp only [Option.some.injEq] at h
    subst h
    have e1 := (AllV_get _ _ _ _ h1).1
    have e2 := (AllV_get _ _ _ _ h2).1
    refine ⟨by omega, ?_⟩
    rw [← e2]
    exact AllV_append (AllV_append (AllV_take h1 off) h2) (AllV_drop h1 _)
  · cases h
theorem fill_sound {P : Program} {places : Nat → Option (Nat × Nat)} : ∀ (parts : List (Nat × AV)) (vparts : List (Nat × Value)) (cs cs' : List AV) (arr : Array Value),
    parts.length = vparts.length → (∀ (i : Nat) p q, parts[i]? = some p → vparts[i]? = some q → p.1 = q.1 ∧ AllV (RelL S w κ objs p.2.cells) q.2.cells.toList) →
    AllV (RelL S w κ objs cs) arr.toList → fill P cs places parts = some cs' → ∃ arr', Instr.fill places arr vparts = some arr' ∧ AllV (RelL S w κ objs cs') arr'.toList
  | [], [], cs, cs', arr, _, _, hr, hf => by
    simp only [fill, Option.some.injEq] at hf
    subst hf
    exact ⟨arr, rfl, hr⟩
  | [], _ :: _, cs, cs', arr, hl, _, _, _ => by simp at hl
  | _ :: _, [], cs, cs', arr, hl, _, _, _ => by simp at hl
  | (i, x) :: parts, (j, v) :: vparts, cs, cs', arr, hl, hp, hr, hf => by
    obtain ⟨e, hx⟩ := hp 0 (i, x) (j, v) (by simp) (by simp)
    simp only at e hx
    subst e
    simp only [fill] at hf
    cases hpl : places i with
    | none => rw [hpl] at hf; simp at hf
    | some q =>
      obtain ⟨off, size⟩ := q
      rw [hpl] at hf
      simp only [Option.bind_some] at hf
      split at hf
      · rename_i hsz
        cases hput : putAt cs off x.cells with
        | none => rw [hput] at hf; simp at hf
        | some c2 =>
          rw [hput] at hf
          simp only [Option.bind_some] at hf
          obtain ⟨h1, h2⟩ := putAt_sound hr hx hput
          have e2 := (AllV_get _ _ _ _ hx).1
          simp only [Array.length_toList] at h1 e2
          have hpc := put_cells off v.cells arr h1
          obtain ⟨arr', h3, h4⟩ := fill_sound parts vparts c2 cs' _ (by simpa using hl) (fun k p q hk hk2 => hp (k + 1) p q (by simpa using hk) (by simpa using hk2)) (by rw [hpc]; simpa using h2) hf
          refine ⟨arr', ?_, h4⟩
          simp only [Instr.fill, hpl]
          rw [if_neg (by simp; omega)]
          exact h3
      · cases hf
end
end Go.Abs
