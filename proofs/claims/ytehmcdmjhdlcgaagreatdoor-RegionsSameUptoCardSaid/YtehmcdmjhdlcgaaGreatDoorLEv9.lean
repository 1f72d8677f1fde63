import Derived.Test.YtehmcdmjhdlcgaaGreatDoorLEv7
import Derived.Shelf.SlicesQ.Reverse
set_option linter.unusedVariables false
set_option linter.unusedSimpArgs false
namespace Go.Abs
open Go.RowKit Go.Sort Go.Proofs
def leafRev (e k : Nat) : LeafF := fun _ args => match args with
  | [.fr e' k' xs] => if e' = e ∧ k' = k then some (.inp (.tup []) (.fr e k xs.reverse)) else none
  | _ => none
def revO {α : Type} (l : List α) : Option (List α) := some l.reverse
theorem rev_leaf {α : Type} (e k : Nat) (f : α → AV) (C : Callee) (l : List α) : leafRev e k C [.fr e k (l.map f)] = (revO l).map fun r => AV.inp (.tup []) (.fr e k (r.map f)) := by
  simp [leafRev, revO, List.map_reverse]
theorem leaf_rev {P : Program} {f e k : Nat} (hi : inplB P f = true)
    (hs : ∀ (enc : Nat → List Value), (∀ x, (enc x).length = k) → (∀ x, ∀ v ∈ enc x, v.oneCell' = true) → ∀ (blk off cap : Nat) (d : Array Nat) (w : World), HoldsK enc k w blk off d → d.size ≤ 9223372036854775807 →
      Calls P f #[.slice (some ⟨blk, off, none⟩) d.size cap] w fun e w' => e = .returned (.tuple #[]) ∧ ∃ n, w' = putRowK enc k (Sort.ahead w n) blk off d.reverse)
    (hn : ∀ (p : Option Addr) (cap : Nat) (w : World), Calls P f #[.slice p 0 cap] w fun e w' => e = .returned (.tuple #[]) ∧ w' = w) : LeafAt P f (leafRev e k) := by
  intro C hC args r hr F b vals hA
  unfold leafRev at hr
  split at hr
  case h_2 => cases hr
  rename_i e' k' xs
  split at hr
  case isFalse => cases hr
  rename_i hek
  obtain ⟨rfl, rfl⟩ := hek
  cases hr
  obtain ⟨v, rfl, ⟨hrow, hown⟩⟩ := allV_vals1 hA
  have harg : b.arg = v := hA.arg0 _ _ rfl rfl rfl
  by_cases hne : xs = []
  · subst hne
    obtain ⟨A, c, hv⟩ := row_slice hrow
    rw [hv]
    refine (hn A c b.w).mono fun en w' ⟨h1, h2⟩ => ⟨_, h1, ?_⟩
    subst h2
    refine InpOK.x ?_ hi
    exact inp_same (by rw [harg]; exact hrow) hA.free (by rw [harg]; exact hown)
  · obtain ⟨blk, cap, cur, zs, hv, h4, h5, h6, h7, h8, h9, h10, h11⟩ := row_open hrow hne
    subst hv
    have hb : b.own blk := hown blk rfl
    have hk0 : 0 < k' := hrow.1
    have hn0 : 0 < xs.length := List.length_pos_iff.2 hne
    -- the cells of one
    let enc : Nat → List Value := fun i => (zs.drop (min i (xs.length - 1) * k')).take k'
    have hin : ∀ i, min i (xs.length - 1) * k' + k' ≤ zs.length := fun i => by
      rw [h9]
      have := Nat.mul_le_mul_right k' (show min i (xs.length - 1) + 1 ≤ xs.length by omega)
      rwa [Nat.add_mul, Nat.one_mul] at this
    have hk : ∀ x, (enc x).length = k' := fun x => by
      have := hin x
      simp only [enc, List.length_take, List.length_drop]
      omega
    have henc : ∀ i c, c < k' → (enc i)[c]? = zs[min i (xs.length - 1) * k' + c]? := fun i c hc => by
      simp only [enc, List.getElem?_take, if_pos hc, List.getElem?_drop]
    have h1 : ∀ x, ∀ v ∈ enc x, v.oneCell' = true := fun x v hv => h10 v (List.mem_of_mem_drop (List.mem_of_mem_take hv))
    have hfl : (flatK enc k' (Array.range xs.length)).toList = zs := by
      apply List.ext_getElem?
      intro t
      rw [Array.getElem?_toList]
      by_cases ht : t < xs.length * k'
      · have hj : t / k' < xs.length := (Nat.div_lt_iff_lt_mul hk0).2 ht
        have hm : t % k' < k' := Nat.mod_lt _ hk0
        rw [Array.getElem?_eq_getElem (by simpa using ht)]
        simp only [flatK, Array.getElem_map, Array.getElem_range]
        have e1 : (Array.range xs.length)[t / k']! = t / k' := by rw [getElem!_pos _ _ (by simpa using hj)]; simp
        rw [e1]
        have h12 := henc (t / k') (t % k') hm
        rw [show min (t / k') (xs.length - 1) = t / k' by omega] at h12
        have e2 : t / k' * k' + t % k' = t := by rw [Nat.mul_comm]; exact Nat.div_add_mod _ _
        rw [e2] at h12
        rw [← h12, getElem!_pos _ _ (by rw [hk]; exact hm)]
        exact (List.getElem?_eq_getElem _).symm
      · rw [Array.getElem?_eq_none (by simpa using Nat.le_of_not_lt ht), List.getElem?_eq_none (by omega)]
    have hH : HoldsK enc k' b.w blk 0 (Array.range xs.length) := holds_of (enc := id) (n := xs.length) (k := k') h4 (by rw [hfl]; simpa using h8) (by simp)
    have hcap2 : xs.length ≤ 9223372036854775807 := Nat.le_trans (Nat.le_trans h5 h6) (by unfold maxLen; omega)
    have hcall := hs enc hk h1 blk 0 cap (Array.range xs.length) b.w hH (by simpa using hcap2)
    simp only [Array.size_range] at hcall
    refine hcall.mono fun en w' ⟨h12, m, h13⟩ => ⟨_, h12, ?_⟩
    refine InpOK.x ?_ hi
    have hgrow : putRowK enc k' (Sort.ahead b.w m) blk 0 (Array.range xs.length).reverse = grow (putRow id (Sort.ahead b.w m) blk 0 (flatK enc k' (Array.range xs.length).reverse)) #[] := by
      have hg : ∀ w : World, grow w #[] = w := fun w => by cases w; simp [grow]
      exact (hg _).symm
    rw [hgrow] at h13
    have hrev : ∀ j, j < xs.length → (Array.range xs.length).reverse[j]! = xs.length - 1 - j := fun j hj => by
      rw [getElem!_pos _ _ (by simpa using hj)]
      simp
    refine inp_row (enc := id) (d := flatK enc k' (Array.range xs.length).reverse) (n := xs.length) hk0 h4 h5 h6 h7 (by simp) (by simp) (fun x hx => ?_) (fun j x hj => ?_) h13 hb hA.free harg
    · obtain ⟨t, ht, rfl⟩ := List.getElem_of_mem hx
      simp only [Array.length_toList, size_flatK, Array.size_reverse, Array.size_range] at ht
      simp only [flatK, Array.getElem_toList, Array.getElem_map, Array.getElem_range, id]
      rw [getElem!_pos _ _ (by rw [hk]; exact Nat.mod_lt _ hk0)]
      exact h1 _ _ (List.getElem_mem _)
    · have hjl : j < xs.length := by simpa using (List.getElem?_eq_some_iff.1 hj).1
      rw [List.getElem?_reverse hjl] at hj
      obtain ⟨h14, h15⟩ := h11 _ x hj
      refine ⟨h14, AllM_lt h15 fun c hc => ?_⟩
      rw [h14] at hc
      have hjk : j * k' + c < xs.length * k' := by
        have := Nat.mul_le_mul_right k' (show j + 1 ≤ xs.length from hjl)
        rw [Nat.add_mul, Nat.one_mul] at this
        omega
      rw [List.map_id, Array.getElem?_toList, Array.getElem?_eq_getElem (by simp only [size_flatK, Array.size_reverse, Array.size_range]; exact hjk)]
      simp only [flatK, Array.getElem_map, Array.getElem_range]
      have e3 : (j * k' + c) / k' = j := by rw [Nat.mul_comm, Nat.mul_add_div hk0, Nat.div_eq_of_lt hc, Nat.add_zero]
      have e4 : (j * k' + c) % k' = c := by rw [Nat.mul_comm, Nat.mul_add_mod, Nat.mod_eq_of_lt hc]
      rw [e3, e4, hrev j hjl]
      have h12' := henc (xs.length - 1 - j) c hc
      rw [show min (xs.length - 1 - j) (xs.length - 1) = xs.length - 1 - j by omega] at h12'
      rw [← h12', getElem!_pos _ _ (by rw [hk]; exact hc)]
      exact (List.getElem?_eq_getElem _).symm
end Go.Abs
