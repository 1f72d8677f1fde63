import Derived.Test.YtebjpnnikmkopaaAEv5
import Derived.Test.YtebjpnnikmkopaaAEv7
set_option linter.unusedVariables false
set_option linter.unusedSimpArgs false
namespace Go.Abs
open Go.RowKit Go.Proofs
/-! slices.Sorted(maps.Keys(m)). -/
def leafKeys (g : Nat) : LeafF := fun _ args => match args with
  | [.mv ks vs] => some (.fn g [.bp [.mv ks vs]])
  | _ => none
theorem leaf_keys {P : Program} {f g : Nat} {T : TypeId} (hi : inplB P f = false) (h : ∀ (mb : Option Nat) (w : World), Calls P f #[.map mb] w fun e w' => e = .returned (.func (.func g) #[] #[.pointer (some ⟨w.heap.size, 0, none⟩)]) ∧ w' = w.alloc (.cells #[.map mb] T)) : LeafAt P f (leafKeys g) := by
  refine leafV hi ⟨fun C args r hr x hx => ?_, ?_⟩
  · unfold leafKeys at hr
    split at hr
    · simp only [List.mem_cons, List.not_mem_nil, or_false] at hx
      subst hx
      rfl
    · cases hr
  intro C hC args r hr F w vals hG hF hv
  unfold leafKeys at hr
  split at hr
  case h_2 => cases hr
  rename_i ks vs
  cases hr
  obtain ⟨v, rfl, h1⟩ := allV_one hv
  have h1' := h1
  simp only [Rel, one] at h1'
  obtain ⟨blk, es, clock, rfl, _⟩ := h1'
  refine (h (some blk) w).mono fun e w' ⟨h3, h4⟩ => ⟨_, h3, ?_⟩
  subst h4
  have hb : Below w.heap.size w (w.alloc (.cells #[.map (some blk)] T)) := (Below.refl _ w).alloc (Nat.le_refl _) _
  have hsz : w.heap.size < (w.alloc (.cells #[.map (some blk)] T)).heap.size := (Array.getElem?_eq_some_iff.1 (heap_alloc_new w (.cells #[.map (some blk)] T))).1
  refine ⟨BelowB.base0 hb (fun _ => Nat.le_refl _), [_], rfl, rfl, fun i x u hx hu => ?_, fun i j x y u u' hx hy hu hu' hij => ?_, fun i x u hx hu hf => ?_⟩
  · cases i with
    | succ i => simp [compsOf] at hx
    | zero =>
      simp only [compsOf, List.getElem?_cons_zero, Option.some.injEq] at hx hu
      subst hx; subst hu
      show (Rel _ _ κ0 o0 (.fn g [.bp [.mv ks vs]])).val _
      have hS : ∀ k, F k → resS F (base0 w) (w.alloc (.cells #[.map (some blk)] T)) (compsOf (.fn g [.bp [.mv ks vs]])) [.func (.func g) #[] #[.pointer (some ⟨w.heap.size, 0, none⟩)]] k := fun k hk =>
        ⟨.inl hk, Nat.lt_of_lt_of_le (hF k hk) hb.size, fun i x u hx hu hf => by
          cases i with
          | zero =>
            simp only [compsOf, List.getElem?_cons_zero, Option.some.injEq] at hx
            subst hx
            cases hf
          | succ i => simp [compsOf] at hx⟩
      simp only [Rel]
      refine ⟨[.pointer (some ⟨w.heap.size, 0, none⟩)], rfl, ?_⟩
      refine AllV_of _ _ _ _ rfl fun i x u hx hu => ?_
      cases i with
      | succ i => simp at hx
      | zero =>
      simp only [List.getElem?_cons_zero, Option.some.injEq] at hx hu
      subst hx; subst hu
      simp only [Rel, one]
      refine ⟨w.heap.size, rfl, ⟨.inr (base0_mine.2 (Nat.le_refl _)), hsz, fun i x u hx hu hf => ?_⟩, ?_⟩
      · cases i with
        | zero =>
          simp only [compsOf, List.getElem?_cons_zero, Option.some.injEq] at hx
          subst hx
          cases hf
        | succ i => simp [compsOf] at hx
      · refine AllM_of fun i x hx => ?_
        cases i with
        | succ i => simp at hx
        | zero =>
          simp only [List.getElem?_cons_zero, Option.some.injEq] at hx
          subst hx
          refine ⟨.map (some blk), ?_, ?_⟩
          · have := heap_alloc_new w (.cells #[.map (some blk)] T)
            simp only [World.cell?, this]
            rfl
          · exact (Rel_mono (κ := κ0) (κ' := κ0) hS (fun k hk => hb.block k (hF k hk)) (ObjLe.none _ _) _).val _ h1
  · cases i with
    | zero => cases j with
      | zero => exact absurd rfl hij
      | succ j => simp [compsOf] at hy
    | succ i => simp [compsOf] at hx
  · cases i with
    | zero =>
      simp only [compsOf, List.getElem?_cons_zero, Option.some.injEq] at hx
      subst hx
      cases hf
    | succ i => simp [compsOf] at hx
def strsOf : List AV → Option (List ByteArray)
  | [] => some []
  | .str s :: l => (strsOf l).map (s :: ·)
  | _ :: _ => none
theorem strsOf_map : ∀ (l : List ByteArray), strsOf (l.map AV.str) = some l
  | [] => rfl
  | s :: l => by simp [strsOf, strsOf_map l]
theorem strsOf_some : ∀ {xs : List AV} {l : List ByteArray}, strsOf xs = some l → xs = l.map AV.str
  | [], l, h => by cases h; rfl
  | x :: xs, l, h => by
    cases x with
    | str s =>
      simp only [strsOf] at h
      obtain ⟨m, h1, rfl⟩ := map_some h
      rw [strsOf_some h1]
      rfl
    | _ => simp [strsOf] at h
/-- Strings, sorted. -/
def sortS (l : List ByteArray) : List ByteArray := ((l.map fun s => s.data.toList).mergeSort fun x y => decide (x ≤ y)).map fun x => ⟨x.toArray⟩
def sortSO {β : Type} (l : List (ByteArray × β)) : Option (List ByteArray) := if l.length ≤ 1000000 ∧ ∀ p ∈ l, p.1.size ≤ 1000000 then some (sortS (l.map (·.1))) else none
noncomputable def leafSorted (e g : Nat) : LeafF := fun _ args => match args with
  | [.fn g' [.bp [.mv ks vs]]] => if g' = g then (strsOf ks).bind fun l => if l.length ≤ 1000000 ∧ ∀ s ∈ l, s.size ≤ 1000000 then some (.fr e 1 ((sortS l).map AV.str)) else none else none
  | _ => none
theorem sorted_leaf {β : Type} (e g : Nat) (fv : β → AV) (C : Callee) (l : List (ByteArray × β)) : leafSorted e g C [.fn g [.bp [.mv (l.map fun p => AV.str p.1) (l.map fun p => fv p.2)]]] = (sortSO l).map fun r => AV.fr e 1 (r.map AV.str) := by
  have h1 : (l.map fun p => AV.str p.1) = (l.map (·.1)).map AV.str := by simp
  simp only [leafSorted, if_true, h1, strsOf_map, Option.bind_some, sortSO, List.length_map]
  by_cases hc : l.length ≤ 1000000 ∧ ∀ p ∈ l, p.1.size ≤ 1000000
  · rw [if_pos hc, if_pos ⟨hc.1, fun s hs => by obtain ⟨p, hp, rfl⟩ := List.mem_map.1 hs; exact hc.2 p hp⟩]
    rfl
  · rw [if_neg hc, if_neg fun h => hc ⟨h.1, fun p hp => h.2 _ (List.mem_map.2 ⟨p, hp, rfl⟩)⟩]
    rfl
theorem leaf_sorted {P : Program} {f e g : Nat} (hi : inplB P f = false) (hq : quietB P f = false)
    (h : ∀ (w : World) (bp b : Nat) (es : Array MapEntry) (clock : Nat), bp < w.heap.size → w.cell? ⟨bp, 0, none⟩ = some (.map (some b)) → w.heap[b]? = some (.map es clock) → MapKept.Stamped es clock → (∀ x ∈ es.toList, ∃ s : ByteArray, x.key = .string s ∧ s.size ≤ 1000000) → es.size ≤ 1000000 →
      Calls P f #[.func (.func g) #[] #[.pointer (some ⟨bp, 0, none⟩)]] w fun en w' => ∃ v, en = .returned v ∧ w'.ownsRow w.heap.size e 1 v es.size (((es.toList.map fun x => match x.key with | .string s => s.data.toList | _ => []).mergeSort fun x y => decide (x ≤ y)).map fun x => Value.string ⟨x.toArray⟩) ∧ Below w.heap.size w w') : LeafAt P f (leafSorted e g) := by
  refine leafQ hi hq ⟨fun C args r hr x hx => ?_, ?_⟩
  · unfold leafSorted at hr
    split at hr
    · simp only [List.mem_cons, List.not_mem_nil, or_false] at hx
      subst hx
      rfl
    · cases hr
  intro C hC args r hr F w vals hG hF hv
  unfold leafSorted at hr
  split at hr
  case h_2 => cases hr
  rename_i g' ks vs
  split at hr
  case isFalse => cases hr
  rename_i hg
  subst hg
  obtain ⟨l, hl, hr⟩ := bind_some' hr
  split at hr
  case isFalse => cases hr
  rename_i hc
  cases hr
  have hks := strsOf_some hl
  subst hks
  obtain ⟨v, rfl, h1⟩ := allV_one hv
  simp only [Rel] at h1
  obtain ⟨cvs, rfl, h2⟩ := h1
  obtain ⟨pv, rfl, h3⟩ := allV_one h2
  simp only [Rel, one] at h3
  obtain ⟨bp, rfl, hbp, h4⟩ := h3
  obtain ⟨mv, h5, h6⟩ := AllM_get h4 0 _ rfl
  simp only [Rel, one] at h6
  obtain ⟨blk, es, clock, rfl, hblk, h7, h8, h9, h10⟩ := h6
  obtain ⟨k1, k2⟩ := AllV_get _ _ _ _ h8
  have hkeys : es.toList.map (·.key) = l.map Value.string := by
    apply List.ext_getElem?
    intro i
    by_cases hi : i < l.length
    · have hi2 : i < (es.toList.map (·.key)).length := by rw [← k1]; simpa using hi
      have hx : (l.map AV.str)[i]? = some (.str l[i]) := by rw [List.getElem?_map, List.getElem?_eq_getElem hi]; rfl
      have := k2 i _ _ hx (List.getElem?_eq_getElem hi2)
      simp only [Rel, one] at this
      rw [List.getElem?_eq_getElem hi2, this, List.getElem?_map, List.getElem?_eq_getElem hi]
      rfl
    · rw [List.getElem?_eq_none (by rw [← k1]; simpa using hi), List.getElem?_eq_none (by simpa using hi)]
  have hlen : es.size = l.length := by
    have := congrArg List.length hkeys
    simpa using this
  have hstr : ∀ x ∈ es.toList, ∃ s : ByteArray, x.key = .string s ∧ s.size ≤ 1000000 := fun x hx => by
    have : x.key ∈ l.map Value.string := by rw [← hkeys]; exact List.mem_map.2 ⟨x, hx, rfl⟩
    obtain ⟨s, hs, he⟩ := List.mem_map.1 this
    exact ⟨s, he.symm, hc.2 s hs⟩
  have hby : (es.toList.map fun x => match x.key with | .string s => s.data.toList | _ => []) = l.map fun s => s.data.toList := by
    have h1 : (es.toList.map fun x => match x.key with | .string s => s.data.toList | _ => []) = (es.toList.map (·.key)).map fun v => match v with | .string s => s.data.toList | _ => [] := by
      rw [List.map_map]
      rfl
    rw [h1, hkeys, List.map_map]
    rfl
  refine (h w bp blk es clock (hF bp hbp) h5 h7 h10 hstr (by rw [hlen]; exact hc.1)).mono fun en w' ⟨v, e1, hown, hbel⟩ => ⟨_, e1, ?_⟩
  rw [hby, hlen] at hown
  have hblk2 : ∀ q, blkOf v = some q → w.heap.size ≤ q := by
    intro q hq
    rcases hown.2 with ⟨rfl, _⟩ | ⟨g, cap, cur, rfl, h5, _⟩
    · cases hq
    · simp only [blkOf, Option.some.injEq] at hq
      omega
  have hsl : (sortS l).length = l.length := by simp [sortS]
  have hzs : (((l.map fun s => s.data.toList).mergeSort fun x y => decide (x ≤ y)).map fun x => Value.string ⟨x.toArray⟩) = (sortS l).map Value.string := by
    unfold sortS
    rw [List.map_map]
    rfl
  rw [hzs] at hown
  have hown0 : w'.ownsRow 0 e 1 v ((sortS l).map AV.str).length ((sortS l).map Value.string) := by
    rw [List.length_map, hsl]
    exact ⟨hown.1, hown.2.imp id fun ⟨g, cap, cur, h5, h6, h7⟩ => ⟨g, cap, cur, h5, Nat.zero_le _, h7⟩⟩
  refine ResOK.rowD hbel (fun hh => by cases hh) ⟨by decide, _, hown0, fun u hu => ?_, fun j r hr => ?_⟩ hblk2
  · obtain ⟨s, _, rfl⟩ := List.mem_map.1 hu
    rfl
  · rw [RelL_get] at hr
    cases hx : ((sortS l).map AV.str)[j]? with
    | none => rw [hx] at hr; cases hr
    | some q =>
      rw [hx] at hr
      simp only [Option.map_some, Option.some.injEq] at hr
      subst hr
      rw [List.getElem?_map] at hx
      obtain ⟨s, hs, rfl⟩ := Option.map_eq_some_iff.1 hx
      simp only [Rel]
      refine ⟨rfl, .string s, ?_, rfl⟩
      show ((sortS l).map Value.string)[j * 1 + 0]? = _
      rw [Nat.mul_one, Nat.add_zero, List.getElem?_map, hs]
      rfl
end Go.Abs
