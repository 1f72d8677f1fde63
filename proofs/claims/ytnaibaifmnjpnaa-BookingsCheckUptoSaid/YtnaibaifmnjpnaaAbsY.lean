import Derived.Test.YtnaibaifmnjpnaaAbsX
set_option linter.unusedVariables false
set_option linter.unusedSimpArgs false
namespace Go.Abs
open Go.RowKit
section
variable {objs objs' : Nat → Option AObj} (h : ObjsIn objs objs')
include h
theorem buildA_in {P : Program} {t : TypeId} {parts : List (Nat × AV)} {y : AV} (hb : buildA P objs t parts = some y) : buildA P objs' t parts = some y := by
  unfold buildA at hb ⊢
  split at hb
  case isFalse => cases hb
  rename_i hc
  have : (parts.all fun p => cellsNow objs' p.2) = true := List.all_eq_true.2 fun p hp => cellsNow_in h (List.all_eq_true.1 hc p hp)
  rw [if_pos this]
  exact hb
theorem flatRefs_in {no : Nat → Bool} {n : Nat} {l r : List AV} (hl : mapO (expt no objs n) l = some r) : l.flatMap (refsOf objs' n) = l.flatMap (refsOf objs n) := by
  have h0 : ∀ z ∈ l, refsOf objs' n z = refsOf objs n z := fun z hz => by
    obtain ⟨y, hy⟩ := mapO_mem hl hz
    exact refsOf_in h hy
  rw [List.flatMap_def, List.flatMap_def, List.map_congr_left h0]
theorem callE_in {P : Program} {C : Callee} {d f : Nat} {args : List AV} {e : Eff} (hc : callE P C objs d f args = some e) : callE P C objs' d f args = some e := by
  unfold callE at hc ⊢
  split at hc
  case isFalse => cases hc
  rename_i hen
  rw [if_pos hen]
  obtain ⟨as, h1, h2⟩ := bind_some' hc
  rw [mapO_in h1 fun z _ y hy => expt_in h hy, Option.bind_some, flatRefs_in h h1]
  exact h2
theorem effOf_objs {P : Program} {C : Callee} {s : Nat → AV} {d : Nat} {ty : TypeId} {op : Op} {e : Eff} (he : effOf P C s objs d ty op = some e) : effOf P C s objs' d ty op = some e := by
  cases op with
  | box t x =>
    simp only [effOf] at he ⊢
    obtain ⟨k, h1, h2⟩ := bind_some' he
    rw [h1, Option.bind_some]
    split at h2
    case isFalse => cases h2
    rename_i hc
    rw [if_pos ⟨hc.1, cellsNow_in h hc.2⟩]
    exact h2
  | build t ps =>
    simp only [effOf] at he ⊢
    obtain ⟨v, h1, h2⟩ := map_some he
    rw [buildA_in h h1]
    simp [h2]
  | buildSlice t n ps =>
    simp only [effOf] at he ⊢
    obtain ⟨e', h1, he⟩ := bind_some' he
    obtain ⟨k, h2, he⟩ := bind_some' he
    obtain ⟨vs, h3, he⟩ := bind_some' he
    rw [h1, Option.bind_some, h2, Option.bind_some, h3, Option.bind_some]
    split at he
    case isFalse => cases he
    rename_i hc
    rw [if_pos hc]
    obtain ⟨xs, h4, he⟩ := bind_some' he
    rw [mapO_in h4 fun z _ y hy => expt_in h hy, Option.bind_some, flatRefs_in h h4]
    exact he
  | load t x =>
    simp only [effOf, loadA] at he ⊢
    obtain ⟨v, h1, h2⟩ := map_some he
    obtain ⟨ag, h3, h1⟩ := bind_some' h1
    obtain ⟨k, h4, h1⟩ := bind_some' h1
    obtain ⟨q, h5, h1⟩ := bind_some' h1
    rw [h3, Option.bind_some, h4, Option.bind_some, behind_in h h5, Option.bind_some, h1]
    simp [h2]
  | fieldAddr t x f =>
    simp only [effOf] at he ⊢
    obtain ⟨v, h1, h2⟩ := map_some he
    have : faddr P objs' t f (evA s x) = some v := by
      unfold faddr at h1 ⊢
      split at h1
      · obtain ⟨fd, h3, h1⟩ := bind_some' h1
        obtain ⟨k, h4, h1⟩ := bind_some' h1
        rw [h3, Option.bind_some, h4, Option.bind_some]
        split at h1
        · cases h1
        · rename_i hk
          rw [if_neg hk]
          exact plus_in h h1
      · cases h1
    rw [this]
    simp [h2]
  | indexAddr t x i =>
    simp only [effOf] at he ⊢
    obtain ⟨v, h1, h2⟩ := map_some he
    rw [addr_in h h1]
    simp [h2]
  | nilCheck x =>
    simp only [effOf] at he ⊢
    generalize evA s x = X at he ⊢
    cases X with
    | oa r g i off =>
      simp only at he ⊢
      obtain ⟨v, h1, h2⟩ := map_some he
      rw [plus_in h h1]
      simp [h2]
    | _ => exact he
  | call c =>
    simp only [effOf] at he ⊢
    cases hc : c.callee with
    | value f =>
      rw [hc] at he
      cases f with
      | func g => exact callE_in h he
      | tmp t =>
        simp only at he ⊢
        generalize s t = X at he ⊢
        cases X with
        | fn f caps => exact callE_in h he
        | _ => exact he
      | _ => exact he
    | invoke r n => rw [hc] at he; exact he
    | builtin b =>
      rw [hc] at he
      cases b with
      | len =>
        simp only at he ⊢
        generalize c.args.toList = l at he ⊢
        match l, he with
        | [x], he =>
          cases ht : c.argTypes[0]? with
          | none => rw [ht] at he; exact he
          | some t =>
            rw [ht] at he
            simp only at he ⊢
            obtain ⟨n, h1, h2⟩ := map_some he
            obtain ⟨m, hm1, hmn⟩ := bind_some' h1
            rw [lenT_in h hm1]
            have : (do let a ← some m; pure (a : Int) : Option Int) = some n := hmn
            rw [this]
            simp [h2]
        | [], he => exact he
        | _ :: _ :: _, he => exact he
      | _ => exact he
  | slice t x lo hi mx =>
    cases mx <;> exact he
  | makeFunc f fi caps => cases f <;> exact he
  | _ => exact he
end
end Go.Abs
