import Derived.Test.YtnaibaifmnjpnaaRAbsD
import Derived.ChangeKeysEq
set_option linter.unusedVariables false
set_option linter.unusedSimpArgs false
namespace Go.Abs
open Go.RowKit

theorem run_loads (P : Program) (w : World) (a : Addr) : ∀ (vs : List Value) (i : Nat) (acc : Array Value), (∀ j v, vs[j]? = some v → w.cell? (a.add (i + j)) = some v) →
    (loadCellsFrom a i vs.length acc).run P w = .ok (acc ++ vs.toArray) w
  | [], i, acc, _ => by simp [loadCellsFrom]
  | v :: vs, i, acc, h => by
    have h0 := h 0 v (by simp)
    rw [Nat.add_zero] at h0
    simp only [List.length_cons, loadCellsFrom, Sem.run_bind, run_load, h0, Result.andThen_ok]
    rw [run_loads P w a vs (i + 1) (acc.push v) fun j u hu => by have := h (j + 1) u (by simpa using hu); rwa [show i + 1 + j = i + (j + 1) by omega]]
    congr 1
    apply Array.ext'
    simp
theorem Rel_n (S : Nat → Prop) (w : World) (κ : Nat → Value) (objs : Nat → Option AObj) (x : AV) : (Rel S w κ objs x).n = x.cells.length := by
  cases x <;> simp [Rel, one, AV.cells]
/-- An element's cells. -/
theorem mem_cells {S : Nat → Prop} {w : World} {κ : Nat → Value} {objs : Nat → Option AObj} {x : AV} {get : Nat → Option Value} (h : (Rel S w κ objs x).mem get) : AllM (RelL S w κ objs x.cells) get := by
  have other : (∃ u, get 0 = some u ∧ (Rel S w κ objs x).val u) → AllM (RelL S w κ objs [x]) get := fun ⟨u, h1, h2⟩ i r hr => by
    cases i with
    | zero =>
      simp only [RelL, List.getElem?_cons_zero, Option.some.injEq] at hr
      subst hr
      exact ⟨u, h1, h2⟩
    | succ i => simp [RelL] at hr
  cases x with
  | agg cs => simpa [Rel, AV.cells] using h
  | fr e k ys =>
    simp only [Rel, one] at h
    obtain ⟨u, _, h2⟩ := h
    exact h2.elim
  | fb cs =>
    simp only [Rel, one] at h
    obtain ⟨u, _, h2⟩ := h
    exact h2.elim
  | inp r f =>
    simp only [Rel, one] at h
    obtain ⟨u, _, h2⟩ := h
    exact h2.elim
  | _ => exact other (by simpa [Rel, one] using h)
theorem cells_mem {S : Nat → Prop} {w : World} {κ : Nat → Value} {objs : Nat → Option AObj} {x : AV} {get : Nat → Option Value} (h : AllM (RelL S w κ objs x.cells) get) : (Rel S w κ objs x).mem get := by
  have other : AllM (RelL S w κ objs [x]) get → ∃ u, get 0 = some u ∧ (Rel S w κ objs x).val u := fun h => h 0 (Rel S w κ objs x) (by simp [RelL])
  cases x with
  | agg cs => simpa [Rel, AV.cells] using h
  | _ => simpa [Rel, one] using other (by simpa [AV.cells] using h)
theorem AllM_get {S : Nat → Prop} {w : World} {κ : Nat → Value} {objs : Nat → Option AObj} {xs : List AV} {get : Nat → Option Value} (h : AllM (RelL S w κ objs xs) get) (i : Nat) (x : AV) (hx : xs[i]? = some x) : ∃ u, get i = some u ∧ (Rel S w κ objs x).val u :=
  h i _ (by rw [RelL_get, hx]; rfl)
theorem AllM_of {S : Nat → Prop} {w : World} {κ : Nat → Value} {objs : Nat → Option AObj} {xs : List AV} {get : Nat → Option Value} (h : ∀ (i : Nat) (x : AV), xs[i]? = some x → ∃ u, get i = some u ∧ (Rel S w κ objs x).val u) : AllM (RelL S w κ objs xs) get := by
  intro i r hr
  rw [RelL_get] at hr
  cases hx : xs[i]? with
  | none => rw [hx] at hr; cases hr
  | some x =>
    rw [hx] at hr
    simp only [Option.map_some, Option.some.injEq] at hr
    subst hr
    exact h i x hx
/-- What holds with no object holds with some. -/
theorem Rel_lift {S : Nat → Prop} {w : World} {κ κ' : Nat → Value} {objs : Nat → Option AObj} (x : AV) : RLe (Rel S w κ (fun _ => none) x) (Rel S w κ' objs x) :=
  Rel_mono (fun _ h => h) (fun _ _ => rfl) (fun _ _ h => by cases h) x
theorem RelL_lift {S : Nat → Prop} {w : World} {κ κ' : Nat → Value} {objs : Nat → Option AObj} (xs : List AV) : RLeL (RelL S w κ (fun _ => none) xs) (RelL S w κ' objs xs) :=
  RelL_mono (fun _ h => h) (fun _ _ => rfl) (fun _ _ h => by cases h) xs

section
variable {F : Nat → Prop} {w0 : Base} {κ : Nat → Value} {σ : Env} {a : Act} {w : World}
abbrev SS (F : Nat → Prop) (w0 : Base) (κ : Nat → Value) (σ : Env) (w : World) : Nat → Prop := Sset F w0.mine w κ σ.objs
/-- The element of an own row. -/
theorem row_elem (h : St F w0 κ σ a w) {r e k : Nat} {xs : List AV} {g : Nat} {fz : Bool} (hr : σ.objs r = some (.row e k xs g fz)) {j : Nat} {x : AV} (hx : xs[j]? = some x) :
    ∃ b c, κ r = .slice (some (at_ b 0)) xs.length c ∧ x.cells.length = k ∧ AllM (RelL (SS F w0 κ σ w) w κ σ.objs x.cells) (fun i => w.cell? (at_ b (j * k + i))) := by
  obtain ⟨hk, zs, h1, h2, h3⟩ := h.objs r _ hr
  have hj : j < xs.length := (List.getElem?_eq_some_iff.1 hx).1
  rcases h1.2 with ⟨_, h0⟩ | ⟨b, cap, cur, hv, hB, hblk, hn, hcap, hsz, htake⟩
  · omega
  · refine ⟨b, cap, hv, ?_, ?_⟩
    · obtain ⟨h4, _⟩ := h3 j (Rel _ w (fun _ => undef) (fun _ => none) x) (by rw [RelL_get, hx]; rfl)
      rw [Rel_n] at h4
      exact h4
    · obtain ⟨_, h5⟩ := h3 j (Rel _ w (fun _ => undef) (fun _ => none) x) (by rw [RelL_get, hx]; rfl)
      have h6 := mem_cells h5
      have h7 := (RelL_lift (κ' := κ) (objs := σ.objs) x.cells).allM h6
      intro i q hq
      obtain ⟨u, h8, h9⟩ := h7 i q hq
      refine ⟨u, ?_, h9⟩
      have := h1.cells (g := b) (by rw [hv]; rfl) (j * k + i) u h8
      rw [Addr.add_lit, Nat.zero_add] at this
      exact this
theorem behind_sound (h : St F w0 κ σ a w) {x : AV} {v : Value} {cs : List AV} {off : Nat} (hv : (Rel (SS F w0 κ σ w) w κ σ.objs x).val v) (hb : behind σ.objs x = some (cs, off)) :
    ∃ b o, v = .pointer (some (at_ b (o + off))) ∧ AllM (RelL (SS F w0 κ σ w) w κ σ.objs cs) (fun i => w.cell? (at_ b (o + i))) := by
  cases x with
  | ia cs' off' =>
    simp only [behind, Option.some.injEq, Prod.mk.injEq] at hb
    obtain ⟨rfl, rfl⟩ := hb
    simp only [Rel, one] at hv
    obtain ⟨b, o, h1, _, h2⟩ := hv
    exact ⟨b, o, h1, (RelL_lift cs').allM h2⟩
  | ba b0 off' =>
    simp only [behind] at hb
    split at hb
    · rename_i cs' fz ho
      simp only [Option.some.injEq, Prod.mk.injEq] at hb
      obtain ⟨rfl, rfl⟩ := hb
      simp only [Rel, one] at hv
      obtain ⟨_, _, ho', blk, h1, h2⟩ := hv
      rw [ho] at ho'
      obtain ⟨blk', T, arr, h3, h4, h5, h6⟩ := h.objs b0 _ ho
      rw [h1] at h3
      injection h3 with h3
      injection h3 with h3
      injection h3 with h3
      subst h3
      refine ⟨blk, 0, by rw [h2, Nat.zero_add], AllM_of fun i x hx => ?_⟩
      obtain ⟨h7, h8⟩ := AllV_get _ _ _ _ h6
      have hi : i < arr.toList.length := by rw [← h7]; exact (List.getElem?_eq_some_iff.1 hx).1
      refine ⟨arr.toList[i], ?_, h8 i x _ hx (List.getElem?_eq_getElem hi)⟩
      rw [Nat.zero_add]
      simp only [World.cell?, h5]
      simp at hi
      simp [hi]
    · cases hb
  | oa r g i off' =>
    simp only [behind] at hb
    split at hb
    · rename_i e k xs g' fz ho
      split at hb
      · rename_i hg
        subst hg
        cases hx : xs[i]? with
        | none => rw [hx] at hb; simp at hb
        | some y =>
          rw [hx] at hb
          simp only [Option.map_some, Option.some.injEq, Prod.mk.injEq] at hb
          obtain ⟨rfl, rfl⟩ := hb
          simp only [Rel, one] at hv
          obtain ⟨_, _, _, _, _, ho', _, h1⟩ := hv
          rw [ho] at ho'
          simp only [Option.some.injEq, AObj.row.injEq] at ho'
          obtain ⟨rfl, rfl, rfl, rfl, rfl⟩ := ho'
          obtain ⟨b, h2, h3⟩ := h1 rfl
          obtain ⟨b', c, h4, h5, h6⟩ := row_elem h ho hx
          rw [h4] at h2
          simp only [blkOf, Option.some.injEq] at h2
          subst h2
          exact ⟨b', i * k, h3, h6⟩
      · cases hb
    · cases hb
  | _ => simp [behind] at hb
/-- A run of loads. -/
theorem loads_of {cs : List AV} {S : Nat → Prop} {objs : Nat → Option AObj} {b o off k : Nat} (P : Program) (hm : AllM (RelL S w κ objs cs) (fun i => w.cell? (at_ b (o + i)))) (hk : off + k ≤ cs.length) :
    ∃ vs : List Value, (loadCells (at_ b (o + off)) k).run P w = .ok vs.toArray w ∧ AllV (RelL S w κ objs ((cs.drop off).take k)) vs := by
  have key : ∀ n, off + n ≤ cs.length → ∃ vs : List Value, vs.length = n ∧ ∀ j v, vs[j]? = some v → w.cell? ((at_ b (o + off)).add j) = some v ∧ ∀ x, cs[off + j]? = some x → (Rel S w κ objs x).val v := by
    intro n
    induction n with
    | zero => intro _; exact ⟨[], rfl, by simp⟩
    | succ n ih =>
      intro hn
      obtain ⟨vs, h1, h2⟩ := ih (by omega)
      have hx : cs[off + n]? = some cs[off + n] := List.getElem?_eq_getElem (by omega)
      obtain ⟨u, h3, h4⟩ := AllM_get hm _ _ hx
      refine ⟨vs ++ [u], by simp [h1], fun j v hv => ?_⟩
      by_cases hj : j < vs.length
      · rw [List.getElem?_append_left hj] at hv
        exact h2 j v hv
      · rw [List.getElem?_append_right (by omega)] at hv
        have e : j = n := by
          have : j - vs.length < 1 := by
            rcases Nat.lt_or_ge (j - vs.length) 1 with h | h
            · exact h
            · rw [List.getElem?_eq_none (by simpa using h)] at hv; cases hv
          omega
        subst e
        rw [h1, Nat.sub_self] at hv
        simp only [List.getElem?_cons_zero, Option.some.injEq] at hv
        subst hv
        refine ⟨by rw [Addr.add_lit, Nat.add_assoc]; exact h3, fun x hx' => ?_⟩
        rw [hx] at hx'
        cases hx'
        exact h4
  obtain ⟨vs, h1, h2⟩ := key k hk
  refine ⟨vs, ?_, AllV_of _ _ _ _ (by simp; omega) fun i x u hx hu => ?_⟩
  · unfold loadCells
    have := run_loads P w (at_ b (o + off)) vs 0 #[] fun j v hv => by rw [Nat.zero_add]; exact (h2 j v hv).1
    rw [h1] at this
    simpa using this
  · have hi : i < k := by rw [← h1]; exact (List.getElem?_eq_some_iff.1 hu).1
    rw [List.getElem?_take, if_pos hi, List.getElem?_drop] at hx
    exact (h2 i u hu).2 x hx
theorem isAggT_run {P : Program} {t : TypeId} {ag : Bool} (h : isAggT P t = some ag) (w : World) : (isAgg t).run P w = .ok ag w := by
  unfold isAggT at h
  cases hu : P.underlying t with
  | none => rw [hu] at h; simp at h
  | some d =>
    rw [hu] at h
    simp only [Option.map_some, Option.some.injEq] at h
    unfold isAgg
    simp only [Sem.run_bind, run_underlying hu, Result.andThen_ok]
    cases d <;> simp_all
theorem sizeT_run {P : Program} {t : TypeId} {k : Nat} (h : sizeT P t = some k) (w : World) : (sizeOf t).run P w = .ok k w := by
  unfold sizeT at h
  cases hi : P.info? t with
  | none => rw [hi] at h; simp at h
  | some i =>
    rw [hi] at h
    simp only [Option.map_some, Option.some.injEq] at h
    unfold sizeOf
    simp only [Sem.run_bind, run_typeInfo w hi, Result.andThen_ok, Sem.run_pure, h]
theorem loadA_sound (h : St F w0 κ σ a w) {P : Program} {t : TypeId} {x y : AV} {v : Value} (hv : (Rel (SS F w0 κ σ w) w κ σ.objs x).val v) (hl : loadA P σ.objs t x = some y) :
    ∃ u, (Instr.loadAt t v).run P w = .ok u w ∧ (Rel (SS F w0 κ σ w) w κ σ.objs y).val u := by
  unfold loadA at hl
  cases h1 : isAggT P t with
  | none => rw [h1] at hl; simp at hl
  | some ag =>
    cases h2 : sizeT P t with
    | none => rw [h1, h2] at hl; simp at hl
    | some k =>
      cases h3 : behind σ.objs x with
      | none => rw [h1, h2, h3] at hl; simp at hl
      | some p =>
        obtain ⟨cs, off⟩ := p
        rw [h1, h2, h3] at hl
        simp only [Option.bind_some] at hl
        obtain ⟨b, o, rfl, h4⟩ := behind_sound h hv h3
        unfold Instr.loadAt Instr.sureAddr loadVar
        simp only [Sem.run_bind, Sem.run_pure, Result.andThen_ok, isAggT_run h1]
        unfold takeAs at hl
        cases ag with
        | true =>
          simp only [if_true] at hl ⊢
          split at hl
          · rename_i hk
            simp only [Option.some.injEq] at hl
            subst hl
            obtain ⟨vs, h5, h6⟩ := loads_of P h4 hk
            refine ⟨.agg vs.toArray, ?_, ?_⟩
            · simp only [Sem.run_bind, sizeT_run h2, Result.andThen_ok, h5, Sem.run_pure]
            · simp only [Rel]
              exact ⟨vs, rfl, h6⟩
          · cases hl
        | false =>
          simp only [Bool.false_eq_true, if_false] at hl ⊢
          obtain ⟨u, h5, h6⟩ := AllM_get h4 off y hl
          exact ⟨u, by simp only [run_load, h5], h6⟩
end
end Go.Abs
