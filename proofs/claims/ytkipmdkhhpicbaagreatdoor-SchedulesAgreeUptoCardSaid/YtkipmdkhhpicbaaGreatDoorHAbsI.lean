import Derived.Test.YtkipmdkhhpicbaaGreatDoorHAbsH
set_option linter.unusedVariables false
set_option linter.unusedSimpArgs false
namespace Go.Abs
open Go.RowKit
section
variable {F : Nat → Prop} {w0 : Base} {κ : Nat → Value} {σ : Env} {a : Act} {w : World}

/-- A cell of which something is known now is a value of one cell. -/
theorem cellNow_one (h : St F w0 κ σ a w) {x : AV} {v : Value} (hc : cellNow σ.objs x = true) (hv : (Rel (SS F w0 κ σ w) w κ σ.objs x).val v) : v.oneCell' = true := by
  cases x with
  | own r g =>
    simp only [cellNow] at hc
    split at hc
    · rename_i e k xs g' fz ho
      simp only [Rel, one] at hv
      obtain ⟨_, _, _, _, _, ho', _, h1⟩ := hv
      rw [ho] at ho'
      simp only [Option.some.injEq, AObj.row.injEq] at ho'
      rw [h1 (by rw [← ho'.2.2.2.1]; simpa using hc)]
      obtain ⟨hk, zs, h2, _⟩ := h.objs r _ ho
      rcases h2.2 with ⟨e, _⟩ | ⟨b, cap, cur, e, _⟩ <;> rw [e] <;> rfl
    · cases hc
  | oa r g i off =>
    simp only [cellNow] at hc
    split at hc
    · rename_i e k xs g' fz ho
      simp only [Rel, one] at hv
      obtain ⟨_, _, _, _, _, ho', _, h1⟩ := hv
      rw [ho] at ho'
      simp only [Option.some.injEq, AObj.row.injEq] at ho'
      obtain ⟨b, _, h2⟩ := h1 (by rw [← ho'.2.2.2.1]; simpa using hc)
      rw [h2]
      rfl
    · cases hc
  | ba b off =>
    simp only [Rel, one] at hv
    obtain ⟨_, _, _, _, _, h1⟩ := hv
    rw [h1]
    rfl
  | int k n => simp only [Rel, one] at hv; rw [hv]; rfl
  | bool b => simp only [Rel, one] at hv; rw [hv]; rfl
  | str s => simp only [Rel, one] at hv; rw [hv]; rfl
  | sl xs => simp only [Rel, one] at hv; obtain ⟨A, c, h1, _⟩ := hv; rw [h1]; rfl
  | nils => simp only [Rel, one] at hv; rw [hv]; rfl
  | pp nl cs => simp only [Rel, one] at hv; cases nl with
    | true => simp only [if_true] at hv; rw [hv]; rfl
    | false => simp only [Bool.false_eq_true, if_false] at hv; obtain ⟨b, o, h1, _⟩ := hv; rw [h1]; rfl
  | fn f cs => simp only [Rel, one] at hv; obtain ⟨vs, h1, _⟩ := hv; rw [h1]; rfl
  | ia cs off => simp only [Rel, one] at hv; obtain ⟨b, o, h1, _⟩ := hv; rw [h1]; rfl
  | mr r => simp only [Rel, one] at hv; obtain ⟨_, _, _, _, _, _, h1⟩ := hv; rw [h1]; rfl
  | mv ks vs => simp only [Rel, one] at hv; obtain ⟨_, _, _, h1, _⟩ := hv; rw [h1]; rfl
  | _ => simp [cellNow] at hc
theorem cells_of_one {v : Value} (h : v.oneCell' = true) : v.cells = #[v] := by cases v <;> simp [Value.oneCell'] at h <;> rfl
theorem cellsNow_val (h : St F w0 κ σ a w) {x : AV} {v : Value} (hc : cellsNow σ.objs x = true) (hv : (Rel (SS F w0 κ σ w) w κ σ.objs x).val v) : AllV (RelL (SS F w0 κ σ w) w κ σ.objs x.cells) v.cells.toList := by
  have other : cellNow σ.objs x = true → AllV (RelL (SS F w0 κ σ w) w κ σ.objs [x]) v.cells.toList := fun hc => by
    rw [cells_of_one (cellNow_one h hc hv)]
    exact AllV_cons hv ⟨by simp [RelL], fun i r u hr => by simp [RelL] at hr⟩
  cases x with
  | agg cs =>
    simp only [Rel] at hv
    obtain ⟨vs, rfl, h1⟩ := hv
    simpa [Value.cells, AV.cells] using h1
  | _ => exact other (by simpa [cellsNow] using hc)
theorem zero_cells {P : Program} {t : TypeId} {z : AV} (hz : zeroOf P t = some z) (S : Nat → Prop) (w : World) (κ : Nat → Value) (objs : Nat → Option AObj) :
    ∃ i zv, P.info? t = some i ∧ i.zero = some zv ∧ (Rel S w κ objs z).val zv ∧ AllV (RelL S w κ objs z.cells) zv.cells.toList := by
  unfold zeroOf at hz
  cases hi : P.info? t with
  | none => rw [hi] at hz; simp at hz
  | some i =>
    rw [hi] at hz
    simp only [Option.bind_some] at hz
    cases hzv : i.zero with
    | none => rw [hzv] at hz; simp at hz
    | some zv =>
      rw [hzv] at hz
      simp only [Option.bind_some] at hz
      have hr := ofV_sound S w κ objs zv z hz
      refine ⟨i, zv, rfl, hzv, hr, ?_⟩
      have one_ : (∀ cs, z ≠ .agg cs) → zv.cells = #[zv] → AllV (RelL S w κ objs z.cells) zv.cells.toList := fun h1 h2 => by
        rw [h2]
        have : z.cells = [z] := by cases z <;> simp [AV.cells] at h1 ⊢
        rw [this]
        exact AllV_cons hr ⟨by simp [RelL], fun i r u hr => by simp [RelL] at hr⟩
      cases zv with
      | agg cs =>
        unfold ofV at hz
        simp only at hz
        cases hm : mapO cellV cs.toList with
        | none => rw [hm] at hz; simp at hz
        | some ys =>
          rw [hm] at hz
          simp only [Option.map_some, Option.some.injEq] at hz
          subst hz
          simp only [Rel] at hr
          obtain ⟨vs, h1, h2⟩ := hr
          injection h1 with h1
          subst h1
          simpa [Value.cells, AV.cells] using h2
      | tuple vs => simp [ofV, cellV] at hz
      | _ =>
        refine one_ (fun cs e => ?_) rfl
        subst e
        simp only [Rel] at hr
        obtain ⟨vs, h1, _⟩ := hr
        cases h1
theorem typeInfo_zero {P : Program} {t : TypeId} {i : TypeInfo} {zv : Value} (hi : P.info? t = some i) (hz : i.zero = some zv) (w : World) : (zeroValue t).run P w = .ok zv w := by
  unfold zeroValue
  simp only [Sem.run_bind, run_typeInfo w hi, Result.andThen_ok, hz, Sem.run_pure]
/-- A new box. -/
theorem box_sound (h : St F w0 κ σ a w) {dst : Option Nat} {d : Nat} {cs : List AV} {v : Value} {t : TypeId} (hd : dst.all σ.n.ok = true) (hfree : σ.objs (8 * d) = none)
    (hc : AllV (RelL (SS F w0 κ σ w) w κ σ.objs cs) v.cells.toList) :
    ∃ κ', St F w0 κ' (σ.eff dst { val := .ba (8 * d) 0, news := [(8 * d, .box cs false)] }) (a.put dst (.pointer (some (at_ w.heap.size 0)))) (w.alloc (.cells v.cells t)) := by
  let e : Eff := { val := .ba (8 * d) 0, news := [(8 * d, .box cs false)] }
  let κ' := upd κ (8 * d) (.pointer (some (at_ w.heap.size 0)))
  have m : Made κ κ' σ w (w.alloc (.cells v.cells t)) e := by
    refine ⟨(Below.refl _ w).alloc (Nat.le_refl _) _, by simpa [e] using hfree, by simp [e], fun id hid => upd_ne _ _ (fun e => hid (by rw [e]; exact hfree)), ?_, ?_, Nat.le_refl _⟩
    · intro p hp b hb
      simp only [e, List.mem_singleton] at hp
      subst hp
      simp only [κ', upd_same, blkOf, Option.some.injEq] at hb
      omega
    · intro p hp q hq hpq
      simp only [e, List.mem_singleton] at hp hq
      subst hp; subst hq
      exact absurd rfl hpq
  have hobj : (σ.eff dst e).objs (8 * d) = some (.box cs false) := by
    rw [(eff_objs σ dst e).1]
    exact objsL_new _ _ (8 * d, .box cs false) m.nodup (by simp [e])
  refine ⟨κ', h.made m hd (fun p hp => ?_) ?_⟩
  · simp only [e, List.mem_singleton] at hp
    subst hp
    refine ⟨w.heap.size, t, v.cells, upd_same _ _ _, Nat.zero_le _, heap_alloc_new w _, ?_⟩
    exact (RelL_mono (fun k => m.sub (F := F) (B := w0.mine) dst k) (fun k hk => m.below.block k hk.2.1) (m.le dst) cs).allV hc
  · show (Rel _ _ κ' _ (AV.ba (8 * d) 0)).val _
    simp only [Rel, one]
    exact ⟨cs, false, hobj, w.heap.size, upd_same _ _ _, rfl⟩
theorem exptA_cases {k : Bool} {objs : Nat → Option AObj} {x y : AV} (h : exptA k objs x = some y) : (x = .nils ∧ y = .nils) ∨ expt (fun _ => false) objs DEPTH x = some y := by
  cases x with
  | nils =>
    simp only [exptA, Option.some.injEq] at h
    cases k with
    | true => exact .inl ⟨rfl, h.symm⟩
    | false => exact .inr (by rw [← h]; rfl)
  | _ => exact .inr h
/-- A call, its arguments by value. -/
theorem callE_sound (h : St F w0 κ σ a w) {P : Program} {C : Callee} (hC : CallOK P C) {d f : Nat} {args : List AV} {e : Eff} {vals : List Value} {dst : Option Nat}
    (he : callE P C σ.objs d f args = some e) (hv : AllV (RelL (SS F w0 κ σ w) w κ σ.objs args) vals) (hd : dst.all σ.n.ok = true) (hfree : ∀ p ∈ e.news, σ.objs p.1 = none) :
    (∃ fn, P.funcs[f]? = some fn ∧ fn.name ≠ "runtime.NumGoroutine" ∧ fn.body.isSome = true) ∧
    Calls P f vals.toArray w fun en w' => ∃ v, en = .returned v ∧ ∃ κ', St F w0 κ' (σ.eff dst e) (a.put dst v) w' := by
  unfold callE at he
  split at he
  · rename_i hen
    cases hm : mapO (exptA (keepsNil P f) σ.objs) args with
    | none => rw [hm] at he; simp at he
    | some as =>
    rw [hm] at he
    simp only [Option.bind_some] at he
    cases hcr : C f as with
    | none => rw [hcr] at he; simp at he
    | some r =>
      rw [hcr] at he
      simp only [Option.map_some, Option.some.injEq] at he
      subst he
      refine ⟨?_, ?_⟩
      · have hen := ((Bool.and_eq_true _ _).mp hen).1
        unfold entersB at hen
        split at hen
        · rename_i fn hfn
          simp only [Bool.and_eq_true, bne_iff_ne, ne_eq] at hen
          exact ⟨fn, hfn, hen.1, hen.2⟩
        · cases hen
      · let G : Nat → Prop := fun k => SS F w0 κ σ w k ∨ ∃ id ∈ args.flatMap (refsOf σ.objs DEPTH), σ.objs id ≠ none ∧ blkOf (κ id) = some k
        have hG : ∀ k, G k → k < w.heap.size := by
          rintro k (hk | ⟨id, _, hne, hb⟩)
          · exact hk.2.1
          · obtain ⟨o, ho⟩ := Option.ne_none_iff_exists'.1 hne
            exact ((h.objs id o ho).lt hb).2
        have hargs : AllV (RelL G w κ0 o0 as) vals := by
          obtain ⟨h1, h2⟩ := mapO_some hm
          obtain ⟨h3, h4⟩ := AllV_get _ _ _ _ hv
          refine AllV_of _ _ _ _ (by omega) fun i y u hy hu => ?_
          have hi : i < args.length := by rw [← h1]; exact (List.getElem?_eq_some_iff.1 hy).1
          obtain ⟨y', h5, h6⟩ := h2 i _ (List.getElem?_eq_getElem hi)
          rw [h6] at hy
          cases hy
          rcases exptA_cases h5 with ⟨e1, rfl⟩ | h5
          · have h7 := h4 i args[i] u (List.getElem?_eq_getElem hi) hu
            rw [e1] at h7
            exact h7
          refine expt_sound h (fun k hk => .inl hk) _ _ _ _ h5 (h4 i _ u (List.getElem?_eq_getElem hi) hu) fun id hid hne b hb => .inr ⟨id, List.mem_flatMap.2 ⟨_, List.getElem_mem hi, hid⟩, hne, hb⟩
        refine (hC.byval hcr hG hargs).mono fun en w' ⟨v, hen', hres⟩ => ⟨v, hen', ?_⟩
        have hres := hres.res (givesB_of (by have := ((Bool.and_eq_true _ _).mp hen).2; simpa using this))
        by_cases hs : scalarR r = true
        · have := recv_sound h (r := r) (v := v) (w' := w') (dst := dst) (d := d) (frz := []) (G := fun _ => False) (fun k hk => hk.elim) hd hfree (.inr ⟨hs, G, hres⟩)
          simpa [hs] using this
        · have := recv_sound h (r := r) (v := v) (w' := w') (dst := dst) (d := d) (frz := args.flatMap (refsOf σ.objs DEPTH)) (G := G) (fun k hk => hk) hd hfree (.inl hres)
          simpa [hs] using this
  · cases he
end
end Go.Abs
