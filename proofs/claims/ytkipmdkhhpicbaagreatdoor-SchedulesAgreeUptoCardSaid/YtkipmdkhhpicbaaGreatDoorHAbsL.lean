import Derived.Test.YtkipmdkhhpicbaaGreatDoorHAbsK
set_option linter.unusedVariables false
set_option linter.unusedSimpArgs false
namespace Go.Abs
open Go.RowKit
section
variable {F : Nat → Prop} {w0 : Base} {κ : Nat → Value} {σ : Env} {a : Act} {w : World}

theorem map_some {α β : Type} {x : Option α} {f : α → β} {y : β} (h : x.map f = some y) : ∃ z, x = some z ∧ f z = y := by
  cases x with
  | none => cases h
  | some z => exact ⟨z, rfl, by simpa using h⟩
theorem bind_some' {α β : Type} {x : Option α} {f : α → Option β} {y : β} (h : x.bind f = some y) : ∃ z, x = some z ∧ f z = some y := by
  cases x with
  | none => cases h
  | some z => exact ⟨z, rfl, by simpa using h⟩
theorem argsV (h : St F w0 κ σ a w) (xs : List Operand) : AllV (RelL (SS F w0 κ σ w) w κ σ.objs (xs.map (evA σ.slots))) (xs.map a.eval) := by
  refine AllV_of _ _ _ _ (by simp) fun i x u hx hu => ?_
  rw [List.getElem?_map] at hx hu
  cases hxi : xs[i]? with
  | none => rw [hxi] at hx; cases hx
  | some y =>
    rw [hxi] at hx hu
    simp only [Option.map_some, Option.some.injEq] at hx hu
    subst hx; subst hu
    exact h.evA y
theorem build_sound (h : St F w0 κ σ a w) {P : Program} {t : TypeId} {ps : Array (Nat × Operand)} {y : AV} (hb : buildA P σ.objs t (ps.toList.map fun (i, x) => (i, evA σ.slots x)) = some y) :
    ∃ u, (Instr.build t (ps.map fun (i, x) => (i, a.eval x))).run P w = .ok u w ∧ (Rel (SS F w0 κ σ w) w κ σ.objs y).val u := by
  unfold buildA at hb
  split at hb
  · rename_i hall
    have hparts : ∀ (i : Nat) p q, (ps.toList.map fun (i, x) => (i, evA σ.slots x))[i]? = some p → (ps.map fun (i, x) => (i, a.eval x)).toList[i]? = some q → p.1 = q.1 ∧ AllV (RelL (SS F w0 κ σ w) w κ σ.objs p.2.cells) q.2.cells.toList := by
      intro i p q hp hq
      have hcn := List.all_eq_true.1 hall p (List.mem_of_getElem? hp)
      rw [Array.toList_map, List.getElem?_map] at hq
      rw [List.getElem?_map] at hp
      cases hpi : ps.toList[i]? with
      | none => rw [hpi] at hp; cases hp
      | some z =>
        rw [hpi] at hp hq
        simp only [Option.map_some, Option.some.injEq] at hp hq
        subst hp; subst hq
        exact ⟨rfl, cellsNow_val h hcn (h.evA z.2)⟩
    have zc : ∀ (zv : Value) (z : AV), ofV zv = some z → AllV (RelL (SS F w0 κ σ w) w κ σ.objs z.cells) zv.cells.toList := by
      intro zv z hz
      have hr := ofV_sound (SS F w0 κ σ w) w κ σ.objs zv z hz
      have one_ : (∀ cs, z ≠ .agg cs) → zv.cells = #[zv] → AllV (RelL (SS F w0 κ σ w) w κ σ.objs z.cells) zv.cells.toList := fun h1 h2 => by
        rw [h2]
        have : z.cells = [z] := by cases z <;> simp [AV.cells] at h1 ⊢
        rw [this]
        exact AllV_cons hr ⟨by simp [RelL], fun i r u hr => by simp [RelL] at hr⟩
      cases zv with
      | agg cs =>
        unfold ofV at hz
        simp only at hz
        obtain ⟨ys, hm, rfl⟩ := map_some hz
        simp only [Rel] at hr
        obtain ⟨vs, h1, h2⟩ := hr
        injection h1 with h1
        subst h1
        simpa [Value.cells, AV.cells] using h2
      | tuple vs => simp [ofV, cellV] at hz
      | _ =>
        refine one_ (fun cs e => ?_) rfl
        subst e
        simp only [Rel] at hr
        obtain ⟨vs, h1, _⟩ := hr
        cases h1
    have fin : ∀ (places : Nat → Option (Nat × Nat)) (zv : Value) (z : AV) (cs : List AV), ofV zv = some z → fill P z.cells places (ps.toList.map fun (i, x) => (i, evA σ.slots x)) = some cs →
        (∀ arr', Instr.fill places zv.cells (ps.map fun (i, x) => (i, a.eval x)).toList = some arr' → P.built t (ps.map fun (i, x) => (i, a.eval x)).toList = some arr') →
        ∃ u, (Instr.build t (ps.map fun (i, x) => (i, a.eval x))).run P w = .ok u w ∧ (Rel (SS F w0 κ σ w) w κ σ.objs (.agg cs)).val u := by
      intro places zv z cs hz hf hbt
      obtain ⟨arr', h1, h2⟩ := fill_sound _ _ z.cells cs zv.cells (by simp) hparts (zc zv z hz) hf
      refine ⟨_, run_build w t _ arr' (hbt arr' h1), ?_⟩
      simp only [Rel]
      exact ⟨arr'.toList, by simp, h2⟩
    split at hb
    · rename_i it e hi hu
      split at hb
      · rename_i zv ie hz hie
        obtain ⟨z, hz2, hb⟩ := bind_some' hb
        obtain ⟨cs, hf, rfl⟩ := map_some hb
        refine fin _ zv z cs hz2 hf fun arr' h1 => ?_
        simp only [Program.built, hi, hu, hz, hie]
        exact h1
      · cases hb
    · rename_i it fields hi hu
      split at hb
      · rename_i zv places hz hpl
        obtain ⟨z, hz2, hb⟩ := bind_some' hb
        obtain ⟨cs, hf, rfl⟩ := map_some hb
        refine fin _ zv z cs hz2 hf fun arr' h1 => ?_
        simp only [Program.built, hi, hu, hz, hpl]
        exact h1
      · cases hb
    · cases hb
  · cases hb
/-- Where a slice expression over a slice of n elements of room c begins and ends. -/
theorem run_cut (h : St F w0 κ σ a w) {P : Program} {t e k n c : Nat} {A : Option Addr} {lo hi : Option Operand} {l hh : Nat} (he : elemT P t = some e) (hk : sizeT P e = some k)
    (hhi : (match hi with | none => some n | some q => idx (evA σ.slots q)) = some hh) (hlo : (match lo with | none => some 0 | some q => idx (evA σ.slots q)) = some l) (h1 : l ≤ hh) (h2 : hh ≤ n) (hc : n ≤ c) :
    (Instr.sliceAt t (.slice A n c) (lo.map a.eval) (hi.map a.eval) none).run P w = .ok (.slice (if c = l then A else A.map (·.add (l * k))) (hh - l) (c - l)) w := by
  have hb : ∀ (q : Operand) (n y : Nat) (code : BoundsCode), idx (evA σ.slots q) = some n → n ≤ y → (Instr.sliceBound (a.eval q) y code).run P w = .ok n w := by
    intro q n y code hq hn
    obtain ⟨kk, i, h3, h4, h5⟩ := idx_sound hq (h.evA q)
    rw [h3]
    unfold Instr.sliceBound
    simp only [asIntOf, Sem.run_bind, Sem.run_pure, Result.andThen_ok]
    rw [if_pos ⟨h4, by omega⟩]
    simp only [Sem.run_pure, h5]
  have hbounds : (Instr.sliceBounds true n c (lo.map a.eval) (hi.map a.eval) none).run P w = .ok (l, hh, c) w := by
    unfold Instr.sliceBounds
    cases hi with
    | none =>
      simp only [Option.some.injEq] at hhi
      cases lo with
      | none => simp only [Option.some.injEq] at hlo; simp [hhi, hlo]
      | some q => simp [hb q l _ _ hlo (by omega), hhi]
    | some q2 =>
      cases lo with
      | none => simp only [Option.some.injEq] at hlo; simp [hb q2 hh c _ hhi (by omega), hlo]
      | some q => simp [hb q2 hh c _ hhi (by omega), hb q l hh _ hlo h1]
  unfold Instr.sliceAt
  simp only [Sem.run_bind, run_underlying (elemT_some he), Result.andThen_ok]
  unfold Instr.slice
  simp only [Sem.run_bind, run_underlying (elemT_some he), Result.andThen_ok, hbounds, sizeT_run hk, Sem.run_pure]
theorem slice_sound (h : St F w0 κ σ a w) {P : Program} {t e k : Nat} {xs : List AV} {v : Value} {lo hi : Option Operand} {l hh : Nat} (hv : (Rel (SS F w0 κ σ w) w κ σ.objs (.sl xs)).val v)
    (he : elemT P t = some e) (hk : sizeT P e = some k) (hhi : (match hi with | none => some xs.length | some q => idx (evA σ.slots q)) = some hh) (hlo : (match lo with | none => some 0 | some q => idx (evA σ.slots q)) = some l)
    (h1 : l ≤ hh) (h2 : hh ≤ xs.length) (hok : xs.all (elemOk P e k) = true) :
    ∃ u, (Instr.sliceAt t v (lo.map a.eval) (hi.map a.eval) none).run P w = .ok u w ∧ (Rel (SS F w0 κ σ w) w κ σ.objs (.sl ((xs.take hh).drop l))).val u := by
  simp only [Rel, one] at hv
  obtain ⟨A, c, rfl, hc, hcm, hm⟩ := hv
  have hb : ∀ (q : Operand) (n y : Nat) (code : BoundsCode), idx (evA σ.slots q) = some n → n ≤ y → (Instr.sliceBound (a.eval q) y code).run P w = .ok n w := by
    intro q n y code hq hn
    obtain ⟨kk, i, h3, h4, h5⟩ := idx_sound hq (h.evA q)
    rw [h3]
    unfold Instr.sliceBound
    simp only [asIntOf, Sem.run_bind, Sem.run_pure, Result.andThen_ok]
    rw [if_pos ⟨h4, by omega⟩]
    simp only [Sem.run_pure, h5]
  have hbounds : (Instr.sliceBounds true xs.length c (lo.map a.eval) (hi.map a.eval) none).run P w = .ok (l, hh, c) w := by
    unfold Instr.sliceBounds
    cases hi with
    | none =>
      simp only [Option.some.injEq] at hhi
      cases lo with
      | none => simp only [Option.some.injEq] at hlo; simp [hhi, hlo]
      | some q => simp [hb q l _ _ hlo (by omega), hhi]
    | some q2 =>
      cases lo with
      | none => simp only [Option.some.injEq] at hlo; simp [hb q2 hh c _ hhi (by omega), hlo]
      | some q => simp [hb q2 hh c _ hhi (by omega), hb q l hh _ hlo h1]
  refine ⟨.slice (if c = l then A else A.map (·.add (l * k))) (hh - l) (c - l), ?_, ?_⟩
  · unfold Instr.sliceAt
    simp only [Sem.run_bind, run_underlying (elemT_some he), Result.andThen_ok]
    unfold Instr.slice
    simp only [Sem.run_bind, run_underlying (elemT_some he), Result.andThen_ok, hbounds, sizeT_run hk, Sem.run_pure]
  · simp only [Rel, one]
    have hlen : ((xs.take hh).drop l).length = hh - l := by rw [List.length_drop, List.length_take]; omega
    refine ⟨_, c - l, by rw [hlen], by rw [hlen]; omega, by omega, fun hne => ?_⟩
    have hlt : l < hh := by
      rcases Nat.lt_or_ge l hh with h3 | h3
      · exact h3
      · exact absurd (List.eq_nil_of_length_eq_zero (by rw [hlen]; omega)) hne
    obtain ⟨b, o, k', rfl, hS, hm⟩ := hm (by intro e0; rw [e0] at h2; simp at h2; omega)
    have hk' : k' = k := by
      have hx : xs[l]? = some xs[l] := List.getElem?_eq_getElem (by omega)
      obtain ⟨h4, _⟩ := hm l (Rel _ w κ (fun _ => none) xs[l]) (by rw [RelL_get, hx]; rfl)
      rw [Rel_n] at h4
      have := List.all_eq_true.1 hok _ (List.getElem_mem (show l < xs.length by omega))
      unfold elemOk at this
      simp only [Bool.and_eq_true, beq_iff_eq] at this
      omega
    subst hk'
    refine ⟨b, o + l * k', k', ?_, hS, fun j r hr => ?_⟩
    · rw [if_neg (by omega)]
      simp only [Option.map_some, Addr.add_lit]
    · rw [RelL_get, List.getElem?_drop, List.getElem?_take] at hr
      split at hr
      · rename_i hj
        obtain ⟨h4, h5⟩ := hm (l + j) r (by rw [RelL_get]; exact hr)
        refine ⟨h4, ?_⟩
        have e1 : (fun i => w.cell? (at_ b (o + l * k' + j * k' + i))) = (fun i => w.cell? (at_ b (o + (l + j) * k' + i))) := by
          funext i
          rw [Nat.add_mul]
          congr 2
          omega
        rw [e1]
        exact h5
      · cases hr
end
end Go.Abs
