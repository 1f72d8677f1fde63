import Derived.Test.YtkipmdkhhpicbaaGreatDoorHAbsE
set_option linter.unusedVariables false
set_option linter.unusedSimpArgs false
namespace Go.Abs
open Go.RowKit
section
variable {F : Nat → Prop} {w0 : Base} {κ : Nat → Value} {σ : Env} {a : Act} {w : World}

theorem elemT_some {P : Program} {t e : TypeId} (h : elemT P t = some e) : P.underlying t = some (.slice e) := by
  unfold elemT at h
  split at h
  · rename_i e' hu; simp only [Option.some.injEq] at h; subst h; exact hu
  · cases h
theorem idx_sound {S : Nat → Prop} {κ : Nat → Value} {objs : Nat → Option AObj} {x : AV} {v : Value} {j : Nat} (h : idx x = some j) (hv : (Rel S w κ objs x).val v) : ∃ k i, v = .int k i ∧ 0 ≤ i ∧ i.toNat = j := by
  unfold idx at h
  split at h
  · rename_i k i
    split at h
    · rename_i hi
      simp only [Option.some.injEq] at h
      simp only [Rel, one] at hv
      exact ⟨k, i, hv, hi, h⟩
    · cases h
  · cases h
theorem addr_sound (h : St F w0 κ σ a w) {P : Program} {t : TypeId} {x i y : AV} {v vi : Value} (hv : (Rel (SS F w0 κ σ w) w κ σ.objs x).val v) (hi : (Rel (SS F w0 κ σ w) w κ σ.objs i).val vi)
    (ha : addr P σ.objs t x i = some y) : ∃ u, (Instr.indexAt t v vi).run P w = .ok u w ∧ (Rel (SS F w0 κ σ w) w κ σ.objs y).val u := by
  unfold addr at ha
  cases h1 : elemT P t with
  | none => rw [h1] at ha; simp at ha
  | some e =>
  cases h2 : sizeT P e with
  | none => rw [h1] at ha; simp [h2] at ha
  | some k =>
  cases h3 : idx i with
  | none => rw [h1] at ha; simp [h2, h3] at ha
  | some j =>
  rw [h1] at ha
  simp only [Option.bind_some, h2, h3] at ha
  obtain ⟨ki, n, rfl, hn, hnj⟩ := idx_sound h3 hi
  have hu := elemT_some h1
  cases x with
  | sl xs =>
    simp only at ha
    cases hx : xs[j]? with
    | none => rw [hx] at ha; simp at ha
    | some z =>
      rw [hx] at ha
      simp only [Option.bind_some] at ha
      split at ha
      · rename_i hk
        simp only [Option.some.injEq] at ha
        subst ha
        simp only [Rel, one] at hv
        obtain ⟨A, c, rfl, hc, _, hm⟩ := hv
        have hj : j < xs.length := (List.getElem?_eq_some_iff.1 hx).1
        obtain ⟨b, o, k', rfl, hb, hm⟩ := hm (by intro e; rw [e] at hj; simp at hj)
        obtain ⟨h4, h5⟩ := hm j (Rel _ w κ (fun _ => none) z) (by rw [RelL_get, hx]; rfl)
        rw [Rel_n, hk] at h4
        subst h4
        refine ⟨.pointer (some (at_ b (o + j * k))), ?_, ?_⟩
        · unfold Instr.indexAt
          simp only [asIntOf, Sem.run_bind, Sem.run_pure, Result.andThen_ok, run_underlying hu]
          rw [if_pos ⟨hn, by omega⟩]
          simp only [Sem.run_bind, sizeT_run h2, Result.andThen_ok, Sem.run_pure, hnj, Addr.add_lit]
        · simp only [Rel, one]
          exact ⟨b, o + j * k, rfl, hb, mem_cells h5⟩
      · cases ha
  | own r g =>
    simp only at ha
    split at ha
    · rename_i e' k' xs g' fz ho
      split at ha
      · rename_i hg
        subst hg
        split at ha
        · rename_i hj
          split at ha
          · rename_i hk
            simp only [Option.some.injEq] at ha
            subst ha
            subst hk
            simp only [Rel, one] at hv
            obtain ⟨_, _, _, _, _, ho', _, h4⟩ := hv
            rw [ho] at ho'
            simp only [Option.some.injEq, AObj.row.injEq] at ho'
            obtain ⟨rfl, rfl, rfl, rfl, rfl⟩ := ho'
            have hv := h4 rfl
            obtain ⟨b, c, h5, h6, h7⟩ := row_elem h ho (List.getElem?_eq_getElem hj)
            rw [hv, h5]
            refine ⟨.pointer (some (at_ b (j * k'))), ?_, ?_⟩
            · unfold Instr.indexAt
              simp only [asIntOf, Sem.run_bind, Sem.run_pure, Result.andThen_ok, run_underlying hu]
              rw [if_pos ⟨hn, by omega⟩]
              simp only [Sem.run_bind, sizeT_run h2, Result.andThen_ok, Sem.run_pure, hnj, Addr.add_lit, Nat.zero_add]
            · simp only [Rel, one]
              exact ⟨_, _, _, _, _, ho, Nat.le_refl _, fun _ => ⟨b, by rw [h5]; rfl, rfl⟩⟩
          · cases ha
        · cases ha
      · cases ha
    · cases ha
  | _ => simp at ha
theorem faddr_sound (h : St F w0 κ σ a w) {P : Program} {s : TypeId} {f : Nat} {x y : AV} {v : Value} (hv : (Rel (SS F w0 κ σ w) w κ σ.objs x).val v) (ha : faddr P σ.objs s f x = some y) :
    ∃ u, (Instr.fieldAt s v f).run P w = .ok u w ∧ (Rel (SS F w0 κ σ w) w κ σ.objs y).val u := by
  unfold faddr at ha
  split at ha
  · rename_i fs hu
    cases hf : fs[f]? with
    | none => rw [hf] at ha; simp at ha
    | some fd =>
    cases hk : sizeT P fd.type with
    | none => rw [hf] at ha; simp [hk] at ha
    | some k =>
      rw [hf] at ha
      simp only [Option.bind_some, hk] at ha
      split at ha
      · cases ha
      · rename_i hk0
        have run : ∀ b o, (Instr.fieldAt s (.pointer (some (at_ b o))) f).run P w = .ok (.pointer (some (at_ b (o + fd.offset)))) w := by
          intro b o
          unfold Instr.fieldAt
          simp only [Sem.run_bind, run_underlying hu, Result.andThen_ok, hf, Instr.sureAddr, Sem.run_pure]
          unfold fieldPlace
          simp only [Sem.run_bind, sizeT_run hk, Result.andThen_ok, if_neg hk0, Sem.run_pure, Addr.add_lit]
        cases x with
        | ia cs off =>
          simp only [plus, Option.some.injEq] at ha
          subst ha
          simp only [Rel, one] at hv
          obtain ⟨b, o, rfl, hb, hm⟩ := hv
          refine ⟨_, run _ _, ?_⟩
          simp only [Rel, one]
          exact ⟨b, o, by rw [Nat.add_assoc], hb, hm⟩
        | oa r g i off =>
          simp only [plus] at ha
          split at ha
          · rename_i e0 k0 xs0 g0 fz0 ho0
            split at ha
            · rename_i hg0
              subst hg0
              simp only [Option.some.injEq] at ha
              subst ha
              simp only [Rel, one] at hv
              obtain ⟨e, k', xs, g', fz, ho, hg, h1⟩ := hv
              have e1 : g' = g0 := by rw [ho0] at ho; simp only [Option.some.injEq, AObj.row.injEq] at ho; exact ho.2.2.2.1.symm
              obtain ⟨b, h2, rfl⟩ := h1 e1.symm
              refine ⟨_, run _ _, ?_⟩
              simp only [Rel, one]
              exact ⟨_, _, _, _, _, ho, hg, fun _ => ⟨b, h2, by rw [Nat.add_assoc]⟩⟩
            · cases ha
          · cases ha
        | ba b0 off =>
          simp only [plus, Option.some.injEq] at ha
          subst ha
          simp only [Rel, one] at hv
          obtain ⟨cs, fz, ho, blk, h1, rfl⟩ := hv
          refine ⟨_, run _ _, ?_⟩
          simp only [Rel, one]
          exact ⟨cs, fz, ho, blk, h1, rfl⟩
        | _ => simp [plus] at ha
  · cases ha
theorem AllV_cons {S : Nat → Prop} {w : World} {κ : Nat → Value} {objs : Nat → Option AObj} {x : AV} {xs : List AV} {v : Value} {vs : List Value} (h : (Rel S w κ objs x).val v) (hs : AllV (RelL S w κ objs xs) vs) : AllV (RelL S w κ objs (x :: xs)) (v :: vs) := by
  refine ⟨by simp [RelL, hs.1], fun i r u hr hu => ?_⟩
  cases i with
  | zero =>
    simp only [RelL, List.getElem?_cons_zero, Option.some.injEq] at hr hu
    subst hr; subst hu
    exact h
  | succ i =>
    simp only [RelL, List.getElem?_cons_succ] at hr hu
    exact hs.2 i r u hr hu
theorem take_drop_V {S : Nat → Prop} {w : World} {κ : Nat → Value} {objs : Nat → Option AObj} {cs : List AV} {vs : List Value} (h : AllV (RelL S w κ objs cs) vs) (off k : Nat) : AllV (RelL S w κ objs ((cs.drop off).take k)) ((vs.drop off).take k) := by
  obtain ⟨h1, h2⟩ := AllV_get _ _ _ _ h
  refine AllV_of _ _ _ _ (by simp [h1]) fun i x u hx hu => ?_
  rw [List.getElem?_take] at hx hu
  split at hx
  · rename_i hi
    rw [if_pos hi] at hu
    rw [List.getElem?_drop] at hx hu
    exact h2 _ x u hx hu
  · cases hx
theorem fieldV_sound (h : St F w0 κ σ a w) {P : Program} {s : TypeId} {f : Nat} {x y : AV} {v : Value} (hv : (Rel (SS F w0 κ σ w) w κ σ.objs x).val v) (ha : fieldV P s f x = some y) :
    ∃ u, (Instr.field s v f).run P w = .ok u w ∧ (Rel (SS F w0 κ σ w) w κ σ.objs y).val u := by
  unfold fieldV at ha
  split at ha
  · rename_i fs hu
    cases hf : fs[f]? with
    | none => rw [hf] at ha; simp at ha
    | some fd =>
    cases hag : isAggT P fd.type with
    | none => rw [hf] at ha; simp [hag] at ha
    | some ag =>
    cases hk : sizeT P fd.type with
    | none => rw [hf] at ha; simp [hag, hk] at ha
    | some k =>
      rw [hf] at ha
      simp only [Option.bind_some, hk, hag] at ha
      cases x with
      | agg cs =>
        simp only at ha
        simp only [Rel] at hv
        obtain ⟨vs, rfl, hvs⟩ := hv
        obtain ⟨h1, h2⟩ := AllV_get _ _ _ _ hvs
        unfold Instr.field
        simp only [Sem.run_bind, run_underlying hu, Result.andThen_ok, hf, asAgg, Sem.run_pure]
        unfold part
        simp only [Sem.run_bind, isAggT_run hag, Result.andThen_ok]
        unfold takeAs at ha
        cases ag with
        | true =>
          simp only [if_true] at ha ⊢
          split at ha
          · rename_i hle
            simp only [Option.some.injEq] at ha
            subst ha
            refine ⟨.agg (vs.toArray.extract fd.offset (fd.offset + k)), by simp only [Sem.run_bind, sizeT_run hk, Result.andThen_ok, Sem.run_pure], ?_⟩
            simp only [Rel]
            refine ⟨(vs.drop fd.offset).take k, ?_, take_drop_V hvs _ _⟩
            congr 1
            apply Array.ext'
            simp [Array.toList_extract, List.extract]
          · cases ha
        | false =>
          simp only [Bool.false_eq_true, if_false] at ha ⊢
          have hlt : fd.offset < vs.length := by rw [← h1]; exact (List.getElem?_eq_some_iff.1 ha).1
          refine ⟨vs[fd.offset], ?_, h2 _ _ _ ha (List.getElem?_eq_getElem hlt)⟩
          simp only [List.getElem?_toArray, List.getElem?_eq_getElem hlt, Sem.run_pure]
      | _ => simp at ha
  · cases ha
theorem arrA_sound (h : St F w0 κ σ a w) {P : Program} {t : TypeId} {cs : List AV} {i y : AV} {v vi : Value} (hv : (Rel (SS F w0 κ σ w) w κ σ.objs (.agg cs)).val v) (hi : (Rel (SS F w0 κ σ w) w κ σ.objs i).val vi) (ha : arrA P t cs i = some y) :
    ∃ u, (Instr.index t v vi).run P w = .ok u w ∧ (Rel (SS F w0 κ σ w) w κ σ.objs y).val u := by
  unfold arrA at ha
  split at ha
  case h_2 => cases ha
  rename_i len e hu
  cases hag : isAggT P e with
  | none => simp [hag] at ha
  | some ag =>
  cases hk : sizeT P e with
  | none => simp [hag, hk] at ha
  | some k =>
  cases hj : idx i with
  | none => simp [hag, hk, hj] at ha
  | some j =>
  simp only [hag, hk, hj, Option.bind_some] at ha
  split at ha
  case isFalse => cases ha
  rename_i hjl
  obtain ⟨ki, n, rfl, hn0, hnj⟩ := idx_sound hj hi
  simp only [Rel] at hv
  obtain ⟨vs, rfl, hvs⟩ := hv
  obtain ⟨h1, h2⟩ := AllV_get _ _ _ _ hvs
  have hc : 0 ≤ n ∧ n < (len : Int) := ⟨hn0, by omega⟩
  have e0 : (Instr.index t (.agg vs.toArray) (.int ki n)).run P w = (part e vs.toArray (j * k)).run P w := by
    unfold Instr.index
    simp only [asIntOf, Sem.run_bind, Sem.run_pure, Result.andThen_ok, run_underlying hu, if_pos hc, sizeT_run hk, hnj]
  rw [e0]
  unfold part
  simp only [Sem.run_bind, isAggT_run hag, Result.andThen_ok]
  unfold takeAs at ha
  cases ag with
  | true =>
    simp only [if_true] at ha ⊢
    split at ha
    · rename_i hle
      simp only [Option.some.injEq] at ha
      subst ha
      refine ⟨.agg (vs.toArray.extract (j * k) (j * k + k)), by simp only [Sem.run_bind, sizeT_run hk, Result.andThen_ok, Sem.run_pure], ?_⟩
      simp only [Rel]
      refine ⟨(vs.drop (j * k)).take k, ?_, take_drop_V hvs _ _⟩
      congr 1
      apply Array.ext'
      simp [Array.toList_extract, List.extract]
    · cases ha
  | false =>
    simp only [Bool.false_eq_true, if_false] at ha ⊢
    have hlt : j * k < vs.length := by rw [← h1]; exact (List.getElem?_eq_some_iff.1 ha).1
    refine ⟨vs[j * k], ?_, h2 _ _ _ ha (List.getElem?_eq_getElem hlt)⟩
    simp only [List.getElem?_toArray, List.getElem?_eq_getElem hlt, Sem.run_pure]
theorem wp_value {P : Program} {o : Oper} {K : Act → World → Prop} {Q : Exit → Act → World → Prop} {v : Value} (hr : (execOp a.eval o).run P w = .ok (.value v) w) (h : K (a.put o.dst v) w) : o.wp P a w K Q := by
  unfold Oper.wp
  rw [hr]
  exact h
theorem pure2_sound {S : Nat → Prop} {objs : Nat → Option AObj} {P : Program} {f : Value → Value → Sem Value} {x y z : AV} {v u : Value} (hx : (Rel S w κ objs x).val v) (hy : (Rel S w κ objs y).val u) (h : pure2 P f x y = some z) :
    ∃ r, (f v u).run P w = .ok r w ∧ (Rel S w κ objs z).val r := by
  unfold pure2 at h
  cases h1 : toV x with
  | none => rw [h1] at h; simp at h
  | some v' =>
  cases h2 : toV y with
  | none => rw [h1] at h; simp [h2] at h
  | some u' =>
  rw [h1] at h
  simp only [Option.bind_some, h2] at h
  cases h3 : pureRun P (f v' u') with
  | none => rw [h3] at h; simp at h
  | some r =>
    rw [h3] at h
    simp only [Option.bind_some] at h
    have e1 := toV_sound S w κ objs x v' v h1 hx
    have e2 := toV_sound S w κ objs y u' u h2 hy
    subst e1; subst e2
    exact ⟨r, pureRun_sound h3 w, ofV_sound S w κ objs r z h⟩
theorem pure1_sound {S : Nat → Prop} {objs : Nat → Option AObj} {P : Program} {f : Value → Sem Value} {x z : AV} {v : Value} (hx : (Rel S w κ objs x).val v) (h : pure1 P f x = some z) :
    ∃ r, (f v).run P w = .ok r w ∧ (Rel S w κ objs z).val r := by
  unfold pure1 at h
  cases h1 : toV x with
  | none => rw [h1] at h; simp at h
  | some v' =>
  rw [h1] at h
  simp only [Option.bind_some] at h
  cases h3 : pureRun P (f v') with
  | none => rw [h3] at h; simp at h
  | some r =>
    rw [h3] at h
    simp only [Option.bind_some] at h
    have e1 := toV_sound S w κ objs x v' v h1 hx
    subst e1
    exact ⟨r, pureRun_sound h3 w, ofV_sound S w κ objs r z h⟩
theorem pickA_sound {S : Nat → Prop} {objs : Nat → Option AObj} {P : Program} {c x y z : AV} {vc vx vy : Value} (hc : (Rel S w κ objs c).val vc) (hx : (Rel S w κ objs x).val vx) (hy : (Rel S w κ objs y).val vy) (h : pickA c x y = some z) :
    ∃ t, vc = .bool t ∧ (Rel S w κ objs z).val (if t then vx else vy) := by
  unfold pickA at h
  split at h
  · rename_i t
    simp only [Rel, one] at hc
    refine ⟨t, hc, ?_⟩
    split at h
    · rename_i p q
      simp only [Option.some.injEq] at h
      subst h
      simp only [Rel, one] at hx hy ⊢
      subst hx; subst hy
      cases t <;> rfl
    · cases t <;> simp at h <;> subst h <;> simpa
  · cases h
end
end Go.Abs
