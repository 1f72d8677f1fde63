import Derived.Test.YtnaibaifmnjpnaaCAbsV
set_option linter.unusedVariables false
set_option linter.unusedSimpArgs false
namespace Go.Abs
open Go.RowKit
section
variable {F : Nat → Prop} {w0 : Base} {κ : Nat → Value} {σ : Env} {a : Act} {w : World}
theorem results_sound (h : St F w0 κ σ a w) {P : Program} {bv : Bool} {fn : Func} {r : AV} (hr : resultsA P bv fn σ = some r) : ∃ v, (results fn a.tmps).run P w = .ok v w ∧ ResOK F w0 w r v := by
  unfold resultsA at hr
  simp only at hr
  split at hr
  case isFalse => cases hr
  rename_i hnd
  obtain ⟨vs, hvs, hr⟩ := bind_some' hr
  split at hr
  case isFalse => cases hr
  rename_i hlen
  have hnd := noDup_spec hnd
  let no : Nat → Bool := (fn.results.toList.flatMap (claimR σ bv)).contains
  obtain ⟨hl1, hl2⟩ := mapO_some hvs
  rw [List.length_zip] at hl1
  simp only [Array.length_toList] at hl1
  -- the values
  have hone : ∀ (i : Nat), i < vs.length → ∃ rv u, fn.results[i]? = some rv ∧ (resOne a.tmps rv).run P w = .ok u w ∧ ∃ y, vs[i]? = some y ∧ ConvAs σ κ (SS F w0 κ σ w) w no bv rv y u := by
    intro i hi
    have h1 : i < fn.results.size := by omega
    have h2 : i < fn.resultTypes.size := by omega
    have hz : (fn.results.toList.zip fn.resultTypes.toList)[i]? = some (fn.results[i], fn.resultTypes[i]) := by
      rw [List.getElem?_eq_getElem (by rw [List.length_zip]; simp; omega), List.getElem_zip]
      simp
    obtain ⟨y, h3, h4⟩ := hl2 i _ hz
    obtain ⟨u, h5, h6⟩ := convR_spec h h3
    exact ⟨fn.results[i], u, Array.getElem?_eq_getElem h1, h5, y, h4, h6⟩
  let us : List Value := (List.range vs.length).map fun i => if hi : i < vs.length then Classical.choose (Classical.choose_spec (hone i hi)) else undef
  have hus : us.length = vs.length := by simp [us]
  have husi : ∀ (i : Nat) u, us[i]? = some u → ∃ rv y, fn.results[i]? = some rv ∧ (resOne a.tmps rv).run P w = .ok u w ∧ vs[i]? = some y ∧ ConvAs σ κ (SS F w0 κ σ w) w no bv rv y u := by
    intro i u hu
    have hi : i < vs.length := by rw [← hus]; exact (List.getElem?_eq_some_iff.1 hu).1
    have h0 := Classical.choose_spec (Classical.choose_spec (hone i hi))
    have h1 : us[i]? = some (Classical.choose (Classical.choose_spec (hone i hi))) := by
      simp only [us, List.getElem?_map, List.getElem?_range hi, Option.map_some, dif_pos hi]
    rw [h1] at hu
    simp only [Option.some.injEq] at hu
    subst hu
    obtain ⟨h2, h3, y, h4, h5⟩ := h0
    exact ⟨_, y, h2, h3, h4, h5⟩
  have hrun := run_results (P := P) (w := w) (fn := fn) (tmps := a.tmps) (us := us) (by omega) fun i x u hx hu => by
    obtain ⟨rv, y, h1, h2, _⟩ := husi i u hu
    rw [hx] at h1
    cases h1
    exact h2
  have hcomp : compsOf r = vs ∧ partsOf r (packV us) us := by
    match vs, hvs, hr, hus, hlen, husi with
    | [], _, hr, hus, _, _ =>
      cases hr
      have : us = [] := List.eq_nil_of_length_eq_zero hus
      rw [this]
      exact ⟨rfl, rfl⟩
    | [v], hvs, hr, hus, _, husi =>
      have hr : v = r := Option.some.inj hr
      subst hr
      obtain ⟨u, hu⟩ : ∃ u, us = [u] := by
        cases hx : us with
        | nil => rw [hx] at hus; simp at hus
        | cons u l => cases l with
          | nil => exact ⟨u, rfl⟩
          | cons _ _ => rw [hx] at hus; simp at hus
      rw [hu]
      have hnt : ∀ xs, v ≠ .tup xs := by
        intro xs e
        obtain ⟨rv, y, _, _, h3, h4⟩ := husi 0 u (by rw [hu]; rfl)
        simp only [List.getElem?_cons_zero, Option.some.injEq] at h3
        subst h3
        subst e
        cases h4
        rename_i x hx _
        exact expt_tup _ _ _ _ _ hx
      cases v with
      | tup xs => exact absurd rfl (hnt xs)
      | _ => exact ⟨rfl, rfl⟩
    | v1 :: v2 :: l, _, hr, hus, _, _ =>
      cases hr
      refine ⟨rfl, ?_⟩
      show packV us = .tuple us.toArray
      match us, hus with
      | u1 :: u2 :: l, _ => rfl
  refine ⟨packV us, hrun, h.below, us, hcomp.2, by rw [hcomp.1, hus], ?_, ?_, ?_⟩
  all_goals rw [hcomp.1]
  -- who claims what
  · have claimAt : ∀ (i : Nat) rv r, fn.results[i]? = some rv → claimR σ bv rv = [r] → no r = true := by
      intro i rv r h1 h2
      simp only [no, List.contains_iff_mem]
      refine List.mem_flatMap.2 ⟨rv, ?_, by rw [h2]; simp⟩
      have : fn.results.toList[i]? = some rv := by simpa using h1
      exact List.mem_of_getElem? this
    have claimNe : ∀ (i j : Nat) rv rv2 r r2, fn.results[i]? = some rv → fn.results[j]? = some rv2 → claimR σ bv rv = [r] → claimR σ bv rv2 = [r2] → i ≠ j → r ≠ r2 := by
      intro i j rv rv2 r r2 h1 h2 h3 h4 hij e
      have := flat_apart hnd i j rv rv2 (by simpa using h1) (by simpa using h2) hij r (by rw [h3]; simp)
      rw [h4, e] at this
      exact this (by simp)
    have hS : ∀ k, SS F w0 κ σ w k → resS F w0 w vs us k := by
      rintro k ⟨h1, h2, h3⟩
      refine ⟨h1, h2, fun i x u hx hu hf hb => ?_⟩
      obtain ⟨rv, y, _, _, h4, h5⟩ := husi i u hu
      rw [hx] at h4
      cases h4
      cases h5 with
      | fr r e k g xs ho hc => exact h3 r _ ho rfl hb
      | sl r e k g xs ho hc => cases hf
      | nils e k hk => cases hb
      | val z y u hz hzu =>
        cases x with
        | fr e k vs => exact expt_fr _ _ _ _ _ _ _ hz
        | _ => cases hf
    have hT : ∀ id o b, σ.objs id = some o → blkOf (κ id) = some b → (∀ (i : Nat) rv r, fn.results[i]? = some rv → claimR σ bv rv = [r] → (∃ e k g xs, σ.objs r = some (.row e k xs g false)) → r ≠ id) → resS F w0 w vs us b := by
      intro id o b ho hb hne
      have hlt := (h.objs id o ho).lt hb
      refine ⟨.inr (h.mine id o b ho hb), hlt.2, fun i x u hx hu hf hb2 => ?_⟩
      obtain ⟨rv, y, h3, _, h4, h5⟩ := husi i u hu
      rw [hx] at h4
      cases h4
      cases h5 with
      | fr r e k g xs ho2 hc => exact h.apart r id _ o ho2 ho (hne i rv r h3 hc ⟨e, k, g, xs, ho2⟩) b hb2 hb
      | sl r e k g xs ho hc => cases hf
      | nils e k hk => cases hb2
      | val z y u hz hzu =>
        cases x with
        | fr e k vs => exact expt_fr _ _ _ _ _ _ _ hz
        | _ => cases hf
    intro i x u hx hu
    obtain ⟨rv, y, h3, _, h4, h5⟩ := husi i u hu
    rw [hx] at h4
    cases h4
    cases h5 with
    | fr r e k g xs ho hc =>
      have h6 : RowOK _ _ _ _ _ _ _ := h.objs r _ ho
      exact h6.mono hS (fun _ _ => rfl) fun b hb => ⟨rfl, (h6.lt hb).1⟩
    | sl r e k g xs ho hc =>
      have h6 : RowOK _ _ _ _ _ _ _ := h.objs r _ ho
      refine h6.read hS fun b hb => hT r _ b ho hb fun j rv2 r2 hj hc2 hex e => ?_
      subst e
      obtain ⟨e2, k2, g2, xs2, ho2⟩ := hex
      rw [ho] at ho2
      cases ho2
    | nils e k hk =>
      exact ⟨hk, [], World.ownsRow_nil _ _ _ _, by simp, by simp [RelL]⟩
    | val z y u hz hzu =>
      have h7 := expt_sound h (T := resS F w0 w vs us) hS _ _ _ _ hz hzu fun id hid hne b hb => by
        obtain ⟨o, ho⟩ := Option.ne_none_iff_exists'.1 hne
        refine hT id o b ho hb fun j rv2 r2 hj hc2 _ e => ?_
        subst e
        have := expt_refs _ _ _ _ _ hz r2 hid
        rw [claimAt j rv2 r2 hj hc2] at this
        cases this
      cases x with
      | fr e k vs => exact absurd hz (expt_fr _ _ _ _ _ _ _)
      | _ => exact h7
  · intro i j x y u u' hx hy hu hu' hij hfx hfy b hb hb'
    obtain ⟨rv, y1, h3, _, h4, h5⟩ := husi i u hu
    obtain ⟨rv2, y2, h6, _, h7, h8⟩ := husi j u' hu'
    rw [hx] at h4
    rw [hy] at h7
    cases h4; cases h7
    cases h5 with
    | fr r e k g xs ho hc =>
      cases h8 with
      | fr r2 e2 k2 g2 xs2 ho2 hc2 =>
        have : r ≠ r2 := by
          intro e
          have := flat_apart hnd i j rv rv2 (by simpa using h3) (by simpa using h6) hij r (by rw [hc]; simp)
          rw [hc2, e] at this
          exact this (by simp)
        exact h.apart r r2 _ _ ho ho2 this b hb hb'
      | sl => cases hfy
      | nils => cases hb'
      | val z _ _ hz hzu =>
        cases y with
        | fr e k vs => exact expt_fr _ _ _ _ _ _ _ hz
        | _ => cases hfy
    | sl => cases hfx
    | nils => cases hb
    | val z _ _ hz hzu =>
      cases x with
      | fr e k vs => exact expt_fr _ _ _ _ _ _ _ hz
      | _ => cases hfx
  · intro i x u hx hu hf k hb
    obtain ⟨rv, y, h3, _, h4, h5⟩ := husi i u hu
    rw [hx] at h4
    cases h4
    cases h5 with
    | fr r e k' g xs ho hc => exact h.mine r _ k ho hb
    | sl => cases hf
    | nils => cases hb
    | val z _ _ hz hzu =>
      cases x with
      | fr e k vs => exact absurd hz (expt_fr _ _ _ _ _ _ _)
      | _ => cases hf
end
theorem mkO_mem : ∀ (l : List (Nat × AObj)) (id : Nat) (o : AObj), mkO l id = some o → (id, o) ∈ l
  | [], id, o, h => by cases h
  | (i, q) :: l, id, o, h => by
    simp only [mkO] at h
    by_cases e : id = i
    · subst e
      rw [upd_same] at h
      cases h
      simp
    · rw [upd_ne _ _ e] at h
      exact List.mem_cons_of_mem _ (mkO_mem l id o h)
theorem mkO_of : ∀ (l : List (Nat × AObj)) (id : Nat) (o : AObj), (l.map (·.1)).Nodup → (id, o) ∈ l → mkO l id = some o
  | [], id, o, _, h => by cases h
  | (i, q) :: l, id, o, hn, h => by
    simp only [List.map_cons, List.nodup_cons] at hn
    simp only [mkO]
    rcases List.mem_cons.1 h with h | h
    · cases h
      exact upd_same _ _ _
    · have : id ≠ i := fun e => hn.1 (List.mem_map.2 ⟨(id, o), h, e⟩)
      rw [upd_ne _ _ this]
      exact mkO_of l id o hn.2 h
theorem recvL_len : ∀ (vs : List AV) (id : Nat), (recvL id vs).1.length = vs.length
  | [], _ => rfl
  | x :: xs, id => by simp [recvL, recvL_len xs]
/-- The frame as a function is entered. -/
theorem frame_st {F : Nat → Prop} {b : Base} {args : List AV} {vals : List Value} (hA : ArgsOK F b args vals) (n : Nat) :
    ∃ κ, St F b κ (frame0 args n) { tmps := vals.toArray ++ Array.replicate (n - vals.toArray.size) undef, defers := [] } b.w := by
  let κ : Nat → Value := fun id => vals.getD id undef
  have hl := hA.len
  have hval : ∀ (i : Nat), i < vals.length → κ i = vals[i]! := fun i hi => by simp [κ, List.getD, hi]
  have hob : ∀ id ob, (frame0 args n).objs id = some ob → ∃ e k xs, args[id]? = some (.fr e k xs) ∧ ob = .row e k xs 0 false ∧ ∃ u, vals[id]? = some u ∧ κ id = u := by
    intro id ob ho
    obtain ⟨i, e, k, ys, hx, he⟩ := (recvL_news _ _ _).1 (mkO_mem _ _ _ ho)
    simp only [Nat.zero_add, Prod.mk.injEq] at he
    obtain ⟨rfl, rfl⟩ := he
    have hi : id < vals.length := by rw [← hl]; exact (List.getElem?_eq_some_iff.1 hx).1
    exact ⟨e, k, ys, hx, rfl, vals[id], List.getElem?_eq_getElem hi, by simp [κ, List.getD, hi]⟩
  have hS : ∀ k, F k → Sset F b.mine b.w κ (frame0 args n).objs k := fun k hk => by
    obtain ⟨h1, h2⟩ := hA.free k hk
    refine ⟨.inl hk, h1, fun id o ho _ hb => ?_⟩
    obtain ⟨e, k', xs, hx, rfl, u, hu, hk2⟩ := hob id o ho
    rw [hk2] at hb
    exact h2 ((hA.one id _ u hx hu).2 k hb)
  refine ⟨κ, fun t => ?_, fun id o ho => ?_, fun i j oi oj hi hj hij k hb hb2 => ?_, BelowB.refl _, rfl, ?_, fun id o k ho hb => ?_⟩
  · show (Rel _ b.w κ (frame0 args n).objs (mkS ((recvL 0 args).1.zipIdx.map fun p => (p.2, p.1)) t)).val _
    rcases mkS_spec ((recvL 0 args).1.zipIdx.map fun p => (p.2, p.1)) t with h | ⟨p, hp, h1, h2⟩
    · rw [h]; simp [Rel, one]
    · rw [h2]
      obtain ⟨⟨y, i⟩, hq, rfl⟩ := List.mem_map.1 hp
      have hy := List.mem_zipIdx_iff_getElem?.1 hq
      simp only at h1 hy
      subst h1
      rw [recvL_get 0 args 0 i] at hy
      cases hx : args[i]? with
      | none => rw [hx] at hy; cases hy
      | some x =>
        rw [hx] at hy
        simp only [Option.map_some, Option.some.injEq, Nat.zero_add] at hy
        subst hy
        have ht : i < args.length := (List.getElem?_eq_some_iff.1 hx).1
        have ht' : i < vals.length := by omega
        have e1 : (vals.toArray ++ Array.replicate (n - vals.toArray.size) undef).getD i undef = vals[i] := by
          simp [Array.getD_eq_getD_getElem?, Array.getElem?_append, ht']
        simp only
        rw [e1]
        have h3 := hA.one i x _ hx (List.getElem?_eq_getElem ht')
        cases x with
        | fr e k xs =>
          simp only [recv1, Rel, one]
          refine ⟨e, k, xs, 0, false, ?_, Nat.le_refl _, fun _ => by simp [κ, List.getD, ht']⟩
          exact mkO_of _ _ _ (recvL_nodup args 0) ((recvL_news _ _ _).2 ⟨i, e, k, xs, hx, by simp⟩)
        | _ =>
          simp only [recv1]
          have h4 := (Rel_mono (κ := κ0) (κ' := κ0) hS (fun _ _ => rfl) (ObjLe.none _ _) _).val _ h3
          exact (Rel_lift (κ := κ0) _).val _ h4
  · obtain ⟨e, k, xs, hx, rfl, u, hu, hk2⟩ := hob id o ho
    have h3 : RowOK F b.w 0 u e k xs := (hA.one id _ u hx hu).1
    show RowOK _ _ _ _ _ _ _
    rw [hk2]
    exact h3.mono hS (fun _ _ => rfl) fun b hb => ⟨rfl, Nat.zero_le _⟩
  · obtain ⟨e, k', xs, hx, rfl, u, hu, hk2⟩ := hob i oi hi
    obtain ⟨e2, k2, xs2, hx2, rfl, u2, hu2, hk3⟩ := hob j oj hj
    rw [hk2] at hb
    rw [hk3] at hb2
    exact hA.apart i j _ _ u u2 hx hx2 hu hu2 hij rfl rfl k hb hb2
  · show max args.length n ≤ _
    simp only [Array.size_append, List.size_toArray, Array.size_replicate]
    omega
  · obtain ⟨e, k', xs, hx, rfl, u, hu, hk2⟩ := hob id o ho
    rw [hk2] at hb
    exact .inl ((hA.one id _ u hx hu).2 k hb)
def LeafAt (P : Program) (f : Nat) (L : Callee → List AV → Option AV) : Prop := ∀ C, CallOK P C → ∀ args r, L C args = some r → ∀ (F : Nat → Prop) (b : Base) (vals : List Value), ArgsOK F b args vals →
  Calls P f vals.toArray b.w fun e w' => ∃ v, e = .returned v ∧ ResOK F b w' r v
def LeafOK (P : Program) (cfg : Cfg) : Prop := ∀ f L, cfg.leaf f = some L → LeafAt P f L
theorem callA_sound {P : Program} {cfg : Cfg} (hL : LeafOK P cfg) (hD : ∀ C, CallOK P C → DrawOK P C) : ∀ n, CallOK P (callA P cfg n)
  | 0 => fun f args r h => by simp [callA] at h
  | n + 1 => fun f args r h F b vals hA => by
    simp only [callA] at h
    have ih := callA_sound hL hD n
    split at h
    · rename_i L hLf
      exact hL f L hLf _ ih args r h F b vals hA
    · split at h
      case h_2 => cases h
      rename_i fn hfn
      unfold bodyA at h
      split at h
      case h_2 => cases h
      rename_i c hc
      have fin : ∀ x τ, execA P (callA P cfg n) (cfg.fn f) c (frame0 args fn.ntmps) = some (x, τ) → (x = .normal ∨ x = .ret) → resultsA P (cfg.fn f).byval fn τ = some r → Calls P f vals.toArray b.w fun e w' => ∃ v, e = .returned v ∧ ResOK F b w' r v := by
        intro x τ hx hxx hr
        obtain ⟨κ, hst0⟩ := frame_st hA fn.ntmps
        refine calls_of_wp hfn hc (exec_sound ih (hD _ ih) c hx hst0 fun κ' a' w' hst => ?_)
        obtain ⟨v, h1, h2⟩ := results_sound hst hr
        rcases hxx with rfl | rfl <;> exact ⟨hst.defers, v, h1, v, rfl, h2⟩
      split at h
      · rename_i τ hx
        exact fin _ _ hx (.inl rfl) h
      · rename_i τ hx
        exact fin _ _ hx (.inr rfl) h
      · cases h
end Go.Abs
