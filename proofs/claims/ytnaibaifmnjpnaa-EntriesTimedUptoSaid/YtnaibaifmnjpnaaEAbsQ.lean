import Derived.Test.YtnaibaifmnjpnaaEAbsP
set_option linter.unusedVariables false
set_option linter.unusedSimpArgs false
namespace Go.Abs
open Go.RowKit
section
variable {F : Nat → Prop} {w0 : World} {κ : Nat → Value} {σ : Env} {a : Act} {w : World}
theorem newsA_sound (h : St F w0 κ σ a w) {y : AV} {vy : Value} {frz : List Nat} {ys : List AV} (hy : (Rel (SS F w0 κ σ w) w κ σ.objs y).val vy) (hn : newsA σ.objs y = some (frz, ys)) :
    (Rel (fun b => SS F w0 κ σ w b ∨ ∃ id ∈ frz, σ.objs id ≠ none ∧ blkOf (κ id) = some b) w (fun _ => undef) (fun _ => none) (.sl ys)).val vy := by
  cases y with
  | own r g =>
    simp only [newsA] at hn
    split at hn
    case h_2 => cases hn
    rename_i e k xs g' fz hr
    split at hn
    case isFalse => cases hn
    rename_i hg
    cases hn
    simp only [Rel, one] at hy
    obtain ⟨_, _, _, _, _, hr', _, h1⟩ := hy
    rw [hr] at hr'
    cases hr'
    rw [h1 hg.symm]
    have ho : RowOK _ _ _ _ _ _ _ := h.objs r _ hr
    exact ho.read (fun _ hk => .inl hk) fun b hb => .inr ⟨r, by simp, by rw [hr]; simp, hb⟩
  | sl xs =>
    simp only [newsA] at hn
    cases hn
    have h2 : (Rel (SS F w0 κ σ w) w κ (fun _ => none) (.sl ys)).val vy := by simpa only [Rel] using hy
    exact (Rel_mono (fun _ hk => .inl hk) (fun _ _ => rfl) (ObjLe.none _ _) (.sl ys)).val _ h2
  | nils =>
    simp only [newsA] at hn
    cases hn
    simp only [Rel, one] at hy ⊢
    exact ⟨none, 0, hy, by simp, by simp [maxLen], fun hne => absurd rfl hne⟩
  | _ => simp [newsA] at hn
theorem append_sound (h : St F w0 κ σ a w) {P : Program} {t ty : TypeId} {x y val : AV} {vx vy : Value} {r d : Nat} {o : AObj} {frz : List Nat} {dst : Option Nat}
    (hx : (Rel (SS F w0 κ σ w) w κ σ.objs x).val vx) (hy : (Rel (SS F w0 κ σ w) w κ σ.objs y).val vy) (hs : appendA P σ d t x y = some (r, o, frz, val)) (hd : dst.all (· < σ.n) = true) :
    ∃ v' w', (Builtin.append_ #[t, t] ty #[vx, vy]).run P w = .ok v' w' ∧ ∃ κ', St F w0 κ' ((σ.turn r o frz).put dst val) (a.put dst v') w' := by
  unfold appendA at hs
  obtain ⟨⟨frz', ys⟩, hn, hs⟩ := bind_some' hs
  obtain ⟨e, he, hs⟩ := bind_some' hs
  obtain ⟨k, hk, hs⟩ := bind_some' hs
  obtain ⟨b, hb, hs⟩ := bind_some' hs
  split at hs
  case isFalse => cases hs
  rename_i hro
  obtain ⟨i, z, hi, hik, hk0, hz, hzk⟩ := rowOk_info hro.1
  subst hik
  have hbi : i.bytes = b := by
    unfold bytesT at hb
    rw [hi] at hb
    simpa using hb
  subst hbi
  obtain ⟨news, A, c, rfl, hnl, hn1, hA, hnc⟩ := sl_news (newsA_sound h hy hn) hro.2 hk0
  have hA' : (A = none ∧ ys.length = 0) ∨ ∃ ad, A = some ad ∧ ∀ j u, news[j]? = some u → w.cell? (ad.add j) = some u := by
    rcases hA with ⟨h1, h2⟩ | h1
    · exact .inl ⟨h1, by rw [h2]; rfl⟩
    · exact .inr h1
  have ht := elemT_some he
  -- one shape for both
  have fin : ∀ (xs : List AV) (g g' : Nat) (zs : List Value) (S0 : Nat → Prop), (∀ k, S0 k → SS F w0 κ σ w k) → r ∉ frz' → w.ownsRow w0.heap.size e i.size vx xs.length zs → (∀ u ∈ zs, u.oneCell' = true) →
      (∀ (j : Nat) q, (RelL S0 w (fun _ => undef) (fun _ => none) xs)[j]? = some q → q.n = i.size ∧ q.mem (fun c => zs[j * i.size + c]?)) →
      ((σ.objs r = some (.row e i.size xs g false) ∧ vx = κ r ∧ g' = g + 1) ∨ (σ.objs r = none ∧ vx = .slice none 0 0 ∧ g' = 0)) → o = .row e i.size (xs ++ ys) g' false → frz = frz' → val = .own r g' →
      xs.length + ys.length ≤ maxLen → (xs.length + ys.length) * i.bytes ≤ 140737488355328 →
      ∃ v' w', (Builtin.append_ #[t, t] ty #[vx, .slice A ys.length c]).run P w = .ok v' w' ∧ ∃ κ', St F w0 κ' ((σ.turn r o frz).put dst val) (a.put dst v') w' := by
    intro xs g g' zs S0 hS0 hnot hown hzone hzs hcase ho hf hv hmax hby
    subst ho; subst hf; subst hv
    obtain ⟨v', w', hrun, hown', hgr, hblk⟩ := run_append_any w w0.heap.size t ty e i z ht hi hz hzk hk0 vx xs.length zs hown A ys.length c news hnl hA' hn1 hmax hby h.below.size
    refine ⟨v', w', hrun, ?_⟩
    have hob : ∀ b, vx.ownBlock = some b → blkOf vx = some b := by
      intro b hb
      cases vx <;> simp [Value.ownBlock] at hb
      rename_i A n c
      cases A <;> simp [Value.ownBlock] at hb
      simp [blkOf, hb]
    have m : Turn κ σ w w' r (.row e i.size (xs ++ ys) g' false) v' frz := by
      refine ⟨hgr.size, fun k hk hne => hgr.block k hk fun ek => ?_, fun o ho => ?_, hnot, fun b hb => ?_, fun o ho => ?_⟩
      · have h2 := hob k ek.symm
        rcases hcase with ⟨h3, h4, _⟩ | ⟨h3, h4, _⟩
        · rw [h4] at h2
          exact hne _ h3 h2
        · rw [h4] at h2; cases h2
      · rcases hcase with ⟨h3, _⟩ | ⟨h3, _⟩ <;> rw [h3] at ho <;> cases ho
        rfl
      · rcases hblk b hb with h2 | h2
        · rcases hcase with ⟨h3, h4, _⟩ | ⟨h3, h4, _⟩
          · rw [h4] at h2
            exact .inl ⟨_, h3, h2⟩
          · rw [h4] at h2; cases h2
        · exact .inr h2
      · rcases hcase with ⟨h3, h4, h5⟩ | ⟨h3, _⟩ <;> rw [h3] at ho <;> cases ho
        exact ⟨_, g', rfl, by omega, fun e => by omega⟩
    have hS := fun k => m.sub (F := F) (w0 := w0) k
    have hwS := fun k => m.keepS (F := F) (w0 := w0) k
    have hbel : Below w0.heap.size w0 w' := h.below.grown hgr h.below.size fun k hk => (hown.lt k hk).1
    refine ⟨_, h.turned m hbel hd ⟨hk0, zs ++ news, ?_, ?_, ?_⟩ ?_⟩
    · rw [upd_same, List.length_append]
      exact hown'
    · intro u hu
      rcases List.mem_append.1 hu with hu | hu
      · exact hzone u hu
      · exact hn1 u hu
    · intro j rel hj
      rw [RelL_get] at hj
      have hzl : zs.length = xs.length * i.size := hown.1
      by_cases hjx : j < xs.length
      · rw [List.getElem?_append_left hjx, List.getElem?_eq_getElem hjx] at hj
        simp only [Option.map_some, Option.some.injEq] at hj
        subst hj
        obtain ⟨h4, h5⟩ := hzs j (Rel S0 w (fun _ => undef) (fun _ => none) xs[j]) (by rw [RelL_get, List.getElem?_eq_getElem hjx]; rfl)
        rw [Rel_n] at h4
        refine ⟨by rw [Rel_n]; exact h4, cells_mem ?_⟩
        have h6 := (RelL_mono (κ := fun _ => undef) (κ' := fun _ => undef) (fun k hk => hS k (hS0 k hk)) (fun k hk => hwS k (hS0 k hk)) (ObjLe.none _ _) (xs[j]).cells).allM (mem_cells h5)
        refine AllM_lt h6 fun p hp => ?_
        have hjk : j * i.size + i.size ≤ xs.length * i.size := by
          have := Nat.mul_le_mul_right i.size (show j + 1 ≤ xs.length from hjx)
          rwa [Nat.add_mul, Nat.one_mul] at this
        exact List.getElem?_append_left (by omega)
      · rw [List.getElem?_append_right (by omega)] at hj
        cases hq : ys[j - xs.length]? with
        | none => rw [hq] at hj; cases hj
        | some q =>
          rw [hq] at hj
          simp only [Option.map_some, Option.some.injEq] at hj
          subst hj
          obtain ⟨h4, h5⟩ := hnc _ _ hq
          refine ⟨by rw [Rel_n]; exact h4, cells_mem ?_⟩
          have h6 := (RelL_mono (κ := fun _ => undef) (κ' := fun _ => undef) (S' := Sset F w0.heap.size w' (upd κ r v') (σ.turn r (.row e i.size (xs ++ ys) g' false) frz).objs) (w' := w') ?_ ?_ (ObjLe.none _ _) q.cells).allM h5
          · refine AllM_lt h6 fun p hp => ?_
            have e1 : j * i.size = xs.length * i.size + (j - xs.length) * i.size := by
              rw [← Nat.add_mul]
              congr 1
              omega
            rw [List.getElem?_append_right (by omega)]
            congr 1
            omega
          · rintro b' (hb' | ⟨id, hid, hne, hb'⟩)
            · exact hS b' hb'
            · exact m.frozen h hid hne hb'
          · rintro b' (hb' | ⟨id, hid, hne, hb'⟩)
            · exact hwS b' hb'
            · obtain ⟨o, ho⟩ := Option.ne_none_iff_exists'.1 hne
              exact m.other h (fun e => hnot (e ▸ hid)) ho hb'
    · simp only [Rel, one]
      exact ⟨e, i.size, xs ++ ys, g', false, by rw [turn_objs, if_pos rfl], Nat.le_refl _, fun _ => (upd_same _ _ _).symm⟩
  cases x with
  | own r' g =>
    simp only at hs
    split at hs
    case h_2 => cases hs
    rename_i e' k' xs g' hr
    split at hs
    case isFalse => cases hs
    rename_i hc
    obtain ⟨h1, h2, h3, h4, h5, h6⟩ := hc
    subst h1; subst h2; subst h3
    cases hs
    simp only [Rel, one] at hx
    obtain ⟨_, _, _, _, _, hr', _, hxv⟩ := hx
    rw [hr] at hr'
    cases hr'
    obtain ⟨_, zs, hown, hzone, hzs⟩ := h.objs r _ hr
    have hvx := hxv rfl
    refine fin xs g' (g' + 1) zs _ (fun _ hk => hk) (fun hm => ?_) (by rw [hvx]; exact hown) hzone hzs (.inl ⟨hr, hvx, rfl⟩) rfl rfl rfl h5 h6
    have := List.all_eq_true.1 h4 r hm
    simp at this
  | nils =>
    simp only at hs
    split at hs
    case isFalse => cases hs
    rename_i hc
    obtain ⟨h1, h4, h5, h6⟩ := hc
    cases hs
    simp only [Rel, one] at hx
    refine fin [] 0 0 [] (fun _ => False) (fun _ hk => hk.elim) (fun hm => ?_) (by rw [hx]; exact World.ownsRow_nil _ _ _ _) (by simp) (by simp [RelL]) (.inr ⟨by simpa using h1, hx, rfl⟩) rfl rfl rfl (by simpa using h5) (by simpa using h6)
    have := List.all_eq_true.1 h4 _ hm
    simp at this
  | _ => simp at hs
theorem mod_sound (h : St F w0 κ σ a w) {P : Program} {o : Oper} {σ' : Env} (hm : modOf P σ o.dst o.op = some σ') (hd : o.dst.all (· < σ.n) = true) {K : Act → World → Prop} {Q : Exit → Act → World → Prop}
    (hK : ∀ κ' a' w', St F w0 κ' σ' a' w' → K a' w') : o.wp P a w K Q := by
  cases hop : o.op with
  | store t p x =>
    rw [hop] at hm
    simp only [modOf] at hm
    obtain ⟨k, h1, hm⟩ := bind_some' hm
    split at hm
    case isFalse => cases hm
    rename_i hl
    obtain ⟨⟨r, ob, frz⟩, h2, h3⟩ := map_some hm
    obtain ⟨w', h4, κ', h5⟩ := store_sound h (h.evA x) (h.evA p) h1 hl h2 hd
    subst h3
    unfold Oper.wp
    simp only [execOp, hop, Sem.run_bind, h4, Result.andThen_ok]
    exact hK κ' _ _ h5
  | call c =>
    rw [hop] at hm
    simp only [modOf] at hm
    split at hm
    case h_2 => cases hm
    rename_i x y t t' d hcal hargs hats hdst
    split at hm
    case isFalse => cases hm
    rename_i htt
    subst htt
    obtain ⟨⟨r, ob, frz, v⟩, h2, h3⟩ := map_some hm
    obtain ⟨v', w', h4, κ', h5⟩ := append_sound (ty := o.type) h (h.evA x) (h.evA y) h2 hd
    subst h3
    have e1 : c.args.map a.eval = #[a.eval x, a.eval y] := by
      apply Array.ext'
      simp [hargs]
    have e2 : c.argTypes = #[t', t'] := by
      apply Array.ext'
      simp [hats]
    refine wp_ran (v := v') (w' := w') ?_ (by rw [hdst] at h5; rw [hdst]; exact hK κ' _ _ h5)
    simp only [execOp, hop]
    unfold resolve
    simp only [hcal]
    rw [Sem.run_bind, Sem.run_pure, Result.andThen_ok]
    simp only [invoke, builtin, e1, e2]
    rw [Sem.run_bind, h4]
    rfl
  | _ => rw [hop] at hm; simp [modOf] at hm
end
end Go.Abs
