import Derived.Test.YtkipmdkhhpicbaaGreatDoorHAbsG
set_option linter.unusedVariables false
set_option linter.unusedSimpArgs false
namespace Go.Abs
open Go.RowKit
section
variable {F : Nat → Prop} {w0 : Base} {κ : Nat → Value} {σ : Env} {a : Act} {w : World}

theorem scalar_rel {S S' : Nat → Prop} {w w' : World} {κ κ' : Nat → Value} {objs objs' : Nat → Option AObj} {x : AV} {v : Value} (hx : (match x with | .int _ _ | .bool _ | .str _ => true | _ => false) = true) (h : (Rel S w κ objs x).val v) : (Rel S' w' κ' objs' x).val v := by
  cases x <;> simp at hx <;> simpa [Rel] using h
/-- What a call's result adds to the frame. -/
theorem recv_sound (h : St F w0 κ σ a w) {r : AV} {v : Value} {w' : World} {dst : Option Nat} {d : Nat} {frz : List Nat} {G : Nat → Prop}
    (hG : ∀ k, G k → SS F w0 κ σ w k ∨ ∃ id ∈ frz, σ.objs id ≠ none ∧ blkOf (κ id) = some k) (hd : dst.all σ.n.ok = true)
    (hfree : ∀ p ∈ (recv (8 * d) r).2, σ.objs p.1 = none)
    (hr : ResOK G (base0 w) w' r v ∨ (scalarR r = true ∧ ∃ G', ResOK G' (base0 w) w' r v)) :
    ∃ κ', St F w0 κ' (σ.eff dst { val := (recv (8 * d) r).1, news := (recv (8 * d) r).2, frz := frz }) (a.put dst v) w' := by
  have hb : Below w.heap.size w w' := by rcases hr with hr | ⟨_, _, hr⟩ <;> exact hr.below.to0
  have hbd : w.drawn ≤ w'.drawn := by rcases hr with hr | ⟨_, _, hr⟩ <;> exact hr.below.drawn
  -- scalars
  have scal : scalarR r = true → (∃ G', ResOK G' (base0 w) w' r v) → ∃ κ', St F w0 κ' (σ.eff dst { val := (recv (8 * d) r).1, news := (recv (8 * d) r).2, frz := frz }) (a.put dst v) w' := by
    rintro hs ⟨G', hr⟩
    have e1 : (recv (8 * d) r).2 = [] ∧ (recv (8 * d) r).1 = r := by
      cases r with
      | tup vs =>
        simp only [scalarR] at hs
        have key : ∀ (vs : List AV) (id : Nat), (vs.all fun | .int _ _ | .bool _ | .str _ => true | _ => false) = true → recvL id vs = (vs, []) := by
          intro vs
          induction vs with
          | nil => intro id _; rfl
          | cons x xs ih =>
            intro id hx
            simp only [List.all_cons, Bool.and_eq_true] at hx
            simp only [recvL, ih (id + 1) hx.2]
            cases x <;> simp at hx <;> simp [recv1]
        simp only [recv, key vs _ hs]
        exact ⟨trivial, trivial⟩
      | _ => simp [scalarR] at hs <;> simp [recv, recv1]
    rw [e1.1, e1.2]
    have m : Made κ κ σ w w' { val := r, news := [], frz := frz } := ⟨hb, by simp, by simp, fun _ _ => rfl, by simp, by simp, hbd⟩
    refine ⟨κ, h.made m hd (by simp) ?_⟩
    obtain ⟨us, h1, h2, h3, h4, h4'⟩ := hr.parts
    cases r with
    | tup vs =>
      simp only [partsOf] at h1
      simp only [Rel]
      simp only [compsOf] at h2 h3
      refine ⟨us, h1, AllV_of _ _ _ _ h2 fun i x u hx hu => ?_⟩
      have h5 := h3 i x u hx hu
      simp only [scalarR, List.all_eq_true] at hs
      have hx2 := hs x (List.mem_of_getElem? hx)
      have h6 : (Rel (resS G' (base0 w) w' vs us) w' κ0 o0 x).val u := by cases x <;> simp at hx2 <;> exact h5
      exact scalar_rel hx2 h6
    | int k n => simp only [partsOf] at h1; subst h1; exact scalar_rel rfl (h3 0 (.int k n) v (by simp [compsOf]) (by simp))
    | bool b => simp only [partsOf] at h1; subst h1; exact scalar_rel rfl (h3 0 (.bool b) v (by simp [compsOf]) (by simp))
    | str s => simp only [partsOf] at h1; subst h1; exact scalar_rel rfl (h3 0 (.str s) v (by simp [compsOf]) (by simp))
    | _ => simp [scalarR] at hs
  refine Or.elim hr (fun hr => ?_) (fun ⟨hs, hr⟩ => scal hs hr)
  obtain ⟨us, h1, h2, h3, h4, h4'⟩ := hr.parts
  let e : Eff := { val := (recv (8 * d) r).1, news := (recv (8 * d) r).2, frz := frz }
  let κ' : Nat → Value := fun id => if (σ.objs id).isSome then κ id else us.getD (id - 8 * d) undef
  have hnews : ∀ p ∈ e.news, ∃ i x u, (compsOf r)[i]? = some x ∧ us[i]? = some u ∧ fzObj x = some p.2 ∧ p.1 = 8 * d + i ∧ κ' p.1 = u := by
    intro p hp
    have hp' : p ∈ (recvL (8 * d) (compsOf r)).2 := by rw [← recv_eq]; exact hp
    obtain ⟨i, x, hx, ho, he⟩ := (recvL_news _ _ _).1 hp'
    have hi : i < us.length := by rw [← h2]; exact (List.getElem?_eq_some_iff.1 hx).1
    refine ⟨i, x, us[i], hx, List.getElem?_eq_getElem hi, ho, he, ?_⟩
    have := hfree p hp
    simp only [κ', this, Option.isSome_none, Bool.false_eq_true, if_false]
    rw [he]
    simp [List.getD, hi]
  have m : Made κ κ' σ w w' e := by
    refine ⟨hb, hfree, ?_, fun id hid => ?_, fun p hp b hbk => ?_, fun p hp q hq hpq b hbk => ?_, hbd⟩
    · show ((recv (8 * d) r).2.map (·.1)).Nodup
      rw [recv_eq]
      exact recvL_nodup _ _
    · simp only [κ']
      cases ho : σ.objs id with
      | none => exact absurd ho hid
      | some o => simp
    · obtain ⟨i, x, u, hx, hu, ho, he, hk⟩ := hnews p hp
      rw [hk] at hbk
      exact base0_mine.1 (h4' i _ u hx hu (fzObj_fr ho) b hbk)
    · obtain ⟨i, x, u, hx, hu, ho, he, hk⟩ := hnews p hp
      obtain ⟨j, x2, u2, hx2, hu2, ho2, he2, hk2⟩ := hnews q hq
      rw [hk] at hbk
      rw [hk2]
      refine h4 i j _ _ u u2 hx hx2 hu hu2 (fun e => hpq ?_) (fzObj_fr ho) (fzObj_fr ho2) b hbk
      rw [he, he2, e]
  -- the blocks that are written no more
  have hsub : ∀ k, resS G (base0 w) w' (compsOf r) us k → Sset F w0.mine w' κ' (σ.eff dst e).objs k := by
    rintro k ⟨hk1, hk2, hk3⟩
    have hfr : ∀ p ∈ e.news, blkOf (κ' p.1) ≠ some k := by
      intro p hp
      obtain ⟨i, x, u, hx, hu, ho, he, hk⟩ := hnews p hp
      rw [hk]
      exact hk3 i _ u hx hu (fzObj_fr ho)
    rcases hk1 with hG1 | hnew
    · rcases hG k hG1 with hs | ⟨id, hid, hne, hblk⟩
      · exact m.sub dst k hs
      · obtain ⟨o, ho⟩ := Option.ne_none_iff_exists'.1 hne
        have hlt := (h.objs id o ho).lt hblk
        refine ⟨.inr (h.mine id o k ho hblk), hk2, fun id' o' ho' hf hb' => ?_⟩
        rcases m.case dst ho' with ⟨p, hp, rfl, rfl⟩ | ⟨hne', hi', hz⟩
        · exact hfr p hp hb'
        · rw [m.old id' hne'] at hb'
          by_cases hii : id' = id
          · subst hii
            -- it is frozen
            have fro : ∀ (l : List Nat) (objs : Nat → Option AObj) (o : AObj), id' ∈ l → objs id' = some o → ∃ o2, freeze objs l id' = some o2 ∧ isFz o2 = true := by
              intro l
              induction l with
              | nil => intro objs o hm; cases hm
              | cons x l ih =>
                intro objs o hm ho
                simp only [freeze]
                by_cases hx : x = id'
                · subst hx
                  rw [ho]
                  cases o with
                  | row e1 k1 xs1 g1 f1 =>
                    simp only
                    obtain ⟨fz, hz⟩ := freeze_some l (upd objs x (some (.row e1 k1 xs1 g1 true))) x _ (upd_same _ _ _)
                    exact ⟨_, hz, by simp [orFz, isFz]⟩
                  | box c1 f1 =>
                    simp only
                    obtain ⟨fz, hz⟩ := freeze_some l (upd objs x (some (.box c1 true))) x _ (upd_same _ _ _)
                    exact ⟨_, hz, by simp [orFz, isFz]⟩
                  | mp c1 c2 f1 =>
                    simp only
                    obtain ⟨fz, hz⟩ := freeze_some l (upd objs x (some (.mp c1 c2 true))) x _ (upd_same _ _ _)
                    exact ⟨_, hz, by simp [orFz, isFz]⟩
                · have hm' : id' ∈ l := by
                    rcases List.mem_cons.1 hm with e | e
                    · exact absurd e.symm hx
                    · exact e
                  cases hox : objs x with
                  | none => exact ih objs o hm' ho
                  | some q => cases q <;> exact ih _ o hm' (by rw [upd_ne _ _ (fun e => hx e.symm)]; exact ho)
            obtain ⟨o2, ho2, hf2⟩ := fro frz σ.objs o hid ho
            have hz' : freeze σ.objs frz id' = some o' := hz
            rw [ho2] at hz'
            cases hz'
            rw [hf] at hf2
            cases hf2
          · obtain ⟨o3, ho3⟩ := Option.ne_none_iff_exists'.1 hne'
            exact h.apart id' id o3 o ho3 ho hii k hb' hblk
    · have hnew := base0_mine.1 hnew
      refine ⟨.inr (.inr (Nat.le_trans h.below.size hnew)), hk2, fun id' o' ho' hf hb' => ?_⟩
      rcases m.case dst ho' with ⟨p, hp, rfl, rfl⟩ | ⟨hne', hi', hz⟩
      · exact hfr p hp hb'
      · rw [m.old id' hne'] at hb'
        obtain ⟨o3, ho3⟩ := Option.ne_none_iff_exists'.1 hne'
        have := ((h.objs id' o3 ho3).lt hb').2
        omega
  have hobj : ∀ p ∈ e.news, (σ.eff dst e).objs p.1 = some p.2 := by
    intro p hp
    rw [(eff_objs σ dst e).1]
    exact objsL_new _ _ p m.nodup hp
  have hcomp : ∀ (i : Nat) x u, (compsOf r)[i]? = some x → us[i]? = some u → (Rel (Sset F w0.mine w' κ' (σ.eff dst e).objs) w' κ' (σ.eff dst e).objs (recv1 (8 * d + i) x).1).val u := by
    intro i x u hx hu
    have h5 := h3 i x u hx hu
    have hat : ∀ o, fzObj x = some o → (σ.eff dst e).objs (8 * d + i) = some o ∧ κ' (8 * d + i) = u := by
      intro o ho
      have hp : ((8 * d + i, o) : Nat × AObj) ∈ e.news := by
        show _ ∈ (recv (8 * d) r).2
        rw [recv_eq]
        exact (recvL_news _ _ _).2 ⟨i, x, hx, ho, rfl⟩
      obtain ⟨i', x', u', hx', hu', ho', he', hk'⟩ := hnews _ hp
      simp only at he'
      have : i' = i := by omega
      subst this
      rw [hu] at hu'
      cases hu'
      exact ⟨hobj _ hp, hk'⟩
    cases x with
    | fr ek k ys =>
      obtain ⟨h6, h7⟩ := hat _ rfl
      simp only [recv1, Rel, one]
      exact ⟨ek, k, ys, 0, false, h6, Nat.le_refl _, fun _ => h7.symm⟩
    | fb cs =>
      obtain ⟨h6, h7⟩ := hat _ rfl
      obtain ⟨blk, T, arr, h8, _⟩ := h5
      simp only [recv1, Rel, one]
      exact ⟨cs, false, h6, blk, h7.trans h8, h8⟩
    | _ =>
      simp only [recv1]
      have h6 := (Rel_mono hsub (fun _ _ => rfl) (ObjLe.none κ0 κ0) _).val _ h5
      exact (Rel_lift _).val _ h6
  refine ⟨κ', h.made m hd (fun p hp => ?_) ?_⟩
  · obtain ⟨i, x, u, hx, hu, ho, he, hk⟩ := hnews p hp
    have h5 := h3 i _ u hx hu
    rw [he]
    have hk2 : κ' (8 * d + i) = u := by rw [he] at hk; exact hk
    cases x with
    | fr ek k ys =>
      simp only [fzObj, Option.some.injEq] at ho
      rw [← ho]
      show RowOK _ w' 0 (κ' (8 * d + i)) ek k ys
      rw [hk2]
      exact RowOK.mono h5 hsub (fun _ _ => rfl) fun b hbk => ⟨rfl, Nat.zero_le _⟩
    | fb cs =>
      simp only [fzObj, Option.some.injEq] at ho
      rw [← ho]
      obtain ⟨blk, T, arr, h6, h7, h8⟩ := h5
      refine ⟨blk, T, arr, hk2.trans h6, Nat.zero_le _, h7, ?_⟩
      exact (RelL_lift cs).allV ((RelL_mono hsub (fun _ _ => rfl) (ObjLe.none κ0 κ0) cs).allV h8)
    | _ => simp [fzObj] at ho
  · cases r with
    | tup vs =>
      simp only [partsOf] at h1
      show (Rel _ w' κ' _ (AV.tup (recvL (8 * d) vs).1)).val v
      simp only [Rel]
      have hlen : (recvL (8 * d) vs).1.length = vs.length := by
        have key : ∀ (vs : List AV) (id : Nat), (recvL id vs).1.length = vs.length := by
          intro vs
          induction vs with
          | nil => intro id; rfl
          | cons x xs ih => intro id; simp [recvL, ih]
        exact key _ _
      refine ⟨us, h1, AllV_of _ _ _ _ (by rw [hlen]; exact h2) fun i x u hx hu => ?_⟩
      rw [recvL_get 0] at hx
      cases hy : vs[i]? with
      | none => rw [hy] at hx; cases hx
      | some y =>
        rw [hy] at hx
        simp only [Option.map_some, Option.some.injEq] at hx
        subst hx
        exact hcomp i y u hy hu
    | _ =>
      simp only [partsOf] at h1
      subst h1
      exact hcomp 0 _ v (by simp [compsOf]) (by simp)
end
end Go.Abs
