import Derived.Test.YtkipmdkhhpicbaaGreatDoorHAbsF
set_option linter.unusedVariables false
set_option linter.unusedSimpArgs false
namespace Go.Abs
open Go.RowKit
abbrev κ0 : Nat → Value := fun _ => undef
abbrev o0 : Nat → Option AObj := fun _ => none

/-- A row, as what is only read. -/
theorem RowOK.read {S T : Nat → Prop} {w : World} {B : Nat} {v : Value} {e k : Nat} {xs : List AV} {κ : Nat → Value} {objs : Nat → Option AObj} (h : RowOK S w B v e k xs) (hS : ∀ k, S k → T k) (hb : ∀ b, blkOf v = some b → T b) : (Rel T w κ objs (.sl xs)).val v := by
  obtain ⟨hk, zs, h1, h2, h3⟩ := h
  simp only [Rel, one]
  rcases h1.2 with ⟨rfl, h0⟩ | ⟨b, cap, cur, rfl, hB, hblk, hn, hcap, hsz, htake⟩
  · refine ⟨none, 0, by rw [h0], by omega, by simp, fun hne => absurd (List.eq_nil_of_length_eq_zero h0) hne⟩
  · refine ⟨some (at_ b 0), cap, rfl, hn, hcap, fun _ => ⟨b, 0, k, rfl, hb b rfl, fun j r hr => ?_⟩⟩
    have hL := RelL_mono (S := S) (S' := T) (w := w) (w' := w) (κ := fun _ => undef) (κ' := κ) hS (fun _ _ => rfl) (ObjLe.none _ _) xs
    have hi : j < (RelL S w (fun _ => undef) (fun _ => none) xs).length := by rw [hL.1]; exact (List.getElem?_eq_some_iff.1 hr).1
    have hle := hL.2 j _ _ (List.getElem?_eq_getElem hi) hr
    obtain ⟨h4, h5⟩ := h3 j _ (List.getElem?_eq_getElem hi)
    refine ⟨hle.n.trans h4, hle.mem _ ?_⟩
    have hmm : ∀ get get' : Nat → Option Value, (∀ i u, get i = some u → get' i = some u) → ∀ x, (Rel S w (fun _ => undef) (fun _ => none) x).mem get → (Rel S w (fun _ => undef) (fun _ => none) x).mem get' := by
      intro get get' hg x hx
      refine cells_mem ?_
      intro i r hr
      obtain ⟨u, h6, h7⟩ := mem_cells hx i r hr
      exact ⟨u, hg _ _ h6, h7⟩
    obtain ⟨x, hx⟩ : ∃ x, xs[j]? = some x := by
      rw [RelL_length] at hi
      exact ⟨_, List.getElem?_eq_getElem hi⟩
    have e1 : (RelL S w (fun _ => undef) (fun _ => none) xs)[j] = Rel S w (fun _ => undef) (fun _ => none) x := by
      have := RelL_get S w (fun _ => undef) (fun _ => none) xs j
      rw [hx, List.getElem?_eq_getElem hi] at this
      simpa using this
    rw [e1] at h5 ⊢
    refine hmm _ _ (fun i u hu => ?_) x h5
    have := h1.cells (g := b) rfl (j * k + i) u hu
    rw [Addr.add_lit, Nat.zero_add] at this
    rw [Nat.zero_add]
    exact this

section
variable {F : Nat → Prop} {w0 : Base} {κ : Nat → Value} {σ : Env} {a : Act} {w : World}
theorem row_elem0 (h : St F w0 κ σ a w) {r e k : Nat} {xs : List AV} {g : Nat} {fz : Bool} (hr : σ.objs r = some (.row e k xs g fz)) {j : Nat} {x : AV} (hx : xs[j]? = some x) :
    ∃ b c, κ r = .slice (some (at_ b 0)) xs.length c ∧ x.cells.length = k ∧ AllM (RelL (SS F w0 κ σ w) w κ0 o0 x.cells) (fun i => w.cell? (at_ b (j * k + i))) := by
  obtain ⟨hk, zs, h1, h2, h3⟩ := h.objs r _ hr
  have hj : j < xs.length := (List.getElem?_eq_some_iff.1 hx).1
  rcases h1.2 with ⟨_, h0⟩ | ⟨b, cap, cur, hv, hB, hblk, hn, hcap, hsz, htake⟩
  · omega
  · obtain ⟨h4, h5⟩ := h3 j (Rel _ w (fun _ => undef) (fun _ => none) x) (by rw [RelL_get, hx]; rfl)
    rw [Rel_n] at h4
    refine ⟨b, cap, hv, h4, fun i q hq => ?_⟩
    obtain ⟨u, h8, h9⟩ := mem_cells h5 i q hq
    refine ⟨u, ?_, h9⟩
    have := h1.cells (g := b) (by rw [hv]; rfl) (j * k + i) u h8
    rw [Addr.add_lit, Nat.zero_add] at this
    exact this
theorem ppC_val {T : Nat → Prop} {w : World} {κ : Nat → Value} {objs : Nat → Option AObj} (y : AV) (v : Value) (h : (Rel T w κ objs y).val v) : (Rel T w κ objs (ppC y)).val v := by
  unfold ppC
  split
  · simp only [Rel, one] at h ⊢
    obtain ⟨b, o, h1, h2, h3⟩ := h
    simp only [Bool.false_eq_true, if_false]
    exact ⟨b, o, by simpa using h1, h2, h3⟩
  · exact h
theorem ppC_all {T : Nat → Prop} {w : World} {κ : Nat → Value} {objs : Nat → Option AObj} {ys : List AV} {vs : List Value} (h : AllV (RelL T w κ objs ys) vs) : AllV (RelL T w κ objs (ys.map ppC)) vs := by
  obtain ⟨h1, h2⟩ := AllV_get _ _ _ _ h
  refine AllV_of _ _ _ _ (by rw [List.length_map]; exact h1) fun i x u hx hu => ?_
  rw [List.getElem?_map] at hx
  cases hy : ys[i]? with
  | none => rw [hy] at hx; cases hx
  | some y =>
    rw [hy] at hx
    cases hx
    exact ppC_val y u (h2 i y u hy hu)
theorem expt_sound (h : St F w0 κ σ a w) {no : Nat → Bool} {T : Nat → Prop} (hT : ∀ k, SS F w0 κ σ w k → T k) : ∀ (n : Nat) (x y : AV) (v : Value), expt no σ.objs n x = some y → (Rel (SS F w0 κ σ w) w κ σ.objs x).val v →
    (∀ id ∈ refsOf σ.objs n x, σ.objs id ≠ none → ∀ b, blkOf (κ id) = some b → T b) → (Rel T w κ0 o0 y).val v := by
  intro n
  induction n with
  | zero => intro x y v he; simp [expt] at he
  | succ n ih =>
    have list : ∀ (cs ys : List AV) (vs : List Value), mapO (expt no σ.objs n) cs = some ys → AllV (RelL (SS F w0 κ σ w) w κ σ.objs cs) vs → (∀ id ∈ cs.flatMap (refsOf σ.objs n), σ.objs id ≠ none → ∀ b, blkOf (κ id) = some b → T b) → AllV (RelL T w κ0 o0 ys) vs := by
      intro cs ys vs hm hv hr
      obtain ⟨h1, h2⟩ := mapO_some hm
      obtain ⟨h3, h4⟩ := AllV_get _ _ _ _ hv
      refine AllV_of _ _ _ _ (by omega) fun i y u hy hu => ?_
      have hi : i < cs.length := by rw [← h1]; exact (List.getElem?_eq_some_iff.1 hy).1
      obtain ⟨y', h5, h6⟩ := h2 i _ (List.getElem?_eq_getElem hi)
      rw [h6] at hy
      cases hy
      exact ih _ _ _ h5 (h4 i _ u (List.getElem?_eq_getElem hi) hu) fun id hid => hr id (List.mem_flatMap.2 ⟨_, List.getElem_mem hi, hid⟩)
    have listM : ∀ (cs ys : List AV) (get : Nat → Option Value), mapO (expt no σ.objs n) cs = some ys → AllM (RelL (SS F w0 κ σ w) w κ σ.objs cs) get → (∀ id ∈ cs.flatMap (refsOf σ.objs n), σ.objs id ≠ none → ∀ b, blkOf (κ id) = some b → T b) → AllM (RelL T w κ0 o0 ys) get := by
      intro cs ys get hm hv hr
      obtain ⟨h1, h2⟩ := mapO_some hm
      refine AllM_of fun i y hy => ?_
      have hi : i < cs.length := by rw [← h1]; exact (List.getElem?_eq_some_iff.1 hy).1
      obtain ⟨y', h5, h6⟩ := h2 i _ (List.getElem?_eq_getElem hi)
      rw [h6] at hy
      cases hy
      obtain ⟨u, h7, h8⟩ := AllM_get hv i _ (List.getElem?_eq_getElem hi)
      exact ⟨u, h7, ih _ _ _ h5 h8 fun id hid => hr id (List.mem_flatMap.2 ⟨_, List.getElem_mem hi, hid⟩)⟩
    have imm : ∀ x : AV, (∀ objs objs' κ κ', RLe (Rel (SS F w0 κ σ w) w κ objs x) (Rel (SS F w0 κ σ w) w κ' objs' x)) → True := fun _ _ => trivial
    intro x y v he hv hr
    cases x with
    | int k m => simp only [expt, Option.some.injEq] at he; subst he; simpa [Rel] using hv
    | bool b => simp only [expt, Option.some.injEq] at he; subst he; simpa [Rel] using hv
    | str s => simp only [expt, Option.some.injEq] at he; subst he; simpa [Rel] using hv
    | undef => simp [expt] at he
    | und => simp [expt] at he
    | tup vs => simp [expt] at he
    | fr e k xs => simp [expt] at he
    | fb cs => simp [expt] at he
    | inp r f => simp [expt] at he
    | vw r g i => simp [expt] at he
    | mr r =>
      simp only [expt] at he
      split at he
      · rename_i ks vs fz _ ho
        simp only [Option.some.injEq] at he
        subst he
        obtain ⟨blk, es, clock, h1, _, h2, h3, h4⟩ := h.objs r _ ho
        simp only [Rel, one] at hv
        obtain ⟨_, _, _, _, blk', h5, h6⟩ := hv
        rw [h1] at h5
        cases h5
        simp only [Rel, one]
        exact ⟨blk, es, clock, h6, hr r (by simp [refsOf]) (by rw [ho]; simp) blk (by rw [h1]; rfl), h2, (RelL_mono hT (fun _ _ => rfl) (ObjLe.none _ _) ks).allV h3, (RelL_mono hT (fun _ _ => rfl) (ObjLe.none _ _) vs).allV h4⟩
      · cases he
    | mv ks vs =>
      simp only [expt, Option.some.injEq] at he
      subst he
      have hv' : (Rel (SS F w0 κ σ w) w κ o0 (.mv ks vs)).val v := by simpa [Rel] using hv
      exact (Rel_mono hT (fun _ _ => rfl) (ObjLe.none _ _) _).val _ hv'
    | agg cs =>
      simp only [expt] at he
      cases hm : mapO (expt no σ.objs n) cs with
      | none => rw [hm] at he; simp at he
      | some ys =>
        rw [hm] at he
        simp only [Option.map_some, Option.some.injEq] at he
        subst he
        simp only [Rel] at hv ⊢
        obtain ⟨vs, h1, h2⟩ := hv
        exact ⟨vs, h1, ppC_all (list cs ys vs hm h2 (by simpa [refsOf] using hr))⟩
    | fn f cs =>
      simp only [expt] at he
      cases hm : mapO (expt no σ.objs n) cs with
      | none => rw [hm] at he; simp at he
      | some ys =>
        rw [hm] at he
        simp only [Option.map_some, Option.some.injEq] at he
        subst he
        simp only [Rel, one] at hv ⊢
        obtain ⟨vs, h1, h2⟩ := hv
        exact ⟨vs, h1, list cs ys vs hm h2 (by simpa [refsOf] using hr)⟩
    | sl xs =>
      simp only [expt, Option.some.injEq] at he
      subst he
      have hv' : (Rel (SS F w0 κ σ w) w κ o0 (.sl xs)).val v := by simpa [Rel] using hv
      exact (Rel_mono hT (fun _ _ => rfl) (ObjLe.none _ _) _).val _ hv'
    | nils =>
      simp only [expt, Option.some.injEq] at he
      subst he
      simp only [Rel, one] at hv ⊢
      exact ⟨none, 0, by simpa using hv, by simp, by simp, fun hne => absurd rfl hne⟩
    | pp nl cs =>
      simp only [expt, Option.some.injEq] at he
      subst he
      have hv' : (Rel (SS F w0 κ σ w) w κ o0 (.pp nl cs)).val v := by simpa [Rel] using hv
      exact (Rel_mono hT (fun _ _ => rfl) (ObjLe.none _ _) _).val _ hv'
    | ia cs off =>
      simp only [expt, Option.some.injEq] at he
      subst he
      have hv' : (Rel (SS F w0 κ σ w) w κ o0 (.ia cs off)).val v := by simpa [Rel] using hv
      exact (Rel_mono hT (fun _ _ => rfl) (ObjLe.none _ _) _).val _ hv'
    | own r g =>
      simp only [expt] at he
      split at he
      · rename_i e k xs g' fz _ ho
        split at he
        · rename_i hg
          subst hg
          simp only [Option.some.injEq] at he
          subst he
          simp only [Rel, one] at hv
          obtain ⟨_, _, _, _, _, ho', _, h1⟩ := hv
          rw [ho] at ho'
          simp only [Option.some.injEq, AObj.row.injEq] at ho'
          obtain ⟨rfl, rfl, rfl, rfl, rfl⟩ := ho'
          rw [h1 rfl]
          exact RowOK.read (h.objs r _ ho) hT fun b hb => hr r (by simp [refsOf]) (by rw [ho]; simp) b hb
        · cases he
      · cases he
    | oa r g i off =>
      simp only [expt] at he
      split at he
      · rename_i e k xs g' fz _ ho
        split at he
        · rename_i hg
          subst hg
          cases hx : xs[i]? with
          | none => rw [hx] at he; simp at he
          | some x =>
            rw [hx] at he
            simp only [Option.map_some, Option.some.injEq] at he
            subst he
            simp only [Rel, one] at hv
            obtain ⟨_, _, _, _, _, ho', _, h1⟩ := hv
            rw [ho] at ho'
            simp only [Option.some.injEq, AObj.row.injEq] at ho'
            obtain ⟨rfl, rfl, rfl, rfl, rfl⟩ := ho'
            obtain ⟨b, h2, h3⟩ := h1 rfl
            obtain ⟨b', c, h4, h5, h6⟩ := row_elem0 h ho hx
            have hb := hr r (by simp [refsOf]) (by rw [ho]; simp) b h2
            rw [h4] at h2
            simp only [blkOf, Option.some.injEq] at h2
            subst h2
            simp only [Rel, one]
            refine ⟨b', i * k, h3, hb, ?_⟩
            exact (RelL_mono hT (fun _ _ => rfl) (ObjLe.none _ _) x.cells).allM h6
        · cases he
      · cases he
    | ba b0 off =>
      simp only [expt] at he
      split at he
      · rename_i cs fz _ ho
        cases hm : mapO (expt no σ.objs n) cs with
        | none => rw [hm] at he; simp at he
        | some ys =>
          rw [hm] at he
          simp only [Option.map_some, Option.some.injEq] at he
          subst he
          have hb := behind_sound h hv (cs := cs) (off := off) (by simp [behind, ho])
          obtain ⟨b, o, h1, h2⟩ := hb
          simp only [Rel, one] at hv
          obtain ⟨_, _, ho', blk, h3, h4⟩ := hv
          have h5 : b = blk := by rw [h1] at h4; injection h4 with h4; injection h4 with h4; injection h4
          subst h5
          simp only [Rel, one]
          refine ⟨b, o, h1, hr b0 (by simp [refsOf, ho]) (by rw [ho]; simp) b (by rw [h3]; rfl), ?_⟩
          exact listM cs ys _ hm h2 fun id hid => hr id (by simp only [refsOf, ho]; exact List.mem_cons_of_mem _ hid)
      · cases he
end

/-! ### Calls -/
def compOK (S : Nat → Prop) (w : World) (B : Nat) : AV → Value → Prop
  | .fr e k xs, u => RowOK S w B u e k xs
  | .fb cs, u => BoxOK S w u cs
  | x, u => (Rel S w κ0 o0 x).val u
def compsOf : AV → List AV
  | .tup xs => xs
  | x => [x]
def partsOf (r : AV) (v : Value) (us : List Value) : Prop := match r with
  | .tup _ => v = .tuple us.toArray
  | _ => us = [v]
def resS (F : Nat → Prop) (b : Base) (w' : World) (xs : List AV) (us : List Value) (k : Nat) : Prop :=
  (F k ∨ b.mine k) ∧ k < w'.heap.size ∧ ∀ (i : Nat) x u, xs[i]? = some x → us[i]? = some u → isFr x = true → blkOf u ≠ some k
structure ResOK (F : Nat → Prop) (b : Base) (w' : World) (r : AV) (v : Value) : Prop where
  below : BelowB b w'
  parts : ∃ us : List Value, partsOf r v us ∧ (compsOf r).length = us.length ∧
    (∀ (i : Nat) x u, (compsOf r)[i]? = some x → us[i]? = some u → compOK (resS F b w' (compsOf r) us) w' 0 x u) ∧
    (∀ (i j : Nat) x y u u', (compsOf r)[i]? = some x → (compsOf r)[j]? = some y → us[i]? = some u → us[j]? = some u' → i ≠ j → isFr x = true → isFr y = true → ∀ b, blkOf u = some b → blkOf u' ≠ some b) ∧
    (∀ (i : Nat) x u, (compsOf r)[i]? = some x → us[i]? = some u → isFr x = true → ∀ k, blkOf u = some k → b.mine k)
/-- A call that turned what its first argument leads to. -/
def inpS (F : Nat → Prop) (b : Base) (w' : World) (k : Nat) : Prop := (F k ∨ b.mine k) ∧ k < w'.heap.size ∧ blkOf b.arg ≠ some k
structure InpOK (F : Nat → Prop) (b : Base) (w' : World) (r fin : AV) (v : Value) : Prop where
  below : BelowB b w'
  rel : (Rel (inpS F b w') w' κ0 o0 r).val v
  obj : compOK (inpS F b w') w' 0 fin b.arg
  isfr : isFr fin = true
def ResX (P : Program) (f : Nat) (F : Nat → Prop) (b : Base) (w' : World) (r : AV) (v : Value) : Prop :=
  if inplB P f = true then ∃ r0 fin, r = .inp r0 fin ∧ InpOK F b w' r0 fin v else ResOK F b w' r v
/-- An argument: by value, or a row that is handed over. -/
def argOK (F : Nat → Prop) (b : Base) : AV → Value → Prop
  | .fr e k xs, u => RowOK F b.w 0 u e k xs ∧ ∀ k, blkOf u = some k → b.own k
  | .fb cs, u => BoxOK F b.w u cs ∧ ∀ k, blkOf u = some k → b.own k
  | x, u => (Rel F b.w κ0 o0 x).val u
structure ArgsOK (F : Nat → Prop) (b : Base) (args : List AV) (vals : List Value) : Prop where
  len : args.length = vals.length
  one : ∀ (i : Nat) x u, args[i]? = some x → vals[i]? = some u → argOK F b x u
  apart : ∀ (i j : Nat) x y u u', args[i]? = some x → args[j]? = some y → vals[i]? = some u → vals[j]? = some u' → i ≠ j → isFr x = true → isFr y = true → ∀ k, blkOf u = some k → blkOf u' ≠ some k
  free : ∀ k, F k → k < b.w.heap.size ∧ ¬ b.own k
  arg0 : ∀ x u, args[0]? = some x → vals[0]? = some u → isFr x = true → b.arg = u
def CallOK (P : Program) (C : Callee) : Prop := ∀ f args r, C f args = some r → ∀ (F : Nat → Prop) (b : Base) (vals : List Value), ArgsOK F b args vals →
  Calls P f vals.toArray b.w fun e w' => ∃ v, e = .returned v ∧ ResX P f F b w' r v
theorem argsOK_byval {F : Nat → Prop} {w : World} {args : List AV} {vals : List Value} (hF : ∀ k, F k → k < w.heap.size) (hv : AllV (RelL F w κ0 o0 args) vals) : ArgsOK F (base0 w) args vals := by
  have key : ∀ (i : Nat) x u, args[i]? = some x → vals[i]? = some u → (Rel F w κ0 o0 x).val u := fun i x u hx hu => hv.2 i _ u (by rw [RelL_get, hx]; rfl) hu
  have nofr : ∀ (i : Nat) x u, args[i]? = some x → vals[i]? = some u → isFr x = true → False := fun i x u hx hu hf => by
    have h1 := key i x u hx hu
    cases x with
    | fr e k xs => simp [Rel, one] at h1
    | fb cs => simp [Rel, one] at h1
    | _ => cases hf
  refine ⟨by simpa [RelL_length] using hv.1, fun i x u hx hu => ?_, fun i j x y u u' hx hy hu hu' hij hfx => ?_, fun k hk => ⟨hF k hk, fun h => h.elim⟩, fun x u hx hu hf => (nofr 0 x u hx hu hf).elim⟩
  · have h1 := key i x u hx hu
    cases x with
    | fr e k xs => simp [Rel, one] at h1
    | fb cs => simp [Rel, one] at h1
    | _ => exact h1
  · exact (nofr i x u hx hu hfx).elim
theorem CallOK.byval {P : Program} {C : Callee} (h : CallOK P C) {f : Nat} {args : List AV} {r : AV} (hc : C f args = some r) {F : Nat → Prop} {w : World} {vals : List Value} (hF : ∀ k, F k → k < w.heap.size) (hv : AllV (RelL F w κ0 o0 args) vals) :
    Calls P f vals.toArray w fun e w' => ∃ v, e = .returned v ∧ ResX P f F (base0 w) w' r v := h f args r hc F (base0 w) vals (argsOK_byval hF hv)
theorem ResX.res {P : Program} {f : Nat} {F : Nat → Prop} {b : Base} {w' : World} {r : AV} {v : Value} (h : ResX P f F b w' r v) (hi : inplB P f = false) : ResOK F b w' r v := by
  unfold ResX at h
  rw [hi] at h
  simpa using h
theorem ResX.inp {P : Program} {f : Nat} {F : Nat → Prop} {b : Base} {w' : World} {r : AV} {v : Value} (h : ResX P f F b w' r v) (hi : inplB P f = true) : ∃ r0 fin, r = .inp r0 fin ∧ InpOK F b w' r0 fin v := by
  unfold ResX at h
  rw [hi] at h
  simpa using h
theorem ResOK.x {P : Program} {f : Nat} {F : Nat → Prop} {b : Base} {w' : World} {r : AV} {v : Value} (h : ResOK F b w' r v) (hi : inplB P f = false) : ResX P f F b w' r v := by
  unfold ResX
  rw [hi]
  simpa using h
theorem InpOK.x {P : Program} {f : Nat} {F : Nat → Prop} {b : Base} {w' : World} {r fin : AV} {v : Value} (h : InpOK F b w' r fin v) (hi : inplB P f = true) : ResX P f F b w' (.inp r fin) v := by
  unfold ResX
  rw [hi]
  exact ⟨r, fin, rfl, h⟩
theorem givesB_of {P : Program} {f : Nat} (h : givesB P f = false) : inplB P f = false := by
  unfold givesB at h
  unfold inplB
  split at h <;> simp_all
/-- What is handed over becomes an object of the frame. -/
def fzObj : AV → Option AObj
  | .fr e k ys => some (.row e k ys 0 false)
  | .fb cs => some (.box cs false)
  | _ => none
theorem fzObj_fr {x : AV} {o : AObj} (h : fzObj x = some o) : isFr x = true := by cases x <;> simp_all [fzObj, isFr]
theorem fzObj_none {x : AV} (h : fzObj x = none) : isFr x = false := by cases x <;> simp_all [fzObj, isFr]
theorem fzObj_unf {x : AV} {o : AObj} (h : fzObj x = some o) : isFz o = false := by
  cases x <;> simp [fzObj] at h <;> subst h <;> rfl
theorem recv1_news (id : Nat) (x : AV) : (recv1 id x).2 = match fzObj x with
    | some o => [(id, o)]
    | none => [] := by cases x <;> rfl
theorem recvL_get (id : Nat) : ∀ (xs : List AV) (id : Nat) (i : Nat), (recvL id xs).1[i]? = (xs[i]?).map fun x => (recv1 (id + i) x).1
  | [], id, i => by simp [recvL]
  | x :: xs, id, 0 => by simp [recvL]
  | x :: xs, id, i + 1 => by
    simp only [recvL, List.getElem?_cons_succ]
    rw [recvL_get 0 xs (id + 1) i, show id + 1 + i = id + (i + 1) by omega]
theorem recvL_news : ∀ (xs : List AV) (id : Nat) (p : Nat × AObj), p ∈ (recvL id xs).2 ↔ ∃ i x, xs[i]? = some x ∧ fzObj x = some p.2 ∧ p.1 = id + i
  | [], id, p => by simp [recvL]
  | x :: xs, id, p => by
    simp only [recvL, List.mem_append]
    rw [recvL_news xs (id + 1) p, recv1_news]
    constructor
    · rintro (h | ⟨i, y, h1, h2, h3⟩)
      · split at h
        · rename_i o ho
          simp only [List.mem_singleton] at h
          subst h
          exact ⟨0, x, by simp, ho, rfl⟩
        · cases h
      · exact ⟨i + 1, y, by simpa using h1, h2, by omega⟩
    · rintro ⟨i, y, h1, h2, h3⟩
      cases i with
      | zero =>
        simp only [List.getElem?_cons_zero, Option.some.injEq] at h1
        subst h1
        refine .inl ?_
        rw [h2]
        simp only [List.mem_singleton]
        exact Prod.ext h3 rfl
      | succ i => exact .inr ⟨i, y, by simpa using h1, h2, by omega⟩
theorem recvL_nodup : ∀ (xs : List AV) (id : Nat), ((recvL id xs).2.map (·.1)).Nodup
  | [], id => by simp [recvL]
  | x :: xs, id => by
    simp only [recvL, List.map_append]
    refine List.nodup_append.2 ⟨?_, recvL_nodup xs (id + 1), ?_⟩
    · rw [recv1_news]
      split <;> simp
    · intro p hp q hq e
      subst e
      obtain ⟨q1, hq1, rfl⟩ := List.mem_map.1 hq
      obtain ⟨i, y, h1, h2, h3⟩ := (recvL_news xs (id + 1) _).1 hq1
      rw [recv1_news] at hp
      split at hp
      · simp only [List.map_cons, List.map_nil, List.mem_singleton] at hp
        omega
      · cases hp
theorem recv_eq (id : Nat) (r : AV) : (recv id r).2 = (recvL id (compsOf r)).2 := by
  cases r <;> simp [recv, compsOf, recvL]
end Go.Abs
