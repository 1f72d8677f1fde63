import Derived.Test.YtnaibaifmnjpnaaRAbsC
set_option linter.unusedVariables false
set_option linter.unusedSimpArgs false
namespace Go.Abs
open Go.RowKit

theorem upd_same {α : Type} (s : Nat → α) (i : Nat) (v : α) : upd s i v i = v := by simp [upd]
theorem upd_ne {α : Type} (s : Nat → α) {i j : Nat} (v : α) (h : j ≠ i) : upd s i v j = s j := by simp [upd, h]

/-! ### Frozen rows -/
def orFz : AObj → Bool → AObj
  | .row e k xs g f, fz => .row e k xs g (f || fz)
  | .box cs f, fz => .box cs (f || fz)
theorem orFz_false (o : AObj) : orFz o false = o := by cases o <;> simp [orFz]
theorem freeze_some : ∀ (l : List Nat) (objs : Nat → Option AObj) (id : Nat) (o : AObj), objs id = some o →
    ∃ fz, freeze objs l id = some (orFz o fz)
  | [], objs, id, o, h => ⟨false, by rw [orFz_false]; exact h⟩
  | r :: rs, objs, id, o, h => by
    simp only [freeze]
    cases hr : objs r with
    | none => exact freeze_some rs objs id o h
    | some q =>
      by_cases e : id = r
      · subst e
        rw [h] at hr
        cases hr
        cases o with
        | row e' k xs g f =>
          obtain ⟨fz, hz⟩ := freeze_some rs (upd objs id (some (.row e' k xs g true))) id _ (upd_same _ _ _)
          exact ⟨true, by simp only at hz ⊢; rw [hz]; simp [orFz]⟩
        | box cs f =>
          obtain ⟨fz, hz⟩ := freeze_some rs (upd objs id (some (.box cs true))) id _ (upd_same _ _ _)
          exact ⟨true, by simp only at hz ⊢; rw [hz]; simp [orFz]⟩
      · cases q <;> exact freeze_some rs _ id o (by rw [upd_ne _ _ e]; exact h)
theorem freeze_none : ∀ (l : List Nat) (objs : Nat → Option AObj) (id : Nat), objs id = none → freeze objs l id = none
  | [], objs, id, h => h
  | r :: rs, objs, id, h => by
    simp only [freeze]
    cases hr : objs r with
    | none => exact freeze_none rs objs id h
    | some q =>
      have e : id ≠ r := by intro e; subst e; rw [h] at hr; cases hr
      cases q <;> exact freeze_none rs _ id (by rw [upd_ne _ _ e]; exact h)
theorem freeze_back {l : List Nat} {objs : Nat → Option AObj} {id : Nat} {o : AObj} (h : freeze objs l id = some o) :
    ∃ o', objs id = some o' ∧ (∃ fz, o = orFz o' fz) := by
  cases ho : objs id with
  | none => rw [freeze_none l objs id ho] at h; cases h
  | some o' =>
    obtain ⟨fz, hz⟩ := freeze_some l objs id o' ho
    rw [hz] at h
    exact ⟨o', rfl, fz, (Option.some.inj h).symm⟩

/-! ### Rows and boxes from one world to a later one -/
theorem RowOK.lt {S : Nat → Prop} {w : World} {B : Nat} {v : Value} {e k : Nat} {xs : List AV} (h : RowOK S w B v e k xs) {b : Nat} (hb : blkOf v = some b) : B ≤ b ∧ b < w.heap.size := by
  obtain ⟨_, zs, ho, _⟩ := h
  rcases ho.2 with ⟨rfl, _⟩ | ⟨g, cap, cur, rfl, h1, h2, _⟩
  · simp [blkOf] at hb
  · simp [blkOf] at hb
    subst hb
    exact ⟨h1, (Array.getElem?_eq_some_iff.1 h2).1⟩
theorem ObjOK.lt {S : Nat → Prop} {w : World} {κ : Nat → Value} {objs : Nat → Option AObj} {B id : Nat} {o : AObj} (h : ObjOK S w κ objs B id o) {b : Nat} (hb : blkOf (κ id) = some b) : B ≤ b ∧ b < w.heap.size := by
  cases o with
  | row e k xs g fz => exact RowOK.lt h hb
  | box cs fz =>
    obtain ⟨blk, T, arr, h1, h2, h3, _⟩ := h
    rw [h1] at hb
    simp [blkOf] at hb
    subst hb
    exact ⟨h2, (Array.getElem?_eq_some_iff.1 h3).1⟩
theorem ownsRow_same {w w' : World} {B e k : Nat} {v : Value} {n : Nat} {zs : List Value} (h : w.ownsRow B e k v n zs) (hb : ∀ b, blkOf v = some b → w'.heap[b]? = w.heap[b]?) : w'.ownsRow B e k v n zs := by
  refine ⟨h.1, ?_⟩
  rcases h.2 with hn | ⟨g, cap, cur, rfl, h1, h2, h3⟩
  · exact .inl hn
  · exact .inr ⟨g, cap, cur, rfl, h1, by rw [hb g rfl]; exact h2, h3⟩
theorem RowOK.mono {S S' : Nat → Prop} {w w' : World} {B B' : Nat} {v : Value} {e k : Nat} {xs : List AV} (h : RowOK S w B v e k xs) (hS : ∀ k, S k → S' k) (hw : ∀ k, S k → w'.heap[k]? = w.heap[k]?)
    (hb : ∀ b, blkOf v = some b → w'.heap[b]? = w.heap[b]? ∧ B' ≤ b) : RowOK S' w' B' v e k xs := by
  obtain ⟨h0, zs, h1, h2, h3⟩ := h
  refine ⟨h0, zs, ?_, h2, fun j r hr => ?_⟩
  · have := ownsRow_same h1 (fun b e => (hb b e).1)
    refine ⟨this.1, ?_⟩
    rcases this.2 with hn | ⟨g, cap, cur, rfl, h4, h5⟩
    · exact .inl hn
    · exact .inr ⟨g, cap, cur, rfl, (hb g rfl).2, h5⟩
  · have hL := RelL_mono hS hw (ObjLe.none (fun _ => undef) (fun _ => undef)) xs
    have hi : j < (RelL S w (fun _ => undef) (fun _ => none) xs).length := by rw [hL.1]; exact (List.getElem?_eq_some_iff.1 hr).1
    have hle := hL.2 j _ _ (List.getElem?_eq_getElem hi) hr
    obtain ⟨h4, h5⟩ := h3 j _ (List.getElem?_eq_getElem hi)
    exact ⟨hle.n.trans h4, hle.mem _ h5⟩
theorem ObjOK.mono {S S' : Nat → Prop} {w w' : World} {κ κ' : Nat → Value} {objs objs' : Nat → Option AObj} {B id : Nat} {o : AObj} (h : ObjOK S w κ objs B id o) (hS : ∀ k, S k → S' k) (hw : ∀ k, S k → w'.heap[k]? = w.heap[k]?) (ho : ObjLe objs κ objs' κ')
    (hk : κ' id = κ id) (hb : ∀ b, blkOf (κ id) = some b → w'.heap[b]? = w.heap[b]?) : ObjOK S' w' κ' objs' B id o := by
  cases o with
  | row e k xs g fz =>
    show RowOK S' w' B (κ' id) e k xs
    rw [hk]
    exact RowOK.mono h hS hw fun b e => ⟨hb b e, (RowOK.lt h e).1⟩
  | box cs fz =>
    obtain ⟨blk, T, arr, h1, h2, h3, h4⟩ := h
    refine ⟨blk, T, arr, hk.trans h1, h2, ?_, (RelL_mono hS hw ho cs).allV h4⟩
    rw [hb blk (by rw [h1]; rfl)]
    exact h3

/-! ### One step that turns nothing that is there -/
theorem mapO_some {α β : Type} {f : α → Option β} : ∀ {l : List α} {r : List β}, mapO f l = some r → r.length = l.length ∧ ∀ (i : Nat) x, l[i]? = some x → ∃ y, f x = some y ∧ r[i]? = some y
  | [], r, h => by simp only [mapO, Option.some.injEq] at h; subst h; simp
  | x :: xs, r, h => by
    simp only [mapO] at h
    cases h1 : f x with
    | none => rw [h1] at h; simp at h
    | some y =>
      rw [h1] at h
      cases h2 : mapO f xs with
      | none => rw [h2] at h; simp at h
      | some ys =>
        rw [h2] at h
        simp only [Option.bind_some, Option.map_some, Option.some.injEq] at h
        subst h
        obtain ⟨h3, h4⟩ := mapO_some h2
        refine ⟨by simp [h3], fun i z hz => ?_⟩
        cases i with
        | zero =>
          simp only [List.getElem?_cons_zero, Option.some.injEq] at hz
          subst hz
          exact ⟨y, h1, by simp⟩
        | succ i =>
          simp only [List.getElem?_cons_succ] at hz ⊢
          exact h4 i z hz
section
variable (S : Nat → Prop) (w : World) (κ : Nat → Value) (objs : Nat → Option AObj)
theorem cellV_sound (u : Value) (y : AV) (hy : cellV u = some y) : (Rel S w κ objs y).val u := by
  unfold cellV at hy
  split at hy <;> simp at hy <;> subst hy <;> simp [Rel, one]
theorem AllV_of {xs : List AV} {us : List Value} (hl : xs.length = us.length) (h : ∀ (i : Nat) x u, xs[i]? = some x → us[i]? = some u → (Rel S w κ objs x).val u) : AllV (RelL S w κ objs xs) us := by
  refine ⟨by rw [RelL_length]; exact hl, fun i r u hr hu => ?_⟩
  rw [RelL_get] at hr
  cases hx : xs[i]? with
  | none => rw [hx] at hr; cases hr
  | some x =>
    rw [hx] at hr
    simp only [Option.map_some, Option.some.injEq] at hr
    subst hr
    exact h i x u hx hu
theorem AllV_get {xs : List AV} {us : List Value} (h : AllV (RelL S w κ objs xs) us) : xs.length = us.length ∧ ∀ (i : Nat) x u, xs[i]? = some x → us[i]? = some u → (Rel S w κ objs x).val u := by
  refine ⟨by rw [← RelL_length S w κ objs]; exact h.1, fun i x u hx hu => h.2 i _ u ?_ hu⟩
  rw [RelL_get, hx]
  rfl
theorem ofV_sound (v : Value) (x : AV) (hv : ofV v = some x) : (Rel S w κ objs x).val v := by
  unfold ofV at hv
  split at hv
  · rename_i cs
    cases hm : mapO cellV cs.toList with
    | none => rw [hm] at hv; simp at hv
    | some ys =>
      rw [hm] at hv
      simp only [Option.map_some, Option.some.injEq] at hv
      subst hv
      simp only [Rel]
      obtain ⟨h1, h2⟩ := mapO_some hm
      refine ⟨cs.toList, by simp, AllV_of S w κ objs h1 fun i x u hx hu => ?_⟩
      obtain ⟨y, h3, h4⟩ := h2 i u hu
      rw [h4] at hx
      cases hx
      exact cellV_sound S w κ objs _ _ h3
  · rename_i f fi ca
    split at hv
    · rename_i hz
      simp only [Option.some.injEq] at hv
      subst hv
      obtain ⟨h1, h2⟩ := hz
      rw [Array.size_eq_zero_iff] at h1 h2
      subst h1; subst h2
      simp only [Rel, one]
      exact ⟨[], rfl, by simp [AllV, RelL]⟩
    · cases hv
  · exact cellV_sound S w κ objs _ _ hv
mutual
theorem toV_sound : ∀ (x : AV) (v u : Value), toV x = some v → (Rel S w κ objs x).val u → u = v
  | .int k n, v, u, h, hr => by simp only [toV, Option.some.injEq] at h; simp only [Rel, one] at hr; rw [hr, h]
  | .bool b, v, u, h, hr => by simp only [toV, Option.some.injEq] at h; simp only [Rel, one] at hr; rw [hr, h]
  | .str s, v, u, h, hr => by simp only [toV, Option.some.injEq] at h; simp only [Rel, one] at hr; rw [hr, h]
  | .agg cs, v, u, h, hr => by
    simp only [toV] at h
    cases hc : toVs cs with
    | none => rw [hc] at h; simp at h
    | some vs =>
      rw [hc] at h
      simp only [Option.map_some, Option.some.injEq] at h
      simp only [Rel] at hr
      obtain ⟨us, h1, h2⟩ := hr
      rw [h1, ← h, toVs_sound cs vs us hc h2]
  | .undef, v, u, h, hr => by simp [toV] at h
  | .und, v, u, h, hr => by simp [toV] at h
  | .sl _, v, u, h, hr => by simp [toV] at h
  | .nils, v, u, h, hr => by simp [toV] at h
  | .fn _ _, v, u, h, hr => by simp [toV] at h
  | .tup _, v, u, h, hr => by simp [toV] at h
  | .ia _ _, v, u, h, hr => by simp [toV] at h
  | .own _ _, v, u, h, hr => by simp [toV] at h
  | .oa _ _ _ _, v, u, h, hr => by simp [toV] at h
  | .vw _ _ _, v, u, h, hr => by simp [toV] at h
  | .ba _ _, v, u, h, hr => by simp [toV] at h
  | .fr _ _ _, v, u, h, hr => by simp [toV] at h
  | .fb _, v, u, h, hr => by simp [toV] at h
  | .inp _ _, v, u, h, hr => by simp [toV] at h
theorem toVs_sound : ∀ (xs : List AV) (vs us : List Value), toVs xs = some vs → AllV (RelL S w κ objs xs) us → us = vs
  | [], vs, us, h, hr => by
    simp only [toVs, Option.some.injEq] at h
    subst h
    exact List.eq_nil_of_length_eq_zero hr.1.symm
  | x :: xs, vs, us, h, hr => by
    simp only [toVs] at h
    cases h1 : toV x with
    | none => rw [h1] at h; simp at h
    | some v =>
      rw [h1] at h
      cases h2 : toVs xs with
      | none => rw [h2] at h; simp at h
      | some vs' =>
        rw [h2] at h
        simp only [Option.bind_some, Option.map_some, Option.some.injEq] at h
        subst h
        cases us with
        | nil => have := hr.1; simp [RelL] at this
        | cons u us =>
          have e1 := toV_sound x v u h1 (hr.2 0 _ u (by simp [RelL]) (by simp))
          have e2 := toVs_sound xs vs' us h2 ⟨by have := hr.1; simpa [RelL] using this, fun i r u' hr' hu' => hr.2 (i + 1) r u' (by simpa [RelL] using hr') (by simpa using hu')⟩
          rw [e1, e2]
end
end
theorem St.evA {F : Nat → Prop} {w0 : Base} {κ : Nat → Value} {σ : Env} {a : Act} {w : World} (h : St F w0 κ σ a w) (x : Operand) :
    (Rel (Sset F w0.mine w κ σ.objs) w κ σ.objs (evA σ.slots x)).val (a.eval x) := by
  cases x with
  | tmp t => exact h.slots t
  | func f =>
    simp only [Abs.evA, Rel, one, Act.eval]
    exact ⟨[], rfl, by simp [AllV, RelL]⟩
  | global g => simp [Abs.evA, Rel, one]
  | const v =>
    simp only [Abs.evA, Act.eval]
    cases hv : ofV v with
    | none => simp [Rel, one]
    | some x => exact ofV_sound _ _ _ _ _ _ hv
theorem getD_put {a : Act} {d : Nat} {v : Value} (t : Nat) (hd : d < a.tmps.size) : (a.put (some d) v).tmps.getD t undef = if t = d then v else a.tmps.getD t undef := by
  simp only [Act.put]
  by_cases h : t = d
  · subst h; simp [Array.getD, hd]
  · simp only [if_neg h]
    rw [Array.getD_eq_getD_getElem?, Array.getD_eq_getD_getElem?, Array.getElem?_setIfInBounds_ne (by omega)]
theorem Lim.ok_lt {l : Lim} {d : Nat} (h : l.ok d = true) : d < l.n := by
  unfold Lim.ok at h
  simp only [Bool.and_eq_true, decide_eq_true_eq] at h
  exact h.1
theorem Lim.ok_ne {l : Lim} {d : Nat} (h : l.ok d = true) (hz : l.z = true) : d ≠ 0 := by
  unfold Lim.ok at h
  rw [hz] at h
  have h2 := ((Bool.and_eq_true _ _).mp h).2
  simpa using h2
theorem put_fix {l : Lim} {a : Act} {dst : Option Nat} {v : Value} (hd : dst.all l.ok = true) (hz : l.z = true) : (a.put dst v).tmps.getD 0 undef = a.tmps.getD 0 undef := by
  cases dst with
  | none => rfl
  | some d =>
    have h0 : d ≠ 0 := Lim.ok_ne (l := l) (by simpa using hd) hz
    have e : (a.put (some d) v).tmps = a.tmps.setIfInBounds d v := rfl
    rw [e, Array.getD_eq_getD_getElem?, Array.getD_eq_getD_getElem?, Array.getElem?_setIfInBounds_ne h0]
theorem objsL_slots : ∀ (l : List (Nat × AObj)) (σ : Env), (σ.objsL l).slots = σ.slots ∧ (σ.objsL l).n = σ.n
  | [], σ => ⟨rfl, rfl⟩
  | (i, o) :: l, σ => by simpa [Env.objsL, Env.obj] using objsL_slots l (σ.obj i o)
theorem objsL_old : ∀ (l : List (Nat × AObj)) (σ : Env) (id : Nat), id ∉ l.map (·.1) → (σ.objsL l).objs id = σ.objs id
  | [], σ, id, _ => rfl
  | (i, o) :: l, σ, id, h => by
    simp only [List.map_cons, List.mem_cons, not_or] at h
    simp only [Env.objsL]
    rw [objsL_old l _ id h.2]
    exact upd_ne _ _ h.1
theorem objsL_new : ∀ (l : List (Nat × AObj)) (σ : Env) (p : Nat × AObj), (l.map (·.1)).Nodup → p ∈ l → (σ.objsL l).objs p.1 = some p.2
  | [], σ, p, _, h => by cases h
  | (i, o) :: l, σ, p, hn, h => by
    simp only [List.map_cons, List.nodup_cons] at hn
    simp only [Env.objsL]
    rcases List.mem_cons.1 h with rfl | h
    · rw [objsL_old l _ _ hn.1]
      exact upd_same _ _ _
    · exact objsL_new l _ p hn.2 h
theorem put_objs (σ : Env) (dst : Option Nat) (v : AV) : (σ.put dst v).objs = σ.objs ∧ (σ.put dst v).n = σ.n := by cases dst <;> exact ⟨rfl, rfl⟩
theorem eff_objs (σ : Env) (dst : Option Nat) (e : Eff) : (σ.eff dst e).objs = (({ σ with objs := freeze σ.objs e.frz } : Env).objsL e.news).objs ∧ (σ.eff dst e).n = σ.n := by
  unfold Env.eff
  exact ⟨(put_objs _ _ _).1, by rw [(put_objs _ _ _).2, (objsL_slots _ _).2]⟩
theorem eff_slots (σ : Env) (dst : Option Nat) (e : Eff) (t : Nat) : (σ.eff dst e).slots t = if dst = some t then e.val else σ.slots t := by
  unfold Env.eff Env.put
  cases dst with
  | none => simp [objsL_slots]
  | some d =>
    by_cases h : t = d
    · subst h; simp [upd]
    · have h' : ¬ d = t := fun e => h e.symm
      simp [upd, h, h', objsL_slots]
/-- What the step makes: new blocks, told by 'news'; what was there is as it was. -/
structure Made (κ κ' : Nat → Value) (σ : Env) (w w' : World) (e : Eff) : Prop where
  below : Below w.heap.size w w'
  free : ∀ p ∈ e.news, σ.objs p.1 = none
  nodup : (e.news.map (·.1)).Nodup
  old : ∀ id, σ.objs id ≠ none → κ' id = κ id
  fresh : ∀ p ∈ e.news, ∀ b, blkOf (κ' p.1) = some b → w.heap.size ≤ b
  apart : ∀ p ∈ e.news, ∀ q ∈ e.news, p.1 ≠ q.1 → ∀ b, blkOf (κ' p.1) = some b → blkOf (κ' q.1) ≠ some b
  drawn : w.drawn ≤ w'.drawn
theorem Made.case {κ κ' : Nat → Value} {σ : Env} {w w' : World} {e : Eff} (m : Made κ κ' σ w w' e) (dst : Option Nat) {id : Nat} {o : AObj} (h : (σ.eff dst e).objs id = some o) :
    (∃ p ∈ e.news, p.1 = id ∧ p.2 = o) ∨ (σ.objs id ≠ none ∧ id ∉ e.news.map (·.1) ∧ freeze σ.objs e.frz id = some o) := by
  rw [(eff_objs σ dst e).1] at h
  by_cases hi : id ∈ e.news.map (·.1)
  · obtain ⟨p, hp, rfl⟩ := List.mem_map.1 hi
    rw [objsL_new _ _ p m.nodup hp] at h
    exact .inl ⟨p, hp, rfl, Option.some.inj h⟩
  · rw [objsL_old _ _ _ hi] at h
    refine .inr ⟨fun hn => ?_, hi, h⟩
    have h2 : freeze σ.objs e.frz id = some o := h
    rw [freeze_none _ _ _ hn] at h2
    cases h2
theorem Made.keep {κ κ' : Nat → Value} {σ : Env} {w w' : World} {e : Eff} (m : Made κ κ' σ w w' e) (dst : Option Nat) {id : Nat} {o : AObj} (h : σ.objs id = some o) :
    ∃ fz, (σ.eff dst e).objs id = some (orFz o fz) := by
  have hi : id ∉ e.news.map (·.1) := fun hi => by
    obtain ⟨p, hp, rfl⟩ := List.mem_map.1 hi
    rw [m.free p hp] at h
    cases h
  rw [(eff_objs σ dst e).1, objsL_old _ _ _ hi]
  exact freeze_some e.frz σ.objs id o h
theorem Made.le {κ κ' : Nat → Value} {σ : Env} {w w' : World} {e : Eff} (m : Made κ κ' σ w w' e) (dst : Option Nat) : ObjLe σ.objs κ (σ.eff dst e).objs κ' := by
  intro id o h
  obtain ⟨fz, hz⟩ := m.keep dst h
  have hk := m.old id (by rw [h]; simp)
  cases o with
  | row e' k xs g f => exact ⟨xs, g, _, hz, Nat.le_refl _, fun _ => hk⟩
  | box cs f => exact ⟨cs, _, hz, hk⟩
theorem Made.sub {F : Nat → Prop} {B : Nat → Prop} {κ κ' : Nat → Value} {σ : Env} {w w' : World} {e : Eff} (m : Made κ κ' σ w w' e) (dst : Option Nat) (k : Nat) (hs : Sset F B w κ σ.objs k) : Sset F B w' κ' (σ.eff dst e).objs k := by
  obtain ⟨h1, h2, h3⟩ := hs
  refine ⟨h1, Nat.lt_of_lt_of_le h2 m.below.size, fun id o ho hf hb => ?_⟩
  rcases m.case dst ho with ⟨p, hp, rfl, rfl⟩ | ⟨hne, hi, hz⟩
  · have := m.fresh p hp k hb; omega
  · obtain ⟨o', ho', fz, rfl⟩ := freeze_back hz
    rw [m.old id hne] at hb
    refine h3 id o' ho' ?_ hb
    cases o' <;> simp_all [isFz, orFz]
theorem St.made {F : Nat → Prop} {w0 : Base} {κ κ' : Nat → Value} {σ : Env} {a : Act} {w w' : World} {e : Eff} {dst : Option Nat} {v : Value} (h : St F w0 κ σ a w) (m : Made κ κ' σ w w' e) (hd : dst.all σ.n.ok = true)
    (hnews : ∀ p ∈ e.news, ObjOK (Sset F w0.mine w' κ' (σ.eff dst e).objs) w' κ' (σ.eff dst e).objs 0 p.1 p.2)
    (hval : (Rel (Sset F w0.mine w' κ' (σ.eff dst e).objs) w' κ' (σ.eff dst e).objs e.val).val v) : St F w0 κ' (σ.eff dst e) (a.put dst v) w' := by
  have hS := fun k => m.sub (F := F) (B := w0.mine) dst k
  have hw : ∀ k, Sset F w0.mine w κ σ.objs k → w'.heap[k]? = w.heap[k]? := fun k hk => m.below.block k hk.2.1
  have hle := m.le dst
  refine ⟨fun t => ?_, fun id o ho => ?_, fun i j oi oj hi hj hij b hb => ?_, ?_, ?_, ?_, ?_, ?_⟩
  · rw [eff_slots]
    cases dst with
    | none => simpa [Act.put] using (Rel_mono hS hw hle (σ.slots t)).val _ (h.slots t)
    | some d =>
      have hdn : d < a.tmps.size := by
        have : d < σ.n.n := Lim.ok_lt (by simpa using hd)
        exact Nat.lt_of_lt_of_le this h.size
      rw [getD_put t hdn]
      by_cases e : t = d
      · subst e; simpa using hval
      · have e' : ¬ d = t := fun x => e x.symm
        simp only [Option.some.injEq, if_neg e', if_neg e]
        exact (Rel_mono hS hw hle (σ.slots t)).val _ (h.slots t)
  · rcases m.case dst ho with ⟨p, hp, rfl, rfl⟩ | ⟨hne, hi, hz⟩
    · exact hnews p hp
    · obtain ⟨o', ho', fz, rfl⟩ := freeze_back hz
      have h1 := h.objs id o' ho'
      have hk := m.old id hne
      have h2 := h1.mono hS hw hle hk fun b hb => m.below.block b (h1.lt hb).2
      cases o' <;> exact h2
  · rcases m.case dst hi with ⟨p, hp, rfl, rfl⟩ | ⟨hne, hi', hz⟩ <;> rcases m.case dst hj with ⟨q, hq, rfl, rfl⟩ | ⟨hne2, hj', hz2⟩
    · exact m.apart p hp q hq hij b hb
    · intro hb2
      have h1 := m.fresh p hp b hb
      obtain ⟨o', ho', _⟩ := freeze_back hz2
      rw [m.old j hne2] at hb2
      have := ((h.objs j o' ho').lt hb2).2
      omega
    · intro hb2
      have h1 := m.fresh q hq b hb2
      obtain ⟨o', ho', _⟩ := freeze_back hz
      rw [m.old i hne] at hb
      have := ((h.objs i o' ho').lt hb).2
      omega
    · obtain ⟨o1, ho1, _⟩ := freeze_back hz
      obtain ⟨o2, ho2, _⟩ := freeze_back hz2
      rw [m.old i hne] at hb
      rw [m.old j hne2]
      exact h.apart i j o1 o2 ho1 ho2 hij b hb
  · exact h.below.next m.below m.drawn
  · cases dst <;> simpa [Act.put] using h.defers
  · rw [(eff_objs σ dst e).2]
    cases dst <;> simpa [Act.put] using h.size
  · intro id o b ho hb
    rcases m.case dst ho with ⟨p, hp, rfl, rfl⟩ | ⟨hne, hi, hz⟩
    · exact .inr (Nat.le_trans h.below.size (m.fresh p hp b hb))
    · obtain ⟨o', ho', _⟩ := freeze_back hz
      rw [m.old id hne] at hb
      exact h.mine id o' b ho' hb
  · intro hz
    rw [(eff_objs σ dst e).2] at hz
    rw [put_fix hd hz]
    exact h.fix hz
/-- A value alone. -/
theorem St.value {F : Nat → Prop} {w0 : Base} {κ : Nat → Value} {σ : Env} {a : Act} {w : World} {x : AV} {dst : Option Nat} {v : Value} (h : St F w0 κ σ a w) (hd : dst.all σ.n.ok = true)
    (hval : (Rel (Sset F w0.mine w κ σ.objs) w κ σ.objs x).val v) : St F w0 κ (σ.eff dst { val := x }) (a.put dst v) w := by
  have m : Made κ κ σ w w { val := x } := ⟨Below.refl _ _, by simp, by simp, fun _ _ => rfl, by simp, by simp, Nat.le_refl _⟩
  refine h.made m hd (by simp) ?_
  exact (Rel_mono (fun k => m.sub (F := F) (B := w0.mine) dst k) (fun _ _ => rfl) (m.le dst) x).val _ hval
end Go.Abs
