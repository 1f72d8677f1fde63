import Derived.Test.YtkipmdkhhpicbaaGreatDoorHAbsJ
import Derived.Laws.MakeOwn
set_option linter.unusedVariables false
set_option linter.unusedSimpArgs false
namespace Go.Abs
open Go.RowKit

theorem fill_rows {k : Nat} (hk : 0 < k) : ∀ (vs : List Value) (m : Nat) (arr : Array Value), (∀ v ∈ vs, v.cells.size = k) → (m + vs.length) * k ≤ arr.size →
    ∃ arr', Instr.fill (fun i => some (i * k, k)) arr ((vs.zipIdx m).map fun p => (p.2, p.1)) = some arr' ∧ arr'.size = arr.size ∧
      (∀ j v, vs[j]? = some v → ∀ i, i < k → arr'[(m + j) * k + i]? = v.cells[i]?) ∧ (∀ p, p < m * k → arr'[p]? = arr[p]?)
  | [], m, arr, _, _ => ⟨arr, rfl, rfl, fun j v h => by simp at h, fun _ _ => rfl⟩
  | v :: vs, m, arr, hv, hs => by
    have hvk : v.cells.size = k := hv v (by simp)
    have hmk : m * k + k ≤ arr.size := by
      have : (m + 1) * k ≤ (m + (v :: vs).length) * k := Nat.mul_le_mul_right _ (by simp)
      rw [Nat.add_mul] at this
      omega
    have hpc := put_cells (m * k) v.cells arr (by omega)
    let arr1 := v.cells.zipIdx.foldl (fun cs (p : Value × Nat) => cs.setIfInBounds (m * k + p.2) p.1) arr
    have hsz : arr1.size = arr.size := by
      have : arr1.toList.length = arr.toList.length := by
        show (v.cells.zipIdx.foldl (fun cs (p : Value × Nat) => cs.setIfInBounds (m * k + p.2) p.1) arr).toList.length = _
        rw [hpc]
        simp
        omega
      simpa using this
    obtain ⟨arr', h1, h2, h3, h4⟩ := fill_rows hk vs (m + 1) arr1 (fun u hu => hv u (by simp [hu])) (by rw [hsz]; simp only [List.length_cons] at hs; rw [show m + 1 + vs.length = m + (vs.length + 1) by omega]; exact hs)
    refine ⟨arr', ?_, h2.trans hsz, fun j u hu i hi => ?_, fun p hp => ?_⟩
    · simp only [List.zipIdx_cons, List.map_cons, Instr.fill]
      rw [if_neg (by simp; omega)]
      exact h1
    · cases j with
      | zero =>
        simp only [List.getElem?_cons_zero, Option.some.injEq] at hu
        subst hu
        rw [Nat.add_zero, h4 _ (by rw [Nat.add_mul]; omega), ← Array.getElem?_toList, hpc]
        rw [List.append_assoc, List.getElem?_append_right (by simp; omega), List.getElem?_append_left (by simp; omega)]
        simp only [List.length_take, Array.length_toList, Array.getElem?_toList]
        rw [Nat.min_eq_left (by omega)]
        congr 1
        omega
      | succ j =>
        have := h3 j u (by simpa using hu) i hi
        rwa [show m + 1 + j = m + (j + 1) by omega] at this
    · rw [h4 p (by rw [Nat.add_mul]; omega), ← Array.getElem?_toList, hpc, List.append_assoc, List.getElem?_append_left (by simp; omega), List.getElem?_take, if_pos hp, Array.getElem?_toList]
theorem noParts_eq {α : Type} (f : α → AV) : ∀ (ps : List (Nat × α)) (m : Nat) (vs : List AV), noParts (ps.map fun p => (p.1, f p.2)) m = some vs → vs = ps.map (fun p => f p.2) ∧ ∀ (g : α → Value), (ps.map fun p => (p.1, g p.2)) = ((ps.map fun p => g p.2).zipIdx m).map fun q => (q.2, q.1)
  | [], m, vs, h => by simp only [List.map_nil, noParts, Option.some.injEq] at h; subst h; exact ⟨rfl, fun _ => rfl⟩
  | (i, x) :: ps, m, vs, h => by
    simp only [List.map_cons, noParts] at h
    split at h
    · rename_i e
      subst e
      cases hr : noParts (ps.map fun p => (p.1, f p.2)) (i + 1) with
      | none => rw [hr] at h; simp at h
      | some us =>
        rw [hr] at h
        simp only [Option.map_some, Option.some.injEq] at h
        subst h
        obtain ⟨h1, h2⟩ := noParts_eq f ps (i + 1) us hr
        refine ⟨by rw [h1]; rfl, fun g => ?_⟩
        simp only [List.map_cons, List.zipIdx_cons, h2 g]
    · cases h
/-- A cell that is known to lead nowhere beyond what is read. -/
theorem cellOK_one {S : Nat → Prop} {w : World} {κ : Nat → Value} {objs : Nat → Option AObj} {x : AV} {v : Value} (hc : cellOK x = true) (hv : (Rel S w κ objs x).val v) : v.oneCell' = true := by
  cases x with
  | int k n => simp only [Rel, one] at hv; rw [hv]; rfl
  | bool b => simp only [Rel, one] at hv; rw [hv]; rfl
  | str s => simp only [Rel, one] at hv; rw [hv]; rfl
  | sl xs => simp only [Rel, one] at hv; obtain ⟨A, c, h1, _⟩ := hv; rw [h1]; rfl
  | nils => simp only [Rel, one] at hv; rw [hv]; rfl
  | pp nl cs => simp only [Rel, one] at hv; cases nl with
    | true => simp only [if_true] at hv; rw [hv]; rfl
    | false => simp only [Bool.false_eq_true, if_false] at hv; obtain ⟨b, o, h1, _⟩ := hv; rw [h1]; rfl
  | fn f cs => simp only [Rel, one] at hv; obtain ⟨vs, h1, _⟩ := hv; rw [h1]; rfl
  | ia cs off => simp only [Rel, one] at hv; obtain ⟨b, o, h1, _⟩ := hv; rw [h1]; rfl
  | mv ks vs => simp only [Rel, one] at hv; obtain ⟨_, _, _, h1, _⟩ := hv; rw [h1]; rfl
  | _ => simp [cellOK] at hc
theorem elemOk_val {P : Program} {e k : Nat} {S : Nat → Prop} {w : World} {κ : Nat → Value} {objs : Nat → Option AObj} {x : AV} {v : Value} (hc : elemOk P e k x = true) (hv : (Rel S w κ objs x).val v) :
    v.cells.size = k ∧ AllV (RelL S w κ objs x.cells) v.cells.toList ∧ ∀ u ∈ v.cells.toList, u.oneCell' = true := by
  unfold elemOk at hc
  simp only [Bool.and_eq_true, beq_iff_eq, List.all_eq_true] at hc
  obtain ⟨h1, h2⟩ := hc
  have key : AllV (RelL S w κ objs x.cells) v.cells.toList := by
    have other : cellOK x = true → AllV (RelL S w κ objs [x]) v.cells.toList := fun hc => by
      rw [cells_of_one (cellOK_one hc hv)]
      exact AllV_cons hv ⟨by simp [RelL], fun i r u hr => by simp [RelL] at hr⟩
    cases x with
    | agg cs =>
      simp only [Rel] at hv
      obtain ⟨vs, rfl, h3⟩ := hv
      simpa [Value.cells, AV.cells] using h3
    | _ => exact other (h2 _ (by simp [AV.cells]))
  obtain ⟨h3, h4⟩ := AllV_get _ _ _ _ key
  refine ⟨by have := h3; simp only [Array.length_toList] at this; omega, key, fun u hu => ?_⟩
  obtain ⟨i, hi, rfl⟩ := List.getElem_of_mem hu
  have hi2 : i < x.cells.length := by omega
  exact cellOK_one (h2 _ (List.getElem_mem hi2)) (h4 i _ _ (List.getElem?_eq_getElem hi2) (List.getElem?_eq_getElem hi))
section
variable {F : Nat → Prop} {w0 : Base} {κ : Nat → Value} {σ : Env} {a : Act} {w : World}
theorem rowOk_info {P : Program} {e k : Nat} (h : rowOk P e k = true) : ∃ i z, P.info? e = some i ∧ i.size = k ∧ 0 < k ∧ i.zero = some z ∧ z.cells.size = k := by
  unfold rowOk at h
  split at h
  · rename_i i hi
    simp only [Bool.and_eq_true, beq_iff_eq, decide_eq_true_eq] at h
    obtain ⟨⟨h1, h2⟩, h3⟩ := h
    split at h3
    · rename_i z hz
      exact ⟨i, z, hi, h1, h2, hz, by simpa using h3⟩
    · cases h3
  · cases h
/-- A new row out of written parts. -/
theorem lit_sound (h : St F w0 κ σ a w) {P : Program} {t e k n : Nat} {ps : Array (Nat × Operand)} {vs xs : List AV} {dst : Option Nat} {d : Nat} (hd : dst.all σ.n.ok = true) (hfree : σ.objs (8 * d) = none)
    (he : elemT P t = some e) (hk : sizeT P e = some k) (hp : noParts (ps.toList.map fun (i, x) => (i, evA σ.slots x)) 0 = some vs) (hn : vs.length = n ∧ n * k ≤ 16777216 ∧ rowOk P e k = true)
    (hx : mapO (expt (fun _ => false) σ.objs DEPTH) vs = some xs) (hok : xs.all (elemOk P e k) = true) :
    ∃ v w', (Instr.buildSlice t n (ps.map fun (i, x) => (i, a.eval x))).run P w = .ok v w' ∧
      ∃ κ', St F w0 κ' (σ.eff dst { val := .own (8 * d) 0, news := [(8 * d, .row e k xs 0 false)], frz := vs.flatMap (refsOf σ.objs DEPTH) }) (a.put dst v) w' := by
  obtain ⟨hn1, hn2, hro⟩ := hn
  obtain ⟨i, z, hi, hik, hk0, hz, hzk⟩ := rowOk_info hro
  subst hik
  obtain ⟨hvs, hvp⟩ := noParts_eq (fun x => evA σ.slots x) ps.toList 0 vs hp
  have hparts : (ps.map fun (i, x) => (i, a.eval x)).toList = ((ps.toList.map fun p => a.eval p.2).zipIdx 0).map fun q => (q.2, q.1) := by
    rw [Array.toList_map]; exact hvp fun x => a.eval x
  let us := ps.toList.map fun p => a.eval p.2
  obtain ⟨hxl, hxm⟩ := mapO_some hx
  have hul : us.length = n := by simp only [us, List.length_map]; rw [← hn1, hvs, List.length_map]
  let G : Nat → Prop := fun b => SS F w0 κ σ w b ∨ ∃ id ∈ vs.flatMap (refsOf σ.objs DEPTH), σ.objs id ≠ none ∧ blkOf (κ id) = some b
  have hrel : ∀ (j : Nat) x u, xs[j]? = some x → us[j]? = some u → (Rel G w κ0 o0 x).val u := by
    intro j x u hj hu
    have hjl : j < vs.length := by rw [← hxl]; exact (List.getElem?_eq_some_iff.1 hj).1
    obtain ⟨y, h1, h2⟩ := hxm j _ (List.getElem?_eq_getElem hjl)
    rw [h2] at hj
    cases hj
    have hev : (Rel (SS F w0 κ σ w) w κ σ.objs vs[j]).val u := by
      have e1 : vs[j]? = (ps.toList[j]?).map fun p => evA σ.slots p.2 := by rw [hvs, List.getElem?_map]
      have e2 : us[j]? = (ps.toList[j]?).map fun p => a.eval p.2 := by simp only [us, List.getElem?_map]
      cases hpj : ps.toList[j]? with
      | none => rw [hpj] at e2; rw [e2] at hu; cases hu
      | some p =>
        rw [hpj] at e1 e2
        rw [e2] at hu
        rw [List.getElem?_eq_getElem hjl] at e1
        simp only [Option.map_some, Option.some.injEq] at e1 hu
        rw [e1, ← hu]
        exact h.evA p.2
    exact expt_sound h (fun b hb => .inl hb) _ _ _ _ h1 hev fun id hid hne b hb => .inr ⟨id, List.mem_flatMap.2 ⟨_, List.getElem_mem hjl, hid⟩, hne, hb⟩
  have hcell : ∀ (j : Nat) u, us[j]? = some u → u.cells.size = i.size ∧ ∃ x, xs[j]? = some x ∧ AllV (RelL G w κ0 o0 x.cells) u.cells.toList ∧ x.cells.length = i.size ∧ ∀ c ∈ u.cells.toList, c.oneCell' = true := by
    intro j u hu
    have hjl : j < xs.length := by rw [hxl, hn1, ← hul]; exact (List.getElem?_eq_some_iff.1 hu).1
    have hx2 := List.getElem?_eq_getElem hjl
    have h3 := List.all_eq_true.1 hok _ (List.getElem_mem hjl)
    obtain ⟨h4, h5, h6⟩ := elemOk_val h3 (hrel j _ u hx2 hu)
    refine ⟨h4, _, hx2, h5, ?_, h6⟩
    unfold elemOk at h3
    simp only [Bool.and_eq_true, beq_iff_eq] at h3
    exact h3.1
  -- the run
  have hrun : ∃ cells : Array Value, (Instr.buildSlice t n (ps.map fun (i, x) => (i, a.eval x))).run P w = .ok (.slice (some (at_ w.heap.size 0)) n n) (w.alloc (.cells cells e)) ∧ cells.size = n * i.size ∧
      (∀ j u, us[j]? = some u → ∀ c, c < i.size → cells[j * i.size + c]? = u.cells[c]?) := by
    by_cases hn0 : n = 0
    · subst hn0
      refine ⟨#[], ?_, by simp, fun j u hu => ?_⟩
      · have : ps.toList = [] := by
          have := hul
          simp only [us, List.length_map] at this
          exact List.eq_nil_of_length_eq_zero this
        have hps : ps = #[] := by apply Array.ext'; simpa using this
        subst hps
        simp [Instr.buildSlice, run_underlying (elemT_some he), sizeOf, typeInfo, hi, Instr.fill, newRow]
        congr 2
        apply Array.ext'
        simp
      · have : us = [] := List.eq_nil_of_length_eq_zero hul
        rw [this] at hu
        simp at hu
    · obtain ⟨arr', h1, h2, h3, h4⟩ := fill_rows hk0 us 0 ((Array.range (n * i.size)).map (z.cells[· % z.cells.size]!)) (fun v hv => by
          obtain ⟨j, hj, rfl⟩ := List.getElem_of_mem hv
          exact (hcell j _ (List.getElem?_eq_getElem hj)).1) (by rw [Nat.zero_add, hul]; simp)
      refine ⟨arr', ?_, by rw [h2]; simp, fun j u hu c hc => by have := h3 j u hu c hc; rwa [Nat.zero_add] at this⟩
      refine run_buildSlice w t e n _ arr' i z (elemT_some he) hi hz (by omega) (fun e0 => ?_) ?_
      · rcases Nat.mul_eq_zero.1 e0 with e0 | e0
        · exact hn0 e0
        · omega
      · rw [hparts]; exact h1
  obtain ⟨cells, hr, hcs, hcg⟩ := hrun
  refine ⟨_, _, hr, ?_⟩
  let ef : Eff := { val := .own (8 * d) 0, news := [(8 * d, .row e i.size xs 0 false)], frz := vs.flatMap (refsOf σ.objs DEPTH) }
  -- as if a call had handed it back
  have hres : ResOK G (base0 w) (w.alloc (.cells cells e)) (.fr e i.size xs) (.slice (some (at_ w.heap.size 0)) n n) := by
    refine ⟨BelowB.base0 ((Below.refl _ w).alloc (Nat.le_refl _) _) (Nat.le_refl _), [.slice (some (at_ w.heap.size 0)) n n], rfl, rfl, ?_, ?_, ?_⟩
    · intro j x u hj hu
      cases j with
      | succ j => simp [compsOf] at hj
      | zero =>
        simp only [compsOf, List.getElem?_cons_zero, Option.some.injEq] at hj hu
        subst hj; subst hu
        show RowOK _ _ _ _ _ _ _
        have hnb : n ≤ maxLen := by
          have : n ≤ n * i.size := Nat.le_mul_of_pos_right n hk0
          have hm : (16777216 : Nat) ≤ maxLen := by unfold maxLen; decide
          omega
        refine ⟨hk0, cells.toList, ⟨by rw [Array.length_toList, hcs, hxl, hn1], .inr ⟨w.heap.size, n, cells, by rw [hxl, hn1], Nat.zero_le _, heap_alloc_new w _, by rw [hxl, hn1]; omega, hnb, hcs, ?_⟩⟩, fun u hu => ?_, fun j r hjr => ?_⟩
        · rw [hxl, hn1]
          exact List.take_of_length_le (by rw [Array.length_toList, hcs]; omega)
        · obtain ⟨p, hp, rfl⟩ := List.getElem_of_mem hu
          rw [Array.length_toList, hcs] at hp
          have hj : p / i.size < us.length := by rw [hul]; exact Nat.div_lt_of_lt_mul (by rw [Nat.mul_comm]; exact hp)
          have hc : p % i.size < i.size := Nat.mod_lt _ hk0
          obtain ⟨h5, x, hx1, h6, h7, h8⟩ := hcell _ _ (List.getElem?_eq_getElem hj)
          have h9 := hcg _ _ (List.getElem?_eq_getElem hj) _ hc
          have e1 : p / i.size * i.size + p % i.size = p := by rw [Nat.mul_comm]; exact Nat.div_add_mod _ _
          rw [e1] at h9
          have hpl : p < cells.size := by rw [hcs]; exact hp
          rw [Array.getElem?_eq_getElem hpl, Array.getElem?_eq_getElem (by omega)] at h9
          simp only [Option.some.injEq] at h9
          rw [Array.getElem_toList, h9]
          exact h8 _ (by simp)
        · rw [RelL_get] at hjr
          cases hxj : xs[j]? with
          | none => rw [hxj] at hjr; cases hjr
          | some x =>
            rw [hxj] at hjr
            simp only [Option.map_some, Option.some.injEq] at hjr
            subst hjr
            have hjl : j < us.length := by rw [hul, ← hn1, ← hxl]; exact (List.getElem?_eq_some_iff.1 hxj).1
            obtain ⟨h5, x', hx1, h6, h7, h8⟩ := hcell _ _ (List.getElem?_eq_getElem hjl)
            rw [hx1] at hxj
            cases hxj
            rw [Rel_n]
            refine ⟨h7, cells_mem ?_⟩
            have hmono : AllV (RelL (resS G (base0 w) (w.alloc (.cells cells e)) (compsOf (.fr e i.size xs)) [.slice (some (at_ w.heap.size 0)) n n]) (w.alloc (.cells cells e)) κ0 o0 x.cells) us[j].cells.toList := by
              refine (RelL_mono (fun b hb => ?_) (fun b hb => ?_) (ObjLe.none _ _) x.cells).allV h6
              · have hblt : b < w.heap.size := by
                  rcases hb with hb | ⟨id, _, hne, hb⟩
                  · exact hb.2.1
                  · obtain ⟨o, ho⟩ := Option.ne_none_iff_exists'.1 hne
                    exact ((h.objs id o ho).lt hb).2
                refine ⟨.inl hb, by simp; omega, fun q y u hq hu hf hbk => ?_⟩
                cases q with
                | succ q => simp [compsOf] at hq
                | zero =>
                  simp only [List.getElem?_cons_zero, Option.some.injEq] at hu
                  subst hu
                  simp only [blkOf, Option.some.injEq] at hbk
                  omega
              · have hblt : b < w.heap.size := by
                  rcases hb with hb | ⟨id, _, hne, hb⟩
                  · exact hb.2.1
                  · obtain ⟨o, ho⟩ := Option.ne_none_iff_exists'.1 hne
                    exact ((h.objs id o ho).lt hb).2
                exact Below.heap_alloc w _ b hblt
            obtain ⟨h10, h11⟩ := AllV_get _ _ _ _ hmono
            refine AllM_of fun c y hy => ?_
            have hcl : c < x.cells.length := (List.getElem?_eq_some_iff.1 hy).1
            have hcu : c < us[j].cells.size := by omega
            refine ⟨us[j].cells[c], ?_, h11 c y _ hy (by rw [Array.getElem?_toList, Array.getElem?_eq_getElem hcu])⟩
            rw [Array.getElem?_toList, hcg _ _ (List.getElem?_eq_getElem hjl) c (by omega), Array.getElem?_eq_getElem hcu]
    · intro p q x y u u' hp hq hu hu' hpq
      cases p with
      | succ p => simp [compsOf] at hp
      | zero =>
        cases q with
        | zero => exact absurd rfl hpq
        | succ q => simp [compsOf] at hq
    · intro q y u hq hu hf b hb
      cases q with
      | succ q => simp [compsOf] at hq
      | zero =>
        simp only [List.getElem?_cons_zero, Option.some.injEq] at hu
        subst hu
        simp only [blkOf, Option.some.injEq] at hb
        subst hb
        exact base0_mine.2 (Nat.le_refl _)
  exact recv_sound h (r := .fr e i.size xs) (v := .slice (some (at_ w.heap.size 0)) n n) (dst := dst) (d := d) (frz := vs.flatMap (refsOf σ.objs DEPTH)) (G := G) (fun b hb => hb) hd (by simpa [recv, recv1] using hfree) (.inl hres)
/-- A new row of so many zeros. -/
theorem make_sound (h : St F w0 κ σ a w) {P : Program} {t e k b : Nat} {kl kc : IntKind} {n m : Int} {z : AV} {dst : Option Nat} {d : Nat} (hd : dst.all σ.n.ok = true) (hfree : σ.objs (8 * d) = none)
    (he : elemT P t = some e) (hk : sizeT P e = some k) (hb : bytesT P e = some b) (hz : zeroOf P e = some z) (hro : rowOk P e k = true) (hok : elemOk P e k z = true) (hn : 0 ≤ n ∧ n ≤ m ∧ (b : Int) * m ≤ 281474976710656 ∧ m ≤ 9223372036854775807) :
    ∃ v w', (Instr.makeSlice t (.int kl n) (.int kc m)).run P w = .ok v w' ∧
      ∃ κ', St F w0 κ' (σ.eff dst { val := .own (8 * d) 0, news := [(8 * d, .row e k (List.replicate n.toNat z) 0 false)] }) (a.put dst v) w' := by
  obtain ⟨i, zv, hi, hik, hk0, hzv, hzk⟩ := rowOk_info hro
  subst hik
  have hbi : i.bytes = b := by
    unfold bytesT at hb
    rw [hi] at hb
    simpa using hb
  subst hbi
  obtain ⟨h0, hnm, hby, h63⟩ := hn
  have hr := run_make (P := P) w t e i zv (elemT_some he) hi hzv kl kc n m h0 hnm hby h63
  refine ⟨_, _, hr, ?_⟩
  have hzrel : AllV (RelL (fun _ => False) w κ0 o0 z.cells) zv.cells.toList := by
    obtain ⟨i', zv', hi', hzv', _, h5⟩ := zero_cells hz (fun _ => False) w κ0 o0
    rw [hi] at hi'
    cases hi'
    rw [hzv] at hzv'
    cases hzv'
    exact h5
  have hcl : z.cells.length = i.size := by
    unfold elemOk at hok
    simp only [Bool.and_eq_true, beq_iff_eq] at hok
    exact hok.1
  have hone : ∀ u ∈ zv.cells.toList, u.oneCell' = true := by
    intro u hu
    obtain ⟨j, hj, rfl⟩ := List.getElem_of_mem hu
    obtain ⟨h6, h7⟩ := AllV_get _ _ _ _ hzrel
    have hj2 : j < z.cells.length := by omega
    unfold elemOk at hok
    simp only [Bool.and_eq_true, List.all_eq_true] at hok
    exact cellOK_one (hok.2 _ (List.getElem_mem hj2)) (h7 j _ _ (List.getElem?_eq_getElem hj2) (List.getElem?_eq_getElem hj))
  let cells := madeCells zv.cells (m.toNat * i.size)
  have hcsz : cells.size = m.toNat * i.size := size_madeCells _ _
  have hget : ∀ p, p < m.toNat * i.size → cells[p]? = zv.cells[p % i.size]? := by
    intro p hp
    have hm : p % i.size < zv.cells.size := by rw [hzk]; exact Nat.mod_lt _ hk0
    rw [Array.getElem?_eq_getElem (by rw [hcsz]; exact hp), Array.getElem?_eq_getElem hm]
    simp only [cells, madeCells, Array.getElem_map, Array.getElem_range]
    rw [getElem!_pos zv.cells _ (by rw [hzk]; exact Nat.mod_lt _ hk0)]
    simp only [hzk]
  have hnm' : n.toNat ≤ m.toNat := by omega
  have hle : n.toNat * i.size ≤ m.toNat * i.size := Nat.mul_le_mul_right _ hnm'
  have hres : ResOK (fun _ => False) (base0 w) (w.alloc (.cells cells e)) (.fr e i.size (List.replicate n.toNat z)) (.slice (some (at_ w.heap.size 0)) n.toNat m.toNat) := by
    refine ⟨BelowB.base0 ((Below.refl _ w).alloc (Nat.le_refl _) _) (Nat.le_refl _), [.slice (some (at_ w.heap.size 0)) n.toNat m.toNat], rfl, rfl, ?_, ?_, ?_⟩
    · intro j x u hj hu
      cases j with
      | succ j => simp [compsOf] at hj
      | zero =>
        simp only [compsOf, List.getElem?_cons_zero, Option.some.injEq] at hj hu
        subst hj; subst hu
        show RowOK _ _ _ _ _ _ _
        have hml : m.toNat ≤ maxLen := by
          have : m.toNat ≤ 9223372036854775807 := by omega
          simpa [maxLen] using this
        refine ⟨hk0, cells.toList.take (n.toNat * i.size), ⟨?_, .inr ⟨w.heap.size, m.toNat, cells, by rw [List.length_replicate], Nat.zero_le _, heap_alloc_new w _, by rw [List.length_replicate]; exact hnm', hml, hcsz, by rw [List.length_replicate]⟩⟩, fun u hu => ?_, fun j r hjr => ?_⟩
        · rw [List.length_take, List.length_replicate, Array.length_toList, hcsz]
          omega
        · obtain ⟨p, hp, rfl⟩ := List.getElem_of_mem hu
          have hp0 := hp
          rw [List.length_take, Array.length_toList, hcsz] at hp
          have h9 := hget p (by omega)
          have hm : p % i.size < zv.cells.size := by rw [hzk]; exact Nat.mod_lt _ hk0
          rw [Array.getElem?_eq_getElem (by rw [hcsz]; omega), Array.getElem?_eq_getElem hm] at h9
          simp only [Option.some.injEq] at h9
          rw [List.getElem_take, Array.getElem_toList, h9]
          exact hone _ (by simp)
        · rw [RelL_get] at hjr
          cases hxj : (List.replicate n.toNat z)[j]? with
          | none => rw [hxj] at hjr; cases hjr
          | some x =>
            rw [hxj] at hjr
            simp only [Option.map_some, Option.some.injEq] at hjr
            subst hjr
            have hjl : j < n.toNat := by
              have := (List.getElem?_eq_some_iff.1 hxj).1
              simpa using this
            have hxz : x = z := by
              rw [List.getElem?_replicate, if_pos hjl] at hxj
              exact (Option.some.inj hxj).symm
            subst hxz
            rw [Rel_n]
            refine ⟨hcl, cells_mem ?_⟩
            obtain ⟨h10, h11⟩ := AllV_get _ _ _ _ ((RelL_mono (w' := w.alloc (.cells cells e)) (S' := resS (fun _ => False) (base0 w) (w.alloc (.cells cells e)) (compsOf (.fr e i.size (List.replicate n.toNat x))) [.slice (some (at_ w.heap.size 0)) n.toNat m.toNat]) (fun q hq => hq.elim) (fun q hq => hq.elim) (ObjLe.none κ0 κ0) x.cells).allV hzrel)
            refine AllM_of fun c y hy => ?_
            have hcx : c < i.size := by rw [← hcl]; exact (List.getElem?_eq_some_iff.1 hy).1
            have hcz : c < zv.cells.size := by omega
            refine ⟨zv.cells[c], ?_, h11 c y _ hy (by rw [Array.getElem?_toList, Array.getElem?_eq_getElem hcz])⟩
            have hp : j * i.size + c < n.toNat * i.size := by
              have := Nat.mul_le_mul_right i.size (show j + 1 ≤ n.toNat from hjl)
              rw [Nat.add_mul, Nat.one_mul] at this
              omega
            rw [List.getElem?_take, if_pos hp, Array.getElem?_toList, hget _ (by omega)]
            have e4 : (j * i.size + c) % i.size = c := by rw [Nat.mul_comm, Nat.mul_add_mod, Nat.mod_eq_of_lt hcx]
            rw [e4, Array.getElem?_eq_getElem hcz]
    · intro p q x y u u' hp hq hu hu' hpq
      cases p with
      | succ p => simp [compsOf] at hp
      | zero =>
        cases q with
        | zero => exact absurd rfl hpq
        | succ q => simp [compsOf] at hq
    · intro q y u hq hu hf b hb
      cases q with
      | succ q => simp [compsOf] at hq
      | zero =>
        simp only [List.getElem?_cons_zero, Option.some.injEq] at hu
        subst hu
        simp only [blkOf, Option.some.injEq] at hb
        subst hb
        exact base0_mine.2 (Nat.le_refl _)
  exact recv_sound h (r := .fr e i.size (List.replicate n.toNat z)) (v := .slice (some (at_ w.heap.size 0)) n.toNat m.toNat) (dst := dst) (d := d) (frz := []) (G := fun _ => False) (fun b hb => hb.elim) hd (by simpa [recv, recv1] using hfree) (.inl hres)
end
end Go.Abs
