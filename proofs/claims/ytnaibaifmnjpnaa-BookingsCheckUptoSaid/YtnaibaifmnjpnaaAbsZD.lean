import Derived.Test.YtnaibaifmnjpnaaAbsZC
set_option linter.unusedVariables false
set_option linter.unusedSimpArgs false
namespace Go.Abs
open Go.RowKit
section
variable {ops : Array Oper} {ord : List Nat} {n : Nat} {befs : List (List Nat)} (S : Stat ops ord n befs)
def cntU (ops : Array Oper) (ord : List Nat) (listed : Array Bool) : Nat → Nat
  | 0 => 0
  | n + 1 => cntU ops ord listed n + (if lst ops ord listed n then 0 else 1)
include S in
theorem cntU_set {listed : Array Bool} (hsz : listed.size = ops.size) {j : Nat} (hj : j < ops.size) (hl : lst ops ord listed j = false) : ∀ n, cntU ops ord (listed.setIfInBounds (ixOf ops ord j) true) n + (if j < n then 1 else 0) = cntU ops ord listed n
  | 0 => by simp [cntU]
  | n + 1 => by
    have ih := cntU_set hsz hj hl n
    simp only [cntU]
    rw [lst_set S hsz hj]
    by_cases e : n = j
    · subst e
      rw [hl]
      simp at ih ⊢
      omega
    · have e' : (n == j) = false := by simpa using e
      rw [e', Bool.or_false]
      have e2 : (if j < n + 1 then 1 else 0) = (if j < n then 1 else 0) := by
        by_cases h1 : j < n
        · simp [h1, show j < n + 1 by omega]
        · simp [h1, show ¬ j < n + 1 by omega]
      rw [e2]
      omega
theorem first_unlisted (f : Nat → Bool) : ∀ n, (∀ i, i < n → f i = true) ∨ ∃ i, i < n ∧ f i = false ∧ ∀ k, k < i → f k = true
  | 0 => .inl fun i h => by omega
  | n + 1 => by
    rcases first_unlisted f n with h | ⟨i, h1, h2, h3⟩
    · cases hn : f n with
      | false => exact .inr ⟨n, by omega, hn, h⟩
      | true =>
        refine .inl fun i hi => ?_
        by_cases e : i = n
        · subst e; exact hn
        · exact h i (by omega)
    · exact .inr ⟨i, by omega, h2, h3⟩
end
section
variable {F : Nat → Prop} {w0 : World}
theorem head_any {P : Program} {C : Callee} {ops : Array Oper} {ord : List Nat} {n : Nat} {befs : List (List Nat)} (S : Stat ops ord n befs) {Q : Exit → Act → World → Prop} (hC : CallOK P C) {σ0 τ : Env} {es : Effs} (G : Good σ0 es) (hlen : es.length = n)
    (hstep : ∀ j o, j < n → (inOrd ops ord)[j]? = some o → ∃ e, es[j]? = some (o.dst, e) ∧ stepE P C ops (envSub (befAt befs j) (es.take j) 0 σ0) o = some e)
    (hfrz : ∀ j, j < n → FrzOK σ0 es (fun i k => decide (i < ops.size) && befAt befs i k) j)
    (hs : opsA P C ops ((inOrd ops ord).drop n) (envSub (fun _ => true) es 0 σ0) = some τ) (hQ : ∀ κ' a' w', St F w0 κ' τ a' w' → Q .normal a' w') :
    ∀ (fuel : Nat) (listed : Array Bool) {κ : Nat → Value} {σ : Env} {a : Act} {w : World}, listed.size = ops.size → St F w0 κ σ a w → Desc σ0 es (lst ops ord listed) σ → (∀ k, lst ops ord listed k = true → ∀ m, befAt befs k m = true → lst ops ord listed m = true) →
      (∀ j, n ≤ j → lst ops ord listed j = false) → cntU ops ord listed n + (ops.size - n) ≤ fuel → wpAny P .any ops Q fuel listed a w := by
  have hnle := S.le
  have hLlen := S.len
  have Lsome : ∀ {j : Nat}, j < ops.size → ∃ o, (inOrd ops ord)[j]? = some o := fun hj => ⟨_, List.getElem?_eq_getElem (by omega)⟩
  have hlt : ∀ i k, (decide (i < ops.size) && befAt befs i k) = true → k < i := fun i k h => by
    simp only [Bool.and_eq_true, decide_eq_true_eq] at h
    exact S.lt i k h.1 h.2
  have done : ∀ (fuel : Nat) (listed : Array Bool) {κ : Nat → Value} {σ : Env} {a : Act} {w : World}, listed.size = ops.size → St F w0 κ σ a w → Desc σ0 es (lst ops ord listed) σ → (∀ j, n ≤ j → lst ops ord listed j = false) → ops.size - n ≤ fuel →
      (∀ i, i < n → lst ops ord listed i = true) → wpAny P .any ops Q fuel listed a w := by
    intro fuel listed κ σ a w hsz hst hD hno hf hall
    have hτ : σ = envSub (fun _ => true) es 0 σ0 := by
      have h4 := envSub_desc G (b := fun _ => true) hlt (fun _ _ _ _ => rfl) n (by omega) hfrz
      rw [List.take_of_length_le (by omega)] at h4
      refine desc_unique (desc_congr hD fun i hi => ?_) h4
      simp only [Bool.true_and]
      rw [hall i (by omega)]
      simp; omega
    rw [← hτ] at hs
    exact tail_any S hC ((inOrd ops ord).drop n) n listed (Nat.le_refl _) (by simp; omega) (fun j => by simp) hsz (fun i hi => by
      by_cases hin : i < n
      · rw [hall i hin]; simp [hin]
      · rw [hno i (by omega)]; simp [hin]) hs hst hQ fuel (by simp; omega)
  intro fuel
  induction fuel with
  | zero =>
    intro listed κ σ a w hsz hst hD hcl hno hf
    rcases first_unlisted (lst ops ord listed) n with hall | ⟨i, h1, h2, h3⟩
    · exact done 0 listed hsz hst hD hno (by omega) hall
    · exfalso
      have := cntU_set S (listed := listed) (j := i) hsz (by omega) h2 n
      rw [if_pos h1] at this
      omega
  | succ fuel ih =>
    intro listed κ σ a w hsz hst hD hcl hno hf
    rcases first_unlisted (lst ops ord listed) n with hall | ⟨i, h1, h2, h3⟩
    · exact done (fuel + 1) listed hsz hst hD hno (by omega) hall
    · have hi0 : i < ops.size := by omega
      have hready : ixOf ops ord i ∈ Region.ready .any ops listed := by
        obtain ⟨oi, hoi⟩ := Lsome hi0
        refine (ready_lst S hsz).2 ⟨i, oi, hi0, rfl, by rw [← (S.get i hi0).1]; exact hoi, hoi, h2, fun e he hb => ?_⟩
        exact h3 _ (S.edges i _ e hoi he hb)
      refine ⟨fun hno => (by rw [hno] at hready; cases hready), fun jr hj => ?_⟩
      obtain ⟨j, o, hjs, hjr, hor, ho, hju, hall⟩ := (ready_lst S hsz).1 hj
      have hbj := ready_bef S hsz hcl ho hall
      have hjn : j < n := by
        rcases Nat.lt_or_ge j n with h | h
        · exact h
        · have := hbj i (S.tail j i h hjs (by omega))
          rw [h2] at this
          cases this
      obtain ⟨e, he, hse⟩ := hstep j o hjn ho
      -- the lesser environment
      have Dj := envSub_desc G (b := befAt befs j) hlt (fun k x hk hx => by
        simp only [Bool.and_eq_true, decide_eq_true_eq] at hx
        exact S.trans j k x hjs hk hx.2) j (by omega) fun k hk => hfrz k (by omega)
      have hsub : ∀ k, (befAt befs j k && decide (k < j)) = true → lst ops ord listed k = true := fun k hk => by
        simp only [Bool.and_eq_true] at hk
        exact hbj k hk.1
      have esAt : ∀ {k : Nat} {d e'}, es[k]? = some (d, e') → k < n ∧ ∃ q, (inOrd ops ord)[k]? = some q ∧ q.dst = d := by
        intro k d e' hk
        have hkn : k < n := by rw [← hlen]; exact (List.getElem?_eq_some_iff.1 hk).1
        have hks : k < ops.size := by omega
        obtain ⟨q, hq⟩ := Lsome hks
        obtain ⟨e2, h5, _⟩ := hstep k _ hkn hq
        rw [hk] at h5
        simp only [Option.some.injEq, Prod.mk.injEq] at h5
        exact ⟨hkn, _, hq, h5.1.symm⟩
      have hlook : ∀ t ∈ o.looksAt ops, (envSub (befAt befs j) (es.take j) 0 σ0).slots t = σ.slots t := by
        intro t ht
        by_cases hex : ∃ (k : Nat) (e' : Eff), es[k]? = some (some t, e') ∧ k ≠ j
        · obtain ⟨k, e', hk, hkj⟩ := hex
          obtain ⟨hkn, q, hq, hqd⟩ := esAt hk
          have hb := (S.apart k j q o t hkn hjn hq ho hkj hqd).2 ht
          rw [Dj.slot1 k t e' hk (by simp [hb, S.lt j k hjs hb]), hD.slot1 k t e' hk (hbj k hb)]
        · have hnot : ∀ (k : Nat) (e' : Eff), es[k]? = some (some t, e') → k = j := fun k e' hk => by
            apply Classical.byContradiction
            intro hkj
            exact hex ⟨k, e', hk, hkj⟩
          rw [Dj.slot0 t fun k e' hk => by rw [hnot k e' hk]; simp, hD.slot0 t fun k e' hk => by rw [hnot k e' hk]; exact hju]
      have hobjs : ObjsIn (envSub (befAt befs j) (es.take j) 0 σ0).objs σ.objs := by
        intro id ob hob
        by_cases hex : ∃ (k : Nat) (d : Option Nat) (e' : Eff), es[k]? = some (d, e') ∧ (befAt befs j k && decide (k < j)) = true ∧ id ∈ e'.news.map (·.1)
        · obtain ⟨k, d, e', hk, hb, hid⟩ := hex
          obtain ⟨p, hp, rfl⟩ := List.mem_map.1 hid
          rw [Dj.obj1 k d e' p hk hb hp] at hob
          rw [hD.obj1 k d e' p hk (hsub k hb) hp]
          cases hob
          refine ⟨fzL es (lst ops ord listed) p.1, ?_⟩
          rw [orFz_orFz]
          congr 2
          cases hfz : fzL es (fun i => befAt befs j i && decide (i < j)) p.1 with
          | false => simp
          | true => simp [fzL_mono (L' := lst ops ord listed) hsub hfz]
        · rw [Dj.obj0 id fun k d e' hk hb hid => hex ⟨k, d, e', hk, hb, hid⟩] at hob
          obtain ⟨o2, ho2, ho3⟩ := map_some hob
          have : ∀ (k : Nat) (d : Option Nat) (e' : Eff), es[k]? = some (d, e') → lst ops ord listed k = true → id ∉ e'.news.map (·.1) := by
            intro k d e' hk _ hid
            obtain ⟨p, hp, rfl⟩ := List.mem_map.1 hid
            rw [G.free k d e' p hk hp] at ho2
            cases ho2
          rw [hD.obj0 id this, ho2]
          subst ho3
          refine ⟨fzL es (lst ops ord listed) id, ?_⟩
          simp only [Option.map_some]
          rw [orFz_orFz]
          congr 2
          cases hfz : fzL es (fun i => befAt befs j i && decide (i < j)) id with
          | false => simp
          | true => simp [fzL_mono (L' := lst ops ord listed) hsub hfz]
      have hfree : ∀ p ∈ e.news, σ.objs p.1 = none := by
        intro p hp
        rw [hD.obj0 p.1 fun k d e' hk hlk hid => G.apart k j d _ e' e _ hk he (fun ekj => by rw [ekj, hju] at hlk; cases hlk) hid (List.mem_map.2 ⟨p, hp, rfl⟩), G.free j _ e p he hp]
        rfl
      have hset : (fun k => lst ops ord listed k || k == j) = lst ops ord (listed.setIfInBounds (ixOf ops ord j) true) := by funext k; rw [lst_set S hsz hjs]
      subst hjr
      have hst' := stepE_sound hst hC (ops := ops) (o := o) hse (Dj.n.trans hD.n.symm) hlook hobjs hfree (K := wpAny P .any ops Q fuel (listed.setIfInBounds (ixOf ops ord j) true)) (Q := Q) fun κ' a' w' h' => by
        refine ih (listed.setIfInBounds (ixOf ops ord j) true) (by simpa using hsz) h' ?_ ?_ ?_ ?_
        · rw [← hset]
          refine desc_step (bef := fun i k => decide (i < ops.size) && befAt befs i k) G hD he hju (fun k hk m hm => ?_) (fun m hm => ?_) (fun k hk => ?_)
          · simp only [Bool.and_eq_true] at hm
            exact hcl k hk m hm.2
          · simp only [Bool.and_eq_true] at hm
            exact hbj m hm.2
          · simp only [Bool.or_eq_true, beq_iff_eq] at hk
            refine hfrz k ?_
            rcases hk with hk | hk
            · rcases Nat.lt_or_ge k n with h | h
              · exact h
              · rw [hno k h] at hk; cases hk
            · omega
        · intro k hk m hm
          rw [lst_set S hsz hjs] at hk ⊢
          simp only [Bool.or_eq_true, beq_iff_eq] at hk ⊢
          rcases hk with hk | hk
          · exact .inl (hcl k hk m hm)
          · subst hk
            exact .inl (hbj m hm)
        · intro k hk
          rw [lst_set S hsz hjs, hno k hk]
          simp; omega
        · have := cntU_set S hsz hjs hju n
          rw [if_pos hjn] at this
          omega
      unfold wpOp
      rw [hor]
      simp only
      split
      · rename_i hw; rw [if_pos hw] at hst'; exact .inl hst'
      · rename_i hw; rw [if_neg hw] at hst'; exact hst'
end
theorem St.drawn {F : Nat → Prop} {w0 : World} {κ : Nat → Value} {σ : Env} {a : Act} {w : World} (h : St F w0 κ σ a w) : St F w0 κ σ a { w with drawn := w.drawn + 1 } := by
  have hS : ∀ k, Sset F w0.heap.size w κ σ.objs k → Sset F w0.heap.size { w with drawn := w.drawn + 1 } κ σ.objs k := fun k hk => hk
  refine ⟨fun t => (Rel_mono (w := w) (w' := { w with drawn := w.drawn + 1 }) hS (fun _ _ => rfl) (ObjLe.refl _ _) (σ.slots t)).val _ (h.slots t), fun id o ho => (h.objs id o ho).mono (w' := { w with drawn := w.drawn + 1 }) hS (fun _ _ => rfl) (ObjLe.refl _ _) rfl fun _ _ => rfl, h.apart, ⟨h.below.os, h.below.tape, h.below.output, h.below.size, h.below.block⟩, h.defers, h.size⟩
theorem draw_ok {P : Program} (hm : P.follows .mixedOrders = true) : ∀ C, CallOK P C → DrawOK P C := by
  intro C hC F w0 κ σ τ a w id ops ord Q hd hst hQ
  unfold drawA at hd
  simp only at hd
  split at hd
  case isFalse => cases hd
  rename_i hstat
  have S := statOk_spec hstat
  generalize hn : ((inOrd ops ord).findIdx fun o => !quietOp o.op) = n at S hd
  generalize hbf : befsOf ord (inOrd ops ord) [] = befs at S hd
  obtain ⟨es, he, hd⟩ := bind_some' hd
  split at hd
  case isFalse => cases hd
  rename_i hnew
  have hnle := S.le
  have hLlen := S.len
  have Lsome : ∀ {j : Nat}, j < ops.size → ∃ o, (inOrd ops ord)[j]? = some o := fun hj => ⟨_, List.getElem?_eq_getElem (by omega)⟩
  obtain ⟨hl, _, hsp⟩ := effsA_spec _ he
  have hlen : es.length = n := by rw [hl, List.length_take]; simp; omega
  have hstep : ∀ j o, j < n → (inOrd ops ord)[j]? = some o → ∃ e, es[j]? = some (o.dst, e) ∧ stepE P C ops (envSub (befAt befs j) (es.take j) 0 σ) o = some e := by
    intro j o hj ho
    obtain ⟨e, h1, h2⟩ := hsp j o (by rw [List.getElem?_take, if_pos hj]; simpa using ho)
    simp only [List.length_nil, Nat.zero_add] at h1 h2
    exact ⟨e, h1, h2⟩
  have G : Good σ es := newsOk_good hnew fun i j d e e' hi hj => by
    apply Classical.byContradiction
    intro hij
    have hin : i < n := by rw [← hlen]; exact (List.getElem?_eq_some_iff.1 hi).1
    have hjn : j < n := by rw [← hlen]; exact (List.getElem?_eq_some_iff.1 hj).1
    obtain ⟨oi, hoi⟩ := Lsome (j := i) (by omega)
    obtain ⟨oj, hoj⟩ := Lsome (j := j) (by omega)
    obtain ⟨e1, h1, _⟩ := hstep i _ hin hoi
    obtain ⟨e2, h2, _⟩ := hstep j _ hjn hoj
    rw [hi] at h1
    rw [hj] at h2
    simp only [Option.some.injEq, Prod.mk.injEq] at h1 h2
    exact (S.apart i j _ _ d hin hjn hoi hoj hij h1.1.symm).1 h2.1.symm
  have hlt : ∀ i k, (decide (i < ops.size) && befAt befs i k) = true → k < i := fun i k h => by
    simp only [Bool.and_eq_true, decide_eq_true_eq] at h
    exact S.lt i k h.1 h.2
  have hfrz : ∀ j, j < n → FrzOK σ es (fun i k => decide (i < ops.size) && befAt befs i k) j := by
    intro j
    induction j using Nat.strongRecOn with
    | _ j ih =>
      intro hj d e id hej hid
      have hjs : j < ops.size := by omega
      obtain ⟨oj, hoj⟩ := Lsome hjs
      obtain ⟨e', h1, h2⟩ := hstep j _ hj hoj
      rw [hej] at h1
      simp only [Option.some.injEq, Prod.mk.injEq] at h1
      obtain ⟨_, rfl⟩ := h1
      have Dj := envSub_desc G (b := befAt befs j) hlt (fun k x hk hx => by
        simp only [Bool.and_eq_true, decide_eq_true_eq] at hx
        exact S.trans j k x hjs hk hx.2) j (by omega) fun k hk => ih k hk (by omega)
      have hsome : ((envSub (befAt befs j) (es.take j) 0 σ).objs id).isSome = true := by
        unfold stepE at h2
        split at h2
        case isFalse => cases h2
        obtain ⟨b, _, h2⟩ := bind_some' h2
        cases b with
        | false =>
          simp only [Option.some.injEq] at h2
          subst h2
          cases hid
        | true =>
          simp only at h2
          obtain ⟨e2, _, h3⟩ := bind_some' h2
          split at h3
          case isFalse => cases h3
          rename_i hall
          cases h3
          exact List.all_eq_true.1 hall id hid
      by_cases hex : ∃ (k : Nat) (d : Option Nat) (e' : Eff), es[k]? = some (d, e') ∧ (befAt befs j k && decide (k < j)) = true ∧ id ∈ e'.news.map (·.1)
      · obtain ⟨k, d2, e2, hk, hb, hid2⟩ := hex
        simp only [Bool.and_eq_true] at hb
        exact .inr ⟨k, d2, e2, by simp [hjs, hb.1], hk, hid2⟩
      · rw [Dj.obj0 id fun k d e' hk hb hid => hex ⟨k, d, e', hk, hb, hid⟩] at hsome
        refine .inl fun hnone => ?_
        rw [hnone] at hsome
        cases hsome
  refine wp_region_any hm ?_
  have hlst0 : lst ops ord (Array.replicate ops.size false) = fun _ => false := by
    funext i
    simp only [lst, Array.getD_eq_getD_getElem?, Array.getElem?_replicate]
    split <;> rfl
  refine head_any S hC G hlen hstep hfrz hd hQ _ _ (by simp) hst.drawn (by rw [hlst0]; exact desc_none) (fun k hk => by rw [hlst0] at hk; cases hk) (fun j _ => by rw [hlst0]) ?_
  have hc : ∀ m, cntU ops ord (Array.replicate ops.size false) m ≤ m := by
    intro m
    induction m with
    | zero => simp [cntU]
    | succ m ih =>
      simp only [cntU]
      split <;> omega
  have := hc n
  omega
end Go.Abs
