import Derived.Test.YtnaibaifmnjpnaaETEPlain2
set_option linter.unusedVariables false
set_option linter.unusedSimpArgs false
namespace Go.Abs.TE
open Go.RowKit
/-! Looking a number up in rising ones. -/
theorem T293_eq (x t : Int) : T293 x t = some (ltI x t) := by
  unfold T293 T247
  rw [neI_self]
  rfl
theorem T294_eq (x : Int) : T294 x = some false := by
  unfold T294
  rw [neI_self]
theorem rise_get {l : List Int} (h : l.Pairwise (· < ·)) {i j : Nat} {x y : Int} (hij : i < j) (hx : l[i]? = some x) (hy : l[j]? = some y) : x < y := by
  obtain ⟨h1, rfl⟩ := List.getElem?_eq_some_iff.1 hx
  obtain ⟨h2, rfl⟩ := List.getElem?_eq_some_iff.1 hy
  exact List.pairwise_iff_getElem.1 h i j h1 h2 hij
theorem T269_eq (l : List Int) (t : Int) (h : l.length ≤ 1048576) (hr : l.Pairwise (· < ·)) : ∃ i, T269 l t = some (i, l.any fun x => eqI x t) := by
  have hi : ∃ r, iter (L269_3 l t) (((0 : Nat) : Int), (l.length : Int)) = some r ∧ ∃ k : Nat, r.1 = (k : Int) ∧ k ≤ l.length ∧ (∀ i x, i < k → l[i]? = some x → x < t) ∧ (∀ i x, k ≤ i → l[i]? = some x → t ≤ x) := by
    refine iter_meas (fun z => ∃ a b : Nat, z = ((a : Int), (b : Int)) ∧ a ≤ b ∧ b ≤ l.length ∧ (∀ i x, i < a → l[i]? = some x → x < t) ∧ (∀ i x, b ≤ i → l[i]? = some x → t ≤ x)) (fun z => (z.2 - z.1).toNat) _ ?_ _ ⟨0, l.length, rfl, by omega, by omega, fun i x hi => by omega, fun i x hi hx => ?_⟩
    · rintro _ ⟨a, b, rfl, hab, hb, h1, h2⟩
      by_cases hlt : a < b
      · left
        have h3 : ltI (a : Int) (b : Int) = true := by rw [ltI_iff]; simp; omega
        have hm : (a + b) / 2 < l.length := by omega
        have hx := List.getElem?_eq_getElem hm
        by_cases hc : l[(a + b) / 2] < t
        · refine ⟨((((a + b) / 2 + 1 : Nat) : Int), (b : Int)), ?_, ⟨_, b, rfl, by omega, hb, fun i x hi hxi => ?_, h2⟩, by simp only; omega⟩
          · have h4 : addI .i64 (((a + b) / 2 : Nat) : Int) 1 = (((a + b) / 2 + 1 : Nat) : Int) := by rw [addI_eq (by omega) (by omega)]; omega
            have h5 : ltI l[(a + b) / 2] t = true := by rw [ltI_iff]; simpa using hc
            simp only [L269_3, h3, cond_true, half_eq (a := a) (b := b) (by omega), listAt_some hx, Option.bind_some, T293_eq, h5, h4]
          · rcases Nat.lt_or_ge i ((a + b) / 2) with h5 | h5
            · exact Int.lt_trans (rise_get hr h5 hxi hx) hc
            · have : i = (a + b) / 2 := by omega
              subst this
              rw [hx] at hxi
              cases hxi
              exact hc
        · refine ⟨((a : Int), (((a + b) / 2 : Nat) : Int)), ?_, ⟨a, _, rfl, by omega, by omega, h1, fun i x hi hxi => ?_⟩, by simp only; omega⟩
          · have h5 : ltI l[(a + b) / 2] t = false := by rw [ltI_iff]; simpa using hc
            simp only [L269_3, h3, cond_true, half_eq (a := a) (b := b) (by omega), listAt_some hx, Option.bind_some, T293_eq, h5, cond_false]
          · rcases Nat.lt_or_ge ((a + b) / 2) i with h5 | h5
            · have := rise_get hr h5 hx hxi
              omega
            · have : i = (a + b) / 2 := by omega
              subst this
              rw [hx] at hxi
              cases hxi
              omega
      · right
        have h3 : ltI (a : Int) (b : Int) = false := by rw [ltI_iff]; simp; omega
        have : a = b := by omega
        subst this
        refine ⟨((a : Int), (a : Int), false), ?_, a, rfl, hb, h1, h2⟩
        simp only [L269_3, h3, cond_false]
    · have := (List.getElem?_eq_some_iff.1 hx).1
      omega
  obtain ⟨r, h1, k, h2, h3, h4, h5⟩ := hi
  unfold T269
  rw [show (0 : Int) = ((0 : Nat) : Int) from rfl, show lenL l = (l.length : Int) from rfl, h1, Option.bind_some, h2]
  by_cases hk : k < l.length
  · have h6 : ltI (k : Int) (l.length : Int) = true := by rw [ltI_iff]; simpa using hk
    have hx := List.getElem?_eq_getElem hk
    rw [h6]
    simp only [cond_true, listAt_some hx, Option.bind_some, T294_eq, cond_false]
    cases he : eqI l[k] t with
    | true =>
      refine ⟨k, ?_⟩
      have : (l.any fun x => eqI x t) = true := List.any_eq_true.2 ⟨l[k], List.getElem_mem hk, he⟩
      rw [this]
      rfl
    | false =>
      refine ⟨k, ?_⟩
      have : (l.any fun x => eqI x t) = false := by
        rw [List.any_eq_false]
        intro x hxm he2
        obtain ⟨i, hi⟩ := List.getElem?_of_mem hxm
        have hxt : x = t := by rw [eqI_iff] at he2; simpa using he2
        subst hxt
        rcases Nat.lt_trichotomy i k with h7 | h7 | h7
        · have := h4 i x h7 hi; omega
        · subst h7
          rw [hx] at hi
          cases hi
          rw [eqI_self] at he; cases he
        · have h8 := rise_get hr h7 hx hi
          have := h5 k _ (Nat.le_refl _) hx
          omega
      rw [this]
      rfl
  · have h6 : ltI (k : Int) (l.length : Int) = false := by rw [ltI_iff]; simp; omega
    rw [h6]
    refine ⟨k, ?_⟩
    have : (l.any fun x => eqI x t) = false := by
      rw [List.any_eq_false]
      intro x hxm he2
      obtain ⟨i, hi⟩ := List.getElem?_of_mem hxm
      have hxt : x = t := by rw [eqI_iff] at he2; simpa using he2
      subst hxt
      have hil := (List.getElem?_eq_some_iff.1 hi).1
      have := h4 i x (by omega) hi
      omega
    rw [this]
    rfl
theorem T209_eq (l : List Int) (t : Int) (h : l.length ≤ 1048576) : T209 l t = some (l.any fun x => eqI x t) := by
  obtain ⟨r, h1, h2⟩ := wp_any (fun x => eqI t x) 0 l
  have hi : iter (L249_2 l t) ((0 : Nat) : Int) = some (Sum.elim (fun _ => .inl ((l.length : Int), false)) (fun r : Nat => .inr (r : Int)) (wp (fun i (_ : Unit) x => bif eqI t x then (.inr i : Unit ⊕ Nat) else .inl ()) 0 () l)) := by
    refine iter_wp (fun _ i => (i : Int)) _ _ l _ (fun _ _ => True) (fun i u x hx _ => ⟨?_, fun _ _ => trivial⟩) (fun u _ => ?_) _ trivial
    · have hlt : i < l.length := (List.getElem?_eq_some_iff.1 hx).1
      have h1 : ltI (i : Int) (lenL l) = true := by rw [ltI_iff, lenL_eq]; simpa using hlt
      have h2 : addI .i64 (i : Int) 1 = ((i + 1 : Nat) : Int) := by rw [addI_eq (by omega) (by omega)]; omega
      simp only [L249_2, h1, cond_true, listAt_some hx, Option.bind_some, h2]
      cases eqI t x <;> rfl
    · have h1 : ltI (l.length : Int) (lenL l) = false := by rw [ltI_iff, lenL_eq]; simp
      simp only [L249_2, h1, cond_false]
  have he : (l.any fun x => eqI x t) = l.any fun x => eqI t x := by
    congr 1
    funext x
    rw [eqI_iff, eqI_iff, Bool.eq_iff_iff]
    simp only [decide_eq_true_eq]
    exact ⟨Eq.symm, Eq.symm⟩
  unfold T209 T249
  rw [show (0 : Int) = ((0 : Nat) : Int) from rfl, hi, h1, he, ← h2]
  cases r with
  | inl u => rfl
  | inr k =>
    simp only [Sum.elim_inr, Option.bind_some, Sum.isRight_inr, leI_iff]
    congr 1
/-! Days. -/
def bitB (m d : Int) : Bool := eqI (bitI .and .i64 (m.fdiv (2 ^ min (d.tmod 7).toNat 64)) 1) 1
theorem bits_eq : ∀ a : Fin 128, ∀ r : Fin 7, eqI (bitI .and .i64 (a.val : Int) (IntKind.i64.wrap (1 * 2 ^ min (r.val : Int).toNat 64))) 0 = !eqI (bitI .and .i64 ((a.val : Int).fdiv (2 ^ min (r.val : Int).toNat 64)) 1) 1 := by decide +kernel
theorem bit_eq {m d : Int} (hm : 1 ≤ m ∧ m ≤ 127) (hd : 0 ≤ d) : eqI (bitI .and .i64 m (IntKind.i64.wrap (1 * 2 ^ min (d.tmod 7).toNat 64))) 0 = !bitB m d := by
  have h1 : d.tmod 7 = d % 7 := Int.tmod_eq_emod_of_nonneg hd
  have := bits_eq ⟨m.toNat, by omega⟩ ⟨(d % 7).toNat, by omega⟩
  unfold bitB
  rw [h1]
  simp only at this
  rwa [Int.toNat_of_nonneg (by omega), Int.toNat_of_nonneg (by omega)] at this
def dayB (e : S105) (d : Int) : Bool := !outB d e.f3 e.f4 && (eqI ((d - e.f3).tmod e.f5) 0 && (bitB e.f6 d && !(e.f7.any fun x => eqI x d)))
structure Fine (e : S105) : Prop where
  span : 0 ≤ e.f3 ∧ e.f3 ≤ e.f4 ∧ e.f4 ≤ 4000
  step : 1 ≤ e.f5 ∧ e.f5 ≤ 400
  mask : 1 ≤ e.f6 ∧ e.f6 ≤ 127
  exc : (∀ d ∈ e.f7, 0 ≤ d ∧ d ≤ 4000) ∧ e.f7.Pairwise (· < ·)
  len : e.f7.length ≤ 1048576
  t8 : 0 ≤ e.f8 ∧ e.f8 ≤ 1439
  t9 : 0 ≤ e.f9 ∧ e.f9 ≤ 1439
theorem fine {e : S105} (h : ok105 1048576 e) (h0 : entF e = 0) : Fine e := by
  obtain ⟨h1, h2, h3, h4, h5, h6⟩ := entF_ok h0
  exact ⟨h1, h2, h3, h4, h.2.2.2.2.2.2.2.1.1, h5, h6⟩
theorem T232_eq {e : S105} (F : Fine e) {d : Int} (hd : 0 ≤ d ∧ d ≤ 4000) : T232 e d = some (dayB e d) := by
  obtain ⟨i, h1⟩ := T269_eq e.f7 d F.len F.exc.2
  have hs := F.span
  have hp := F.step
  have h2 : subI .i64 d e.f3 = d - e.f3 := subI_eq (by omega) (by omega)
  have h3 : remO .i64 (d - e.f3) e.f5 = some ((d - e.f3).tmod e.f5) := by unfold remO; rw [if_neg (by omega)]
  have h4 : shlO .i64 1 (remI .i64 d 7) = some (IntKind.i64.wrap (1 * 2 ^ min (d.tmod 7).toNat 64)) := by
    unfold shlO remI
    rw [Int.tmod_eq_emod_of_nonneg hd.1, if_neg (by omega)]
    rfl
  unfold T232 dayB
  rw [T126_eq, Option.bind_some, h1, h2, h3, h4]
  rw [show eqI ((d - e.f3).tmod e.f5) 0 = decide ((d - e.f3).tmod e.f5 = 0) from eqI_iff]
  simp only [Option.bind_some, bit_eq F.mask hd.1, neI_iff]
  cases outB d e.f3 e.f4; rotate_left; · rfl
  cases decide ((d - e.f3).tmod e.f5 = 0); · rfl
  cases bitB e.f6 d <;> rfl
theorem T164_eq {e : S105} (F : Fine e) {d : Int} (hd : 0 ≤ d ∧ d ≤ 4000) : T164 e d = some (dayB e d) := by
  have hs := F.span
  have hp := F.step
  have h2 : subI .i64 d e.f3 = d - e.f3 := subI_eq (by omega) (by omega)
  have h3 : remO .i64 (d - e.f3) e.f5 = some ((d - e.f3).tmod e.f5) := by unfold remO; rw [if_neg (by omega)]
  have h4 : shrO .i64 e.f6 (remI .i64 d 7) = some (e.f6.fdiv (2 ^ min (d.tmod 7).toNat 64)) := by
    unfold shrO remI
    rw [Int.tmod_eq_emod_of_nonneg hd.1, if_neg (by omega)]
    rfl
  unfold T164 dayB
  rw [T132_eq, inB, Option.bind_some, h2, h3, h4, T209_eq _ _ F.len]
  simp only [Option.bind_some, eqI_iff]
  cases outB d e.f3 e.f4; rotate_left; · rfl
  cases decide ((d - e.f3).tmod e.f5 = 0); · rfl
  unfold bitB
  rw [eqI_iff]
  cases decide (bitI .and .i64 (e.f6.fdiv (2 ^ min (d.tmod 7).toNat 64)) 1 = 1) <;> rfl
/-! Times. -/
def timeS (e : S105) (off d : Int) : S38 := ⟨d * 86400000 - off * 60000 + e.f8 * 60000, d * 86400000 - off * 60000 + (bif leI e.f9 e.f8 then e.f9 + 1440 else e.f9) * 60000⟩
theorem T163_eq {e : S105} (F : Fine e) {off d : Int} (ho : -1440 ≤ off ∧ off ≤ 1440) (hd : 0 ≤ d ∧ d ≤ 4000) : T163 e off d = some (timeS e off d) := by
  have h8 := F.t8
  have h9 := F.t9
  have h1 : mulI .i64 d 86400000 = d * 86400000 := mulI_eq (by omega) (by omega)
  have h2 : mulI .i64 off 60000 = off * 60000 := mulI_eq (by omega) (by omega)
  have h3 : mulI .i64 e.f8 60000 = e.f8 * 60000 := mulI_eq (by omega) (by omega)
  have h4 : mulI .i64 e.f9 60000 = e.f9 * 60000 := mulI_eq (by omega) (by omega)
  have h5 : addI .i64 e.f9 1440 = e.f9 + 1440 := addI_eq (by omega) (by omega)
  have h6 : mulI .i64 (e.f9 + 1440) 60000 = (e.f9 + 1440) * 60000 := mulI_eq (by omega) (by omega)
  have h7 : subI .i64 (d * 86400000) (off * 60000) = d * 86400000 - off * 60000 := subI_eq (by omega) (by omega)
  have h10 : addI .i64 (d * 86400000 - off * 60000) (e.f8 * 60000) = d * 86400000 - off * 60000 + e.f8 * 60000 := addI_eq (by omega) (by omega)
  have h11 : addI .i64 (d * 86400000 - off * 60000) (e.f9 * 60000) = d * 86400000 - off * 60000 + e.f9 * 60000 := addI_eq (by omega) (by omega)
  have h12 : addI .i64 (d * 86400000 - off * 60000) ((e.f9 + 1440) * 60000) = d * 86400000 - off * 60000 + (e.f9 + 1440) * 60000 := addI_eq (by omega) (by omega)
  unfold T163 timeS
  simp only [h1, h2, h3, h4, h5, h6, h7, h10, h11, h12]
  cases leI e.f9 e.f8 <;> rfl
theorem T233_eq {e : S105} (F : Fine e) {off d : Int} (ho : -1440 ≤ off ∧ off ≤ 1440) (hd : 0 ≤ d ∧ d ≤ 4000) : T233 e off d = some (timeS e off d) := by
  have h8 := F.t8
  have h9 := F.t9
  have h1 : mulI .i64 d 1440 = d * 1440 := mulI_eq (by omega) (by omega)
  have h2 : addI .i64 (d * 1440) e.f8 = d * 1440 + e.f8 := addI_eq (by omega) (by omega)
  have h3 : subI .i64 (d * 1440 + e.f8) off = d * 1440 + e.f8 - off := subI_eq (by omega) (by omega)
  have h4 : mulI .i64 (d * 1440 + e.f8 - off) 60000 = (d * 1440 + e.f8 - off) * 60000 := mulI_eq (by omega) (by omega)
  have h5 : subI .i64 e.f9 e.f8 = e.f9 - e.f8 := subI_eq (by omega) (by omega)
  have h6 : addI .i64 (e.f9 - e.f8) 1440 = e.f9 - e.f8 + 1440 := addI_eq (by omega) (by omega)
  have h7 : mulI .i64 (e.f9 - e.f8) 60000 = (e.f9 - e.f8) * 60000 := mulI_eq (by omega) (by omega)
  have h10 : mulI .i64 (e.f9 - e.f8 + 1440) 60000 = (e.f9 - e.f8 + 1440) * 60000 := mulI_eq (by omega) (by omega)
  have h11 : addI .i64 ((d * 1440 + e.f8 - off) * 60000) ((e.f9 - e.f8) * 60000) = (d * 1440 + e.f8 - off) * 60000 + (e.f9 - e.f8) * 60000 := addI_eq (by omega) (by omega)
  have h12 : addI .i64 ((d * 1440 + e.f8 - off) * 60000) ((e.f9 - e.f8 + 1440) * 60000) = (d * 1440 + e.f8 - off) * 60000 + (e.f9 - e.f8 + 1440) * 60000 := addI_eq (by omega) (by omega)
  unfold T233 timeS
  simp only [h1, h2, h3, h4, h5, h6, h7, h10, h11, h12]
  have hc : leI (e.f9 - e.f8) 0 = leI e.f9 e.f8 := by
    rw [leI_iff, leI_iff, Bool.eq_iff_iff]
    simp only [decide_eq_true_eq]
    omega
  rw [hc]
  have h13 : (d * 1440 + e.f8 - off) * 60000 = d * 86400000 - off * 60000 + e.f8 * 60000 := by omega
  have h14 : (d * 1440 + e.f8 - off) * 60000 + (e.f9 - e.f8) * 60000 = d * 86400000 - off * 60000 + e.f9 * 60000 := by omega
  have h15 : (d * 1440 + e.f8 - off) * 60000 + (e.f9 - e.f8 + 1440) * 60000 = d * 86400000 - off * 60000 + (e.f9 + 1440) * 60000 := by omega
  rw [h14, h15, h13]
  cases leI e.f9 e.f8 <;> rfl
theorem timeS_span {e : S105} (F : Fine e) (off d : Int) : (timeS e off d).f0 < (timeS e off d).f1 ∧ d * 86400000 - off * 60000 ≤ (timeS e off d).f0 ∧ (timeS e off d).f1 ≤ d * 86400000 - off * 60000 + 172740000 := by
  have h8 := F.t8
  have h9 := F.t9
  unfold timeS
  cases h : leI e.f9 e.f8 with
  | true =>
    rw [leI_iff] at h
    simp only [decide_eq_true_eq] at h
    simp only [cond_true]
    omega
  | false =>
    rw [leI_iff] at h
    simp only [decide_eq_false_iff_not] at h
    simp only [cond_false]
    omega
/-! What each day gives, one day after another. -/
def coll {α : Type} (g : Int → Option α) : Int → Nat → List α
  | _, 0 => []
  | a, n + 1 => (g a).toList ++ coll g (a + 1) n
theorem iter_days {α : Type} {st : List α × Int → Option ((List α × Int) ⊕ (Int × Bool × List α))} (g : Int → Option α) (lo b : Int)
    (hstep : ∀ s d, lo ≤ d → d ≤ b → s.length ≤ 4001 → st (s, d) = some (.inl (s ++ (g d).toList, d + 1))) (hend : ∀ s d, b < d → ∃ x y, st (s, d) = some (.inr (x, y, s))) :
    ∀ (n : Nat) (a : Int) (s : List α), lo ≤ a → (b + 1 - a).toNat = n → s.length + n ≤ 4001 → ∃ x y, iter st (s, a) = some (x, y, s ++ coll g a n) := by
  intro n
  induction n with
  | zero =>
    intro a s ha hn hl
    obtain ⟨x, y, h⟩ := hend s a (by omega)
    exact ⟨x, y, by rw [iter_stop h, coll, List.append_nil]⟩
  | succ n ih =>
    intro a s ha hn hl
    have h1 := hstep s a ha (by omega) (by omega)
    have hg : (g a).toList.length ≤ 1 := by cases g a <;> simp
    obtain ⟨x, y, h⟩ := ih (a + 1) (s ++ (g a).toList) (by omega) (by omega) (by rw [List.length_append]; omega)
    exact ⟨x, y, by rw [iter_next h1, h, coll, List.append_assoc]⟩
theorem coll_none {α : Type} (g : Int → Option α) : ∀ (n : Nat) (a : Int), (∀ d, a ≤ d → d < a + n → g d = none) → coll g a n = []
  | 0, _, _ => rfl
  | n + 1, a, h => by
    rw [coll, h a (by omega) (by omega), coll_none g n (a + 1) fun d h1 h2 => h d (by omega) (by omega)]
    rfl
theorem coll_split {α : Type} (g : Int → Option α) : ∀ (n m : Nat) (a : Int), coll g a (n + m) = coll g a n ++ coll g (a + n) m
  | 0, m, a => by simp [coll]
  | n + 1, m, a => by
    rw [show n + 1 + m = (n + m) + 1 by omega, coll, coll_split g n m (a + 1), coll, List.append_assoc]
    congr 3
    omega
theorem coll_map {α β : Type} (g : Int → Option α) (c : α → β) : ∀ (n : Nat) (a : Int), (coll g a n).map c = coll (fun d => (g d).map c) a n
  | 0, _ => rfl
  | n + 1, a => by
    rw [coll, List.map_append, coll_map g c n (a + 1), coll]
    congr 1
    cases g a <;> rfl
theorem coll_congr {α : Type} {g g' : Int → Option α} : ∀ (n : Nat) (a : Int), (∀ d, a ≤ d → d < a + n → g d = g' d) → coll g a n = coll g' a n
  | 0, _, _ => rfl
  | n + 1, a, h => by rw [coll, coll, h a (by omega) (by omega), coll_congr n (a + 1) fun d h1 h2 => h d (by omega) (by omega)]
theorem coll_len {α : Type} (g : Int → Option α) : ∀ (n : Nat) (a : Int), (coll g a n).length ≤ n
  | 0, _ => Nat.le_refl 0
  | n + 1, a => by
    have := coll_len g n (a + 1)
    have hg : (g a).toList.length ≤ 1 := by cases g a <;> simp
    rw [coll, List.length_append]
    omega
theorem coll_sub {α : Type} (g : Int → Option α) {a b lo hi : Int} (h1 : a ≤ lo) (h2 : hi ≤ b) (hn : ∀ d, a ≤ d → d ≤ b → (d < lo ∨ hi < d) → g d = none) : coll g a (b + 1 - a).toNat = coll g lo (hi + 1 - lo).toNat := by
  by_cases h : hi < lo
  · rw [show (hi + 1 - lo).toNat = 0 by omega, coll, coll_none]
    exact fun d h3 h4 => hn d h3 (by omega) (by omega)
  · rw [show (b + 1 - a).toNat = (lo - a).toNat + ((hi + 1 - lo).toNat + (b - hi).toNat) by omega, coll_split, coll_split, coll_none g (lo - a).toNat a (fun d h3 h4 => hn d h3 (by omega) (by omega)),
      coll_none g (b - hi).toNat _ (fun d h3 h4 => hn d (by omega) (by omega) (by omega)), List.nil_append, List.append_nil, show a + ((lo - a).toNat : Int) = lo by omega]
end Go.Abs.TE
