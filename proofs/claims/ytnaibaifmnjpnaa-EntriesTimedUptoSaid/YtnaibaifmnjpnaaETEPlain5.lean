import Derived.Test.YtnaibaifmnjpnaaETEPlain4
set_option linter.unusedVariables false
set_option linter.unusedSimpArgs false
namespace Go.Abs.TE
open Go.RowKit
/-! Who fits. -/
def fitsB (e : S105) (p : S36) : Bool := e.f11.all fun t => p.f3.any fun x => eqS x t
theorem T161_eq (e : S105) (p : S36) (h : e.f11.length ≤ 1048576) (h' : p.f3.length ≤ 1048576) (hr : Rising p.f3) : T161 e p = some (fitsB e p) := by
  have hi : iter (L161_2 e p) ((0 : Nat) : Int) = some (Sum.elim (fun _ => .inl ((e.f11.length : Int), false)) (fun r => .inr r) (wp (fun _ (_ : Unit) t => bif p.f3.any (fun x => eqS x t) then (.inl () : Unit ⊕ Unit) else .inr ()) 0 () e.f11)) := by
    refine iter_wp (fun _ i => (i : Int)) _ _ e.f11 _ (fun _ _ => True) (fun i u x hx _ => ⟨?_, fun _ _ => trivial⟩) (fun u _ => ?_) _ trivial
    · have hlt : i < e.f11.length := (List.getElem?_eq_some_iff.1 hx).1
      have h1 : ltI (i : Int) (lenL e.f11) = true := by rw [ltI_iff, lenL_eq]; simpa using hlt
      have h2 : addI .i64 (i : Int) 1 = ((i + 1 : Nat) : Int) := by rw [addI_eq (by omega) (by omega)]; omega
      obtain ⟨k, h3⟩ := T227_eq p.f3 x h' hr
      simp only [L161_2, h1, cond_true, listAt_some hx, Option.bind_some, h2, h3]
      cases (p.f3.any fun y => eqS y x) <;> rfl
    · have h1 : ltI (e.f11.length : Int) (lenL e.f11) = false := by rw [ltI_iff, lenL_eq]; simp
      simp only [L161_2, h1, cond_false]
  unfold T161 fitsB
  rw [show (0 : Int) = ((0 : Nat) : Int) from rfl, hi, wp_all', elim_cond]
  cases (e.f11.all fun t => p.f3.any fun x => eqS x t) <;> rfl
theorem T79_eq (e : S105) (p : S36) (h : e.f11.length ≤ 1048576) (h' : p.f3.length ≤ 1048576) : T79 e p = some (fitsB e p) := by
  obtain ⟨r, h1, h2⟩ := wp_any (fun t => !p.f3.any fun x => eqS x t) 0 e.f11
  have hi : iter (L228_2 e.f11 p.f0 p.f1 p.f2 p.f3) ((0 : Nat) : Int) = some (Sum.elim (fun _ => .inl ((e.f11.length : Int), false)) (fun r : Nat => .inr (r : Int)) (wp (fun i (_ : Unit) t => bif !p.f3.any (fun x => eqS x t) then (.inr i : Unit ⊕ Nat) else .inl ()) 0 () e.f11)) := by
    refine iter_wp (fun _ i => (i : Int)) _ _ e.f11 _ (fun _ _ => True) (fun i u x hx _ => ⟨?_, fun _ _ => trivial⟩) (fun u _ => ?_) _ trivial
    · have hlt : i < e.f11.length := (List.getElem?_eq_some_iff.1 hx).1
      have h1 : ltI (i : Int) (lenL e.f11) = true := by rw [ltI_iff, lenL_eq]; simpa using hlt
      have h2 : addI .i64 (i : Int) 1 = ((i + 1 : Nat) : Int) := by rw [addI_eq (by omega) (by omega)]; omega
      simp only [L228_2, T165, T154_eq p.f3 x h', h1, cond_true, listAt_some hx, Option.bind_some, h2]
      cases p.f3.any (fun y => eqS y x) <;> rfl
    · have h1 : ltI (e.f11.length : Int) (lenL e.f11) = false := by rw [ltI_iff, lenL_eq]; simp
      simp only [L228_2, h1, cond_false]
  have he : fitsB e p = !r.isRight := by
    rw [h2, fitsB, List.any_eq_not_all_not]
    simp
  unfold T79 T152 T228
  rw [show (0 : Int) = ((0 : Nat) : Int) from rfl, hi, h1, he]
  cases r with
  | inl u => rfl
  | inr k =>
    have : leI 0 (k : Int) = true := by rw [leI_iff]; simp
    simp only [Sum.elim_inr, Option.bind_some, Sum.isRight_inr]
    rw [show leI ((0 : Nat) : Int) (k : Int) = true from this]
theorem T73_eq (e : S105) (p : S36) (h : ok105 1048576 e) (hp : ok36 1048576 p) : T73 e p = some (bif neI (entF e) 0 then (false, entF e) else bif neI (playF p) 0 then (false, playF p) else (fitsB e p, 0)) := by
  unfold T73
  rw [T156_one e h, Option.bind_some, T160_eq p hp, Option.bind_some]
  cases h1 : neI (entF e) 0; rotate_left; · rfl
  cases h2 : neI (playF p) 0; rotate_left; · rfl
  have h3 := T161_eq e p h.2.2.2.2.2.2.2.2.2.2.2.1.1 hp.2.2.2.1 (playF_ok (neI_false.1 h2))
  simp only [cond_false, h3, Option.bind_some]
/-! Copies are the same, and what is the same is told so. -/
theorem T20_eq (l : List S36) (h : l.length ≤ 1048576) (hs : ∀ x ∈ l, ok36 1048576 x) : T20 l = some l := by
  have hi : iter (L20_3 l) ([], ((0 : Nat) : Int)) = some (Sum.elim (fun s => ((l.length : Int), false, s)) (fun r : Empty => nomatch r) (wp (fun _ (s : List S36) x => (.inl (s ++ [x]) : List S36 ⊕ Empty)) 0 [] l)) := by
    refine iter_wp (fun s i => (s, (i : Int))) _ _ l _ (fun i s => s.length = i) (fun i u x hx hI => ⟨?_, fun s' hs' => ?_⟩) (fun u _ => ?_) _ rfl
    · have hlt : i < l.length := (List.getElem?_eq_some_iff.1 hx).1
      have h1 : ltI (i : Int) (lenL l) = true := by rw [ltI_iff, lenL_eq]; simpa using hlt
      have h2 : addI .i64 (i : Int) 1 = ((i + 1 : Nat) : Int) := by rw [addI_eq (by omega) (by omega)]; omega
      obtain ⟨k1, k2, k3, k4, k5⟩ := hs x (List.mem_of_getElem? hx)
      have h3 : appO 16 ([] : List ByteArray) x.f3 = some x.f3 := appO_eq (by simp; omega) (by simp; omega)
      have h4 : appO 64 u [S36.mk x.f0 x.f1 x.f2 x.f3] = some (u ++ [x]) := appO_eq (by simp; omega) (by simp; omega)
      simp only [L20_3, h1, cond_true, listAt_some hx, Option.bind_some, h3, h4, h2]
    · cases hs'; simp [hI]
    · have h1 : ltI (l.length : Int) (lenL l) = false := by rw [ltI_iff, lenL_eq]; simp
      simp only [L20_3, h1, cond_false]
  unfold T20
  rw [show (0 : Int) = ((0 : Nat) : Int) from rfl, hi, wp_copy]
  rfl
theorem T21_eq (l : List S105) (h : l.length ≤ 1048576) (hs : ∀ x ∈ l, ok105 1048576 x) : T21 l = some l := by
  have hi : iter (L21_3 l) ([], ((0 : Nat) : Int)) = some (Sum.elim (fun s => ((l.length : Int), false, s)) (fun r : Empty => nomatch r) (wp (fun _ (s : List S105) x => (.inl (s ++ [x]) : List S105 ⊕ Empty)) 0 [] l)) := by
    refine iter_wp (fun s i => (s, (i : Int))) _ _ l _ (fun i s => s.length = i) (fun i u x hx hI => ⟨?_, fun s' hs' => ?_⟩) (fun u _ => ?_) _ rfl
    · have hlt : i < l.length := (List.getElem?_eq_some_iff.1 hx).1
      have h1 : ltI (i : Int) (lenL l) = true := by rw [ltI_iff, lenL_eq]; simpa using hlt
      have h2 : addI .i64 (i : Int) 1 = ((i + 1 : Nat) : Int) := by rw [addI_eq (by omega) (by omega)]; omega
      obtain ⟨k0, k1, k2, k3, k4, k5, k6, ⟨k7, k7'⟩, k8, k9, k10, ⟨k11, k11'⟩, k12⟩ := hs x (List.mem_of_getElem? hx)
      have h3 : appO 8 ([] : List Int) x.f7 = some x.f7 := appO_eq (by simp; omega) (by simp; omega)
      have h3' : appO 16 ([] : List ByteArray) x.f11 = some x.f11 := appO_eq (by simp; omega) (by simp; omega)
      have h4 : appO 152 u [S105.mk x.f0 x.f1 x.f2 x.f3 x.f4 x.f5 x.f6 x.f7 x.f8 x.f9 x.f10 x.f11 x.f12] = some (u ++ [x]) := appO_eq (by simp; omega) (by simp; omega)
      simp only [L21_3, h1, cond_true, listAt_some hx, Option.bind_some, h3, h3', h4, h2]
    · cases hs'; simp [hI]
    · have h1 : ltI (l.length : Int) (lenL l) = false := by rw [ltI_iff, lenL_eq]; simp
      simp only [L21_3, h1, cond_false]
  unfold T21
  rw [show (0 : Int) = ((0 : Nat) : Int) from rfl, hi, wp_copy]
  rfl
/-- Two lists that are the same, element by element. -/
theorem same_iter {α : Type} (st : Int → Option (Int ⊕ ((Int × Bool) ⊕ Unit))) (l : List α) (h : l.length ≤ 1048576)
    (hs : ∀ (i : Nat) (x : α), l[i]? = some x → ltI (i : Int) (lenL l) = true → addI .i64 (i : Int) 1 = ((i + 1 : Nat) : Int) → st (i : Int) = some (.inl ((i + 1 : Nat) : Int)))
    (he : ltI (l.length : Int) (lenL l) = false → st (l.length : Int) = some (.inr (.inl ((l.length : Int), false)))) : iter st 0 = some (.inl ((l.length : Int), false)) := by
  have hi : iter st ((0 : Nat) : Int) = some (Sum.elim (fun _ => .inl ((l.length : Int), false)) (fun r => .inr r) (wp (fun _ (_ : Unit) (_ : α) => (.inl () : Unit ⊕ Unit)) 0 () l)) := by
    refine iter_wp (fun _ i => (i : Int)) _ _ l _ (fun _ _ => True) (fun i u x hx _ => ⟨?_, fun _ _ => trivial⟩) (fun u _ => ?_) _ trivial
    · have hlt : i < l.length := (List.getElem?_eq_some_iff.1 hx).1
      exact hs i x hx (by rw [ltI_iff, lenL_eq]; simpa using hlt) (by rw [addI_eq (by omega) (by omega)]; omega)
    · exact he (by rw [ltI_iff, lenL_eq]; simp)
  rw [show (0 : Int) = ((0 : Nat) : Int) from rfl, hi, wp_true]
  rfl
theorem lenL_self {α : Type} (l : List α) : neI (lenL l) (lenL l) = false := neI_self _
theorem T78_self (l : List S38) (h : l.length ≤ 1048576) : T78 l l = some true := by
  have hi := same_iter (L78_4 l l) l h (fun i x hx h1 h2 => by simp only [L78_4, h1, cond_true, listAt_some hx, Option.bind_some, h2, eqI_self, allB, Bool.and_true, Bool.not_true, cond_false]) (fun h1 => by simp only [L78_4, h1, cond_false])
  unfold T78
  rw [hi, lenL_self]
  rfl
theorem T112_self (l : List Int) (h : l.length ≤ 1048576) : T112 l l = some true := by
  have hi := same_iter (L112_4 l l) l h (fun i x hx h1 h2 => by simp only [L112_4, h1, cond_true, listAt_some hx, Option.bind_some, h2, neI_self, cond_false]) (fun h1 => by simp only [L112_4, h1, cond_false])
  unfold T112
  rw [hi, lenL_self]
  rfl
theorem T82_self (x : S36) (h : x.f3.length ≤ 1048576) : T82 x x = some true := by
  unfold T82
  simp only [eqS_self, eqI_self, cond_true, T69_self x.f3 h, Option.bind_some]
theorem beq_self_b (b : Bool) : (b == b) = true := by cases b <;> rfl
theorem T84_self (x : S105) (h : ok105 1048576 x) : T84 x x = some true := by
  obtain ⟨k0, k1, k2, k3, k4, k5, k6, ⟨k7, k7'⟩, k8, k9, k10, ⟨k11, k11'⟩, k12⟩ := h
  unfold T84
  simp only [eqS_self, eqI_self, beq_self_b, cond_true, T69_self x.f11 k11, T112_self x.f7 k7, Option.bind_some]
theorem T23_self (l : List S36) (h : l.length ≤ 1048576) (hs : ∀ x ∈ l, ok36 1048576 x) : T23 l l = some true := by
  have hi := same_iter (L81_4 l l) l h (fun i x hx h1 h2 => by simp only [L81_4, h1, cond_true, listAt_some hx, Option.bind_some, h2, T82_self x (hs x (List.mem_of_getElem? hx)).2.2.2.1, Bool.not_true, cond_false]) (fun h1 => by simp only [L81_4, h1, cond_false])
  unfold T23 T81
  rw [hi, lenL_self]
  rfl
theorem T24_self (l : List S105) (h : l.length ≤ 1048576) (hs : ∀ x ∈ l, ok105 1048576 x) : T24 l l = some true := by
  have hi := same_iter (L83_4 l l) l h (fun i x hx h1 h2 => by simp only [L83_4, h1, cond_true, listAt_some hx, Option.bind_some, h2, T84_self x (hs x (List.mem_of_getElem? hx)), Bool.not_true, cond_false]) (fun h1 => by simp only [L83_4, h1, cond_false])
  unfold T24 T83
  rw [hi, lenL_self]
  rfl
/-! The example. -/
def e0 : S105 := S105.mk (ByteArray.mk #[97]) (ByteArray.mk #[98]) 0 0 0 1 127 [] 1 2 0 [] false
def w0 : S38 := S38.mk 0 86400000
theorem e0_ok : ok105 1048576 e0 := by
  refine ⟨by decide, by decide, ?_, ?_, ?_, ?_, ?_, ⟨by decide, by simp [e0]⟩, ?_, ?_, ?_, ⟨by decide, by simp [e0]⟩, trivial⟩ <;> exact ⟨by decide, by decide⟩
theorem T72_0 : T72 e0 0 w0 = some ([S38.mk 60000 120000], 0) := by
  rw [T72_eq e0 e0_ok]
  have h1 : entF e0 = 0 := by decide +kernel
  have h2 : outB 0 (-1440) 1440 = false := by decide
  have h3 : spanF w0 = 0 := by decide +kernel
  have h4 : (timesL e0 0 w0).map (fun t => (t.f0, t.f1)) = [(60000, 120000)] := by decide +kernel
  have h5 : timesL e0 0 w0 = [S38.mk 60000 120000] := by
    generalize timesL e0 0 w0 = l at h4
    match l with
    | [] => cases h4
    | [⟨a, b⟩] => simp only [List.map_cons, List.map_nil, List.cons.injEq, Prod.mk.injEq, and_true] at h4; rw [h4.1, h4.2]
    | _ :: _ :: _ => simp at h4
  rw [h1, h2, h3, h5]
  rfl
theorem T80_eq : T80 = some true := by
  have h := T72_0
  unfold e0 w0 at h
  unfold T80
  rw [h]
  rfl
/-! All of it. -/
theorem when_eq (off A S P : Int) : ((bif ltI off (-1440) then ((T50 true 1).bind fun x5 => (T49 ([A, x5, S] : List Int)).bind fun x7 => (T49 ([A, P] : List Int)).bind fun x9 => (some (x7, x9))) else ((T50 (ltI 1440 off) 1).bind fun x5 => (T49 ([A, x5, S] : List Int)).bind fun x7 => (T49 ([A, P] : List Int)).bind fun x9 => (some (x7, x9)))) : Option (Int × Int)) =
    some (bif neI A 0 then A else bif outB off (-1440) 1440 then 1 else S, bif neI A 0 then A else P) := by
  simp only [T49_three, T49_two, Option.bind_some]
  unfold outB T50
  cases ltI off (-1440) <;> cases ltI 1440 off <;> simp only [cond_true, cond_false, Option.bind_some, Bool.or_false, Bool.or_true, Bool.false_or] <;> rfl
theorem eqI_neI (a b : Int) : eqI a b = !neI a b := by rw [eqI_iff, neI_iff, Bool.not_not]
theorem round_eq (p0 : S36) (p1 : S38) (p2 : Int) (p3 : List S105) (h0 : ok36 1048576 p0) (i : Nat) (e : S105) (he : ok105 1048576 e) (hx : p3[i]? = some e) (h1 : ltI (i : Int) (lenL p3) = true) (h2 : addI .i64 (i : Int) 1 = ((i + 1 : Nat) : Int)) :
    L22_2 p0 p1 p2 p3 (i : Int) = some (.inl ((i + 1 : Nat) : Int)) := by
  have hf := T79_eq e p0 he.2.2.2.2.2.2.2.2.2.2.2.1.1 h0.2.2.2.1
  have hz : T78 ([] : List S38) [] = some true := T78_self [] (by simp)
  have ht := T78_self (timesL e p2 p1)
  simp only [L22_2, h1, cond_true, listAt_some hx, Option.bind_some, T72_eq e he, T73_eq e p0 he h0, T74_one e he, T75_eq, T76_eq p0 h0, when_eq, h2, hf]
  cases hA : neI (entF e) 0 with
  | true =>
    have hA' : eqI (entF e) 0 = false := by rw [eqI_neI, hA]; rfl
    simp only [cond_true, hA', cond_false, neI_self, hz, Option.bind_some, Bool.not_true, bne_self]
  | false =>
    simp only [cond_false]
    have hfit : ∀ b : Bool, (bif neI (bif neI (playF p0) 0 then (false, playF p0) else (b, 0)).2 (playF p0) then (some (.inr (.inr ())) : Option (Int ⊕ ((Int × Bool) ⊕ Unit))) else bif eqI (playF p0) 0 then bif (bif neI (playF p0) 0 then (false, playF p0) else (b, 0)).1 != b then some (.inr (.inr ())) else some (.inl ((i + 1 : Nat) : Int)) else bif (bif neI (playF p0) 0 then (false, playF p0) else (b, 0)).1 != false then some (.inr (.inr ())) else some (.inl ((i + 1 : Nat) : Int))) = some (.inl ((i + 1 : Nat) : Int)) := by
      intro b
      cases hP : neI (playF p0) 0 with
      | true =>
        have hP' : eqI (playF p0) 0 = false := by rw [eqI_neI, hP]; rfl
        simp only [cond_true, cond_false, neI_self, hP', bne_self]
      | false =>
        rw [neI_false.1 hP]
        simp only [cond_true, cond_false, neI_self, eqI_self, bne_self]
    cases hO : outB p2 (-1440) 1440 with
    | true =>
      have h1' : eqI 1 0 = false := rfl
      simp only [cond_true, cond_false, h1', neI_self, hz, Option.bind_some, Bool.not_true]
      exact hfit _
    | false =>
      simp only [cond_false]
      cases hS : neI (spanF p1) 0 with
      | true =>
        have hS' : eqI (spanF p1) 0 = false := by rw [eqI_neI, hS]; rfl
        simp only [cond_true, cond_false, hS', neI_self, hz, Option.bind_some, Bool.not_true]
        exact hfit _
      | false =>
        have F := fine he (neI_false.1 hA)
        have hl : (timesL e p2 p1).length ≤ 1048576 := by
          have := coll_len (dayG e p2 p1) (e.f4 + 1 - e.f3).toNat e.f3
          have := F.span
          unfold timesL
          omega
        rw [neI_false.1 hS]
        simp only [cond_true, cond_false, eqI_self, neI_self, T77_eq F (outB_false hO), ht hl, Option.bind_some, Bool.not_true]
        exact hfit _
theorem T22_eq (p0 : S36) (p1 : S38) (p2 : Int) (p3 : List S105) (h0 : ok36 1048576 p0) (h : p3.length ≤ 1048576) (hs : ∀ x ∈ p3, ok105 1048576 x) : T22 p0 p1 p2 p3 = some true := by
  have hi := same_iter (L22_2 p0 p1 p2 p3) p3 h (fun i x hx h1 h2 => round_eq p0 p1 p2 p3 h0 i x (hs x (List.mem_of_getElem? hx)) hx h1 h2) (fun h1 => by simp only [L22_2, h1, cond_false])
  unfold T22
  rw [hi, T80_eq]
  rfl
theorem plain (p0 : S36) (p1 : S38) (p2 : Int) (p3 : (List S105)) (h0 : ok36 1048576 p0) (h1 : ok38 1048576 p1) (h2 : okI p2) (h3 : (p3.length ≤ 1048576 ∧ ∀ x ∈ p3, ok105 1048576 x)) : T5 p0 p1 p2 p3 = some true := by
  have ho : ∀ x ∈ [p0], ok36 1048576 x := by simpa using h0
  unfold T5
  rw [T20_eq [p0] (by simp) ho, Option.bind_some, show idxO (List.length [p0]) 0 = some 0 from rfl, Option.bind_some, show getN [p0] 0 = some p0 from rfl, Option.bind_some, T21_eq p3 h3.1 h3.2, Option.bind_some, T22_eq p0 p1 p2 p3 h0 h3.1 h3.2, Option.bind_some, cond_true,
    T23_self [p0] (by simp) ho, Option.bind_some, cond_true, T24_self p3 h3.1 h3.2]
  rfl
end Go.Abs.TE
