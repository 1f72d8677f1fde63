import Derived.Test.YtnaibaifmnjpnaaCTC0
set_option maxRecDepth 100000
set_option linter.unusedVariables false
namespace Go.Abs.TC
open Go.RowKit Go.Proofs Go.Abs
theorem F12 (m : Nat) (hm : 1 ≤ m) (p0 : (List S24)) : callA Try.prog cfg m 12 [LL a24 p0] = (appO 32 ([] : List S24) p0).map (fun l => AV.fr 25 3 (List.map a24 l)) := by
  obtain ⟨q, rfl⟩ : ∃ q, m = q + 1 := ⟨m - 1, by omega⟩
  exact (callA_leaf (L := (leafClone Try.prog 25 3 32)) _ _ (by kernel_rfl)).trans (clone_leaf a24 _ _ (fun _ => by kernel_rfl))

noncomputable def L137_2 (p0 : ByteArray) (z0 : Int) : Option (Int ⊕ ((Int × Bool) ⊕ Unit)) := (bif (ltI z0 (lenS p0)) then ((byteAt p0 z0).bind fun x1 => (bif (leI 97 x1) then (bif (leI x1 122) then (some (.inl (addI .i64 z0 1))) else (bif (ltI 0 z0) then (bif (leI 48 x1) then (bif (leI x1 57) then (some (.inl (addI .i64 z0 1))) else (bif (eqI x1 45) then (some (.inl (addI .i64 z0 1))) else (bif (!(eqI x1 95)) then (some (.inr (.inr ()))) else (some (.inl (addI .i64 z0 1)))))) else (bif (eqI x1 45) then (some (.inl (addI .i64 z0 1))) else (bif (!(eqI x1 95)) then (some (.inr (.inr ()))) else (some (.inl (addI .i64 z0 1)))))) else (some (.inr (.inr ()))))) else (bif (ltI 0 z0) then (bif (leI 48 x1) then (bif (leI x1 57) then (some (.inl (addI .i64 z0 1))) else (bif (eqI x1 45) then (some (.inl (addI .i64 z0 1))) else (bif (!(eqI x1 95)) then (some (.inr (.inr ()))) else (some (.inl (addI .i64 z0 1)))))) else (bif (eqI x1 45) then (some (.inl (addI .i64 z0 1))) else (bif (!(eqI x1 95)) then (some (.inr (.inr ()))) else (some (.inl (addI .i64 z0 1)))))) else (some (.inr (.inr ())))))) else (some (.inr (.inl (z0, (ltI z0 (lenS p0)))))))
theorem L137_2_ok (C : Callee) (p0 : ByteArray) (z0 : Int) : runs Try.prog C (cfg.fn 137) (finLoop ((cfg.fn 137).keep 2) ((cfg.fn 137).al 2)) [] (execA Try.prog C (cfg.fn 137) (nr Try.f137 [false, false, true, false, true]) ((fun z0 : Int => (mkE [(0, S p0), (3, I z0)] [] 48)) z0)) = (L137_2 p0 z0).map (Sum.elim (fun z => .inl ((fun z0 : Int => (mkE [(0, S p0), (3, I z0)] [] 48)) z)) (fun x => .inr ((Sum.elim (fun (x : (Int × Bool)) => (.exit 0, (mkE [(0, S p0), (3, I x.1), (8, B x.2)] [] 48))) (fun (x : Unit) => (.ret, (mkE [(2, B false)] [] 48)))) x))) := by
  unfold L137_2
  refine gS 4 ?_
  refine gS 0 ?_
  refine gR 2 (rg Try.f137 2) ?_
  refine se (mkE [(0, S p0), (3, I z0), (8, B (ltI z0 (lenS p0)))] [] 48) ?_
  refine pN ?_
  refine pS ?_
  refine gC 8 (ltI z0 (lenS p0)) ?_ ?_
  · refine gK ?_
    refine pN ?_
    refine pS ?_
    refine gS 3 ?_
    refine gB 1 ?_
    refine gS 5 ?_
    refine gR 4 (rg Try.f137 4) ?_
    refine sg 2 (mkE [(12, I z0), (11, S p0), (0, S p0), (3, I z0), (8, B (ltI z0 (lenS p0)))] [] 48) ?_
    refine vo 13 (byteE 9 .i64 p0 z0) (fun x1 => ?_)
    refine se (mkE [(0, S p0), (3, I z0), (4, U x1)] [] 48) ?_
    refine pN ?_
    refine pS ?_
    refine gS 0 ?_
    refine gR 5 (rg Try.f137 5) ?_
    refine sg 3 (mkE [(16, B (leI 97 x1)), (15, B (leI 97 x1)), (14, U x1), (0, S p0), (3, I z0), (4, U x1)] [] 48) ?_
    refine sb 16 (leI 97 x1) ?_ ?_
    · refine sg 7 (mkE [(20, B (leI x1 122)), (19, B (leI x1 122)), (18, B (leI x1 122)), (17, U x1), (16, B true), (16, B (leI 97 x1)), (15, B (leI 97 x1)), (14, U x1), (0, S p0), (3, I z0), (4, U x1)] [] 48) ?_
      refine sb 20 (leI x1 122) ?_ ?_
      · refine se (mkE [(0, S p0), (3, I z0), (40, B false)] [] 48) ?_
        refine pN ?_
        refine pS ?_
        refine gF (.tmp 40) ?_
        refine gK ?_
        refine pB ?_
        refine pN ?_
        refine pS ?_
        refine gR 3 (rg Try.f137 3) ?_
        refine se (mkE [(0, S p0), (3, I (addI .i64 z0 1))] [] 48) ?_
        exact pL
      · refine sg 10 (mkE [(23, B (ltI 0 z0)), (22, B (ltI 0 z0)), (21, I z0), (20, B false), (20, B (leI x1 122)), (19, B (leI x1 122)), (18, B (leI x1 122)), (17, U x1), (16, B true), (16, B (leI 97 x1)), (15, B (leI 97 x1)), (14, U x1), (0, S p0), (3, I z0), (4, U x1)] [] 48) ?_
        refine sb 23 (ltI 0 z0) ?_ ?_
        · refine sg 13 (mkE [(26, B (leI 48 x1)), (25, B (leI 48 x1)), (24, U x1), (23, B true), (23, B (ltI 0 z0)), (22, B (ltI 0 z0)), (21, I z0), (20, B false), (20, B (leI x1 122)), (19, B (leI x1 122)), (18, B (leI x1 122)), (17, U x1), (16, B true), (16, B (leI 97 x1)), (15, B (leI 97 x1)), (14, U x1), (0, S p0), (3, I z0), (4, U x1)] [] 48) ?_
          refine sb 26 (leI 48 x1) ?_ ?_
          · refine sg 17 (mkE [(30, B (leI x1 57)), (29, B (leI x1 57)), (28, B (leI x1 57)), (27, U x1), (26, B true), (26, B (leI 48 x1)), (25, B (leI 48 x1)), (24, U x1), (23, B true), (23, B (ltI 0 z0)), (22, B (ltI 0 z0)), (21, I z0), (20, B false), (20, B (leI x1 122)), (19, B (leI x1 122)), (18, B (leI x1 122)), (17, U x1), (16, B true), (16, B (leI 97 x1)), (15, B (leI 97 x1)), (14, U x1), (0, S p0), (3, I z0), (4, U x1)] [] 48) ?_
            refine sb 30 (leI x1 57) ?_ ?_
            · refine se (mkE [(0, S p0), (3, I z0), (40, B false)] [] 48) ?_
              refine pN ?_
              refine pS ?_
              refine gF (.tmp 40) ?_
              refine gK ?_
              refine pB ?_
              refine pN ?_
              refine pS ?_
              refine gR 3 (rg Try.f137 3) ?_
              refine se (mkE [(0, S p0), (3, I (addI .i64 z0 1))] [] 48) ?_
              exact pL
            · refine sg 21 (mkE [(34, B (eqI x1 45)), (33, B (eqI x1 45)), (32, B (eqI x1 45)), (31, U x1), (30, B false), (30, B (leI x1 57)), (29, B (leI x1 57)), (28, B (leI x1 57)), (27, U x1), (26, B true), (26, B (leI 48 x1)), (25, B (leI 48 x1)), (24, U x1), (23, B true), (23, B (ltI 0 z0)), (22, B (ltI 0 z0)), (21, I z0), (20, B false), (20, B (leI x1 122)), (19, B (leI x1 122)), (18, B (leI x1 122)), (17, U x1), (16, B true), (16, B (leI 97 x1)), (15, B (leI 97 x1)), (14, U x1), (0, S p0), (3, I z0), (4, U x1)] [] 48) ?_
              refine sb 34 (eqI x1 45) ?_ ?_
              · refine se (mkE [(0, S p0), (3, I z0), (40, B false)] [] 48) ?_
                refine pN ?_
                refine pS ?_
                refine gF (.tmp 40) ?_
                refine gK ?_
                refine pB ?_
                refine pN ?_
                refine pS ?_
                refine gR 3 (rg Try.f137 3) ?_
                refine se (mkE [(0, S p0), (3, I (addI .i64 z0 1))] [] 48) ?_
                exact pL
              · refine se (mkE [(0, S p0), (3, I z0), (40, B (!(eqI x1 95)))] [] 48) ?_
                refine pN ?_
                refine pS ?_
                refine gC 40 (!(eqI x1 95)) ?_ ?_
                · refine gS 0 ?_
                  refine gR 6 (rg Try.f137 6) ?_
                  refine se (mkE [(2, B false)] [] 48) ?_
                  refine pN ?_
                  refine pS ?_
                  refine gE ?_
                  exact pL
                · refine gK ?_
                  refine pB ?_
                  refine pN ?_
                  refine pS ?_
                  refine gR 3 (rg Try.f137 3) ?_
                  refine se (mkE [(0, S p0), (3, I (addI .i64 z0 1))] [] 48) ?_
                  exact pL
          · refine sg 21 (mkE [(34, B (eqI x1 45)), (33, B (eqI x1 45)), (32, B (eqI x1 45)), (31, U x1), (30, B false), (29, B false), (28, .und), (27, .und), (26, B false), (26, B (leI 48 x1)), (25, B (leI 48 x1)), (24, U x1), (23, B true), (23, B (ltI 0 z0)), (22, B (ltI 0 z0)), (21, I z0), (20, B false), (20, B (leI x1 122)), (19, B (leI x1 122)), (18, B (leI x1 122)), (17, U x1), (16, B true), (16, B (leI 97 x1)), (15, B (leI 97 x1)), (14, U x1), (0, S p0), (3, I z0), (4, U x1)] [] 48) ?_
            refine sb 34 (eqI x1 45) ?_ ?_
            · refine se (mkE [(0, S p0), (3, I z0), (40, B false)] [] 48) ?_
              refine pN ?_
              refine pS ?_
              refine gF (.tmp 40) ?_
              refine gK ?_
              refine pB ?_
              refine pN ?_
              refine pS ?_
              refine gR 3 (rg Try.f137 3) ?_
              refine se (mkE [(0, S p0), (3, I (addI .i64 z0 1))] [] 48) ?_
              exact pL
            · refine se (mkE [(0, S p0), (3, I z0), (40, B (!(eqI x1 95)))] [] 48) ?_
              refine pN ?_
              refine pS ?_
              refine gC 40 (!(eqI x1 95)) ?_ ?_
              · refine gS 0 ?_
                refine gR 6 (rg Try.f137 6) ?_
                refine se (mkE [(2, B false)] [] 48) ?_
                refine pN ?_
                refine pS ?_
                refine gE ?_
                exact pL
              · refine gK ?_
                refine pB ?_
                refine pN ?_
                refine pS ?_
                refine gR 3 (rg Try.f137 3) ?_
                refine se (mkE [(0, S p0), (3, I (addI .i64 z0 1))] [] 48) ?_
                exact pL
        · refine se (mkE [(0, S p0), (3, I z0), (40, B true)] [] 48) ?_
          refine pN ?_
          refine pS ?_
          refine gT (.tmp 40) ?_
          refine gS 0 ?_
          refine gR 6 (rg Try.f137 6) ?_
          refine se (mkE [(2, B false)] [] 48) ?_
          refine pN ?_
          refine pS ?_
          refine gE ?_
          exact pL
    · refine sg 10 (mkE [(23, B (ltI 0 z0)), (22, B (ltI 0 z0)), (21, I z0), (20, B false), (19, B false), (18, .und), (17, .und), (16, B false), (16, B (leI 97 x1)), (15, B (leI 97 x1)), (14, U x1), (0, S p0), (3, I z0), (4, U x1)] [] 48) ?_
      refine sb 23 (ltI 0 z0) ?_ ?_
      · refine sg 13 (mkE [(26, B (leI 48 x1)), (25, B (leI 48 x1)), (24, U x1), (23, B true), (23, B (ltI 0 z0)), (22, B (ltI 0 z0)), (21, I z0), (20, B false), (19, B false), (18, .und), (17, .und), (16, B false), (16, B (leI 97 x1)), (15, B (leI 97 x1)), (14, U x1), (0, S p0), (3, I z0), (4, U x1)] [] 48) ?_
        refine sb 26 (leI 48 x1) ?_ ?_
        · refine sg 17 (mkE [(30, B (leI x1 57)), (29, B (leI x1 57)), (28, B (leI x1 57)), (27, U x1), (26, B true), (26, B (leI 48 x1)), (25, B (leI 48 x1)), (24, U x1), (23, B true), (23, B (ltI 0 z0)), (22, B (ltI 0 z0)), (21, I z0), (20, B false), (19, B false), (18, .und), (17, .und), (16, B false), (16, B (leI 97 x1)), (15, B (leI 97 x1)), (14, U x1), (0, S p0), (3, I z0), (4, U x1)] [] 48) ?_
          refine sb 30 (leI x1 57) ?_ ?_
          · refine se (mkE [(0, S p0), (3, I z0), (40, B false)] [] 48) ?_
            refine pN ?_
            refine pS ?_
            refine gF (.tmp 40) ?_
            refine gK ?_
            refine pB ?_
            refine pN ?_
            refine pS ?_
            refine gR 3 (rg Try.f137 3) ?_
            refine se (mkE [(0, S p0), (3, I (addI .i64 z0 1))] [] 48) ?_
            exact pL
          · refine sg 21 (mkE [(34, B (eqI x1 45)), (33, B (eqI x1 45)), (32, B (eqI x1 45)), (31, U x1), (30, B false), (30, B (leI x1 57)), (29, B (leI x1 57)), (28, B (leI x1 57)), (27, U x1), (26, B true), (26, B (leI 48 x1)), (25, B (leI 48 x1)), (24, U x1), (23, B true), (23, B (ltI 0 z0)), (22, B (ltI 0 z0)), (21, I z0), (20, B false), (19, B false), (18, .und), (17, .und), (16, B false), (16, B (leI 97 x1)), (15, B (leI 97 x1)), (14, U x1), (0, S p0), (3, I z0), (4, U x1)] [] 48) ?_
            refine sb 34 (eqI x1 45) ?_ ?_
            · refine se (mkE [(0, S p0), (3, I z0), (40, B false)] [] 48) ?_
              refine pN ?_
              refine pS ?_
              refine gF (.tmp 40) ?_
              refine gK ?_
              refine pB ?_
              refine pN ?_
              refine pS ?_
              refine gR 3 (rg Try.f137 3) ?_
              refine se (mkE [(0, S p0), (3, I (addI .i64 z0 1))] [] 48) ?_
              exact pL
            · refine se (mkE [(0, S p0), (3, I z0), (40, B (!(eqI x1 95)))] [] 48) ?_
              refine pN ?_
              refine pS ?_
              refine gC 40 (!(eqI x1 95)) ?_ ?_
              · refine gS 0 ?_
                refine gR 6 (rg Try.f137 6) ?_
                refine se (mkE [(2, B false)] [] 48) ?_
                refine pN ?_
                refine pS ?_
                refine gE ?_
                exact pL
              · refine gK ?_
                refine pB ?_
                refine pN ?_
                refine pS ?_
                refine gR 3 (rg Try.f137 3) ?_
                refine se (mkE [(0, S p0), (3, I (addI .i64 z0 1))] [] 48) ?_
                exact pL
        · refine sg 21 (mkE [(34, B (eqI x1 45)), (33, B (eqI x1 45)), (32, B (eqI x1 45)), (31, U x1), (30, B false), (29, B false), (28, .und), (27, .und), (26, B false), (26, B (leI 48 x1)), (25, B (leI 48 x1)), (24, U x1), (23, B true), (23, B (ltI 0 z0)), (22, B (ltI 0 z0)), (21, I z0), (20, B false), (19, B false), (18, .und), (17, .und), (16, B false), (16, B (leI 97 x1)), (15, B (leI 97 x1)), (14, U x1), (0, S p0), (3, I z0), (4, U x1)] [] 48) ?_
          refine sb 34 (eqI x1 45) ?_ ?_
          · refine se (mkE [(0, S p0), (3, I z0), (40, B false)] [] 48) ?_
            refine pN ?_
            refine pS ?_
            refine gF (.tmp 40) ?_
            refine gK ?_
            refine pB ?_
            refine pN ?_
            refine pS ?_
            refine gR 3 (rg Try.f137 3) ?_
            refine se (mkE [(0, S p0), (3, I (addI .i64 z0 1))] [] 48) ?_
            exact pL
          · refine se (mkE [(0, S p0), (3, I z0), (40, B (!(eqI x1 95)))] [] 48) ?_
            refine pN ?_
            refine pS ?_
            refine gC 40 (!(eqI x1 95)) ?_ ?_
            · refine gS 0 ?_
              refine gR 6 (rg Try.f137 6) ?_
              refine se (mkE [(2, B false)] [] 48) ?_
              refine pN ?_
              refine pS ?_
              refine gE ?_
              exact pL
            · refine gK ?_
              refine pB ?_
              refine pN ?_
              refine pS ?_
              refine gR 3 (rg Try.f137 3) ?_
              refine se (mkE [(0, S p0), (3, I (addI .i64 z0 1))] [] 48) ?_
              exact pL
      · refine se (mkE [(0, S p0), (3, I z0), (40, B true)] [] 48) ?_
        refine pN ?_
        refine pS ?_
        refine gT (.tmp 40) ?_
        refine gS 0 ?_
        refine gR 6 (rg Try.f137 6) ?_
        refine se (mkE [(2, B false)] [] 48) ?_
        refine pN ?_
        refine pS ?_
        refine gE ?_
        exact pL
  · refine gX 0 ?_
    exact pL
noncomputable def T137 (p0 : ByteArray) : Option Bool := ((iter (L137_2 p0) 0).bind fun y2 => (Sum.elim (fun y2a => (bif (!eqS p0 (ByteArray.mk #[])) then (some (leI (lenS p0) 40)) else (some false))) (fun y2b => (some false)) y2))
theorem B137 (C : Callee) (p0 : ByteArray) : runs Try.prog C (cfg.fn 137) (finFn Try.prog (cfg.fn 137).byval Try.f137) [] (execA Try.prog C (cfg.fn 137) (nr Try.f137 []) (frame0 [S p0] 48)) = (T137 p0).map B := by
  unfold T137
  refine gS 1 ?_
  refine gR 0 (rg Try.f137 0) ?_
  refine se (mkE [(0, S p0)] [] 48) ?_
  refine pN ?_
  refine pS ?_
  refine gS 7 ?_
  refine gS 2 ?_
  refine gR 1 (rg Try.f137 1) ?_
  refine se (mkE [(0, S p0), (3, I 0)] [] 48) ?_
  refine pN ?_
  refine pS ?_
  refine gB 0 ?_
  refine lo [(0, none), (3, none)] [] (L137_2 p0) (fun z0 : Int => (mkE [(0, S p0), (3, I z0)] [] 48)) (Sum.elim (fun (x : (Int × Bool)) => (.exit 0, (mkE [(0, S p0), (3, I x.1), (8, B x.2)] [] 48))) (fun (x : Unit) => (.ret, (mkE [(2, B false)] [] 48)))) 0 (fun z => L137_2_ok C p0 z) ?_
  intro y2
  refine ss y2 (Z := (Sum.elim (fun (x : (Int × Bool)) => (.exit 0, (mkE [(0, S p0), (3, I x.1), (8, B x.2)] [] 48))) (fun (x : Unit) => (.ret, (mkE [(2, B false)] [] 48))))) (fun y2a => ?_) (fun y2b => ?_)
  · refine pH ?_
    refine pN ?_
    refine pS ?_
    refine gS 0 ?_
    refine gR 7 (rg Try.f137 7) ?_
    refine sg 3 (mkE [(43, B (!eqS p0 (ByteArray.mk #[]))), (42, B (!eqS p0 (ByteArray.mk #[]))), (41, S p0), (0, S p0), (3, I y2a.1), (8, B y2a.2)] [] 48) ?_
    refine sb 43 (!eqS p0 (ByteArray.mk #[])) ?_ ?_
    · refine se (mkE [(2, B (leI (lenS p0) 40))] [] 48) ?_
      refine pN ?_
      refine pS ?_
      refine gE ?_
      exact pL
    · refine se (mkE [(2, B false)] [] 48) ?_
      refine pN ?_
      refine pS ?_
      refine gE ?_
      exact pL
  · exact pL
theorem F137 (m : Nat) (hm : 1 ≤ m) (p0 : ByteArray) : callA Try.prog cfg m 137 [S p0] = (T137 p0).map B := by
  obtain ⟨q, rfl⟩ : ∃ q, m = q + 1 := ⟨m - 1, by omega⟩
  exact (callA_body (fn := Try.f137) (c := body_ Try.f137) q _ (by kernel_rfl) (by kernel_rfl) (by kernel_rfl)).trans (B137 _ p0)

noncomputable def T141 (p0 : Int) : Option Bool := (bif (leI 0 p0) then (some (ltI p0 345686400000)) else (some false))
theorem B141 (C : Callee) (p0 : Int) : runs Try.prog C (cfg.fn 141) (finFn Try.prog (cfg.fn 141).byval Try.f141) [] (execA Try.prog C (cfg.fn 141) (nr Try.f141 []) (frame0 [I p0] 9)) = (T141 p0).map B := by
  unfold T141
  refine gS 1 ?_
  refine gR 0 (rg Try.f141 0) ?_
  refine se (mkE [(0, I p0)] [] 9) ?_
  refine pN ?_
  refine pS ?_
  refine gS 0 ?_
  refine gR 1 (rg Try.f141 1) ?_
  refine sg 3 (mkE [(5, B (leI 0 p0)), (4, B (leI 0 p0)), (3, I p0), (0, I p0)] [] 9) ?_
  refine sb 5 (leI 0 p0) ?_ ?_
  · refine se (mkE [(2, B (ltI p0 345686400000))] [] 9) ?_
    refine pN ?_
    refine pS ?_
    refine gE ?_
    exact pL
  · refine se (mkE [(2, B false)] [] 9) ?_
    refine pN ?_
    refine pS ?_
    refine gE ?_
    exact pL
theorem F141 (m : Nat) (hm : 1 ≤ m) (p0 : Int) : callA Try.prog cfg m 141 [I p0] = (T141 p0).map B := by
  obtain ⟨q, rfl⟩ : ∃ q, m = q + 1 := ⟨m - 1, by omega⟩
  exact (callA_body (fn := Try.f141) (c := body_ Try.f141) q _ (by kernel_rfl) (by kernel_rfl) (by kernel_rfl)).trans (B141 _ p0)

noncomputable def T126 (p0 : Int) (p1 : Int) (p2 : Int) : Option Bool := (bif (ltI p0 p1) then (some true) else (some (ltI p2 p0)))
theorem B126 (C : Callee) (p0 : Int) (p1 : Int) (p2 : Int) : runs Try.prog C (cfg.fn 126) (finFn Try.prog (cfg.fn 126).byval Try.f126) [] (execA Try.prog C (cfg.fn 126) (nr Try.f126 []) (frame0 [I p0, I p1, I p2] 15)) = (T126 p0 p1 p2).map B := by
  unfold T126
  refine gS 1 ?_
  refine gR 0 (rg Try.f126 0) ?_
  refine se (mkE [(0, I p0), (1, I p1), (2, I p2)] [] 15) ?_
  refine pN ?_
  refine pS ?_
  refine gS 0 ?_
  refine gR 1 (rg Try.f126 1) ?_
  refine sg 4 (mkE [(10, B (ltI p0 p1)), (9, B (ltI p0 p1)), (8, I p1), (7, I p0), (0, I p0), (1, I p1), (2, I p2)] [] 15) ?_
  refine sb 10 (ltI p0 p1) ?_ ?_
  · refine se (mkE [(6, B true)] [] 15) ?_
    refine pN ?_
    refine pS ?_
    refine gE ?_
    exact pL
  · refine se (mkE [(6, B (ltI p2 p0))] [] 15) ?_
    refine pN ?_
    refine pS ?_
    refine gE ?_
    exact pL
theorem F126 (m : Nat) (hm : 1 ≤ m) (p0 : Int) (p1 : Int) (p2 : Int) : callA Try.prog cfg m 126 [I p0, I p1, I p2] = (T126 p0 p1 p2).map B := by
  obtain ⟨q, rfl⟩ : ∃ q, m = q + 1 := ⟨m - 1, by omega⟩
  exact (callA_body (fn := Try.f126) (c := body_ Try.f126) q _ (by kernel_rfl) (by kernel_rfl) (by kernel_rfl)).trans (B126 _ p0 p1 p2)

theorem F246 (m : Nat) (hm : 1 ≤ m) (p0 : ByteArray) (p1 : ByteArray) : callA Try.prog cfg m 246 [S p0, S p1] = (some (cmpS p0 p1)).map I := by
  obtain ⟨q, rfl⟩ : ∃ q, m = q + 1 := ⟨m - 1, by omega⟩
  exact (callA_leaf (L := leafCmp) _ _ (by kernel_rfl)).trans (rfl)

noncomputable def T195 (p0 : ByteArray) (p1 : ByteArray) : Option Int := ((some (cmpS p0 p1)).bind fun x1 => (some x1))
theorem B195 (C : Callee) (h246 : ∀ (p0 : ByteArray) (p1 : ByteArray), C 246 [S p0, S p1] = (some (cmpS p0 p1)).map I) (p0 : ByteArray) (p1 : ByteArray) : runs Try.prog C (cfg.fn 195) (finFn Try.prog (cfg.fn 195).byval Try.f195) [] (execA Try.prog C (cfg.fn 195) (nr Try.f195 []) (frame0 [S p0, S p1] 8)) = (T195 p0 p1).map I := by
  unfold T195
  refine gS 1 ?_
  refine gR 0 (rg Try.f195 0) ?_
  refine se (mkE [(0, S p0), (1, S p1)] [] 8) ?_
  refine pN ?_
  refine pS ?_
  refine gS 0 ?_
  refine gR 1 (rg Try.f195 1) ?_
  refine sg 2 (mkE [(6, S p1), (5, S p0), (0, S p0), (1, S p1)] [] 8) ?_
  refine co 7 [] (h246 p0 p1) (fun x1 => ?_)
  refine se (mkE [(4, I x1)] [] 8) ?_
  refine pN ?_
  refine pS ?_
  refine gE ?_
  exact pL
theorem F195 (m : Nat) (hm : 2 ≤ m) (p0 : ByteArray) (p1 : ByteArray) : callA Try.prog cfg m 195 [S p0, S p1] = (T195 p0 p1).map I := by
  obtain ⟨q, rfl⟩ : ∃ q, m = q + 1 := ⟨m - 1, by omega⟩
  exact (callA_body (fn := Try.f195) (c := body_ Try.f195) q _ (by kernel_rfl) (by kernel_rfl) (by kernel_rfl)).trans (B195 _ (fun p0 p1 => F246 q (by omega) p0 p1) p0 p1)

noncomputable def T247 (p0 : Int) : Option Bool := (some (neI p0 p0))
theorem B247 (C : Callee) (p0 : Int) : runs Try.prog C (cfg.fn 247) (finFn Try.prog (cfg.fn 247).byval Try.f247) [] (execA Try.prog C (cfg.fn 247) (nr Try.f247 []) (frame0 [I p0] 6)) = (T247 p0).map B := by
  unfold T247
  refine gS 1 ?_
  refine gR 0 (rg Try.f247 0) ?_
  refine se (mkE [(0, I p0)] [] 6) ?_
  refine pN ?_
  refine pS ?_
  refine gS 0 ?_
  refine gR 1 (rg Try.f247 1) ?_
  refine se (mkE [(2, B (neI p0 p0))] [] 6) ?_
  refine pN ?_
  refine pS ?_
  refine gE ?_
  exact pL
theorem F247 (m : Nat) (hm : 1 ≤ m) (p0 : Int) : callA Try.prog cfg m 247 [I p0] = (T247 p0).map B := by
  obtain ⟨q, rfl⟩ : ∃ q, m = q + 1 := ⟨m - 1, by omega⟩
  exact (callA_body (fn := Try.f247) (c := body_ Try.f247) q _ (by kernel_rfl) (by kernel_rfl) (by kernel_rfl)).trans (B247 _ p0)

noncomputable def T196 (p0 : Int) (p1 : Int) : Option Int := ((T247 p0).bind fun x1 => ((T247 p1).bind fun x2 => (bif x1 then (bif x2 then (some 0) else (some (-1))) else (bif x2 then (some 1) else (bif (ltI p0 p1) then (some (-1)) else (bif (ltI p1 p0) then (some 1) else (some 0)))))))
theorem B196 (C : Callee) (h247 : ∀ (p0 : Int), C 247 [I p0] = (T247 p0).map B) (p0 : Int) (p1 : Int) : runs Try.prog C (cfg.fn 196) (finFn Try.prog (cfg.fn 196).byval Try.f196) [] (execA Try.prog C (cfg.fn 196) (nr Try.f196 []) (frame0 [I p0, I p1] 20)) = (T196 p0 p1).map I := by
  unfold T196
  refine gS 1 ?_
  refine gR 0 (rg Try.f196 0) ?_
  refine se (mkE [(0, I p0), (1, I p1)] [] 20) ?_
  refine pN ?_
  refine pS ?_
  refine gS 2 ?_
  refine gR 1 (rg Try.f196 1) ?_
  refine sg 1 (mkE [(7, I p0), (0, I p0), (1, I p1)] [] 20) ?_
  refine co 8 [] (h247 p0) (fun x1 => ?_)
  refine se (mkE [(0, I p0), (1, I p1), (5, B x1)] [] 20) ?_
  refine pN ?_
  refine pS ?_
  refine gS 3 ?_
  refine gR 2 (rg Try.f196 2) ?_
  refine sg 1 (mkE [(9, I p1), (0, I p0), (1, I p1), (5, B x1)] [] 20) ?_
  refine co 10 [] (h247 p1) (fun x2 => ?_)
  refine se (mkE [(0, I p0), (1, I p1), (5, B x1), (6, B x2)] [] 20) ?_
  refine pN ?_
  refine pS ?_
  refine gS 7 ?_
  refine gS 0 ?_
  refine gR 3 (rg Try.f196 3) ?_
  refine se (mkE [(0, I p0), (1, I p1), (6, B x2), (11, B x1)] [] 20) ?_
  refine pN ?_
  refine pS ?_
  refine gC 11 x1 ?_ ?_
  · refine gS 6 ?_
    refine gS 0 ?_
    refine gR 4 (rg Try.f196 4) ?_
    refine se (mkE [(12, B x2)] [] 20) ?_
    refine pN ?_
    refine pS ?_
    refine gC 12 x2 ?_ ?_
    · refine gS 0 ?_
      refine gR 5 (rg Try.f196 5) ?_
      refine se (mkE [(4, I 0)] [] 20) ?_
      refine pN ?_
      refine pS ?_
      refine gE ?_
      exact pL
    · refine gK ?_
      refine pN ?_
      refine pS ?_
      refine gS 0 ?_
      refine gR 6 (rg Try.f196 6) ?_
      refine se (mkE [(4, I (-1))] [] 20) ?_
      refine pN ?_
      refine pS ?_
      refine gE ?_
      exact pL
  · refine gK ?_
    refine pN ?_
    refine pS ?_
    refine gS 9 ?_
    refine gS 0 ?_
    refine gR 7 (rg Try.f196 7) ?_
    refine se (mkE [(0, I p0), (1, I p1), (13, B x2)] [] 20) ?_
    refine pN ?_
    refine pS ?_
    refine gC 13 x2 ?_ ?_
    · refine gS 0 ?_
      refine gR 8 (rg Try.f196 8) ?_
      refine se (mkE [(4, I 1)] [] 20) ?_
      refine pN ?_
      refine pS ?_
      refine gE ?_
      exact pL
    · refine gK ?_
      refine pN ?_
      refine pS ?_
      refine gS 11 ?_
      refine gS 0 ?_
      refine gR 9 (rg Try.f196 9) ?_
      refine se (mkE [(0, I p0), (1, I p1), (16, B (ltI p0 p1))] [] 20) ?_
      refine pN ?_
      refine pS ?_
      refine gC 16 (ltI p0 p1) ?_ ?_
      · refine gS 0 ?_
        refine gR 10 (rg Try.f196 10) ?_
        refine se (mkE [(4, I (-1))] [] 20) ?_
        refine pN ?_
        refine pS ?_
        refine gE ?_
        exact pL
      · refine gK ?_
        refine pN ?_
        refine pS ?_
        refine gS 13 ?_
        refine gS 0 ?_
        refine gR 11 (rg Try.f196 11) ?_
        refine se (mkE [(19, B (ltI p1 p0))] [] 20) ?_
        refine pN ?_
        refine pS ?_
        refine gC 19 (ltI p1 p0) ?_ ?_
        · refine gS 0 ?_
          refine gR 12 (rg Try.f196 12) ?_
          refine se (mkE [(4, I 1)] [] 20) ?_
          refine pN ?_
          refine pS ?_
          refine gE ?_
          exact pL
        · refine gK ?_
          refine pN ?_
          refine pS ?_
          refine gS 0 ?_
          refine gR 13 (rg Try.f196 13) ?_
          refine se (mkE [(4, I 0)] [] 20) ?_
          refine pN ?_
          refine pS ?_
          refine gE ?_
          exact pL
theorem F196 (m : Nat) (hm : 2 ≤ m) (p0 : Int) (p1 : Int) : callA Try.prog cfg m 196 [I p0, I p1] = (T196 p0 p1).map I := by
  obtain ⟨q, rfl⟩ : ∃ q, m = q + 1 := ⟨m - 1, by omega⟩
  exact (callA_body (fn := Try.f196) (c := body_ Try.f196) q _ (by kernel_rfl) (by kernel_rfl) (by kernel_rfl)).trans (B196 _ (fun p0 => F247 q (by omega) p0) p0 p1)

noncomputable def L194_3 (p0 : (List Int)) (z0 : Int) : Option (Int ⊕ ((Int × Bool) ⊕ Int)) := (bif (ltI z0 (lenL p0)) then ((listAt p0 z0).bind fun x1 => (bif (neI x1 0) then (some (.inr (.inr x1))) else (some (.inl (addI .i64 z0 1))))) else (some (.inr (.inl (z0, (ltI z0 (lenL p0)))))))
theorem L194_3_ok (C : Callee) (p0 : (List Int)) (z0 : Int) : runs Try.prog C (cfg.fn 194) (finLoop ((cfg.fn 194).keep 3) ((cfg.fn 194).al 3)) [] (execA Try.prog C (cfg.fn 194) (nr Try.f194 [false, false, true, false, true, true]) ((fun z0 : Int => (mkE [(3, I 0), (6, LL I p0), (7, I (lenL p0)), (8, I z0)] [] 18)) z0)) = (L194_3 p0 z0).map (Sum.elim (fun z => .inl ((fun z0 : Int => (mkE [(3, I 0), (6, LL I p0), (7, I (lenL p0)), (8, I z0)] [] 18)) z)) (fun x => .inr ((Sum.elim (fun (x : (Int × Bool)) => (.exit 0, (mkE [(3, I 0), (6, LL I p0), (7, I (lenL p0)), (8, I x.1), (9, B x.2)] [] 18))) (fun (x : Int) => (.ret, (mkE [(2, I x)] [] 18)))) x))) := by
  unfold L194_3
  refine gS 0 ?_
  refine gR 3 (rg Try.f194 3) ?_
  refine se (mkE [(3, I 0), (6, LL I p0), (7, I (lenL p0)), (8, I z0), (9, B (ltI z0 (lenL p0)))] [] 18) ?_
  refine pN ?_
  refine pS ?_
  refine gS 4 ?_
  refine gC 9 (ltI z0 (lenL p0)) ?_ ?_
  · refine gK ?_
    refine pN ?_
    refine pS ?_
    refine gS 7 ?_
    refine gB 1 ?_
    refine gS 5 ?_
    refine gR 4 (rg Try.f194 4) ?_
    refine vo 10 (addrE 104 3 1 I .i64 p0 z0) (fun x1 => ?_)
    refine se (mkE [(3, I 0), (5, I x1), (6, LL I p0), (7, I (lenL p0)), (8, I z0)] [] 18) ?_
    refine pN ?_
    refine pS ?_
    refine gS 0 ?_
    refine gR 5 (rg Try.f194 5) ?_
    refine se (mkE [(3, I 0), (5, I x1), (6, LL I p0), (7, I (lenL p0)), (8, I z0), (14, B (neI x1 0))] [] 18) ?_
    refine pN ?_
    refine pS ?_
    refine gC 14 (neI x1 0) ?_ ?_
    · refine gS 0 ?_
      refine gR 6 (rg Try.f194 6) ?_
      refine se (mkE [(2, I x1)] [] 18) ?_
      refine pN ?_
      refine pS ?_
      refine gE ?_
      exact pL
    · refine gK ?_
      refine pB ?_
      refine pN ?_
      refine pS ?_
      refine gR 7 (rg Try.f194 7) ?_
      refine se (mkE [(3, I 0), (6, LL I p0), (7, I (lenL p0)), (8, I (addI .i64 z0 1))] [] 18) ?_
      exact pL
  · refine gX 0 ?_
    exact pL
noncomputable def T194 (p0 : (List Int)) : Option Int := ((iter (L194_3 p0) 0).bind fun y2 => (Sum.elim (fun y2a => (some 0)) (fun y2b => (some y2b)) y2))
theorem B194 (C : Callee) (p0 : (List Int)) : runs Try.prog C (cfg.fn 194) (finFn Try.prog (cfg.fn 194).byval Try.f194) [] (execA Try.prog C (cfg.fn 194) (nr Try.f194 []) (frame0 [LL I p0] 18)) = (T194 p0).map I := by
  unfold T194
  refine gS 1 ?_
  refine gR 0 (rg Try.f194 0) ?_
  refine se (mkE [(0, LL I p0)] [] 18) ?_
  refine pN ?_
  refine pS ?_
  refine gS 2 ?_
  refine gR 1 (rg Try.f194 1) ?_
  refine se (mkE [(0, LL I p0), (3, I 0)] [] 18) ?_
  refine pN ?_
  refine pS ?_
  refine gS 8 ?_
  refine gS 3 ?_
  refine gR 2 (rg Try.f194 2) ?_
  refine sg 1 (mkE [(6, LL I p0), (0, LL I p0), (3, I 0)] [] 18) ?_
  refine eo 7 (I (lenL p0)) (lenE 104 I p0) ?_
  refine se (mkE [(3, I 0), (6, LL I p0), (7, I (lenL p0)), (8, I 0)] [] 18) ?_
  refine pN ?_
  refine pS ?_
  refine gB 0 ?_
  refine lo [(3, none), (6, none), (7, none), (8, none)] [] (L194_3 p0) (fun z0 : Int => (mkE [(3, I 0), (6, LL I p0), (7, I (lenL p0)), (8, I z0)] [] 18)) (Sum.elim (fun (x : (Int × Bool)) => (.exit 0, (mkE [(3, I 0), (6, LL I p0), (7, I (lenL p0)), (8, I x.1), (9, B x.2)] [] 18))) (fun (x : Int) => (.ret, (mkE [(2, I x)] [] 18)))) 0 (fun z => L194_3_ok C p0 z) ?_
  intro y2
  refine ss y2 (Z := (Sum.elim (fun (x : (Int × Bool)) => (.exit 0, (mkE [(3, I 0), (6, LL I p0), (7, I (lenL p0)), (8, I x.1), (9, B x.2)] [] 18))) (fun (x : Int) => (.ret, (mkE [(2, I x)] [] 18))))) (fun y2a => ?_) (fun y2b => ?_)
  · refine pH ?_
    refine pN ?_
    refine pS ?_
    refine gS 0 ?_
    refine gR 8 (rg Try.f194 8) ?_
    refine se (mkE [(2, I 0)] [] 18) ?_
    refine pN ?_
    refine pS ?_
    refine gE ?_
    exact pL
  · exact pL
theorem F194 (m : Nat) (hm : 1 ≤ m) (p0 : (List Int)) : callA Try.prog cfg m 194 [LL I p0] = (T194 p0).map I := by
  obtain ⟨q, rfl⟩ : ∃ q, m = q + 1 := ⟨m - 1, by omega⟩
  exact (callA_body (fn := Try.f194) (c := body_ Try.f194) q _ (by kernel_rfl) (by kernel_rfl) (by kernel_rfl)).trans (B194 _ p0)

noncomputable def T142 (p0 : S24) (p1 : S24) : Option Int := ((T195 p0.f0 p1.f0).bind fun x1 => ((T196 p0.f1 p1.f1).bind fun x2 => ((T194 ([x1, x2] : List Int)).bind fun x3 => (some x3))))
theorem B142 (C : Callee) (h194 : ∀ (p0 : (List Int)), C 194 [LL I p0] = (T194 p0).map I) (h195 : ∀ (p0 : ByteArray) (p1 : ByteArray), C 195 [S p0, S p1] = (T195 p0 p1).map I) (h196 : ∀ (p0 : Int) (p1 : Int), C 196 [I p0, I p1] = (T196 p0 p1).map I) (p0 : S24) (p1 : S24) : runs Try.prog C (cfg.fn 142) (finFn Try.prog (cfg.fn 142).byval Try.f142) [] (execA Try.prog C (cfg.fn 142) (nr Try.f142 []) (frame0 [a24 p0, a24 p1] 17)) = (T142 p0 p1).map I := by
  unfold T142
  refine gS 1 ?_
  refine gR 0 (rg Try.f142 0) ?_
  refine se (mkE [(2, .ba 16 0), (3, .ba 24 0)] [(16, .box [S p0.f0, I p0.f1, I p0.f2] false), (24, .box [S p1.f0, I p1.f1, I p1.f2] false)] 17) ?_
  refine pN ?_
  refine pS ?_
  refine gS 0 ?_
  refine gD 1 13 (rg Try.f142 1) [0, 1, 2, 3, 4, 5, 6, 7, 8, 9, 10, 11, 12] ?_
  refine dg 4 [(some 5, qe (.ba 16 0)), (some 6, qe (S p0.f0)), (some 7, qe (.ba 24 0)), (some 8, qe (S p1.f0))] ?_
  refine dc 9 [] (mkE [(8, S p1.f0), (7, .ba 24 0), (6, S p0.f0), (5, .ba 16 0), (2, .ba 16 0), (3, .ba 24 0)] [(16, .box [S p0.f0, I p0.f1, I p0.f2] false), (24, .box [S p1.f0, I p1.f1, I p1.f2] false)] 17) (h195 p0.f0 p1.f0) (fun x1 => ?_)
  refine dg 9 [(some 5, qe (.ba 16 0)), (some 6, qe (S p0.f0)), (some 7, qe (.ba 24 0)), (some 8, qe (S p1.f0)), (some 9, qe (I x1)), (some 10, qe (.ba 16 1)), (some 11, qe (I p0.f1)), (some 12, qe (.ba 24 1)), (some 13, qe (I p1.f1))] ?_
  refine dc 14 [] (mkE [(13, I p1.f1), (12, .ba 24 1), (11, I p0.f1), (10, .ba 16 1), (9, I x1), (8, S p1.f0), (7, .ba 24 0), (6, S p0.f0), (5, .ba 16 0), (2, .ba 16 0), (3, .ba 24 0)] [(16, .box [S p0.f0, I p0.f1, I p0.f2] false), (24, .box [S p1.f0, I p1.f1, I p1.f2] false)] 17) (h196 p0.f1 p1.f1) (fun x2 => ?_)
  refine dg 11 [(some 5, qe (.ba 16 0)), (some 6, qe (S p0.f0)), (some 7, qe (.ba 24 0)), (some 8, qe (S p1.f0)), (some 9, qe (I x1)), (some 10, qe (.ba 16 1)), (some 11, qe (I p0.f1)), (some 12, qe (.ba 24 1)), (some 13, qe (I p1.f1)), (some 14, qe (I x2)), (some 15, { e := { val := .own 120 0, news := [(120, RR 3 1 I ([x1, x2] : List Int) 0 false)] } })] ?_
  refine dc 16 [120] (mkE [(15, .own 120 0), (14, I x2), (13, I p1.f1), (12, .ba 24 1), (11, I p0.f1), (10, .ba 16 1), (9, I x1), (8, S p1.f0), (7, .ba 24 0), (6, S p0.f0), (5, .ba 16 0), (2, .ba 16 0), (3, .ba 24 0)] [(120, RR 3 1 I ([x1, x2] : List Int) 0 false), (16, .box [S p0.f0, I p0.f1, I p0.f2] false), (24, .box [S p1.f0, I p1.f1, I p1.f2] false)] 17) (h194 ([x1, x2] : List Int)) (fun x3 => ?_)
  refine dg 13 [(some 5, qe (.ba 16 0)), (some 6, qe (S p0.f0)), (some 7, qe (.ba 24 0)), (some 8, qe (S p1.f0)), (some 9, qe (I x1)), (some 10, qe (.ba 16 1)), (some 11, qe (I p0.f1)), (some 12, qe (.ba 24 1)), (some 13, qe (I p1.f1)), (some 14, qe (I x2)), (some 15, { e := { val := .own 120 0, news := [(120, RR 3 1 I ([x1, x2] : List Int) 0 false)] } }), (some 16, qe (I x3)), (some 4, qe (I x3))] ?_
  refine de (mkE [(4, I x3), (16, I x3), (15, .own 120 0), (14, I x2), (13, I p1.f1), (12, .ba 24 1), (11, I p0.f1), (10, .ba 16 1), (9, I x1), (8, S p1.f0), (7, .ba 24 0), (6, S p0.f0), (5, .ba 16 0), (2, .ba 16 0), (3, .ba 24 0)] [(120, RR 3 1 I ([x1, x2] : List Int) 0 false), (16, .box [S p0.f0, I p0.f1, I p0.f2] false), (24, .box [S p1.f0, I p1.f1, I p1.f2] false)] 17) ?_
  refine se (mkE [(4, I x3)] [] 17) ?_
  refine pN ?_
  refine pS ?_
  refine gE ?_
  exact pL
theorem F142 (m : Nat) (hm : 3 ≤ m) (p0 : S24) (p1 : S24) : callA Try.prog cfg m 142 [a24 p0, a24 p1] = (T142 p0 p1).map I := by
  obtain ⟨q, rfl⟩ : ∃ q, m = q + 1 := ⟨m - 1, by omega⟩
  exact (callA_body (fn := Try.f142) (c := body_ Try.f142) q _ (by kernel_rfl) (by kernel_rfl) (by kernel_rfl)).trans (B142 _ (fun p0 => F194 q (by omega) p0) (fun p0 p1 => F195 q (by omega) p0 p1) (fun p0 p1 => F196 q (by omega) p0 p1) p0 p1)

noncomputable def L48_4 (p0 : (List S24)) (z0 : Int) : Option (Int ⊕ ((Int × Bool) ⊕ Int)) := (bif (ltI z0 (lenL p0)) then ((listAt p0 z0).bind fun x1 => ((T137 x1.f0).bind fun x2 => (bif (!x2) then (some (.inr (.inr 5))) else ((T141 x1.f1).bind fun x3 => (bif (!x3) then (some (.inr (.inr 1))) else ((T126 x1.f2 0 345686399999).bind fun x4 => (bif x4 then (some (.inr (.inr 1))) else (bif (ltI 0 z0) then ((listAt p0 (subI .i64 z0 1)).bind fun x5 => ((T142 x5 x1).bind fun x6 => (bif (leI 0 x6) then (some (.inr (.inr 7))) else (bif (ltI 0 z0) then ((listAt p0 (subI .i64 z0 1)).bind fun x7 => (bif (eqS x1.f0 x7.f0) then ((listAt p0 (subI .i64 z0 1)).bind fun x8 => (bif (leI x1.f2 x8.f2) then (some (.inr (.inr 16))) else (some (.inl (addI .i64 z0 1))))) else (some (.inl (addI .i64 z0 1))))) else (some (.inl (addI .i64 z0 1))))))) else (bif (ltI 0 z0) then ((listAt p0 (subI .i64 z0 1)).bind fun x9 => (bif (eqS x1.f0 x9.f0) then ((listAt p0 (subI .i64 z0 1)).bind fun x10 => (bif (leI x1.f2 x10.f2) then (some (.inr (.inr 16))) else (some (.inl (addI .i64 z0 1))))) else (some (.inl (addI .i64 z0 1))))) else (some (.inl (addI .i64 z0 1)))))))))))) else (some (.inr (.inl (z0, (ltI z0 (lenL p0)))))))
theorem L48_4_ok (C : Callee) (h126 : ∀ (p0 : Int) (p1 : Int) (p2 : Int), C 126 [I p0, I p1, I p2] = (T126 p0 p1 p2).map B) (h137 : ∀ (p0 : ByteArray), C 137 [S p0] = (T137 p0).map B) (h141 : ∀ (p0 : Int), C 141 [I p0] = (T141 p0).map B) (h142 : ∀ (p0 : S24) (p1 : S24), C 142 [a24 p0, a24 p1] = (T142 p0 p1).map I) (p0 : (List S24)) (z0 : Int) : runs Try.prog C (cfg.fn 48) (finLoop ((cfg.fn 48).keep 4) ((cfg.fn 48).al 4)) [] (execA Try.prog C (cfg.fn 48) (nr Try.f48 [false, false, true, false, true, true]) ((fun z0 : Int => (mkE [(0, LL a24 p0), (8, LL a24 p0), (9, I (lenL p0)), (10, I z0)] [] 69)) z0)) = (L48_4 p0 z0).map (Sum.elim (fun z => .inl ((fun z0 : Int => (mkE [(0, LL a24 p0), (8, LL a24 p0), (9, I (lenL p0)), (10, I z0)] [] 69)) z)) (fun x => .inr ((Sum.elim (fun (x : (Int × Bool)) => (.exit 0, (mkE [(0, LL a24 p0), (8, LL a24 p0), (9, I (lenL p0)), (10, I x.1), (11, B x.2)] [] 69))) (fun (x : Int) => (.ret, (mkE [(2, I x)] [] 69)))) x))) := by
  unfold L48_4
  refine gS 0 ?_
  refine gR 4 (rg Try.f48 4) ?_
  refine se (mkE [(0, LL a24 p0), (8, LL a24 p0), (9, I (lenL p0)), (10, I z0), (11, B (ltI z0 (lenL p0)))] [] 69) ?_
  refine pN ?_
  refine pS ?_
  refine gS 5 ?_
  refine gC 11 (ltI z0 (lenL p0)) ?_ ?_
  · refine gK ?_
    refine pN ?_
    refine pS ?_
    refine gS 14 ?_
    refine gB 1 ?_
    refine gS 6 ?_
    refine gR 5 (rg Try.f48 5) ?_
    refine sg 1 (mkE [(12, I z0), (0, LL a24 p0), (8, LL a24 p0), (9, I (lenL p0)), (10, I z0), (11, B (ltI z0 (lenL p0)))] [] 69) ?_
    refine vo 13 (addrE 22 25 3 a24 .i64 p0 z0) (fun x1 => ?_)
    refine se (mkE [(0, LL a24 p0), (3, I z0), (4, .ba 32 0), (8, LL a24 p0), (9, I (lenL p0)), (10, I z0)] [(32, .box [S x1.f0, I x1.f1, I x1.f2] false)] 69) ?_
    refine pN ?_
    refine pS ?_
    refine gB 2 ?_
    refine gS 0 ?_
    refine gR 6 (rg Try.f48 6) ?_
    refine sg 2 (mkE [(17, S x1.f0), (16, .ba 32 0), (0, LL a24 p0), (3, I z0), (4, .ba 32 0), (8, LL a24 p0), (9, I (lenL p0)), (10, I z0)] [(32, .box [S x1.f0, I x1.f1, I x1.f2] false)] 69) ?_
    refine co 18 [] (h137 x1.f0) (fun x2 => ?_)
    refine se (mkE [(0, LL a24 p0), (3, I z0), (4, .ba 32 0), (8, LL a24 p0), (9, I (lenL p0)), (10, I z0), (15, B (!x2))] [(32, .box [S x1.f0, I x1.f1, I x1.f2] false)] 69) ?_
    refine pN ?_
    refine pS ?_
    refine gC 15 (!x2) ?_ ?_
    · refine gS 0 ?_
      refine gR 7 (rg Try.f48 7) ?_
      refine se (mkE [(2, I 5)] [] 69) ?_
      refine pN ?_
      refine pS ?_
      refine gE ?_
      exact pL
    · refine gS 0 ?_
      refine gR 8 (rg Try.f48 8) ?_
      refine sg 2 (mkE [(22, I x1.f1), (21, .ba 32 1), (0, LL a24 p0), (3, I z0), (4, .ba 32 0), (8, LL a24 p0), (9, I (lenL p0)), (10, I z0), (15, B (!x2))] [(32, .box [S x1.f0, I x1.f1, I x1.f2] false)] 69) ?_
      refine co 23 [] (h141 x1.f1) (fun x3 => ?_)
      refine sg 5 (mkE [(25, B (!x3)), (24, B (!x3)), (23, B x3), (22, I x1.f1), (21, .ba 32 1), (0, LL a24 p0), (3, I z0), (4, .ba 32 0), (8, LL a24 p0), (9, I (lenL p0)), (10, I z0), (15, B (!x2))] [(32, .box [S x1.f0, I x1.f1, I x1.f2] false)] 69) ?_
      refine sb 25 (!x3) ?_ ?_
      · refine se (mkE [(0, LL a24 p0), (3, I z0), (4, .ba 32 0), (8, LL a24 p0), (9, I (lenL p0)), (10, I z0), (20, B true)] [(32, .box [S x1.f0, I x1.f1, I x1.f2] false)] 69) ?_
        refine pN ?_
        refine pS ?_
        refine gT (.tmp 20) ?_
        refine gS 0 ?_
        refine gR 9 (rg Try.f48 9) ?_
        refine se (mkE [(2, I 1)] [] 69) ?_
        refine pN ?_
        refine pS ?_
        refine gE ?_
        exact pL
      · refine sg 7 (mkE [(27, I x1.f2), (26, .ba 32 2), (25, B false), (25, B (!x3)), (24, B (!x3)), (23, B x3), (22, I x1.f1), (21, .ba 32 1), (0, LL a24 p0), (3, I z0), (4, .ba 32 0), (8, LL a24 p0), (9, I (lenL p0)), (10, I z0), (15, B (!x2))] [(32, .box [S x1.f0, I x1.f1, I x1.f2] false)] 69) ?_
        refine co 28 [] (h126 x1.f2 0 345686399999) (fun x4 => ?_)
        refine se (mkE [(0, LL a24 p0), (3, I z0), (4, .ba 32 0), (8, LL a24 p0), (9, I (lenL p0)), (10, I z0), (20, B x4)] [(32, .box [S x1.f0, I x1.f1, I x1.f2] false)] 69) ?_
        refine pN ?_
        refine pS ?_
        refine gC 20 x4 ?_ ?_
        · refine gS 0 ?_
          refine gR 9 (rg Try.f48 9) ?_
          refine se (mkE [(2, I 1)] [] 69) ?_
          refine pN ?_
          refine pS ?_
          refine gE ?_
          exact pL
        · refine gS 0 ?_
          refine gD 10 13 (rg Try.f48 10) [0, 1, 2, 3, 4, 5, 6, 7, 8, 9, 10, 11, 12] ?_
          refine dg 3 [(some 31, qe (I z0)), (some 32, qe (B (ltI 0 z0))), (some 33, qe (B (ltI 0 z0)))] ?_
          refine db 2 33 (ltI 0 z0) ?_ ?_
          · refine dg 6 [(some 31, qe (I z0)), (some 32, qe (B (ltI 0 z0))), (some 33, qe (B true)), (some 34, qe (LL a24 p0)), (some 35, qe (I z0)), (some 36, qe (I (subI .i64 z0 1)))] ?_
            refine dv 37 (mkE [(36, I (subI .i64 z0 1)), (35, I z0), (34, LL a24 p0), (33, B true), (32, B (ltI 0 z0)), (31, I z0), (0, LL a24 p0), (3, I z0), (4, .ba 32 0), (8, LL a24 p0), (9, I (lenL p0)), (10, I z0), (20, B x4)] [(32, .box [S x1.f0, I x1.f1, I x1.f2] false)] 69) (addrE 22 25 3 a24 .i64 p0 (subI .i64 z0 1)) (fun x5 => ?_)
            refine dg 9 [(some 31, qe (I z0)), (some 32, qe (B (ltI 0 z0))), (some 33, qe (B true)), (some 34, qe (LL a24 p0)), (some 35, qe (I z0)), (some 36, qe (I (subI .i64 z0 1))), (some 37, qe (.ia [S x5.f0, I x5.f1, I x5.f2] 0)), (some 38, qe (a24 x5)), (some 39, qe (a24 x1))] ?_
            refine dc 40 [] (mkE [(39, a24 x1), (38, a24 x5), (37, .ia [S x5.f0, I x5.f1, I x5.f2] 0), (36, I (subI .i64 z0 1)), (35, I z0), (34, LL a24 p0), (33, B true), (32, B (ltI 0 z0)), (31, I z0), (0, LL a24 p0), (3, I z0), (4, .ba 32 0), (8, LL a24 p0), (9, I (lenL p0)), (10, I z0), (20, B x4)] [(32, .box [S x1.f0, I x1.f1, I x1.f2] false)] 69) (h142 x5 x1) (fun x6 => ?_)
            refine dg 13 [(some 31, qe (I z0)), (some 32, qe (B (ltI 0 z0))), (some 33, qe (B true)), (some 34, qe (LL a24 p0)), (some 35, qe (I z0)), (some 36, qe (I (subI .i64 z0 1))), (some 37, qe (.ia [S x5.f0, I x5.f1, I x5.f2] 0)), (some 38, qe (a24 x5)), (some 39, qe (a24 x1)), (some 40, qe (I x6)), (some 41, qe (B (leI 0 x6))), (some 42, qe (B (leI 0 x6))), (some 30, qe (B (leI 0 x6)))] ?_
            refine de (mkE [(30, B (leI 0 x6)), (42, B (leI 0 x6)), (41, B (leI 0 x6)), (40, I x6), (39, a24 x1), (38, a24 x5), (37, .ia [S x5.f0, I x5.f1, I x5.f2] 0), (36, I (subI .i64 z0 1)), (35, I z0), (34, LL a24 p0), (33, B true), (32, B (ltI 0 z0)), (31, I z0), (0, LL a24 p0), (3, I z0), (4, .ba 32 0), (8, LL a24 p0), (9, I (lenL p0)), (10, I z0), (20, B x4)] [(32, .box [S x1.f0, I x1.f1, I x1.f2] false)] 69) ?_
            refine se (mkE [(0, LL a24 p0), (3, I z0), (4, .ba 32 0), (8, LL a24 p0), (9, I (lenL p0)), (10, I z0), (30, B (leI 0 x6))] [(32, .box [S x1.f0, I x1.f1, I x1.f2] false)] 69) ?_
            refine pN ?_
            refine pS ?_
            refine gC 30 (leI 0 x6) ?_ ?_
            · refine gS 0 ?_
              refine gR 11 (rg Try.f48 11) ?_
              refine se (mkE [(2, I 7)] [] 69) ?_
              refine pN ?_
              refine pS ?_
              refine gE ?_
              exact pL
            · refine gS 0 ?_
              refine gD 12 25 (rg Try.f48 12) [0, 1, 2, 3, 4, 5, 6, 7, 8, 9, 10, 11, 12, 13, 14, 15, 16, 17, 18, 19, 20, 21, 22, 23, 24] ?_
              refine dg 3 [(some 44, qe (I z0)), (some 45, qe (B (ltI 0 z0))), (some 46, qe (B (ltI 0 z0)))] ?_
              refine db 2 46 (ltI 0 z0) ?_ ?_
              · refine dg 8 [(some 44, qe (I z0)), (some 45, qe (B (ltI 0 z0))), (some 46, qe (B true)), (some 47, qe (.ba 32 0)), (some 48, qe (S x1.f0)), (some 49, qe (LL a24 p0)), (some 50, qe (I z0)), (some 51, qe (I (subI .i64 z0 1)))] ?_
                refine dv 52 (mkE [(51, I (subI .i64 z0 1)), (50, I z0), (49, LL a24 p0), (46, B true), (45, B (ltI 0 z0)), (44, I z0), (0, LL a24 p0), (3, I z0), (4, .ba 32 0), (8, LL a24 p0), (9, I (lenL p0)), (10, I z0), (30, B (leI 0 x6))] [(32, .box [S x1.f0, I x1.f1, I x1.f2] false)] 69) (addrE 22 25 3 a24 .i64 p0 (subI .i64 z0 1)) (fun x7 => ?_)
                refine dg 14 [(some 44, qe (I z0)), (some 45, qe (B (ltI 0 z0))), (some 46, qe (B true)), (some 47, qe (.ba 32 0)), (some 48, qe (S x1.f0)), (some 49, qe (LL a24 p0)), (some 50, qe (I z0)), (some 51, qe (I (subI .i64 z0 1))), (some 52, qe (.ia [S x7.f0, I x7.f1, I x7.f2] 0)), (some 53, qe (.ia [S x7.f0, I x7.f1, I x7.f2] 0)), (some 54, qe (S x7.f0)), (some 55, qe (B (eqS x1.f0 x7.f0))), (some 56, qe (B (eqS x1.f0 x7.f0))), (some 57, qe (B (eqS x1.f0 x7.f0)))] ?_
                refine db 13 57 (eqS x1.f0 x7.f0) ?_ ?_
                · refine dg 19 [(some 44, qe (I z0)), (some 45, qe (B (ltI 0 z0))), (some 46, qe (B true)), (some 47, qe (.ba 32 0)), (some 48, qe (S x1.f0)), (some 49, qe (LL a24 p0)), (some 50, qe (I z0)), (some 51, qe (I (subI .i64 z0 1))), (some 52, qe (.ia [S x7.f0, I x7.f1, I x7.f2] 0)), (some 53, qe (.ia [S x7.f0, I x7.f1, I x7.f2] 0)), (some 54, qe (S x7.f0)), (some 55, qe (B (eqS x1.f0 x7.f0))), (some 56, qe (B (eqS x1.f0 x7.f0))), (some 57, qe (B true)), (some 58, qe (.ba 32 2)), (some 59, qe (I x1.f2)), (some 60, qe (LL a24 p0)), (some 61, qe (I z0)), (some 62, qe (I (subI .i64 z0 1)))] ?_
                  refine dv 63 (mkE [(62, I (subI .i64 z0 1)), (61, I z0), (60, LL a24 p0), (57, B true), (56, B (eqS x1.f0 x7.f0)), (55, B (eqS x1.f0 x7.f0)), (54, S x7.f0), (53, .ia [S x7.f0, I x7.f1, I x7.f2] 0), (52, .ia [S x7.f0, I x7.f1, I x7.f2] 0), (51, I (subI .i64 z0 1)), (50, I z0), (49, LL a24 p0), (48, S x1.f0), (47, .ba 32 0), (46, B true), (45, B (ltI 0 z0)), (44, I z0), (0, LL a24 p0), (3, I z0), (4, .ba 32 0), (8, LL a24 p0), (9, I (lenL p0)), (10, I z0), (30, B (leI 0 x6))] [(32, .box [S x1.f0, I x1.f1, I x1.f2] false)] 69) (addrE 22 25 3 a24 .i64 p0 (subI .i64 z0 1)) (fun x8 => ?_)
                  refine dg 25 [(some 44, qe (I z0)), (some 45, qe (B (ltI 0 z0))), (some 46, qe (B true)), (some 47, qe (.ba 32 0)), (some 48, qe (S x1.f0)), (some 49, qe (LL a24 p0)), (some 50, qe (I z0)), (some 51, qe (I (subI .i64 z0 1))), (some 52, qe (.ia [S x7.f0, I x7.f1, I x7.f2] 0)), (some 53, qe (.ia [S x7.f0, I x7.f1, I x7.f2] 0)), (some 54, qe (S x7.f0)), (some 55, qe (B (eqS x1.f0 x7.f0))), (some 56, qe (B (eqS x1.f0 x7.f0))), (some 57, qe (B true)), (some 58, qe (.ba 32 2)), (some 59, qe (I x1.f2)), (some 60, qe (LL a24 p0)), (some 61, qe (I z0)), (some 62, qe (I (subI .i64 z0 1))), (some 63, qe (.ia [S x8.f0, I x8.f1, I x8.f2] 0)), (some 64, qe (.ia [S x8.f0, I x8.f1, I x8.f2] 2)), (some 65, qe (I x8.f2)), (some 66, qe (B (leI x1.f2 x8.f2))), (some 67, qe (B (leI x1.f2 x8.f2))), (some 43, qe (B (leI x1.f2 x8.f2)))] ?_
                  refine de (mkE [(43, B (leI x1.f2 x8.f2)), (67, B (leI x1.f2 x8.f2)), (66, B (leI x1.f2 x8.f2)), (65, I x8.f2), (64, .ia [S x8.f0, I x8.f1, I x8.f2] 2), (63, .ia [S x8.f0, I x8.f1, I x8.f2] 0), (62, I (subI .i64 z0 1)), (61, I z0), (60, LL a24 p0), (59, I x1.f2), (58, .ba 32 2), (57, B true), (56, B (eqS x1.f0 x7.f0)), (55, B (eqS x1.f0 x7.f0)), (54, S x7.f0), (53, .ia [S x7.f0, I x7.f1, I x7.f2] 0), (52, .ia [S x7.f0, I x7.f1, I x7.f2] 0), (51, I (subI .i64 z0 1)), (50, I z0), (49, LL a24 p0), (48, S x1.f0), (47, .ba 32 0), (46, B true), (45, B (ltI 0 z0)), (44, I z0), (0, LL a24 p0), (3, I z0), (4, .ba 32 0), (8, LL a24 p0), (9, I (lenL p0)), (10, I z0), (30, B (leI 0 x6))] [(32, .box [S x1.f0, I x1.f1, I x1.f2] false)] 69) ?_
                  refine se (mkE [(0, LL a24 p0), (8, LL a24 p0), (9, I (lenL p0)), (10, I z0), (43, B (leI x1.f2 x8.f2))] [] 69) ?_
                  refine pN ?_
                  refine pS ?_
                  refine gC 43 (leI x1.f2 x8.f2) ?_ ?_
                  · refine gS 0 ?_
                    refine gR 13 (rg Try.f48 13) ?_
                    refine se (mkE [(2, I 16)] [] 69) ?_
                    refine pN ?_
                    refine pS ?_
                    refine gE ?_
                    exact pL
                  · refine gK ?_
                    refine pB ?_
                    refine pB ?_
                    refine pN ?_
                    refine pS ?_
                    refine gR 14 (rg Try.f48 14) ?_
                    refine se (mkE [(0, LL a24 p0), (8, LL a24 p0), (9, I (lenL p0)), (10, I (addI .i64 z0 1))] [] 69) ?_
                    exact pL
                · refine dg 25 [(some 44, qe (I z0)), (some 45, qe (B (ltI 0 z0))), (some 46, qe (B true)), (some 47, qe (.ba 32 0)), (some 48, qe (S x1.f0)), (some 49, qe (LL a24 p0)), (some 50, qe (I z0)), (some 51, qe (I (subI .i64 z0 1))), (some 52, qe (.ia [S x7.f0, I x7.f1, I x7.f2] 0)), (some 53, qe (.ia [S x7.f0, I x7.f1, I x7.f2] 0)), (some 54, qe (S x7.f0)), (some 55, qe (B (eqS x1.f0 x7.f0))), (some 56, qe (B (eqS x1.f0 x7.f0))), (some 57, qe (B false)), (some 58, qe (.und)), (some 59, qe (.und)), (some 60, qe (.und)), (some 61, qe (.und)), (some 62, qe (.und)), (some 63, qe (.und)), (some 64, qe (.und)), (some 65, qe (.und)), (some 66, qe (.und)), (some 67, qe (B false)), (some 43, qe (B false))] ?_
                  refine de (mkE [(43, B false), (67, B false), (66, .und), (65, .und), (64, .und), (63, .und), (62, .und), (61, .und), (60, .und), (59, .und), (58, .und), (57, B false), (56, B (eqS x1.f0 x7.f0)), (55, B (eqS x1.f0 x7.f0)), (54, S x7.f0), (53, .ia [S x7.f0, I x7.f1, I x7.f2] 0), (52, .ia [S x7.f0, I x7.f1, I x7.f2] 0), (51, I (subI .i64 z0 1)), (50, I z0), (49, LL a24 p0), (48, S x1.f0), (47, .ba 32 0), (46, B true), (45, B (ltI 0 z0)), (44, I z0), (0, LL a24 p0), (3, I z0), (4, .ba 32 0), (8, LL a24 p0), (9, I (lenL p0)), (10, I z0), (30, B (leI 0 x6))] [(32, .box [S x1.f0, I x1.f1, I x1.f2] false)] 69) ?_
                  refine se (mkE [(0, LL a24 p0), (8, LL a24 p0), (9, I (lenL p0)), (10, I z0), (43, B false)] [] 69) ?_
                  refine pN ?_
                  refine pS ?_
                  refine gF (.tmp 43) ?_
                  refine gK ?_
                  refine pB ?_
                  refine pB ?_
                  refine pN ?_
                  refine pS ?_
                  refine gR 14 (rg Try.f48 14) ?_
                  refine se (mkE [(0, LL a24 p0), (8, LL a24 p0), (9, I (lenL p0)), (10, I (addI .i64 z0 1))] [] 69) ?_
                  exact pL
              · refine dg 25 [(some 44, qe (I z0)), (some 45, qe (B (ltI 0 z0))), (some 46, qe (B false)), (some 47, qe (.und)), (some 48, qe (.und)), (some 49, qe (.und)), (some 50, qe (.und)), (some 51, qe (.und)), (some 52, qe (.und)), (some 53, qe (.und)), (some 54, qe (.und)), (some 55, qe (.und)), (some 56, qe (B false)), (some 57, qe (B false)), (some 58, qe (.und)), (some 59, qe (.und)), (some 60, qe (.und)), (some 61, qe (.und)), (some 62, qe (.und)), (some 63, qe (.und)), (some 64, qe (.und)), (some 65, qe (.und)), (some 66, qe (.und)), (some 67, qe (B false)), (some 43, qe (B false))] ?_
                refine de (mkE [(43, B false), (67, B false), (66, .und), (65, .und), (64, .und), (63, .und), (62, .und), (61, .und), (60, .und), (59, .und), (58, .und), (57, B false), (56, B false), (55, .und), (54, .und), (53, .und), (52, .und), (51, .und), (50, .und), (49, .und), (48, .und), (47, .und), (46, B false), (45, B (ltI 0 z0)), (44, I z0), (0, LL a24 p0), (3, I z0), (4, .ba 32 0), (8, LL a24 p0), (9, I (lenL p0)), (10, I z0), (30, B (leI 0 x6))] [(32, .box [S x1.f0, I x1.f1, I x1.f2] false)] 69) ?_
                refine se (mkE [(0, LL a24 p0), (8, LL a24 p0), (9, I (lenL p0)), (10, I z0), (43, B false)] [] 69) ?_
                refine pN ?_
                refine pS ?_
                refine gF (.tmp 43) ?_
                refine gK ?_
                refine pB ?_
                refine pB ?_
                refine pN ?_
                refine pS ?_
                refine gR 14 (rg Try.f48 14) ?_
                refine se (mkE [(0, LL a24 p0), (8, LL a24 p0), (9, I (lenL p0)), (10, I (addI .i64 z0 1))] [] 69) ?_
                exact pL
          · refine dg 13 [(some 31, qe (I z0)), (some 32, qe (B (ltI 0 z0))), (some 33, qe (B false)), (some 34, qe (.und)), (some 35, qe (.und)), (some 36, qe (.und)), (some 37, qe (.und)), (some 38, qe (.und)), (some 39, qe (.und)), (some 40, qe (.und)), (some 41, qe (.und)), (some 42, qe (B false)), (some 30, qe (B false))] ?_
            refine de (mkE [(30, B false), (42, B false), (41, .und), (40, .und), (39, .und), (38, .und), (37, .und), (36, .und), (35, .und), (34, .und), (33, B false), (32, B (ltI 0 z0)), (31, I z0), (0, LL a24 p0), (3, I z0), (4, .ba 32 0), (8, LL a24 p0), (9, I (lenL p0)), (10, I z0), (20, B x4)] [(32, .box [S x1.f0, I x1.f1, I x1.f2] false)] 69) ?_
            refine se (mkE [(0, LL a24 p0), (3, I z0), (4, .ba 32 0), (8, LL a24 p0), (9, I (lenL p0)), (10, I z0), (30, B false)] [(32, .box [S x1.f0, I x1.f1, I x1.f2] false)] 69) ?_
            refine pN ?_
            refine pS ?_
            refine gF (.tmp 30) ?_
            refine gS 0 ?_
            refine gD 12 25 (rg Try.f48 12) [0, 1, 2, 3, 4, 5, 6, 7, 8, 9, 10, 11, 12, 13, 14, 15, 16, 17, 18, 19, 20, 21, 22, 23, 24] ?_
            refine dg 3 [(some 44, qe (I z0)), (some 45, qe (B (ltI 0 z0))), (some 46, qe (B (ltI 0 z0)))] ?_
            refine db 2 46 (ltI 0 z0) ?_ ?_
            · refine dg 8 [(some 44, qe (I z0)), (some 45, qe (B (ltI 0 z0))), (some 46, qe (B true)), (some 47, qe (.ba 32 0)), (some 48, qe (S x1.f0)), (some 49, qe (LL a24 p0)), (some 50, qe (I z0)), (some 51, qe (I (subI .i64 z0 1)))] ?_
              refine dv 52 (mkE [(51, I (subI .i64 z0 1)), (50, I z0), (49, LL a24 p0), (46, B true), (45, B (ltI 0 z0)), (44, I z0), (0, LL a24 p0), (3, I z0), (4, .ba 32 0), (8, LL a24 p0), (9, I (lenL p0)), (10, I z0), (30, B false)] [(32, .box [S x1.f0, I x1.f1, I x1.f2] false)] 69) (addrE 22 25 3 a24 .i64 p0 (subI .i64 z0 1)) (fun x9 => ?_)
              refine dg 14 [(some 44, qe (I z0)), (some 45, qe (B (ltI 0 z0))), (some 46, qe (B true)), (some 47, qe (.ba 32 0)), (some 48, qe (S x1.f0)), (some 49, qe (LL a24 p0)), (some 50, qe (I z0)), (some 51, qe (I (subI .i64 z0 1))), (some 52, qe (.ia [S x9.f0, I x9.f1, I x9.f2] 0)), (some 53, qe (.ia [S x9.f0, I x9.f1, I x9.f2] 0)), (some 54, qe (S x9.f0)), (some 55, qe (B (eqS x1.f0 x9.f0))), (some 56, qe (B (eqS x1.f0 x9.f0))), (some 57, qe (B (eqS x1.f0 x9.f0)))] ?_
              refine db 13 57 (eqS x1.f0 x9.f0) ?_ ?_
              · refine dg 19 [(some 44, qe (I z0)), (some 45, qe (B (ltI 0 z0))), (some 46, qe (B true)), (some 47, qe (.ba 32 0)), (some 48, qe (S x1.f0)), (some 49, qe (LL a24 p0)), (some 50, qe (I z0)), (some 51, qe (I (subI .i64 z0 1))), (some 52, qe (.ia [S x9.f0, I x9.f1, I x9.f2] 0)), (some 53, qe (.ia [S x9.f0, I x9.f1, I x9.f2] 0)), (some 54, qe (S x9.f0)), (some 55, qe (B (eqS x1.f0 x9.f0))), (some 56, qe (B (eqS x1.f0 x9.f0))), (some 57, qe (B true)), (some 58, qe (.ba 32 2)), (some 59, qe (I x1.f2)), (some 60, qe (LL a24 p0)), (some 61, qe (I z0)), (some 62, qe (I (subI .i64 z0 1)))] ?_
                refine dv 63 (mkE [(62, I (subI .i64 z0 1)), (61, I z0), (60, LL a24 p0), (57, B true), (56, B (eqS x1.f0 x9.f0)), (55, B (eqS x1.f0 x9.f0)), (54, S x9.f0), (53, .ia [S x9.f0, I x9.f1, I x9.f2] 0), (52, .ia [S x9.f0, I x9.f1, I x9.f2] 0), (51, I (subI .i64 z0 1)), (50, I z0), (49, LL a24 p0), (48, S x1.f0), (47, .ba 32 0), (46, B true), (45, B (ltI 0 z0)), (44, I z0), (0, LL a24 p0), (3, I z0), (4, .ba 32 0), (8, LL a24 p0), (9, I (lenL p0)), (10, I z0), (30, B false)] [(32, .box [S x1.f0, I x1.f1, I x1.f2] false)] 69) (addrE 22 25 3 a24 .i64 p0 (subI .i64 z0 1)) (fun x10 => ?_)
                refine dg 25 [(some 44, qe (I z0)), (some 45, qe (B (ltI 0 z0))), (some 46, qe (B true)), (some 47, qe (.ba 32 0)), (some 48, qe (S x1.f0)), (some 49, qe (LL a24 p0)), (some 50, qe (I z0)), (some 51, qe (I (subI .i64 z0 1))), (some 52, qe (.ia [S x9.f0, I x9.f1, I x9.f2] 0)), (some 53, qe (.ia [S x9.f0, I x9.f1, I x9.f2] 0)), (some 54, qe (S x9.f0)), (some 55, qe (B (eqS x1.f0 x9.f0))), (some 56, qe (B (eqS x1.f0 x9.f0))), (some 57, qe (B true)), (some 58, qe (.ba 32 2)), (some 59, qe (I x1.f2)), (some 60, qe (LL a24 p0)), (some 61, qe (I z0)), (some 62, qe (I (subI .i64 z0 1))), (some 63, qe (.ia [S x10.f0, I x10.f1, I x10.f2] 0)), (some 64, qe (.ia [S x10.f0, I x10.f1, I x10.f2] 2)), (some 65, qe (I x10.f2)), (some 66, qe (B (leI x1.f2 x10.f2))), (some 67, qe (B (leI x1.f2 x10.f2))), (some 43, qe (B (leI x1.f2 x10.f2)))] ?_
                refine de (mkE [(43, B (leI x1.f2 x10.f2)), (67, B (leI x1.f2 x10.f2)), (66, B (leI x1.f2 x10.f2)), (65, I x10.f2), (64, .ia [S x10.f0, I x10.f1, I x10.f2] 2), (63, .ia [S x10.f0, I x10.f1, I x10.f2] 0), (62, I (subI .i64 z0 1)), (61, I z0), (60, LL a24 p0), (59, I x1.f2), (58, .ba 32 2), (57, B true), (56, B (eqS x1.f0 x9.f0)), (55, B (eqS x1.f0 x9.f0)), (54, S x9.f0), (53, .ia [S x9.f0, I x9.f1, I x9.f2] 0), (52, .ia [S x9.f0, I x9.f1, I x9.f2] 0), (51, I (subI .i64 z0 1)), (50, I z0), (49, LL a24 p0), (48, S x1.f0), (47, .ba 32 0), (46, B true), (45, B (ltI 0 z0)), (44, I z0), (0, LL a24 p0), (3, I z0), (4, .ba 32 0), (8, LL a24 p0), (9, I (lenL p0)), (10, I z0), (30, B false)] [(32, .box [S x1.f0, I x1.f1, I x1.f2] false)] 69) ?_
                refine se (mkE [(0, LL a24 p0), (8, LL a24 p0), (9, I (lenL p0)), (10, I z0), (43, B (leI x1.f2 x10.f2))] [] 69) ?_
                refine pN ?_
                refine pS ?_
                refine gC 43 (leI x1.f2 x10.f2) ?_ ?_
                · refine gS 0 ?_
                  refine gR 13 (rg Try.f48 13) ?_
                  refine se (mkE [(2, I 16)] [] 69) ?_
                  refine pN ?_
                  refine pS ?_
                  refine gE ?_
                  exact pL
                · refine gK ?_
                  refine pB ?_
                  refine pB ?_
                  refine pN ?_
                  refine pS ?_
                  refine gR 14 (rg Try.f48 14) ?_
                  refine se (mkE [(0, LL a24 p0), (8, LL a24 p0), (9, I (lenL p0)), (10, I (addI .i64 z0 1))] [] 69) ?_
                  exact pL
              · refine dg 25 [(some 44, qe (I z0)), (some 45, qe (B (ltI 0 z0))), (some 46, qe (B true)), (some 47, qe (.ba 32 0)), (some 48, qe (S x1.f0)), (some 49, qe (LL a24 p0)), (some 50, qe (I z0)), (some 51, qe (I (subI .i64 z0 1))), (some 52, qe (.ia [S x9.f0, I x9.f1, I x9.f2] 0)), (some 53, qe (.ia [S x9.f0, I x9.f1, I x9.f2] 0)), (some 54, qe (S x9.f0)), (some 55, qe (B (eqS x1.f0 x9.f0))), (some 56, qe (B (eqS x1.f0 x9.f0))), (some 57, qe (B false)), (some 58, qe (.und)), (some 59, qe (.und)), (some 60, qe (.und)), (some 61, qe (.und)), (some 62, qe (.und)), (some 63, qe (.und)), (some 64, qe (.und)), (some 65, qe (.und)), (some 66, qe (.und)), (some 67, qe (B false)), (some 43, qe (B false))] ?_
                refine de (mkE [(43, B false), (67, B false), (66, .und), (65, .und), (64, .und), (63, .und), (62, .und), (61, .und), (60, .und), (59, .und), (58, .und), (57, B false), (56, B (eqS x1.f0 x9.f0)), (55, B (eqS x1.f0 x9.f0)), (54, S x9.f0), (53, .ia [S x9.f0, I x9.f1, I x9.f2] 0), (52, .ia [S x9.f0, I x9.f1, I x9.f2] 0), (51, I (subI .i64 z0 1)), (50, I z0), (49, LL a24 p0), (48, S x1.f0), (47, .ba 32 0), (46, B true), (45, B (ltI 0 z0)), (44, I z0), (0, LL a24 p0), (3, I z0), (4, .ba 32 0), (8, LL a24 p0), (9, I (lenL p0)), (10, I z0), (30, B false)] [(32, .box [S x1.f0, I x1.f1, I x1.f2] false)] 69) ?_
                refine se (mkE [(0, LL a24 p0), (8, LL a24 p0), (9, I (lenL p0)), (10, I z0), (43, B false)] [] 69) ?_
                refine pN ?_
                refine pS ?_
                refine gF (.tmp 43) ?_
                refine gK ?_
                refine pB ?_
                refine pB ?_
                refine pN ?_
                refine pS ?_
                refine gR 14 (rg Try.f48 14) ?_
                refine se (mkE [(0, LL a24 p0), (8, LL a24 p0), (9, I (lenL p0)), (10, I (addI .i64 z0 1))] [] 69) ?_
                exact pL
            · refine dg 25 [(some 44, qe (I z0)), (some 45, qe (B (ltI 0 z0))), (some 46, qe (B false)), (some 47, qe (.und)), (some 48, qe (.und)), (some 49, qe (.und)), (some 50, qe (.und)), (some 51, qe (.und)), (some 52, qe (.und)), (some 53, qe (.und)), (some 54, qe (.und)), (some 55, qe (.und)), (some 56, qe (B false)), (some 57, qe (B false)), (some 58, qe (.und)), (some 59, qe (.und)), (some 60, qe (.und)), (some 61, qe (.und)), (some 62, qe (.und)), (some 63, qe (.und)), (some 64, qe (.und)), (some 65, qe (.und)), (some 66, qe (.und)), (some 67, qe (B false)), (some 43, qe (B false))] ?_
              refine de (mkE [(43, B false), (67, B false), (66, .und), (65, .und), (64, .und), (63, .und), (62, .und), (61, .und), (60, .und), (59, .und), (58, .und), (57, B false), (56, B false), (55, .und), (54, .und), (53, .und), (52, .und), (51, .und), (50, .und), (49, .und), (48, .und), (47, .und), (46, B false), (45, B (ltI 0 z0)), (44, I z0), (0, LL a24 p0), (3, I z0), (4, .ba 32 0), (8, LL a24 p0), (9, I (lenL p0)), (10, I z0), (30, B false)] [(32, .box [S x1.f0, I x1.f1, I x1.f2] false)] 69) ?_
              refine se (mkE [(0, LL a24 p0), (8, LL a24 p0), (9, I (lenL p0)), (10, I z0), (43, B false)] [] 69) ?_
              refine pN ?_
              refine pS ?_
              refine gF (.tmp 43) ?_
              refine gK ?_
              refine pB ?_
              refine pB ?_
              refine pN ?_
              refine pS ?_
              refine gR 14 (rg Try.f48 14) ?_
              refine se (mkE [(0, LL a24 p0), (8, LL a24 p0), (9, I (lenL p0)), (10, I (addI .i64 z0 1))] [] 69) ?_
              exact pL
  · refine gX 0 ?_
    exact pL
noncomputable def T48 (p0 : (List S24)) : Option Int := (bif (ltI 500 (lenL p0)) then (some 2) else ((iter (L48_4 p0) 0).bind fun y11 => (Sum.elim (fun y11a => (some 0)) (fun y11b => (some y11b)) y11)))
theorem B48 (C : Callee) (h126 : ∀ (p0 : Int) (p1 : Int) (p2 : Int), C 126 [I p0, I p1, I p2] = (T126 p0 p1 p2).map B) (h137 : ∀ (p0 : ByteArray), C 137 [S p0] = (T137 p0).map B) (h141 : ∀ (p0 : Int), C 141 [I p0] = (T141 p0).map B) (h142 : ∀ (p0 : S24) (p1 : S24), C 142 [a24 p0, a24 p1] = (T142 p0 p1).map I) (p0 : (List S24)) : runs Try.prog C (cfg.fn 48) (finFn Try.prog (cfg.fn 48).byval Try.f48) [] (execA Try.prog C (cfg.fn 48) (nr Try.f48 []) (frame0 [LL a24 p0] 69)) = (T48 p0).map I := by
  unfold T48
  refine gS 1 ?_
  refine gR 0 (rg Try.f48 0) ?_
  refine se (mkE [(0, LL a24 p0)] [] 69) ?_
  refine pN ?_
  refine pS ?_
  refine gS 3 ?_
  refine gS 0 ?_
  refine gR 1 (rg Try.f48 1) ?_
  refine sg 1 (mkE [(5, LL a24 p0), (0, LL a24 p0)] [] 69) ?_
  refine eo 6 (I (lenL p0)) (lenE 22 a24 p0) ?_
  refine se (mkE [(0, LL a24 p0), (7, B (ltI 500 (lenL p0)))] [] 69) ?_
  refine pN ?_
  refine pS ?_
  refine gC 7 (ltI 500 (lenL p0)) ?_ ?_
  · refine gS 0 ?_
    refine gR 2 (rg Try.f48 2) ?_
    refine se (mkE [(2, I 2)] [] 69) ?_
    refine pN ?_
    refine pS ?_
    refine gE ?_
    exact pL
  · refine gK ?_
    refine pN ?_
    refine pS ?_
    refine gS 15 ?_
    refine gS 4 ?_
    refine gR 3 (rg Try.f48 3) ?_
    refine sg 1 (mkE [(8, LL a24 p0), (0, LL a24 p0), (7, B (ltI 500 (lenL p0)))] [] 69) ?_
    refine eo 9 (I (lenL p0)) (lenE 22 a24 p0) ?_
    refine se (mkE [(0, LL a24 p0), (8, LL a24 p0), (9, I (lenL p0)), (10, I 0)] [] 69) ?_
    refine pN ?_
    refine pS ?_
    refine gB 0 ?_
    refine lo [(0, none), (8, none), (9, none), (10, none)] [] (L48_4 p0) (fun z0 : Int => (mkE [(0, LL a24 p0), (8, LL a24 p0), (9, I (lenL p0)), (10, I z0)] [] 69)) (Sum.elim (fun (x : (Int × Bool)) => (.exit 0, (mkE [(0, LL a24 p0), (8, LL a24 p0), (9, I (lenL p0)), (10, I x.1), (11, B x.2)] [] 69))) (fun (x : Int) => (.ret, (mkE [(2, I x)] [] 69)))) 0 (fun z => L48_4_ok C h126 h137 h141 h142 p0 z) ?_
    intro y11
    refine ss y11 (Z := (Sum.elim (fun (x : (Int × Bool)) => (.exit 0, (mkE [(0, LL a24 p0), (8, LL a24 p0), (9, I (lenL p0)), (10, I x.1), (11, B x.2)] [] 69))) (fun (x : Int) => (.ret, (mkE [(2, I x)] [] 69))))) (fun y11a => ?_) (fun y11b => ?_)
    · refine pH ?_
      refine pN ?_
      refine pS ?_
      refine gS 0 ?_
      refine gR 15 (rg Try.f48 15) ?_
      refine se (mkE [(2, I 0)] [] 69) ?_
      refine pN ?_
      refine pS ?_
      refine gE ?_
      exact pL
    · exact pL
theorem F48 (m : Nat) (hm : 4 ≤ m) (p0 : (List S24)) : callA Try.prog cfg m 48 [LL a24 p0] = (T48 p0).map I := by
  obtain ⟨q, rfl⟩ : ∃ q, m = q + 1 := ⟨m - 1, by omega⟩
  exact (callA_body (fn := Try.f48) (c := body_ Try.f48) q _ (by kernel_rfl) (by kernel_rfl) (by kernel_rfl)).trans (B48 _ (fun p0 p1 p2 => F126 q (by omega) p0 p1 p2) (fun p0 => F137 q (by omega) p0) (fun p0 => F141 q (by omega) p0) (fun p0 p1 => F142 q (by omega) p0 p1) p0)

noncomputable def L138_3 (p0 : (List S24)) (p1 : ByteArray) (p2 : Bool) (z0 : ((List S185) × Int)) : Option (((List S185) × Int) ⊕ (Int × Bool × (List S185))) := (bif (ltI z0.2 (lenL p0)) then ((listAt p0 z0.2).bind fun x1 => (bif (!eqS x1.f0 p1) then (some (.inl (z0.1, (addI .i64 z0.2 1)))) else (bif p2 then ((appO 16 z0.1 ([(S185.mk x1.f1 x1.f2)] : List S185)).bind fun x2 => (some (.inl (x2, (addI .i64 z0.2 1))))) else ((appO 16 z0.1 ([(S185.mk x1.f2 x1.f1)] : List S185)).bind fun x3 => (some (.inl (x3, (addI .i64 z0.2 1)))))))) else (some (.inr (z0.2, (ltI z0.2 (lenL p0)), z0.1))))
theorem L138_3_ok (C : Callee) (p0 : (List S24)) (p1 : ByteArray) (p2 : Bool) (z0 : ((List S185) × Int)) : runs Try.prog C (cfg.fn 138) (finLoop ((cfg.fn 138).keep 3) ((cfg.fn 138).al 3)) [] (execA Try.prog C (cfg.fn 138) (nr Try.f138 [false, false, true, false, true, true]) ((fun z0 : ((List S185) × Int) => (mkE [(1, S p1), (2, B p2), (7, .own 56 0), (10, LL a24 p0), (11, I (lenL p0)), (12, I z0.2)] [(56, RR 186 2 a185 z0.1 0 false)] 41)) z0)) = (L138_3 p0 p1 p2 z0).map (Sum.elim (fun z => .inl ((fun z0 : ((List S185) × Int) => (mkE [(1, S p1), (2, B p2), (7, .own 56 0), (10, LL a24 p0), (11, I (lenL p0)), (12, I z0.2)] [(56, RR 186 2 a185 z0.1 0 false)] 41)) z)) (fun x => .inr ((fun (x : (Int × Bool × (List S185))) => (.exit 0, (mkE [(1, S p1), (2, B p2), (7, .own 56 0), (10, LL a24 p0), (11, I (lenL p0)), (12, I x.1), (13, B x.2.1)] [(56, RR 186 2 a185 x.2.2 0 false)] 41))) x))) := by
  unfold L138_3
  refine gS 0 ?_
  refine gR 3 (rg Try.f138 3) ?_
  refine se (mkE [(1, S p1), (2, B p2), (7, .own 56 0), (10, LL a24 p0), (11, I (lenL p0)), (12, I z0.2), (13, B (ltI z0.2 (lenL p0)))] [(56, RR 186 2 a185 z0.1 0 false)] 41) ?_
  refine pN ?_
  refine pS ?_
  refine gS 4 ?_
  refine gC 13 (ltI z0.2 (lenL p0)) ?_ ?_
  · refine gK ?_
    refine pN ?_
    refine pS ?_
    refine gS 9 ?_
    refine gB 1 ?_
    refine gS 6 ?_
    refine gR 4 (rg Try.f138 4) ?_
    refine vo 14 (addrE 22 25 3 a24 .i64 p0 z0.2) (fun x1 => ?_)
    refine se (mkE [(1, S p1), (2, B p2), (7, .own 56 0), (9, .ba 72 0), (10, LL a24 p0), (11, I (lenL p0)), (12, I z0.2)] [(56, RR 186 2 a185 z0.1 0 false), (72, .box [S x1.f0, I x1.f1, I x1.f2] false)] 41) ?_
    refine pN ?_
    refine pS ?_
    refine gB 2 ?_
    refine gS 0 ?_
    refine gR 6 (rg Try.f138 6) ?_
    refine se (mkE [(1, S p1), (2, B p2), (7, .own 56 0), (9, .ba 72 0), (10, LL a24 p0), (11, I (lenL p0)), (12, I z0.2), (24, B (!eqS x1.f0 p1))] [(56, RR 186 2 a185 z0.1 0 false), (72, .box [S x1.f0, I x1.f1, I x1.f2] false)] 41) ?_
    refine pN ?_
    refine pS ?_
    refine gC 24 (!eqS x1.f0 p1) ?_ ?_
    · refine gK ?_
      refine pB ?_
      refine pB ?_
      refine pN ?_
      refine pS ?_
      refine gR 9 (rg Try.f138 9) ?_
      refine se (mkE [(1, S p1), (2, B p2), (7, .own 56 0), (10, LL a24 p0), (11, I (lenL p0)), (12, I (addI .i64 z0.2 1))] [(56, RR 186 2 a185 z0.1 0 false)] 41) ?_
      exact pL
    · refine gS 0 ?_
      refine gR 7 (rg Try.f138 7) ?_
      refine se (mkE [(1, S p1), (2, B p2), (7, .own 56 0), (9, .ba 72 0), (10, LL a24 p0), (11, I (lenL p0)), (12, I z0.2), (29, B p2)] [(56, RR 186 2 a185 z0.1 0 false), (72, .box [S x1.f0, I x1.f1, I x1.f2] false)] 41) ?_
      refine pN ?_
      refine pS ?_
      refine gC 29 p2 ?_ ?_
      · refine gR 8 (rg Try.f138 8) ?_
        refine sg 7 (mkE [(37, .own 296 0), (36, .agg [I x1.f1, I x1.f2]), (35, I x1.f2), (34, .ba 72 2), (33, I x1.f1), (32, .ba 72 1), (31, .own 56 0), (1, S p1), (2, B p2), (7, .own 56 0), (9, .ba 72 0), (10, LL a24 p0), (11, I (lenL p0)), (12, I z0.2), (29, B p2)] [(296, RR 186 2 a185 ([(S185.mk x1.f1 x1.f2)] : List S185) 0 false), (56, RR 186 2 a185 z0.1 0 false), (72, .box [S x1.f0, I x1.f1, I x1.f2] false)] 41) ?_
        refine mo (some 38) (apO 183 186 2 16 56 a185 0 [296] (y := .own 296 0) (l2 := ([(S185.mk x1.f1 x1.f2)] : List S185))) (fun x2 => ?_)
        refine se (mkE [(1, S p1), (2, B p2), (7, .own 56 1), (10, LL a24 p0), (11, I (lenL p0)), (12, I z0.2)] [(56, RR 186 2 a185 x2 1 false)] 41) ?_
        refine pB ?_
        refine pB ?_
        refine pN ?_
        refine pS ?_
        refine gR 9 (rg Try.f138 9) ?_
        refine se (mkE [(1, S p1), (2, B p2), (7, .own 56 1), (10, LL a24 p0), (11, I (lenL p0)), (12, I (addI .i64 z0.2 1))] [(56, RR 186 2 a185 x2 1 false)] 41) ?_
        exact pL
      · refine gR 5 (rg Try.f138 5) ?_
        refine sg 7 (mkE [(22, .own 176 0), (21, .agg [I x1.f2, I x1.f1]), (20, I x1.f1), (19, .ba 72 1), (18, I x1.f2), (17, .ba 72 2), (16, .own 56 0), (1, S p1), (2, B p2), (7, .own 56 0), (9, .ba 72 0), (10, LL a24 p0), (11, I (lenL p0)), (12, I z0.2), (29, B p2)] [(176, RR 186 2 a185 ([(S185.mk x1.f2 x1.f1)] : List S185) 0 false), (56, RR 186 2 a185 z0.1 0 false), (72, .box [S x1.f0, I x1.f1, I x1.f2] false)] 41) ?_
        refine mo (some 23) (apO 183 186 2 16 56 a185 0 [176] (y := .own 176 0) (l2 := ([(S185.mk x1.f2 x1.f1)] : List S185))) (fun x3 => ?_)
        refine se (mkE [(1, S p1), (2, B p2), (7, .own 56 1), (10, LL a24 p0), (11, I (lenL p0)), (12, I z0.2)] [(56, RR 186 2 a185 x3 1 false)] 41) ?_
        refine pB ?_
        refine pB ?_
        refine pN ?_
        refine pS ?_
        refine gR 9 (rg Try.f138 9) ?_
        refine se (mkE [(1, S p1), (2, B p2), (7, .own 56 1), (10, LL a24 p0), (11, I (lenL p0)), (12, I (addI .i64 z0.2 1))] [(56, RR 186 2 a185 x3 1 false)] 41) ?_
        exact pL
  · refine gX 0 ?_
    exact pL
noncomputable def T138 (p0 : (List S24)) (p1 : ByteArray) (p2 : Bool) : Option (List S185) := ((iter (L138_3 p0 p1 p2) ([], 0)).bind fun y4 => (some y4.2.2))
theorem B138 (C : Callee) (p0 : (List S24)) (p1 : ByteArray) (p2 : Bool) : runs Try.prog C (cfg.fn 138) (finFn Try.prog (cfg.fn 138).byval Try.f138) [] (execA Try.prog C (cfg.fn 138) (nr Try.f138 []) (frame0 [LL a24 p0, S p1, B p2] 41)) = (T138 p0 p1 p2).map (fun l => AV.fr 186 2 (List.map a185 l)) := by
  unfold T138
  refine gS 1 ?_
  refine gR 0 (rg Try.f138 0) ?_
  refine se (mkE [(0, LL a24 p0), (1, S p1), (2, B p2)] [] 41) ?_
  refine pN ?_
  refine pS ?_
  refine gS 2 ?_
  refine gR 1 (rg Try.f138 1) ?_
  refine se (mkE [(0, LL a24 p0), (1, S p1), (2, B p2), (7, .nils)] [] 41) ?_
  refine pN ?_
  refine pS ?_
  refine gS 10 ?_
  refine gS 3 ?_
  refine gR 2 (rg Try.f138 2) ?_
  refine sg 1 (mkE [(10, LL a24 p0), (0, LL a24 p0), (1, S p1), (2, B p2), (7, .nils)] [] 41) ?_
  refine eo 11 (I (lenL p0)) (lenE 22 a24 p0) ?_
  refine se (mkE [(1, S p1), (2, B p2), (7, .nils), (10, LL a24 p0), (11, I (lenL p0)), (12, I 0)] [] 41) ?_
  refine pN ?_
  refine pS ?_
  refine gB 0 ?_
  refine lo [(1, none), (2, none), (7, some (186, 2)), (10, none), (11, none), (12, none)] [] (L138_3 p0 p1 p2) (fun z0 : ((List S185) × Int) => (mkE [(1, S p1), (2, B p2), (7, .own 56 0), (10, LL a24 p0), (11, I (lenL p0)), (12, I z0.2)] [(56, RR 186 2 a185 z0.1 0 false)] 41)) (fun (x : (Int × Bool × (List S185))) => (.exit 0, (mkE [(1, S p1), (2, B p2), (7, .own 56 0), (10, LL a24 p0), (11, I (lenL p0)), (12, I x.1), (13, B x.2.1)] [(56, RR 186 2 a185 x.2.2 0 false)] 41))) ([], 0) (fun z => L138_3_ok C p0 p1 p2 z) ?_
  intro y4
  refine pH ?_
  refine pN ?_
  refine pS ?_
  refine gS 0 ?_
  refine gR 10 (rg Try.f138 10) ?_
  refine se (mkE [(6, .own 56 0)] [(56, RR 186 2 a185 y4.2.2 0 false)] 41) ?_
  refine pN ?_
  refine pS ?_
  refine gE ?_
  exact pL
theorem F138 (m : Nat) (hm : 1 ≤ m) (p0 : (List S24)) (p1 : ByteArray) (p2 : Bool) : callA Try.prog cfg m 138 [LL a24 p0, S p1, B p2] = (T138 p0 p1 p2).map (fun l => AV.fr 186 2 (List.map a185 l)) := by
  obtain ⟨q, rfl⟩ : ∃ q, m = q + 1 := ⟨m - 1, by omega⟩
  exact (callA_body (fn := Try.f138) (c := body_ Try.f138) q _ (by kernel_rfl) (by kernel_rfl) (by kernel_rfl)).trans (B138 _ p0 p1 p2)

noncomputable def L220_4 (p0 : (List S185)) (p1 : Int) (z0 : Int) : Option (Int ⊕ (Int × Bool)) := (bif (ltI z0 (lenL p0)) then ((listAt p0 z0).bind fun x1 => (bif (leI x1.f0 p1) then (some (.inl (addI .i64 z0 1))) else (some (.inr (z0, (leI x1.f0 p1)))))) else (some (.inr (z0, false))))
theorem L220_4_ok (C : Callee) (p0 : (List S185)) (p1 : Int) (z0 : Int) : runs Try.prog C (cfg.fn 220) (finLoop ((cfg.fn 220).keep 4) ((cfg.fn 220).al 4)) [] (execA Try.prog C (cfg.fn 220) (nr Try.f220 [false, false, false, true, true, true]) ((fun z0 : Int => (mkE [(0, LL a185 p0), (1, I p1), (6, I z0)] [] 108)) z0)) = (L220_4 p0 p1 z0).map (Sum.elim (fun z => .inl ((fun z0 : Int => (mkE [(0, LL a185 p0), (1, I p1), (6, I z0)] [] 108)) z)) (fun x => .inr ((fun (x : (Int × Bool)) => (.exit 0, (mkE [(0, LL a185 p0), (1, I p1), (6, I x.1), (25, B x.2)] [] 108))) x))) := by
  unfold L220_4
  refine gS 5 ?_
  refine gS 0 ?_
  refine gR 4 (rg Try.f220 4) ?_
  refine sg 2 (mkE [(14, LL a185 p0), (13, I z0), (0, LL a185 p0), (1, I p1), (6, I z0)] [] 108) ?_
  refine eo 15 (I (lenL p0)) (lenE 183 a185 p0) ?_
  refine sg 5 (mkE [(17, B (ltI z0 (lenL p0))), (16, B (ltI z0 (lenL p0))), (15, I (lenL p0)), (14, LL a185 p0), (13, I z0), (0, LL a185 p0), (1, I p1), (6, I z0)] [] 108) ?_
  refine sb 17 (ltI z0 (lenL p0)) ?_ ?_
  · refine sg 7 (mkE [(19, I z0), (18, LL a185 p0), (17, B true), (17, B (ltI z0 (lenL p0))), (16, B (ltI z0 (lenL p0))), (15, I (lenL p0)), (14, LL a185 p0), (13, I z0), (0, LL a185 p0), (1, I p1), (6, I z0)] [] 108) ?_
    refine vo 20 (addrE 183 186 2 a185 .i64 p0 z0) (fun x1 => ?_)
    refine se (mkE [(0, LL a185 p0), (1, I p1), (6, I z0), (25, B (leI x1.f0 p1))] [] 108) ?_
    refine pN ?_
    refine pS ?_
    refine gC 25 (leI x1.f0 p1) ?_ ?_
    · refine gK ?_
      refine pN ?_
      refine pS ?_
      refine gB 1 ?_
      refine gR 5 (rg Try.f220 5) ?_
      refine se (mkE [(0, LL a185 p0), (1, I p1), (6, I (addI .i64 z0 1))] [] 108) ?_
      refine pB ?_
      exact pL
    · refine gX 0 ?_
      exact pL
  · refine se (mkE [(0, LL a185 p0), (1, I p1), (6, I z0), (25, B false)] [] 108) ?_
    refine pN ?_
    refine pS ?_
    refine gF (.tmp 25) ?_
    refine gX 0 ?_
    exact pL
noncomputable def T220 (p0 : (List S185)) (p1 : Int) : Option (Int × Int) := (bif (eqI (lenL p0) 0) then (some (0, 8)) else ((iter (L220_4 p0 p1) 0).bind fun y2 => (((bif (eqI y2.1 0) then ((listAt p0 0).bind fun x3 => ((listAt p0 0).bind fun x4 => (some (.inl (subI .i64 x3.f1 (subI .i64 x4.f0 p1)))))) else (bif (eqI y2.1 (lenL p0)) then ((listAt p0 (subI .i64 y2.1 1)).bind fun x5 => ((listAt p0 (subI .i64 y2.1 1)).bind fun x6 => (some (.inl (subI .i64 (addI .i64 x5.f1 p1) x6.f0))))) else ((listAt p0 (subI .i64 y2.1 1)).bind fun x7 => ((listAt p0 y2.1).bind fun x8 => (bif (ltI 2592000000 (subI .i64 x8.f0 x7.f0)) then (some (.inr ())) else (bif (ltI 2592000000 (subI .i64 x8.f1 x7.f1)) then (some (.inr ())) else ((quoO .i64 (mulI .i64 (subI .i64 p1 x7.f0) (subI .i64 x8.f1 x7.f1)) (subI .i64 x8.f0 x7.f0)).bind fun x9 => (some (.inl (addI .i64 x7.f1 x9)))))))))) : Option (Int ⊕ Unit)).bind fun y10 => (Sum.elim (fun y10a => ((T141 y10a).bind fun x11 => (bif (!x11) then (some (0, 11)) else (some (y10a, 0))))) (fun y10b => (some (0, 2))) y10))))
theorem B220 (C : Callee) (h141 : ∀ (p0 : Int), C 141 [I p0] = (T141 p0).map B) (p0 : (List S185)) (p1 : Int) : runs Try.prog C (cfg.fn 220) (finFn Try.prog (cfg.fn 220).byval Try.f220) [] (execA Try.prog C (cfg.fn 220) (nr Try.f220 []) (frame0 [LL a185 p0, I p1] 108)) = (T220 p0 p1).map (fun r => AV.tup [I r.1, I r.2]) := by
  unfold T220
  refine gS 1 ?_
  refine gR 0 (rg Try.f220 0) ?_
  refine se (mkE [(0, LL a185 p0), (1, I p1)] [] 108) ?_
  refine pN ?_
  refine pS ?_
  refine gS 3 ?_
  refine gS 0 ?_
  refine gR 1 (rg Try.f220 1) ?_
  refine sg 1 (mkE [(10, LL a185 p0), (0, LL a185 p0), (1, I p1)] [] 108) ?_
  refine eo 11 (I (lenL p0)) (lenE 183 a185 p0) ?_
  refine se (mkE [(0, LL a185 p0), (1, I p1), (12, B (eqI (lenL p0) 0))] [] 108) ?_
  refine pN ?_
  refine pS ?_
  refine gC 12 (eqI (lenL p0) 0) ?_ ?_
  · refine gS 0 ?_
    refine gR 2 (rg Try.f220 2) ?_
    refine se (mkE [(4, I 0), (5, I 8)] [] 108) ?_
    refine pN ?_
    refine pS ?_
    refine gE ?_
    exact pL
  · refine gK ?_
    refine pN ?_
    refine pS ?_
    refine gS 4 ?_
    refine gR 3 (rg Try.f220 3) ?_
    refine se (mkE [(0, LL a185 p0), (1, I p1), (6, I 0)] [] 108) ?_
    refine pN ?_
    refine pS ?_
    refine gS 6 ?_
    refine gB 0 ?_
    refine lo [(0, none), (1, none), (6, none)] [] (L220_4 p0 p1) (fun z0 : Int => (mkE [(0, LL a185 p0), (1, I p1), (6, I z0)] [] 108)) (fun (x : (Int × Bool)) => (.exit 0, (mkE [(0, LL a185 p0), (1, I p1), (6, I x.1), (25, B x.2)] [] 108))) 0 (fun z => L220_4_ok C p0 p1 z) ?_
    intro y2
    refine pH ?_
    refine pN ?_
    refine pS ?_
    refine gS 11 ?_
    refine gR 6 (rg Try.f220 6) ?_
    refine se (mkE [(0, LL a185 p0), (1, I p1), (6, I y2.1)] [] 108) ?_
    refine pN ?_
    refine pS ?_
    refine jS 15 ((bif (eqI y2.1 0) then ((listAt p0 0).bind fun x3 => ((listAt p0 0).bind fun x4 => (some (.inl (subI .i64 x3.f1 (subI .i64 x4.f0 p1)))))) else (bif (eqI y2.1 (lenL p0)) then ((listAt p0 (subI .i64 y2.1 1)).bind fun x5 => ((listAt p0 (subI .i64 y2.1 1)).bind fun x6 => (some (.inl (subI .i64 (addI .i64 x5.f1 p1) x6.f0))))) else ((listAt p0 (subI .i64 y2.1 1)).bind fun x7 => ((listAt p0 y2.1).bind fun x8 => (bif (ltI 2592000000 (subI .i64 x8.f0 x7.f0)) then (some (.inr ())) else (bif (ltI 2592000000 (subI .i64 x8.f1 x7.f1)) then (some (.inr ())) else ((quoO .i64 (mulI .i64 (subI .i64 p1 x7.f0) (subI .i64 x8.f1 x7.f1)) (subI .i64 x8.f0 x7.f0)).bind fun x9 => (some (.inl (addI .i64 x7.f1 x9)))))))))) : Option (Int ⊕ Unit)) (Sum.elim (fun (x : Int) => (.normal, (mkE [(7, I x)] [] 108))) (fun (x : Unit) => (.ret, (mkE [(4, I 0), (5, I 2)] [] 108)))) ?_ (fun y10 => ?_)
    · refine gB 2 ?_
      refine gS 0 ?_
      refine gR 11 (rg Try.f220 11) ?_
      refine se (mkE [(0, LL a185 p0), (1, I p1), (6, I y2.1), (70, B (eqI y2.1 0))] [] 108) ?_
      refine pN ?_
      refine pS ?_
      refine gC 70 (eqI y2.1 0) ?_ ?_
      · refine gD 12 12 (rg Try.f220 12) [0, 1, 2, 3, 4, 5, 6, 7, 8, 9, 10, 11] ?_
        refine dg 1 [(some 73, qe (LL a185 p0))] ?_
        refine dv 74 (mkE [(73, LL a185 p0), (0, LL a185 p0), (1, I p1), (6, I y2.1), (70, B (eqI y2.1 0))] [] 108) (addrE 183 186 2 a185 .i64 p0 0) (fun x3 => ?_)
        refine dg 5 [(some 73, qe (LL a185 p0)), (some 74, qe (.ia [I x3.f0, I x3.f1] 0)), (some 75, qe (.ia [I x3.f0, I x3.f1] 1)), (some 76, qe (I x3.f1)), (some 77, qe (LL a185 p0))] ?_
        refine dv 78 (mkE [(77, LL a185 p0), (0, LL a185 p0), (1, I p1), (6, I y2.1), (70, B (eqI y2.1 0))] [] 108) (addrE 183 186 2 a185 .i64 p0 0) (fun x4 => ?_)
        refine dg 12 [(some 73, qe (LL a185 p0)), (some 74, qe (.ia [I x3.f0, I x3.f1] 0)), (some 75, qe (.ia [I x3.f0, I x3.f1] 1)), (some 76, qe (I x3.f1)), (some 77, qe (LL a185 p0)), (some 78, qe (.ia [I x4.f0, I x4.f1] 0)), (some 79, qe (.ia [I x4.f0, I x4.f1] 0)), (some 80, qe (I x4.f0)), (some 81, qe (I p1)), (some 82, qe (I (subI .i64 x4.f0 p1))), (some 83, qe (I (subI .i64 x3.f1 (subI .i64 x4.f0 p1)))), (some 7, qe (I (subI .i64 x3.f1 (subI .i64 x4.f0 p1))))] ?_
        refine de (mkE [(7, I (subI .i64 x3.f1 (subI .i64 x4.f0 p1))), (83, I (subI .i64 x3.f1 (subI .i64 x4.f0 p1))), (82, I (subI .i64 x4.f0 p1)), (81, I p1), (80, I x4.f0), (79, .ia [I x4.f0, I x4.f1] 0), (78, .ia [I x4.f0, I x4.f1] 0), (77, LL a185 p0), (76, I x3.f1), (75, .ia [I x3.f0, I x3.f1] 1), (74, .ia [I x3.f0, I x3.f1] 0), (73, LL a185 p0), (0, LL a185 p0), (1, I p1), (6, I y2.1), (70, B (eqI y2.1 0))] [] 108) ?_
        refine se (mkE [(7, I (subI .i64 x3.f1 (subI .i64 x4.f0 p1)))] [] 108) ?_
        refine pB ?_
        refine pG (mkE [(7, I (subI .i64 x3.f1 (subI .i64 x4.f0 p1)))] [] 108) ?_
        exact pL
      · refine gS 0 ?_
        refine gR 13 (rg Try.f220 13) ?_
        refine sg 2 (mkE [(86, LL a185 p0), (85, I y2.1), (0, LL a185 p0), (1, I p1), (6, I y2.1), (70, B (eqI y2.1 0))] [] 108) ?_
        refine eo 87 (I (lenL p0)) (lenE 183 a185 p0) ?_
        refine se (mkE [(0, LL a185 p0), (1, I p1), (6, I y2.1), (84, B (eqI y2.1 (lenL p0)))] [] 108) ?_
        refine pN ?_
        refine pS ?_
        refine gC 84 (eqI y2.1 (lenL p0)) ?_ ?_
        · refine gD 14 16 (rg Try.f220 14) [0, 1, 2, 3, 4, 5, 6, 7, 8, 9, 10, 11, 12, 13, 14, 15] ?_
          refine dg 3 [(some 89, qe (LL a185 p0)), (some 90, qe (I y2.1)), (some 91, qe (I (subI .i64 y2.1 1)))] ?_
          refine dv 92 (mkE [(91, I (subI .i64 y2.1 1)), (90, I y2.1), (89, LL a185 p0), (0, LL a185 p0), (1, I p1), (6, I y2.1), (84, B (eqI y2.1 (lenL p0)))] [] 108) (addrE 183 186 2 a185 .i64 p0 (subI .i64 y2.1 1)) (fun x5 => ?_)
          refine dg 11 [(some 89, qe (LL a185 p0)), (some 90, qe (I y2.1)), (some 91, qe (I (subI .i64 y2.1 1))), (some 92, qe (.ia [I x5.f0, I x5.f1] 0)), (some 93, qe (.ia [I x5.f0, I x5.f1] 1)), (some 94, qe (I x5.f1)), (some 95, qe (I p1)), (some 96, qe (I (addI .i64 x5.f1 p1))), (some 97, qe (LL a185 p0)), (some 98, qe (I y2.1)), (some 99, qe (I (subI .i64 y2.1 1)))] ?_
          refine dv 100 (mkE [(99, I (subI .i64 y2.1 1)), (98, I y2.1), (97, LL a185 p0), (0, LL a185 p0), (1, I p1), (6, I y2.1), (84, B (eqI y2.1 (lenL p0)))] [] 108) (addrE 183 186 2 a185 .i64 p0 (subI .i64 y2.1 1)) (fun x6 => ?_)
          refine dg 16 [(some 89, qe (LL a185 p0)), (some 90, qe (I y2.1)), (some 91, qe (I (subI .i64 y2.1 1))), (some 92, qe (.ia [I x5.f0, I x5.f1] 0)), (some 93, qe (.ia [I x5.f0, I x5.f1] 1)), (some 94, qe (I x5.f1)), (some 95, qe (I p1)), (some 96, qe (I (addI .i64 x5.f1 p1))), (some 97, qe (LL a185 p0)), (some 98, qe (I y2.1)), (some 99, qe (I (subI .i64 y2.1 1))), (some 100, qe (.ia [I x6.f0, I x6.f1] 0)), (some 101, qe (.ia [I x6.f0, I x6.f1] 0)), (some 102, qe (I x6.f0)), (some 103, qe (I (subI .i64 (addI .i64 x5.f1 p1) x6.f0))), (some 7, qe (I (subI .i64 (addI .i64 x5.f1 p1) x6.f0)))] ?_
          refine de (mkE [(7, I (subI .i64 (addI .i64 x5.f1 p1) x6.f0)), (103, I (subI .i64 (addI .i64 x5.f1 p1) x6.f0)), (102, I x6.f0), (101, .ia [I x6.f0, I x6.f1] 0), (100, .ia [I x6.f0, I x6.f1] 0), (99, I (subI .i64 y2.1 1)), (98, I y2.1), (97, LL a185 p0), (96, I (addI .i64 x5.f1 p1)), (95, I p1), (94, I x5.f1), (93, .ia [I x5.f0, I x5.f1] 1), (92, .ia [I x5.f0, I x5.f1] 0), (91, I (subI .i64 y2.1 1)), (90, I y2.1), (89, LL a185 p0), (0, LL a185 p0), (1, I p1), (6, I y2.1), (84, B (eqI y2.1 (lenL p0)))] [] 108) ?_
          refine se (mkE [(7, I (subI .i64 (addI .i64 x5.f1 p1) x6.f0))] [] 108) ?_
          refine pB ?_
          refine pG (mkE [(7, I (subI .i64 (addI .i64 x5.f1 p1) x6.f0))] [] 108) ?_
          exact pL
        · refine gS 8 ?_
          refine gD 7 12 (rg Try.f220 7) [0, 1, 2, 3, 4, 5, 6, 7, 8, 9, 10, 11, 12] ?_
          refine dg 3 [(some 28, qe (LL a185 p0)), (some 29, qe (I y2.1)), (some 30, qe (I (subI .i64 y2.1 1)))] ?_
          refine dv 31 (mkE [(30, I (subI .i64 y2.1 1)), (29, I y2.1), (28, LL a185 p0), (0, LL a185 p0), (1, I p1), (6, I y2.1), (84, B (eqI y2.1 (lenL p0)))] [] 108) (addrE 183 186 2 a185 .i64 p0 (subI .i64 y2.1 1)) (fun x7 => ?_)
          refine dg 7 [(some 28, qe (LL a185 p0)), (some 29, qe (I y2.1)), (some 30, qe (I (subI .i64 y2.1 1))), (some 31, qe (.ia [I x7.f0, I x7.f1] 0)), (some 32, qe (a185 x7)), (some 33, qe (LL a185 p0)), (some 34, qe (I y2.1))] ?_
          refine dv 35 (mkE [(34, I y2.1), (33, LL a185 p0), (0, LL a185 p0), (1, I p1), (6, I y2.1), (84, B (eqI y2.1 (lenL p0)))] [] 108) (addrE 183 186 2 a185 .i64 p0 y2.1) (fun x8 => ?_)
          refine dg 12 [(some 28, qe (LL a185 p0)), (some 29, qe (I y2.1)), (some 30, qe (I (subI .i64 y2.1 1))), (some 31, qe (.ia [I x7.f0, I x7.f1] 0)), (some 32, qe (a185 x7)), (some 33, qe (LL a185 p0)), (some 34, qe (I y2.1)), (some 35, qe (.ia [I x8.f0, I x8.f1] 0)), (some 36, qe (a185 x8)), (some 8, { e := { val := .ba 64 0, news := [(64, .box [I 0, I 0] false)] } }), (some 9, { e := { val := .ba 72 0, news := [(72, .box [I 0, I 0] false)] } }), (none, { e := { val := .und }, st := some (64, .box [I x7.f0, I x7.f1] false, 0, 2) })] ?_
          refine de (mkE [(9, .ba 72 0), (8, .ba 64 0), (36, a185 x8), (35, .ia [I x8.f0, I x8.f1] 0), (34, I y2.1), (33, LL a185 p0), (32, a185 x7), (31, .ia [I x7.f0, I x7.f1] 0), (30, I (subI .i64 y2.1 1)), (29, I y2.1), (28, LL a185 p0), (0, LL a185 p0), (1, I p1), (6, I y2.1), (84, B (eqI y2.1 (lenL p0)))] [(64, .box [I x7.f0, I x7.f1] false), (72, .box [I 0, I 0] false), (64, .box [I 0, I 0] false)] 108) ?_
          refine se (mkE [(1, I p1), (8, .ba 64 0), (9, .ba 72 0)] [(64, .box [I x7.f0, I x7.f1] false), (72, .box [I x8.f0, I x8.f1] false)] 108) ?_
          refine pN ?_
          refine pS ?_
          refine gS 10 ?_
          refine gS 0 ?_
          refine gR 8 (rg Try.f220 8) ?_
          refine sg 7 (mkE [(43, B (ltI 2592000000 (subI .i64 x8.f0 x7.f0))), (42, B (ltI 2592000000 (subI .i64 x8.f0 x7.f0))), (41, I (subI .i64 x8.f0 x7.f0)), (40, I x7.f0), (39, .ba 64 0), (38, I x8.f0), (37, .ba 72 0), (1, I p1), (8, .ba 64 0), (9, .ba 72 0)] [(64, .box [I x7.f0, I x7.f1] false), (72, .box [I x8.f0, I x8.f1] false)] 108) ?_
          refine sb 43 (ltI 2592000000 (subI .i64 x8.f0 x7.f0)) ?_ ?_
          · refine se (mkE [(1, I p1), (8, .ba 64 0), (9, .ba 72 0), (50, B true)] [(64, .box [I x7.f0, I x7.f1] false), (72, .box [I x8.f0, I x8.f1] false)] 108) ?_
            refine pN ?_
            refine pS ?_
            refine gT (.tmp 50) ?_
            refine gS 0 ?_
            refine gR 9 (rg Try.f220 9) ?_
            refine se (mkE [(4, I 0), (5, I 2)] [] 108) ?_
            refine pN ?_
            refine pS ?_
            refine gE ?_
            exact pL
          · refine se (mkE [(1, I p1), (8, .ba 64 0), (9, .ba 72 0), (50, B (ltI 2592000000 (subI .i64 x8.f1 x7.f1)))] [(64, .box [I x7.f0, I x7.f1] false), (72, .box [I x8.f0, I x8.f1] false)] 108) ?_
            refine pN ?_
            refine pS ?_
            refine gC 50 (ltI 2592000000 (subI .i64 x8.f1 x7.f1)) ?_ ?_
            · refine gS 0 ?_
              refine gR 9 (rg Try.f220 9) ?_
              refine se (mkE [(4, I 0), (5, I 2)] [] 108) ?_
              refine pN ?_
              refine pS ?_
              refine gE ?_
              exact pL
            · refine gK ?_
              refine pN ?_
              refine pS ?_
              refine gD 10 20 (rg Try.f220 10) [0, 1, 2, 3, 4, 5, 6, 7, 8, 9, 10, 11, 12, 13, 14, 15, 16, 17, 18, 19] ?_
              refine dg 17 [(some 51, qe (.ba 64 1)), (some 52, qe (I x7.f1)), (some 53, qe (I p1)), (some 54, qe (.ba 64 0)), (some 55, qe (I x7.f0)), (some 56, qe (I (subI .i64 p1 x7.f0))), (some 57, qe (.ba 72 1)), (some 58, qe (I x8.f1)), (some 59, qe (.ba 64 1)), (some 60, qe (I x7.f1)), (some 61, qe (I (subI .i64 x8.f1 x7.f1))), (some 62, qe (I (mulI .i64 (subI .i64 p1 x7.f0) (subI .i64 x8.f1 x7.f1)))), (some 63, qe (.ba 72 0)), (some 64, qe (I x8.f0)), (some 65, qe (.ba 64 0)), (some 66, qe (I x7.f0)), (some 67, qe (I (subI .i64 x8.f0 x7.f0)))] ?_
              refine dv 68 (mkE [(67, I (subI .i64 x8.f0 x7.f0)), (66, I x7.f0), (65, .ba 64 0), (64, I x8.f0), (63, .ba 72 0), (62, I (mulI .i64 (subI .i64 p1 x7.f0) (subI .i64 x8.f1 x7.f1))), (61, I (subI .i64 x8.f1 x7.f1)), (60, I x7.f1), (59, .ba 64 1), (58, I x8.f1), (57, .ba 72 1), (56, I (subI .i64 p1 x7.f0)), (55, I x7.f0), (54, .ba 64 0), (53, I p1), (1, I p1), (8, .ba 64 0), (9, .ba 72 0), (50, B (ltI 2592000000 (subI .i64 x8.f1 x7.f1)))] [(64, .box [I x7.f0, I x7.f1] false), (72, .box [I x8.f0, I x8.f1] false)] 108) (quoE 3 .i64 (.tmp 62) (.tmp 67) (mulI .i64 (subI .i64 p1 x7.f0) (subI .i64 x8.f1 x7.f1)) (subI .i64 x8.f0 x7.f0)) (fun x9 => ?_)
              refine dg 20 [(some 51, qe (.ba 64 1)), (some 52, qe (I x7.f1)), (some 53, qe (I p1)), (some 54, qe (.ba 64 0)), (some 55, qe (I x7.f0)), (some 56, qe (I (subI .i64 p1 x7.f0))), (some 57, qe (.ba 72 1)), (some 58, qe (I x8.f1)), (some 59, qe (.ba 64 1)), (some 60, qe (I x7.f1)), (some 61, qe (I (subI .i64 x8.f1 x7.f1))), (some 62, qe (I (mulI .i64 (subI .i64 p1 x7.f0) (subI .i64 x8.f1 x7.f1)))), (some 63, qe (.ba 72 0)), (some 64, qe (I x8.f0)), (some 65, qe (.ba 64 0)), (some 66, qe (I x7.f0)), (some 67, qe (I (subI .i64 x8.f0 x7.f0))), (some 68, qe (I x9)), (some 69, qe (I (addI .i64 x7.f1 x9))), (some 7, qe (I (addI .i64 x7.f1 x9)))] ?_
              refine de (mkE [(7, I (addI .i64 x7.f1 x9)), (69, I (addI .i64 x7.f1 x9)), (68, I x9), (67, I (subI .i64 x8.f0 x7.f0)), (66, I x7.f0), (65, .ba 64 0), (64, I x8.f0), (63, .ba 72 0), (62, I (mulI .i64 (subI .i64 p1 x7.f0) (subI .i64 x8.f1 x7.f1))), (61, I (subI .i64 x8.f1 x7.f1)), (60, I x7.f1), (59, .ba 64 1), (58, I x8.f1), (57, .ba 72 1), (56, I (subI .i64 p1 x7.f0)), (55, I x7.f0), (54, .ba 64 0), (53, I p1), (52, I x7.f1), (51, .ba 64 1), (1, I p1), (8, .ba 64 0), (9, .ba 72 0), (50, B (ltI 2592000000 (subI .i64 x8.f1 x7.f1)))] [(64, .box [I x7.f0, I x7.f1] false), (72, .box [I x8.f0, I x8.f1] false)] 108) ?_
              refine se (mkE [(7, I (addI .i64 x7.f1 x9))] [] 108) ?_
              refine pB ?_
              refine pG (mkE [(7, I (addI .i64 x7.f1 x9))] [] 108) ?_
              exact pL
    refine ss y10 (Z := (Sum.elim (fun (x : Int) => (.normal, (mkE [(7, I x)] [] 108))) (fun (x : Unit) => (.ret, (mkE [(4, I 0), (5, I 2)] [] 108))))) (fun y10a => ?_) (fun y10b => ?_)
    · refine pS ?_
      refine gS 17 ?_
      refine gS 0 ?_
      refine gR 15 (rg Try.f220 15) ?_
      refine sg 1 (mkE [(104, I y10a), (7, I y10a)] [] 108) ?_
      refine co 105 [] (h141 y10a) (fun x11 => ?_)
      refine se (mkE [(7, I y10a), (106, B (!x11))] [] 108) ?_
      refine pN ?_
      refine pS ?_
      refine gC 106 (!x11) ?_ ?_
      · refine gS 0 ?_
        refine gR 16 (rg Try.f220 16) ?_
        refine se (mkE [(4, I 0), (5, I 11)] [] 108) ?_
        refine pN ?_
        refine pS ?_
        refine gE ?_
        exact pL
      · refine gK ?_
        refine pN ?_
        refine pS ?_
        refine gS 0 ?_
        refine gR 17 (rg Try.f220 17) ?_
        refine se (mkE [(4, I y10a), (5, I 0)] [] 108) ?_
        refine pN ?_
        refine pS ?_
        refine gE ?_
        exact pL
    · exact pL
theorem F220 (m : Nat) (hm : 2 ≤ m) (p0 : (List S185)) (p1 : Int) : callA Try.prog cfg m 220 [LL a185 p0, I p1] = (T220 p0 p1).map (fun r => AV.tup [I r.1, I r.2]) := by
  obtain ⟨q, rfl⟩ : ∃ q, m = q + 1 := ⟨m - 1, by omega⟩
  exact (callA_body (fn := Try.f220) (c := body_ Try.f220) q _ (by kernel_rfl) (by kernel_rfl) (by kernel_rfl)).trans (B220 _ (fun p0 => F141 q (by omega) p0) p0 p1)

noncomputable def T136 (p0 : (List S24)) (p1 : ByteArray) (p2 : Int) (p3 : Bool) : Option (Int × Int) := ((T48 p0).bind fun x1 => (bif (neI x1 0) then (some (0, x1)) else ((T137 p1).bind fun x2 => (bif (!x2) then (some (0, 5)) else ((T141 p2).bind fun x3 => (bif (!x3) then (some (0, 1)) else ((T138 p0 p1 p3).bind fun x4 => ((T220 x4 p2).bind fun x5 => (some (x5.1, x5.2))))))))))
theorem B136 (C : Callee) (h137 : ∀ (p0 : ByteArray), C 137 [S p0] = (T137 p0).map B) (h138 : ∀ (p0 : (List S24)) (p1 : ByteArray) (p2 : Bool), C 138 [LL a24 p0, S p1, B p2] = (T138 p0 p1 p2).map (fun l => AV.fr 186 2 (List.map a185 l))) (h141 : ∀ (p0 : Int), C 141 [I p0] = (T141 p0).map B) (h220 : ∀ (p0 : (List S185)) (p1 : Int), C 220 [LL a185 p0, I p1] = (T220 p0 p1).map (fun r => AV.tup [I r.1, I r.2])) (h48 : ∀ (p0 : (List S24)), C 48 [LL a24 p0] = (T48 p0).map I) (p0 : (List S24)) (p1 : ByteArray) (p2 : Int) (p3 : Bool) : runs Try.prog C (cfg.fn 136) (finFn Try.prog (cfg.fn 136).byval Try.f136) [] (execA Try.prog C (cfg.fn 136) (nr Try.f136 []) (frame0 [LL a24 p0, S p1, I p2, B p3] 30)) = (T136 p0 p1 p2 p3).map (fun r => AV.tup [I r.1, I r.2]) := by
  unfold T136
  refine gS 1 ?_
  refine gR 0 (rg Try.f136 0) ?_
  refine se (mkE [(0, LL a24 p0), (1, S p1), (2, I p2), (3, B p3)] [] 30) ?_
  refine pN ?_
  refine pS ?_
  refine gS 4 ?_
  refine gS 2 ?_
  refine gR 1 (rg Try.f136 1) ?_
  refine sg 1 (mkE [(11, LL a24 p0), (0, LL a24 p0), (1, S p1), (2, I p2), (3, B p3)] [] 30) ?_
  refine co 12 [] (h48 p0) (fun x1 => ?_)
  refine se (mkE [(0, LL a24 p0), (1, S p1), (2, I p2), (3, B p3), (10, I x1)] [] 30) ?_
  refine pN ?_
  refine pS ?_
  refine gS 0 ?_
  refine gR 2 (rg Try.f136 2) ?_
  refine se (mkE [(0, LL a24 p0), (1, S p1), (2, I p2), (3, B p3), (10, I x1), (14, B (neI x1 0))] [] 30) ?_
  refine pN ?_
  refine pS ?_
  refine gC 14 (neI x1 0) ?_ ?_
  · refine gS 0 ?_
    refine gR 3 (rg Try.f136 3) ?_
    refine se (mkE [(8, I 0), (9, I x1)] [] 30) ?_
    refine pN ?_
    refine pS ?_
    refine gE ?_
    exact pL
  · refine gK ?_
    refine pN ?_
    refine pS ?_
    refine gS 6 ?_
    refine gS 0 ?_
    refine gR 4 (rg Try.f136 4) ?_
    refine sg 1 (mkE [(16, S p1), (0, LL a24 p0), (1, S p1), (2, I p2), (3, B p3), (10, I x1), (14, B (neI x1 0))] [] 30) ?_
    refine co 17 [] (h137 p1) (fun x2 => ?_)
    refine se (mkE [(0, LL a24 p0), (1, S p1), (2, I p2), (3, B p3), (18, B (!x2))] [] 30) ?_
    refine pN ?_
    refine pS ?_
    refine gC 18 (!x2) ?_ ?_
    · refine gS 0 ?_
      refine gR 5 (rg Try.f136 5) ?_
      refine se (mkE [(8, I 0), (9, I 5)] [] 30) ?_
      refine pN ?_
      refine pS ?_
      refine gE ?_
      exact pL
    · refine gK ?_
      refine pN ?_
      refine pS ?_
      refine gS 8 ?_
      refine gS 0 ?_
      refine gR 6 (rg Try.f136 6) ?_
      refine sg 1 (mkE [(19, I p2), (0, LL a24 p0), (1, S p1), (2, I p2), (3, B p3), (18, B (!x2))] [] 30) ?_
      refine co 20 [] (h141 p2) (fun x3 => ?_)
      refine se (mkE [(0, LL a24 p0), (1, S p1), (2, I p2), (3, B p3), (21, B (!x3))] [] 30) ?_
      refine pN ?_
      refine pS ?_
      refine gC 21 (!x3) ?_ ?_
      · refine gS 0 ?_
        refine gR 7 (rg Try.f136 7) ?_
        refine se (mkE [(8, I 0), (9, I 1)] [] 30) ?_
        refine pN ?_
        refine pS ?_
        refine gE ?_
        exact pL
      · refine gK ?_
        refine pN ?_
        refine pS ?_
        refine gS 0 ?_
        refine gR 8 (rg Try.f136 8) ?_
        refine sg 3 (mkE [(24, B p3), (23, S p1), (22, LL a24 p0), (0, LL a24 p0), (1, S p1), (2, I p2), (3, B p3), (21, B (!x3))] [] 30) ?_
        refine co 25 [] (h138 p0 p1 p3) (fun x4 => ?_)
        refine sg 5 (mkE [(26, I p2), (25, .own 200 0), (24, B p3), (23, S p1), (22, LL a24 p0), (0, LL a24 p0), (1, S p1), (2, I p2), (3, B p3), (21, B (!x3))] [(200, RR 186 2 a185 x4 0 false)] 30) ?_
        refine co 27 [200] (h220 x4 p2) (fun x5 => ?_)
        refine se (mkE [(8, I x5.1), (9, I x5.2)] [] 30) ?_
        refine pN ?_
        refine pS ?_
        refine gE ?_
        exact pL
theorem F136 (m : Nat) (hm : 5 ≤ m) (p0 : (List S24)) (p1 : ByteArray) (p2 : Int) (p3 : Bool) : callA Try.prog cfg m 136 [LL a24 p0, S p1, I p2, B p3] = (T136 p0 p1 p2 p3).map (fun r => AV.tup [I r.1, I r.2]) := by
  obtain ⟨q, rfl⟩ : ∃ q, m = q + 1 := ⟨m - 1, by omega⟩
  exact (callA_body (fn := Try.f136) (c := body_ Try.f136) q _ (by kernel_rfl) (by kernel_rfl) (by kernel_rfl)).trans (B136 _ (fun p0 => F137 q (by omega) p0) (fun p0 p1 p2 => F138 q (by omega) p0 p1 p2) (fun p0 => F141 q (by omega) p0) (fun p0 p1 => F220 q (by omega) p0 p1) (fun p0 => F48 q (by omega) p0) p0 p1 p2 p3)

noncomputable def T44 (p0 : (List S24)) (p1 : ByteArray) (p2 : Int) : Option (Int × Int) := ((T136 p0 p1 p2 false).bind fun x1 => (some (x1.1, x1.2)))
theorem B44 (C : Callee) (h136 : ∀ (p0 : (List S24)) (p1 : ByteArray) (p2 : Int) (p3 : Bool), C 136 [LL a24 p0, S p1, I p2, B p3] = (T136 p0 p1 p2 p3).map (fun r => AV.tup [I r.1, I r.2])) (p0 : (List S24)) (p1 : ByteArray) (p2 : Int) : runs Try.prog C (cfg.fn 44) (finFn Try.prog (cfg.fn 44).byval Try.f44) [] (execA Try.prog C (cfg.fn 44) (nr Try.f44 []) (frame0 [LL a24 p0, S p1, I p2] 14)) = (T44 p0 p1 p2).map (fun r => AV.tup [I r.1, I r.2]) := by
  unfold T44
  refine gS 1 ?_
  refine gR 0 (rg Try.f44 0) ?_
  refine se (mkE [(0, LL a24 p0), (1, S p1), (2, I p2)] [] 14) ?_
  refine pN ?_
  refine pS ?_
  refine gS 0 ?_
  refine gR 1 (rg Try.f44 1) ?_
  refine sg 3 (mkE [(10, I p2), (9, S p1), (8, LL a24 p0), (0, LL a24 p0), (1, S p1), (2, I p2)] [] 14) ?_
  refine co 11 [] (h136 p0 p1 p2 false) (fun x1 => ?_)
  refine se (mkE [(6, I x1.1), (7, I x1.2)] [] 14) ?_
  refine pN ?_
  refine pS ?_
  refine gE ?_
  exact pL
theorem F44 (m : Nat) (hm : 6 ≤ m) (p0 : (List S24)) (p1 : ByteArray) (p2 : Int) : callA Try.prog cfg m 44 [LL a24 p0, S p1, I p2] = (T44 p0 p1 p2).map (fun r => AV.tup [I r.1, I r.2]) := by
  obtain ⟨q, rfl⟩ : ∃ q, m = q + 1 := ⟨m - 1, by omega⟩
  exact (callA_body (fn := Try.f44) (c := body_ Try.f44) q _ (by kernel_rfl) (by kernel_rfl) (by kernel_rfl)).trans (B44 _ (fun p0 p1 p2 p3 => F136 q (by omega) p0 p1 p2 p3) p0 p1 p2)

noncomputable def T45 (p0 : (List S24)) (p1 : ByteArray) (p2 : Int) : Option (Int × Int) := ((T136 p0 p1 p2 true).bind fun x1 => (some (x1.1, x1.2)))
theorem B45 (C : Callee) (h136 : ∀ (p0 : (List S24)) (p1 : ByteArray) (p2 : Int) (p3 : Bool), C 136 [LL a24 p0, S p1, I p2, B p3] = (T136 p0 p1 p2 p3).map (fun r => AV.tup [I r.1, I r.2])) (p0 : (List S24)) (p1 : ByteArray) (p2 : Int) : runs Try.prog C (cfg.fn 45) (finFn Try.prog (cfg.fn 45).byval Try.f45) [] (execA Try.prog C (cfg.fn 45) (nr Try.f45 []) (frame0 [LL a24 p0, S p1, I p2] 14)) = (T45 p0 p1 p2).map (fun r => AV.tup [I r.1, I r.2]) := by
  unfold T45
  refine gS 1 ?_
  refine gR 0 (rg Try.f45 0) ?_
  refine se (mkE [(0, LL a24 p0), (1, S p1), (2, I p2)] [] 14) ?_
  refine pN ?_
  refine pS ?_
  refine gS 0 ?_
  refine gR 1 (rg Try.f45 1) ?_
  refine sg 3 (mkE [(10, I p2), (9, S p1), (8, LL a24 p0), (0, LL a24 p0), (1, S p1), (2, I p2)] [] 14) ?_
  refine co 11 [] (h136 p0 p1 p2 true) (fun x1 => ?_)
  refine se (mkE [(6, I x1.1), (7, I x1.2)] [] 14) ?_
  refine pN ?_
  refine pS ?_
  refine gE ?_
  exact pL
theorem F45 (m : Nat) (hm : 6 ≤ m) (p0 : (List S24)) (p1 : ByteArray) (p2 : Int) : callA Try.prog cfg m 45 [LL a24 p0, S p1, I p2] = (T45 p0 p1 p2).map (fun r => AV.tup [I r.1, I r.2]) := by
  obtain ⟨q, rfl⟩ : ∃ q, m = q + 1 := ⟨m - 1, by omega⟩
  exact (callA_body (fn := Try.f45) (c := body_ Try.f45) q _ (by kernel_rfl) (by kernel_rfl) (by kernel_rfl)).trans (B45 _ (fun p0 p1 p2 p3 => F136 q (by omega) p0 p1 p2 p3) p0 p1 p2)

noncomputable def L221_1 (z0 : (Int × Int)) : Option ((Int × Int) ⊕ (Int × Int × Bool)) := (bif (neI z0.2 0) then ((remO .i64 z0.1 z0.2).bind fun x1 => (some (.inl (z0.2, x1)))) else (some (.inr (z0.1, z0.2, (neI z0.2 0)))))
theorem L221_1_ok (C : Callee) (z0 : (Int × Int)) : runs Try.prog C (cfg.fn 221) (finLoop ((cfg.fn 221).keep 1) ((cfg.fn 221).al 1)) [] (execA Try.prog C (cfg.fn 221) (nr Try.f221 [false, false, false, true]) ((fun z0 : (Int × Int) => (mkE [(0, I z0.1), (1, I z0.2)] [] 15)) z0)) = (L221_1 z0).map (Sum.elim (fun z => .inl ((fun z0 : (Int × Int) => (mkE [(0, I z0.1), (1, I z0.2)] [] 15)) z)) (fun x => .inr ((fun (x : (Int × Int × Bool)) => (.exit 0, (mkE [(0, I x.1), (1, I x.2.1), (6, B x.2.2)] [] 15))) x))) := by
  unfold L221_1
  refine gS 2 ?_
  refine gS 0 ?_
  refine gR 1 (rg Try.f221 1) ?_
  refine se (mkE [(0, I z0.1), (1, I z0.2), (6, B (neI z0.2 0))] [] 15) ?_
  refine pN ?_
  refine pS ?_
  refine gC 6 (neI z0.2 0) ?_ ?_
  · refine gK ?_
    refine pN ?_
    refine pS ?_
    refine gB 1 ?_
    refine gD 2 6 (rg Try.f221 2) [0, 1, 2, 3, 4, 5] ?_
    refine dg 3 [(some 7, qe (I z0.2)), (some 8, qe (I z0.1)), (some 9, qe (I z0.2))] ?_
    refine dv 10 (mkE [(9, I z0.2), (8, I z0.1), (0, I z0.1), (1, I z0.2), (6, B (neI z0.2 0))] [] 15) (remE 3 .i64 (.tmp 8) (.tmp 9) z0.1 z0.2) (fun x1 => ?_)
    refine dg 6 [(some 7, qe (I z0.2)), (some 8, qe (I z0.1)), (some 9, qe (I z0.2)), (some 10, qe (I x1)), (some 0, qe (I z0.2)), (some 1, qe (I x1))] ?_
    refine de (mkE [(1, I x1), (0, I z0.2), (10, I x1), (9, I z0.2), (8, I z0.1), (7, I z0.2), (0, I z0.1), (1, I z0.2), (6, B (neI z0.2 0))] [] 15) ?_
    refine se (mkE [(0, I z0.2), (1, I x1)] [] 15) ?_
    refine pB ?_
    exact pL
  · refine gX 0 ?_
    exact pL
noncomputable def T221 (p0 : Int) (p1 : Int) : Option Int := ((iter (L221_1) (p0, p1)).bind fun y2 => (some (maxI y2.1 (subI .i64 0 y2.1))))
theorem B221 (C : Callee) (p0 : Int) (p1 : Int) : runs Try.prog C (cfg.fn 221) (finFn Try.prog (cfg.fn 221).byval Try.f221) [] (execA Try.prog C (cfg.fn 221) (nr Try.f221 []) (frame0 [I p0, I p1] 15)) = (T221 p0 p1).map I := by
  unfold T221
  refine gS 1 ?_
  refine gR 0 (rg Try.f221 0) ?_
  refine se (mkE [(0, I p0), (1, I p1)] [] 15) ?_
  refine pN ?_
  refine pS ?_
  refine gS 3 ?_
  refine gB 0 ?_
  refine lo [(0, none), (1, none)] [] (L221_1) (fun z0 : (Int × Int) => (mkE [(0, I z0.1), (1, I z0.2)] [] 15)) (fun (x : (Int × Int × Bool)) => (.exit 0, (mkE [(0, I x.1), (1, I x.2.1), (6, B x.2.2)] [] 15))) (p0, p1) (fun z => L221_1_ok C z) ?_
  intro y2
  refine pH ?_
  refine pN ?_
  refine pS ?_
  refine gS 0 ?_
  refine gR 3 (rg Try.f221 3) ?_
  refine se (mkE [(4, I (maxI y2.1 (subI .i64 0 y2.1)))] [] 15) ?_
  refine pN ?_
  refine pS ?_
  refine gE ?_
  exact pL
theorem F221 (m : Nat) (hm : 1 ≤ m) (p0 : Int) (p1 : Int) : callA Try.prog cfg m 221 [I p0, I p1] = (T221 p0 p1).map I := by
  obtain ⟨q, rfl⟩ : ∃ q, m = q + 1 := ⟨m - 1, by omega⟩
  exact (callA_body (fn := Try.f221) (c := body_ Try.f221) q _ (by kernel_rfl) (by kernel_rfl) (by kernel_rfl)).trans (B221 _ p0 p1)

noncomputable def T139 (p0 : Int) (p1 : Int) : Option S79 := (bif (ltI p1 0) then ((T221 (subI .i64 0 p0) (subI .i64 0 p1)).bind fun x1 => ((quoO .i64 (subI .i64 0 p0) x1).bind fun x2 => ((quoO .i64 (subI .i64 0 p1) x1).bind fun x3 => (some (S79.mk x2 x3))))) else ((T221 p0 p1).bind fun x4 => ((quoO .i64 p0 x4).bind fun x5 => ((quoO .i64 p1 x4).bind fun x6 => (some (S79.mk x5 x6))))))
theorem B139 (C : Callee) (h221 : ∀ (p0 : Int) (p1 : Int), C 221 [I p0, I p1] = (T221 p0 p1).map I) (p0 : Int) (p1 : Int) : runs Try.prog C (cfg.fn 139) (finFn Try.prog (cfg.fn 139).byval Try.f139) [] (execA Try.prog C (cfg.fn 139) (nr Try.f139 []) (frame0 [I p0, I p1] 22)) = (T139 p0 p1).map a79 := by
  unfold T139
  refine gS 1 ?_
  refine gR 0 (rg Try.f139 0) ?_
  refine se (mkE [(0, I p0), (1, I p1), (4, .ba 32 0)] [(32, .box [I 0, I 0] false)] 22) ?_
  refine pN ?_
  refine pS ?_
  refine gS 3 ?_
  refine gS 0 ?_
  refine gR 1 (rg Try.f139 1) ?_
  refine se (mkE [(0, I p0), (1, I p1), (4, .ba 32 0), (7, B (ltI p1 0))] [(32, .box [I 0, I 0] false)] 22) ?_
  refine pN ?_
  refine pS ?_
  refine gC 7 (ltI p1 0) ?_ ?_
  · refine gR 2 (rg Try.f139 2) ?_
    refine se (mkE [(0, I (subI .i64 0 p0)), (1, I (subI .i64 0 p1)), (4, .ba 32 0)] [(32, .box [I 0, I 0] false)] 22) ?_
    refine pN ?_
    refine pS ?_
    refine gS 4 ?_
    refine gR 3 (rg Try.f139 3) ?_
    refine sg 2 (mkE [(13, I (subI .i64 0 p1)), (12, I (subI .i64 0 p0)), (0, I (subI .i64 0 p0)), (1, I (subI .i64 0 p1)), (4, .ba 32 0)] [(32, .box [I 0, I 0] false)] 22) ?_
    refine co 14 [] (h221 (subI .i64 0 p0) (subI .i64 0 p1)) (fun x1 => ?_)
    refine se (mkE [(0, I (subI .i64 0 p0)), (1, I (subI .i64 0 p1)), (4, .ba 32 0), (5, I x1)] [(32, .box [I 0, I 0] false)] 22) ?_
    refine pN ?_
    refine pS ?_
    refine gS 0 ?_
    refine gD 4 7 (rg Try.f139 4) [0, 1, 2, 3, 4, 5, 6, 7] ?_
    refine dg 2 [(some 15, qe (I (subI .i64 0 p0))), (some 16, qe (I x1))] ?_
    refine dv 17 (mkE [(16, I x1), (15, I (subI .i64 0 p0)), (0, I (subI .i64 0 p0)), (1, I (subI .i64 0 p1)), (4, .ba 32 0), (5, I x1)] [(32, .box [I 0, I 0] false)] 22) (quoE 3 .i64 (.tmp 15) (.tmp 16) (subI .i64 0 p0) x1) (fun x2 => ?_)
    refine dg 5 [(some 15, qe (I (subI .i64 0 p0))), (some 16, qe (I x1)), (some 17, qe (I x2)), (some 18, qe (I (subI .i64 0 p1))), (some 19, qe (I x1))] ?_
    refine dv 20 (mkE [(19, I x1), (18, I (subI .i64 0 p1)), (0, I (subI .i64 0 p0)), (1, I (subI .i64 0 p1)), (4, .ba 32 0), (5, I x1)] [(32, .box [I 0, I 0] false)] 22) (quoE 3 .i64 (.tmp 18) (.tmp 19) (subI .i64 0 p1) x1) (fun x3 => ?_)
    refine dg 7 [(some 15, qe (I (subI .i64 0 p0))), (some 16, qe (I x1)), (some 17, qe (I x2)), (some 18, qe (I (subI .i64 0 p1))), (some 19, qe (I x1)), (some 20, qe (I x3)), (some 21, qe (.agg [I x2, I x3]))] ?_
    refine de (mkE [(21, .agg [I x2, I x3]), (20, I x3), (19, I x1), (18, I (subI .i64 0 p1)), (17, I x2), (16, I x1), (15, I (subI .i64 0 p0)), (0, I (subI .i64 0 p0)), (1, I (subI .i64 0 p1)), (4, .ba 32 0), (5, I x1)] [(32, .box [I 0, I 0] false)] 22) ?_
    refine se (mkE [(4, .ba 32 0)] [(32, .box [I x2, I x3] false)] 22) ?_
    refine pN ?_
    refine pS ?_
    refine gE ?_
    exact pL
  · refine gK ?_
    refine pN ?_
    refine pS ?_
    refine gS 4 ?_
    refine gR 3 (rg Try.f139 3) ?_
    refine sg 2 (mkE [(13, I p1), (12, I p0), (0, I p0), (1, I p1), (4, .ba 32 0), (7, B (ltI p1 0))] [(32, .box [I 0, I 0] false)] 22) ?_
    refine co 14 [] (h221 p0 p1) (fun x4 => ?_)
    refine se (mkE [(0, I p0), (1, I p1), (4, .ba 32 0), (5, I x4)] [(32, .box [I 0, I 0] false)] 22) ?_
    refine pN ?_
    refine pS ?_
    refine gS 0 ?_
    refine gD 4 7 (rg Try.f139 4) [0, 1, 2, 3, 4, 5, 6, 7] ?_
    refine dg 2 [(some 15, qe (I p0)), (some 16, qe (I x4))] ?_
    refine dv 17 (mkE [(16, I x4), (15, I p0), (0, I p0), (1, I p1), (4, .ba 32 0), (5, I x4)] [(32, .box [I 0, I 0] false)] 22) (quoE 3 .i64 (.tmp 15) (.tmp 16) p0 x4) (fun x5 => ?_)
    refine dg 5 [(some 15, qe (I p0)), (some 16, qe (I x4)), (some 17, qe (I x5)), (some 18, qe (I p1)), (some 19, qe (I x4))] ?_
    refine dv 20 (mkE [(19, I x4), (18, I p1), (0, I p0), (1, I p1), (4, .ba 32 0), (5, I x4)] [(32, .box [I 0, I 0] false)] 22) (quoE 3 .i64 (.tmp 18) (.tmp 19) p1 x4) (fun x6 => ?_)
    refine dg 7 [(some 15, qe (I p0)), (some 16, qe (I x4)), (some 17, qe (I x5)), (some 18, qe (I p1)), (some 19, qe (I x4)), (some 20, qe (I x6)), (some 21, qe (.agg [I x5, I x6]))] ?_
    refine de (mkE [(21, .agg [I x5, I x6]), (20, I x6), (19, I x4), (18, I p1), (17, I x5), (16, I x4), (15, I p0), (0, I p0), (1, I p1), (4, .ba 32 0), (5, I x4)] [(32, .box [I 0, I 0] false)] 22) ?_
    refine se (mkE [(4, .ba 32 0)] [(32, .box [I x5, I x6] false)] 22) ?_
    refine pN ?_
    refine pS ?_
    refine gE ?_
    exact pL
theorem F139 (m : Nat) (hm : 2 ≤ m) (p0 : Int) (p1 : Int) : callA Try.prog cfg m 139 [I p0, I p1] = (T139 p0 p1).map a79 := by
  obtain ⟨q, rfl⟩ : ∃ q, m = q + 1 := ⟨m - 1, by omega⟩
  exact (callA_body (fn := Try.f139) (c := body_ Try.f139) q _ (by kernel_rfl) (by kernel_rfl) (by kernel_rfl)).trans (B139 _ (fun p0 p1 => F221 q (by omega) p0 p1) p0 p1)

noncomputable def T46 (p0 : (List S24)) (p1 : ByteArray) : Option (S79 × Int) := ((T48 p0).bind fun x1 => (bif (neI x1 0) then (some ((S79.mk 0 0), x1)) else ((T137 p1).bind fun x2 => (bif (!x2) then (some ((S79.mk 0 0), 5)) else ((T138 p0 p1 true).bind fun x3 => (bif (ltI (lenL x3) 2) then (some ((S79.mk 0 0), 8)) else ((idxO (List.length x3) 0).bind fun x4 => ((getN x3 x4).bind fun x5 => ((idxO (List.length x3) (subI .i64 (lenL x3) 1)).bind fun x6 => ((getN x3 x6).bind fun x7 => ((T139 (subI .i64 (subI .i64 x7.f1 x5.f1) (subI .i64 x7.f0 x5.f0)) (subI .i64 x7.f0 x5.f0)).bind fun x8 => (some (x8, 0)))))))))))))
theorem B46 (C : Callee) (h137 : ∀ (p0 : ByteArray), C 137 [S p0] = (T137 p0).map B) (h138 : ∀ (p0 : (List S24)) (p1 : ByteArray) (p2 : Bool), C 138 [LL a24 p0, S p1, B p2] = (T138 p0 p1 p2).map (fun l => AV.fr 186 2 (List.map a185 l))) (h139 : ∀ (p0 : Int) (p1 : Int), C 139 [I p0, I p1] = (T139 p0 p1).map a79) (h48 : ∀ (p0 : (List S24)), C 48 [LL a24 p0] = (T48 p0).map I) (p0 : (List S24)) (p1 : ByteArray) : runs Try.prog C (cfg.fn 46) (finFn Try.prog (cfg.fn 46).byval Try.f46) [] (execA Try.prog C (cfg.fn 46) (nr Try.f46 []) (frame0 [LL a24 p0, S p1] 53)) = (T46 p0 p1).map (fun r => AV.tup [a79 r.1, I r.2]) := by
  unfold T46
  refine gS 1 ?_
  refine gR 0 (rg Try.f46 0) ?_
  refine se (mkE [(0, LL a24 p0), (1, S p1), (4, .ba 32 0)] [(32, .box [I 0, I 0] false)] 53) ?_
  refine pN ?_
  refine pS ?_
  refine gS 4 ?_
  refine gS 2 ?_
  refine gR 1 (rg Try.f46 1) ?_
  refine sg 1 (mkE [(10, LL a24 p0), (0, LL a24 p0), (1, S p1), (4, .ba 32 0)] [(32, .box [I 0, I 0] false)] 53) ?_
  refine co 11 [] (h48 p0) (fun x1 => ?_)
  refine se (mkE [(0, LL a24 p0), (1, S p1), (4, .ba 32 0), (6, I x1)] [(32, .box [I 0, I 0] false)] 53) ?_
  refine pN ?_
  refine pS ?_
  refine gS 0 ?_
  refine gR 2 (rg Try.f46 2) ?_
  refine se (mkE [(0, LL a24 p0), (1, S p1), (4, .ba 32 0), (6, I x1), (13, B (neI x1 0))] [(32, .box [I 0, I 0] false)] 53) ?_
  refine pN ?_
  refine pS ?_
  refine gC 13 (neI x1 0) ?_ ?_
  · refine gS 0 ?_
    refine gR 3 (rg Try.f46 3) ?_
    refine se (mkE [(4, .ba 32 0), (5, I x1)] [(32, .box [I 0, I 0] false)] 53) ?_
    refine pN ?_
    refine pS ?_
    refine gE ?_
    exact pL
  · refine gK ?_
    refine pN ?_
    refine pS ?_
    refine gS 6 ?_
    refine gS 0 ?_
    refine gR 4 (rg Try.f46 4) ?_
    refine sg 1 (mkE [(16, S p1), (0, LL a24 p0), (1, S p1), (4, .ba 32 0), (6, I x1), (13, B (neI x1 0))] [(32, .box [I 0, I 0] false)] 53) ?_
    refine co 17 [] (h137 p1) (fun x2 => ?_)
    refine se (mkE [(0, LL a24 p0), (1, S p1), (4, .ba 32 0), (18, B (!x2))] [(32, .box [I 0, I 0] false)] 53) ?_
    refine pN ?_
    refine pS ?_
    refine gC 18 (!x2) ?_ ?_
    · refine gS 0 ?_
      refine gR 5 (rg Try.f46 5) ?_
      refine se (mkE [(4, .ba 32 0), (5, I 5)] [(32, .box [I 0, I 0] false)] 53) ?_
      refine pN ?_
      refine pS ?_
      refine gE ?_
      exact pL
    · refine gK ?_
      refine pN ?_
      refine pS ?_
      refine gS 7 ?_
      refine gR 6 (rg Try.f46 6) ?_
      refine sg 2 (mkE [(21, S p1), (20, LL a24 p0), (0, LL a24 p0), (1, S p1), (4, .ba 32 0), (18, B (!x2))] [(32, .box [I 0, I 0] false)] 53) ?_
      refine co 22 [] (h138 p0 p1 true) (fun x3 => ?_)
      refine se (mkE [(4, .ba 32 0), (7, .own 176 0)] [(32, .box [I 0, I 0] false), (176, RR 186 2 a185 x3 0 false)] 53) ?_
      refine pN ?_
      refine pS ?_
      refine gS 9 ?_
      refine gS 0 ?_
      refine gR 7 (rg Try.f46 7) ?_
      refine sg 1 (mkE [(23, .own 176 0), (4, .ba 32 0), (7, .own 176 0)] [(32, .box [I 0, I 0] false), (176, RR 186 2 a185 x3 0 false)] 53) ?_
      refine eo 24 (I (lenL x3)) (lenOE 183 186 2 a185 x3) ?_
      refine se (mkE [(4, .ba 32 0), (7, .own 176 0), (25, B (ltI (lenL x3) 2))] [(32, .box [I 0, I 0] false), (176, RR 186 2 a185 x3 0 false)] 53) ?_
      refine pN ?_
      refine pS ?_
      refine gC 25 (ltI (lenL x3) 2) ?_ ?_
      · refine gS 0 ?_
        refine gR 8 (rg Try.f46 8) ?_
        refine se (mkE [(4, .ba 32 0), (5, I 8)] [(32, .box [I 0, I 0] false)] 53) ?_
        refine pN ?_
        refine pS ?_
        refine gE ?_
        exact pL
      · refine gK ?_
        refine pN ?_
        refine pS ?_
        refine gS 10 ?_
        refine gD 9 12 (rg Try.f46 9) [0, 1, 2, 3, 4, 5, 6, 7, 8, 9, 10, 11, 12] ?_
        refine dg 1 [(some 27, qe (.own 176 0))] ?_
        refine dv 28 (mkE [(27, .own 176 0), (4, .ba 32 0), (7, .own 176 0), (25, B (ltI (lenL x3) 2))] [(32, .box [I 0, I 0] false), (176, RR 186 2 a185 x3 0 false)] 53) (addrOE 183 186 2 176 0 false a185 .i64 x3 0) (fun x4 => ?_)
        refine dv 29 (mkE [(28, .oa 176 0 x4 0), (27, .own 176 0), (4, .ba 32 0), (7, .own 176 0), (25, B (ltI (lenL x3) 2))] [(32, .box [I 0, I 0] false), (176, RR 186 2 a185 x3 0 false)] 53) (loadOE 186 176 0 x4 0 186 2 2 true false a185 (fun q : S185 => a185 q) x3) (fun x5 => ?_)
        refine dg 5 [(some 27, qe (.own 176 0)), (some 28, qe (.oa 176 0 x4 0)), (some 29, qe (a185 x5)), (some 30, qe (.own 176 0)), (some 31, qe (.own 176 0))] ?_
        refine df 32 (I (lenL x3)) (mkE [(31, .own 176 0), (4, .ba 32 0), (7, .own 176 0), (25, B (ltI (lenL x3) 2))] [(32, .box [I 0, I 0] false), (176, RR 186 2 a185 x3 0 false)] 53) (lenOE 183 186 2 a185 x3) ?_
        refine dg 7 [(some 27, qe (.own 176 0)), (some 28, qe (.oa 176 0 x4 0)), (some 29, qe (a185 x5)), (some 30, qe (.own 176 0)), (some 31, qe (.own 176 0)), (some 32, qe (I (lenL x3))), (some 33, qe (I (subI .i64 (lenL x3) 1)))] ?_
        refine dv 34 (mkE [(33, I (subI .i64 (lenL x3) 1)), (32, I (lenL x3)), (31, .own 176 0), (30, .own 176 0), (4, .ba 32 0), (7, .own 176 0), (25, B (ltI (lenL x3) 2))] [(32, .box [I 0, I 0] false), (176, RR 186 2 a185 x3 0 false)] 53) (addrOE 183 186 2 176 0 false a185 .i64 x3 (subI .i64 (lenL x3) 1)) (fun x6 => ?_)
        refine dv 35 (mkE [(34, .oa 176 0 x6 0), (33, I (subI .i64 (lenL x3) 1)), (32, I (lenL x3)), (31, .own 176 0), (30, .own 176 0), (4, .ba 32 0), (7, .own 176 0), (25, B (ltI (lenL x3) 2))] [(32, .box [I 0, I 0] false), (176, RR 186 2 a185 x3 0 false)] 53) (loadOE 186 176 0 x6 0 186 2 2 true false a185 (fun q : S185 => a185 q) x3) (fun x7 => ?_)
        refine dg 12 [(some 27, qe (.own 176 0)), (some 28, qe (.oa 176 0 x4 0)), (some 29, qe (a185 x5)), (some 30, qe (.own 176 0)), (some 31, qe (.own 176 0)), (some 32, qe (I (lenL x3))), (some 33, qe (I (subI .i64 (lenL x3) 1))), (some 34, qe (.oa 176 0 x6 0)), (some 35, qe (a185 x7)), (some 8, { e := { val := .ba 64 0, news := [(64, .box [I 0, I 0] false)] } }), (some 9, { e := { val := .ba 72 0, news := [(72, .box [I 0, I 0] false)] } }), (none, { e := { val := .und }, st := some (64, .box [I x5.f0, I x5.f1] false, 0, 2) })] ?_
        refine de (mkE [(9, .ba 72 0), (8, .ba 64 0), (35, a185 x7), (34, .oa 176 0 x6 0), (33, I (subI .i64 (lenL x3) 1)), (32, I (lenL x3)), (31, .own 176 0), (30, .own 176 0), (29, a185 x5), (28, .oa 176 0 x4 0), (27, .own 176 0), (4, .ba 32 0), (7, .own 176 0), (25, B (ltI (lenL x3) 2))] [(64, .box [I x5.f0, I x5.f1] false), (72, .box [I 0, I 0] false), (64, .box [I 0, I 0] false), (32, .box [I 0, I 0] false), (176, RR 186 2 a185 x3 0 false)] 53) ?_
        refine se (mkE [(4, .ba 32 0), (8, .ba 64 0), (9, .ba 72 0)] [(32, .box [I 0, I 0] false), (64, .box [I x5.f0, I x5.f1] false), (72, .box [I x7.f0, I x7.f1] false)] 53) ?_
        refine pN ?_
        refine pS ?_
        refine gS 0 ?_
        refine gR 10 (rg Try.f46 10) ?_
        refine sg 16 (mkE [(51, I (subI .i64 x7.f0 x5.f0)), (50, I x5.f0), (49, .ba 64 0), (48, I x7.f0), (47, .ba 72 0), (46, I (subI .i64 (subI .i64 x7.f1 x5.f1) (subI .i64 x7.f0 x5.f0))), (45, I (subI .i64 x7.f0 x5.f0)), (44, I x5.f0), (43, .ba 64 0), (42, I x7.f0), (41, .ba 72 0), (40, I (subI .i64 x7.f1 x5.f1)), (39, I x5.f1), (38, .ba 64 1), (37, I x7.f1), (36, .ba 72 1), (4, .ba 32 0), (8, .ba 64 0), (9, .ba 72 0)] [(32, .box [I 0, I 0] false), (64, .box [I x5.f0, I x5.f1] false), (72, .box [I x7.f0, I x7.f1] false)] 53) ?_
        refine co 52 [] (h139 (subI .i64 (subI .i64 x7.f1 x5.f1) (subI .i64 x7.f0 x5.f0)) (subI .i64 x7.f0 x5.f0)) (fun x8 => ?_)
        refine se (mkE [(4, .ba 32 0), (5, I 0)] [(32, .box [I x8.f0, I x8.f1] false)] 53) ?_
        refine pN ?_
        refine pS ?_
        refine gE ?_
        exact pL
theorem F46 (m : Nat) (hm : 5 ≤ m) (p0 : (List S24)) (p1 : ByteArray) : callA Try.prog cfg m 46 [LL a24 p0, S p1] = (T46 p0 p1).map (fun r => AV.tup [a79 r.1, I r.2]) := by
  obtain ⟨q, rfl⟩ : ∃ q, m = q + 1 := ⟨m - 1, by omega⟩
  exact (callA_body (fn := Try.f46) (c := body_ Try.f46) q _ (by kernel_rfl) (by kernel_rfl) (by kernel_rfl)).trans (B46 _ (fun p0 => F137 q (by omega) p0) (fun p0 p1 p2 => F138 q (by omega) p0 p1 p2) (fun p0 p1 => F139 q (by omega) p0 p1) (fun p0 => F48 q (by omega) p0) p0 p1)

noncomputable def T132 (p0 : Int) (p1 : Int) (p2 : Int) : Option Bool := (bif (leI p1 p0) then (some (leI p0 p2)) else (some false))
theorem B132 (C : Callee) (p0 : Int) (p1 : Int) (p2 : Int) : runs Try.prog C (cfg.fn 132) (finFn Try.prog (cfg.fn 132).byval Try.f132) [] (execA Try.prog C (cfg.fn 132) (nr Try.f132 []) (frame0 [I p0, I p1, I p2] 15)) = (T132 p0 p1 p2).map B := by
  unfold T132
  refine gS 1 ?_
  refine gR 0 (rg Try.f132 0) ?_
  refine se (mkE [(0, I p0), (1, I p1), (2, I p2)] [] 15) ?_
  refine pN ?_
  refine pS ?_
  refine gS 0 ?_
  refine gR 1 (rg Try.f132 1) ?_
  refine sg 4 (mkE [(10, B (leI p1 p0)), (9, B (leI p1 p0)), (8, I p0), (7, I p1), (0, I p0), (1, I p1), (2, I p2)] [] 15) ?_
  refine sb 10 (leI p1 p0) ?_ ?_
  · refine se (mkE [(6, B (leI p0 p2))] [] 15) ?_
    refine pN ?_
    refine pS ?_
    refine gE ?_
    exact pL
  · refine se (mkE [(6, B false)] [] 15) ?_
    refine pN ?_
    refine pS ?_
    refine gE ?_
    exact pL
theorem F132 (m : Nat) (hm : 1 ≤ m) (p0 : Int) (p1 : Int) (p2 : Int) : callA Try.prog cfg m 132 [I p0, I p1, I p2] = (T132 p0 p1 p2).map B := by
  obtain ⟨q, rfl⟩ : ∃ q, m = q + 1 := ⟨m - 1, by omega⟩
  exact (callA_body (fn := Try.f132) (c := body_ Try.f132) q _ (by kernel_rfl) (by kernel_rfl) (by kernel_rfl)).trans (B132 _ p0 p1 p2)

theorem F264 (m : Nat) (hm : 1 ≤ m) (p0 : ByteArray) (p1 : Int) : callA Try.prog cfg m 264 [S p0, U p1] = (some (idxB p0 p1)).map I := by
  obtain ⟨q, rfl⟩ : ∃ q, m = q + 1 := ⟨m - 1, by omega⟩
  exact (callA_leaf (L := leafIdx) _ _ (by kernel_rfl)).trans (rfl)

noncomputable def T222 (p0 : ByteArray) (p1 : Int) : Option Int := ((some (idxB p0 p1)).bind fun x1 => (some x1))
theorem B222 (C : Callee) (h264 : ∀ (p0 : ByteArray) (p1 : Int), C 264 [S p0, U p1] = (some (idxB p0 p1)).map I) (p0 : ByteArray) (p1 : Int) : runs Try.prog C (cfg.fn 222) (finFn Try.prog (cfg.fn 222).byval Try.f222) [] (execA Try.prog C (cfg.fn 222) (nr Try.f222 []) (frame0 [S p0, U p1] 8)) = (T222 p0 p1).map I := by
  unfold T222
  refine gS 1 ?_
  refine gR 0 (rg Try.f222 0) ?_
  refine se (mkE [(0, S p0), (1, U p1)] [] 8) ?_
  refine pN ?_
  refine pS ?_
  refine gS 0 ?_
  refine gR 1 (rg Try.f222 1) ?_
  refine sg 2 (mkE [(6, U p1), (5, S p0), (0, S p0), (1, U p1)] [] 8) ?_
  refine co 7 [] (h264 p0 p1) (fun x1 => ?_)
  refine se (mkE [(4, I x1)] [] 8) ?_
  refine pN ?_
  refine pS ?_
  refine gE ?_
  exact pL
theorem F222 (m : Nat) (hm : 2 ≤ m) (p0 : ByteArray) (p1 : Int) : callA Try.prog cfg m 222 [S p0, U p1] = (T222 p0 p1).map I := by
  obtain ⟨q, rfl⟩ : ∃ q, m = q + 1 := ⟨m - 1, by omega⟩
  exact (callA_body (fn := Try.f222) (c := body_ Try.f222) q _ (by kernel_rfl) (by kernel_rfl) (by kernel_rfl)).trans (B222 _ (fun p0 p1 => F264 q (by omega) p0 p1) p0 p1)

noncomputable def L143_2 (p0 : ByteArray) (p1 : ByteArray) (z0 : Int) : Option (Int ⊕ ((Int × Bool) ⊕ Unit)) := (bif (ltI z0 (lenS p0)) then ((byteAt p0 z0).bind fun x1 => ((T222 p1 x1).bind fun x2 => (bif (ltI x2 0) then (some (.inr (.inr ()))) else (some (.inl (addI .i64 z0 1)))))) else (some (.inr (.inl (z0, (ltI z0 (lenS p0)))))))
theorem L143_2_ok (C : Callee) (h222 : ∀ (p0 : ByteArray) (p1 : Int), C 222 [S p0, U p1] = (T222 p0 p1).map I) (p0 : ByteArray) (p1 : ByteArray) (z0 : Int) : runs Try.prog C (cfg.fn 143) (finLoop ((cfg.fn 143).keep 2) ((cfg.fn 143).al 2)) [] (execA Try.prog C (cfg.fn 143) (nr Try.f143 [false, false, true, false, true]) ((fun z0 : Int => (mkE [(0, S p0), (1, S p1), (7, I (lenS p0)), (8, I z0)] [] 18)) z0)) = (L143_2 p0 p1 z0).map (Sum.elim (fun z => .inl ((fun z0 : Int => (mkE [(0, S p0), (1, S p1), (7, I (lenS p0)), (8, I z0)] [] 18)) z)) (fun x => .inr ((Sum.elim (fun (x : (Int × Bool)) => (.exit 0, (mkE [(0, S p0), (1, S p1), (7, I (lenS p0)), (8, I x.1), (9, B x.2)] [] 18))) (fun (x : Unit) => (.ret, (mkE [(4, B false)] [] 18)))) x))) := by
  unfold L143_2
  refine gS 0 ?_
  refine gR 2 (rg Try.f143 2) ?_
  refine se (mkE [(0, S p0), (1, S p1), (7, I (lenS p0)), (8, I z0), (9, B (ltI z0 (lenS p0)))] [] 18) ?_
  refine pN ?_
  refine pS ?_
  refine gS 3 ?_
  refine gC 9 (ltI z0 (lenS p0)) ?_ ?_
  · refine gK ?_
    refine pN ?_
    refine pS ?_
    refine gS 6 ?_
    refine gB 1 ?_
    refine gS 4 ?_
    refine gR 3 (rg Try.f143 3) ?_
    refine se (mkE [(0, S p0), (1, S p1), (5, I z0), (7, I (lenS p0)), (8, I z0)] [] 18) ?_
    refine pN ?_
    refine pS ?_
    refine gS 0 ?_
    refine gR 4 (rg Try.f143 4) ?_
    refine sg 3 (mkE [(13, I z0), (12, S p0), (11, S p1), (0, S p0), (1, S p1), (5, I z0), (7, I (lenS p0)), (8, I z0)] [] 18) ?_
    refine vo 14 (byteE 9 .i64 p0 z0) (fun x1 => ?_)
    refine co 15 [] (h222 p1 x1) (fun x2 => ?_)
    refine se (mkE [(0, S p0), (1, S p1), (7, I (lenS p0)), (8, I z0), (16, B (ltI x2 0))] [] 18) ?_
    refine pN ?_
    refine pS ?_
    refine gC 16 (ltI x2 0) ?_ ?_
    · refine gS 0 ?_
      refine gR 5 (rg Try.f143 5) ?_
      refine se (mkE [(4, B false)] [] 18) ?_
      refine pN ?_
      refine pS ?_
      refine gE ?_
      exact pL
    · refine gK ?_
      refine pB ?_
      refine pN ?_
      refine pS ?_
      refine gR 6 (rg Try.f143 6) ?_
      refine se (mkE [(0, S p0), (1, S p1), (7, I (lenS p0)), (8, I (addI .i64 z0 1))] [] 18) ?_
      exact pL
  · refine gX 0 ?_
    exact pL
noncomputable def T143 (p0 : ByteArray) (p1 : ByteArray) : Option Bool := ((iter (L143_2 p0 p1) 0).bind fun y3 => (Sum.elim (fun y3a => (some true)) (fun y3b => (some false)) y3))
theorem B143 (C : Callee) (h222 : ∀ (p0 : ByteArray) (p1 : Int), C 222 [S p0, U p1] = (T222 p0 p1).map I) (p0 : ByteArray) (p1 : ByteArray) : runs Try.prog C (cfg.fn 143) (finFn Try.prog (cfg.fn 143).byval Try.f143) [] (execA Try.prog C (cfg.fn 143) (nr Try.f143 []) (frame0 [S p0, S p1] 18)) = (T143 p0 p1).map B := by
  unfold T143
  refine gS 1 ?_
  refine gR 0 (rg Try.f143 0) ?_
  refine se (mkE [(0, S p0), (1, S p1)] [] 18) ?_
  refine pN ?_
  refine pS ?_
  refine gS 7 ?_
  refine gS 2 ?_
  refine gR 1 (rg Try.f143 1) ?_
  refine se (mkE [(0, S p0), (1, S p1), (7, I (lenS p0)), (8, I 0)] [] 18) ?_
  refine pN ?_
  refine pS ?_
  refine gB 0 ?_
  refine lo [(0, none), (1, none), (7, none), (8, none)] [] (L143_2 p0 p1) (fun z0 : Int => (mkE [(0, S p0), (1, S p1), (7, I (lenS p0)), (8, I z0)] [] 18)) (Sum.elim (fun (x : (Int × Bool)) => (.exit 0, (mkE [(0, S p0), (1, S p1), (7, I (lenS p0)), (8, I x.1), (9, B x.2)] [] 18))) (fun (x : Unit) => (.ret, (mkE [(4, B false)] [] 18)))) 0 (fun z => L143_2_ok C h222 p0 p1 z) ?_
  intro y3
  refine ss y3 (Z := (Sum.elim (fun (x : (Int × Bool)) => (.exit 0, (mkE [(0, S p0), (1, S p1), (7, I (lenS p0)), (8, I x.1), (9, B x.2)] [] 18))) (fun (x : Unit) => (.ret, (mkE [(4, B false)] [] 18))))) (fun y3a => ?_) (fun y3b => ?_)
  · refine pH ?_
    refine pN ?_
    refine pS ?_
    refine gS 0 ?_
    refine gR 7 (rg Try.f143 7) ?_
    refine se (mkE [(4, B true)] [] 18) ?_
    refine pN ?_
    refine pS ?_
    refine gE ?_
    exact pL
  · exact pL
theorem F143 (m : Nat) (hm : 3 ≤ m) (p0 : ByteArray) (p1 : ByteArray) : callA Try.prog cfg m 143 [S p0, S p1] = (T143 p0 p1).map B := by
  obtain ⟨q, rfl⟩ : ∃ q, m = q + 1 := ⟨m - 1, by omega⟩
  exact (callA_body (fn := Try.f143) (c := body_ Try.f143) q _ (by kernel_rfl) (by kernel_rfl) (by kernel_rfl)).trans (B143 _ (fun p0 p1 => F222 q (by omega) p0 p1) p0 p1)

noncomputable def T51 (p0 : ByteArray) : Option Bool := ((T132 (lenS p0) 1 40).bind fun x1 => (bif x1 then ((cutS p0 none (some 1)).bind fun x2 => ((T143 x2 (ByteArray.mk #[97, 98, 99, 100, 101, 102, 103, 104, 105, 106, 107, 108, 109, 110, 111, 112, 113, 114, 115, 116, 117, 118, 119, 120, 121, 122])).bind fun x3 => (bif x3 then ((T143 p0 (ByteArray.mk #[97, 98, 99, 100, 101, 102, 103, 104, 105, 106, 107, 108, 109, 110, 111, 112, 113, 114, 115, 116, 117, 118, 119, 120, 121, 122, 48, 49, 50, 51, 52, 53, 54, 55, 56, 57, 45, 95])).bind fun x4 => (some x4)) else (some false)))) else (some false)))
theorem B51 (C : Callee) (h132 : ∀ (p0 : Int) (p1 : Int) (p2 : Int), C 132 [I p0, I p1, I p2] = (T132 p0 p1 p2).map B) (h143 : ∀ (p0 : ByteArray) (p1 : ByteArray), C 143 [S p0, S p1] = (T143 p0 p1).map B) (p0 : ByteArray) : runs Try.prog C (cfg.fn 51) (finFn Try.prog (cfg.fn 51).byval Try.f51) [] (execA Try.prog C (cfg.fn 51) (nr Try.f51 []) (frame0 [S p0] 15)) = (T51 p0).map B := by
  unfold T51
  refine gS 1 ?_
  refine gR 0 (rg Try.f51 0) ?_
  refine se (mkE [(0, S p0)] [] 15) ?_
  refine pN ?_
  refine pS ?_
  refine gS 0 ?_
  refine gR 1 (rg Try.f51 1) ?_
  refine sg 2 (mkE [(4, I (lenS p0)), (3, S p0), (0, S p0)] [] 15) ?_
  refine co 5 [] (h132 (lenS p0) 1 40) (fun x1 => ?_)
  refine sg 4 (mkE [(6, B x1), (5, B x1), (4, I (lenS p0)), (3, S p0), (0, S p0)] [] 15) ?_
  refine sb 6 x1 ?_ ?_
  · refine sg 5 (mkE [(7, S p0), (6, B true), (6, B x1), (5, B x1), (4, I (lenS p0)), (3, S p0), (0, S p0)] [] 15) ?_
    refine vo 8 (cutSE 9 .i64 .i64 p0 none (some 1)) (fun x2 => ?_)
    refine co 9 [] (h143 x2 (ByteArray.mk #[97, 98, 99, 100, 101, 102, 103, 104, 105, 106, 107, 108, 109, 110, 111, 112, 113, 114, 115, 116, 117, 118, 119, 120, 121, 122])) (fun x3 => ?_)
    refine sg 9 (mkE [(11, B x3), (10, B x3), (9, B x3), (8, S x2), (7, S p0), (6, B true), (6, B x1), (5, B x1), (4, I (lenS p0)), (3, S p0), (0, S p0)] [] 15) ?_
    refine sb 11 x3 ?_ ?_
    · refine sg 10 (mkE [(12, S p0), (11, B true), (11, B x3), (10, B x3), (9, B x3), (8, S x2), (7, S p0), (6, B true), (6, B x1), (5, B x1), (4, I (lenS p0)), (3, S p0), (0, S p0)] [] 15) ?_
      refine co 13 [] (h143 p0 (ByteArray.mk #[97, 98, 99, 100, 101, 102, 103, 104, 105, 106, 107, 108, 109, 110, 111, 112, 113, 114, 115, 116, 117, 118, 119, 120, 121, 122, 48, 49, 50, 51, 52, 53, 54, 55, 56, 57, 45, 95])) (fun x4 => ?_)
      refine se (mkE [(2, B x4)] [] 15) ?_
      refine pN ?_
      refine pS ?_
      refine gE ?_
      exact pL
    · refine se (mkE [(2, B false)] [] 15) ?_
      refine pN ?_
      refine pS ?_
      refine gE ?_
      exact pL
  · refine se (mkE [(2, B false)] [] 15) ?_
    refine pN ?_
    refine pS ?_
    refine gE ?_
    exact pL
theorem F51 (m : Nat) (hm : 4 ≤ m) (p0 : ByteArray) : callA Try.prog cfg m 51 [S p0] = (T51 p0).map B := by
  obtain ⟨q, rfl⟩ : ∃ q, m = q + 1 := ⟨m - 1, by omega⟩
  exact (callA_body (fn := Try.f51) (c := body_ Try.f51) q _ (by kernel_rfl) (by kernel_rfl) (by kernel_rfl)).trans (B51 _ (fun p0 p1 p2 => F132 q (by omega) p0 p1 p2) (fun p0 p1 => F143 q (by omega) p0 p1) p0)

noncomputable def T140 (p0 : Int) : Option Bool := ((T132 p0 0 345686399999).bind fun x1 => (some x1))
theorem B140 (C : Callee) (h132 : ∀ (p0 : Int) (p1 : Int) (p2 : Int), C 132 [I p0, I p1, I p2] = (T132 p0 p1 p2).map B) (p0 : Int) : runs Try.prog C (cfg.fn 140) (finFn Try.prog (cfg.fn 140).byval Try.f140) [] (execA Try.prog C (cfg.fn 140) (nr Try.f140 []) (frame0 [I p0] 5)) = (T140 p0).map B := by
  unfold T140
  refine gS 1 ?_
  refine gR 0 (rg Try.f140 0) ?_
  refine se (mkE [(0, I p0)] [] 5) ?_
  refine pN ?_
  refine pS ?_
  refine gS 0 ?_
  refine gR 1 (rg Try.f140 1) ?_
  refine sg 1 (mkE [(3, I p0), (0, I p0)] [] 5) ?_
  refine co 4 [] (h132 p0 0 345686399999) (fun x1 => ?_)
  refine se (mkE [(2, B x1)] [] 5) ?_
  refine pN ?_
  refine pS ?_
  refine gE ?_
  exact pL
theorem F140 (m : Nat) (hm : 2 ≤ m) (p0 : Int) : callA Try.prog cfg m 140 [I p0] = (T140 p0).map B := by
  obtain ⟨q, rfl⟩ : ∃ q, m = q + 1 := ⟨m - 1, by omega⟩
  exact (callA_body (fn := Try.f140) (c := body_ Try.f140) q _ (by kernel_rfl) (by kernel_rfl) (by kernel_rfl)).trans (B140 _ (fun p0 p1 p2 => F132 q (by omega) p0 p1 p2) p0)

noncomputable def L47_4 (p0 : (List S24)) (z0 : Int) : Option (Int ⊕ ((Int × Bool) ⊕ Int)) := (bif (ltI z0 (lenL p0)) then ((listAt p0 z0).bind fun x1 => ((T51 x1.f0).bind fun x2 => (bif (!x2) then (some (.inr (.inr 5))) else ((T140 x1.f1).bind fun x3 => (bif (!x3) then (some (.inr (.inr 1))) else ((T140 x1.f2).bind fun x4 => (bif (!x4) then (some (.inr (.inr 1))) else (bif (eqI z0 0) then (some (.inl (addI .i64 z0 1))) else ((listAt p0 (subI .i64 z0 1)).bind fun x5 => (bif (ltS x1.f0 x5.f0) then (some (.inr (.inr 7))) else (bif (eqS x1.f0 x5.f0) then (bif (leI x1.f1 x5.f1) then (some (.inr (.inr 7))) else (bif (eqS x1.f0 x5.f0) then (bif (leI x1.f2 x5.f2) then (some (.inr (.inr 16))) else (some (.inl (addI .i64 z0 1)))) else (some (.inl (addI .i64 z0 1))))) else (bif (eqS x1.f0 x5.f0) then (bif (leI x1.f2 x5.f2) then (some (.inr (.inr 16))) else (some (.inl (addI .i64 z0 1)))) else (some (.inl (addI .i64 z0 1))))))))))))))) else (some (.inr (.inl (z0, (ltI z0 (lenL p0)))))))
theorem L47_4_ok (C : Callee) (h140 : ∀ (p0 : Int), C 140 [I p0] = (T140 p0).map B) (h51 : ∀ (p0 : ByteArray), C 51 [S p0] = (T51 p0).map B) (p0 : (List S24)) (z0 : Int) : runs Try.prog C (cfg.fn 47) (finLoop ((cfg.fn 47).keep 4) ((cfg.fn 47).al 4)) [] (execA Try.prog C (cfg.fn 47) (nr Try.f47 [false, false, true, false, true, true]) ((fun z0 : Int => (mkE [(0, LL a24 p0), (9, LL a24 p0), (10, I (lenL p0)), (11, I z0)] [] 73)) z0)) = (L47_4 p0 z0).map (Sum.elim (fun z => .inl ((fun z0 : Int => (mkE [(0, LL a24 p0), (9, LL a24 p0), (10, I (lenL p0)), (11, I z0)] [] 73)) z)) (fun x => .inr ((Sum.elim (fun (x : (Int × Bool)) => (.exit 0, (mkE [(0, LL a24 p0), (9, LL a24 p0), (10, I (lenL p0)), (11, I x.1), (12, B x.2)] [] 73))) (fun (x : Int) => (.ret, (mkE [(2, I x)] [] 73)))) x))) := by
  unfold L47_4
  refine gS 0 ?_
  refine gR 4 (rg Try.f47 4) ?_
  refine se (mkE [(0, LL a24 p0), (9, LL a24 p0), (10, I (lenL p0)), (11, I z0), (12, B (ltI z0 (lenL p0)))] [] 73) ?_
  refine pN ?_
  refine pS ?_
  refine gS 5 ?_
  refine gC 12 (ltI z0 (lenL p0)) ?_ ?_
  · refine gK ?_
    refine pN ?_
    refine pS ?_
    refine gS 16 ?_
    refine gB 1 ?_
    refine gS 6 ?_
    refine gR 5 (rg Try.f47 5) ?_
    refine sg 1 (mkE [(13, I z0), (0, LL a24 p0), (9, LL a24 p0), (10, I (lenL p0)), (11, I z0), (12, B (ltI z0 (lenL p0)))] [] 73) ?_
    refine vo 14 (addrE 22 25 3 a24 .i64 p0 z0) (fun x1 => ?_)
    refine se (mkE [(0, LL a24 p0), (3, I z0), (4, .ba 32 0), (9, LL a24 p0), (10, I (lenL p0)), (11, I z0)] [(32, .box [S x1.f0, I x1.f1, I x1.f2] false)] 73) ?_
    refine pN ?_
    refine pS ?_
    refine gS 10 ?_
    refine gB 2 ?_
    refine gS 0 ?_
    refine gR 6 (rg Try.f47 6) ?_
    refine sg 2 (mkE [(18, S x1.f0), (17, .ba 32 0), (0, LL a24 p0), (3, I z0), (4, .ba 32 0), (9, LL a24 p0), (10, I (lenL p0)), (11, I z0)] [(32, .box [S x1.f0, I x1.f1, I x1.f2] false)] 73) ?_
    refine co 19 [] (h51 x1.f0) (fun x2 => ?_)
    refine se (mkE [(0, LL a24 p0), (3, I z0), (4, .ba 32 0), (9, LL a24 p0), (10, I (lenL p0)), (11, I z0), (16, B (!x2))] [(32, .box [S x1.f0, I x1.f1, I x1.f2] false)] 73) ?_
    refine pN ?_
    refine pS ?_
    refine gC 16 (!x2) ?_ ?_
    · refine gS 0 ?_
      refine gR 7 (rg Try.f47 7) ?_
      refine se (mkE [(2, I 5)] [] 73) ?_
      refine pN ?_
      refine pS ?_
      refine gE ?_
      exact pL
    · refine gS 0 ?_
      refine gR 8 (rg Try.f47 8) ?_
      refine sg 2 (mkE [(23, I x1.f1), (22, .ba 32 1), (0, LL a24 p0), (3, I z0), (4, .ba 32 0), (9, LL a24 p0), (10, I (lenL p0)), (11, I z0), (16, B (!x2))] [(32, .box [S x1.f0, I x1.f1, I x1.f2] false)] 73) ?_
      refine co 24 [] (h140 x1.f1) (fun x3 => ?_)
      refine sg 5 (mkE [(26, B (!x3)), (25, B (!x3)), (24, B x3), (23, I x1.f1), (22, .ba 32 1), (0, LL a24 p0), (3, I z0), (4, .ba 32 0), (9, LL a24 p0), (10, I (lenL p0)), (11, I z0), (16, B (!x2))] [(32, .box [S x1.f0, I x1.f1, I x1.f2] false)] 73) ?_
      refine sb 26 (!x3) ?_ ?_
      · refine se (mkE [(0, LL a24 p0), (3, I z0), (4, .ba 32 0), (9, LL a24 p0), (10, I (lenL p0)), (11, I z0), (21, B true)] [(32, .box [S x1.f0, I x1.f1, I x1.f2] false)] 73) ?_
        refine pN ?_
        refine pS ?_
        refine gT (.tmp 21) ?_
        refine gS 0 ?_
        refine gR 9 (rg Try.f47 9) ?_
        refine se (mkE [(2, I 1)] [] 73) ?_
        refine pN ?_
        refine pS ?_
        refine gE ?_
        exact pL
      · refine sg 7 (mkE [(28, I x1.f2), (27, .ba 32 2), (26, B false), (26, B (!x3)), (25, B (!x3)), (24, B x3), (23, I x1.f1), (22, .ba 32 1), (0, LL a24 p0), (3, I z0), (4, .ba 32 0), (9, LL a24 p0), (10, I (lenL p0)), (11, I z0), (16, B (!x2))] [(32, .box [S x1.f0, I x1.f1, I x1.f2] false)] 73) ?_
        refine co 29 [] (h140 x1.f2) (fun x4 => ?_)
        refine se (mkE [(0, LL a24 p0), (3, I z0), (4, .ba 32 0), (9, LL a24 p0), (10, I (lenL p0)), (11, I z0), (21, B (!x4))] [(32, .box [S x1.f0, I x1.f1, I x1.f2] false)] 73) ?_
        refine pN ?_
        refine pS ?_
        refine gC 21 (!x4) ?_ ?_
        · refine gS 0 ?_
          refine gR 9 (rg Try.f47 9) ?_
          refine se (mkE [(2, I 1)] [] 73) ?_
          refine pN ?_
          refine pS ?_
          refine gE ?_
          exact pL
        · refine gK ?_
          refine pB ?_
          refine pN ?_
          refine pS ?_
          refine gS 11 ?_
          refine gS 0 ?_
          refine gR 10 (rg Try.f47 10) ?_
          refine se (mkE [(0, LL a24 p0), (3, I z0), (4, .ba 32 0), (9, LL a24 p0), (10, I (lenL p0)), (11, I z0), (33, B (eqI z0 0))] [(32, .box [S x1.f0, I x1.f1, I x1.f2] false)] 73) ?_
          refine pN ?_
          refine pS ?_
          refine gC 33 (eqI z0 0) ?_ ?_
          · refine gX 1 ?_
            refine pF ?_
            refine pO ?_
            refine pH ?_
            refine pN ?_
            refine pS ?_
            refine gR 16 (rg Try.f47 16) ?_
            refine se (mkE [(0, LL a24 p0), (9, LL a24 p0), (10, I (lenL p0)), (11, I (addI .i64 z0 1))] [] 73) ?_
            exact pL
          · refine gK ?_
            refine pN ?_
            refine pS ?_
            refine gS 12 ?_
            refine gR 11 (rg Try.f47 11) ?_
            refine sg 3 (mkE [(36, I (subI .i64 z0 1)), (35, I z0), (34, LL a24 p0), (0, LL a24 p0), (3, I z0), (4, .ba 32 0), (9, LL a24 p0), (10, I (lenL p0)), (11, I z0), (33, B (eqI z0 0))] [(32, .box [S x1.f0, I x1.f1, I x1.f2] false)] 73) ?_
            refine vo 37 (addrE 22 25 3 a24 .i64 p0 (subI .i64 z0 1)) (fun x5 => ?_)
            refine se (mkE [(0, LL a24 p0), (4, .ba 32 0), (5, .ba 40 0), (9, LL a24 p0), (10, I (lenL p0)), (11, I z0)] [(32, .box [S x1.f0, I x1.f1, I x1.f2] false), (40, .box [S x5.f0, I x5.f1, I x5.f2] false)] 73) ?_
            refine pN ?_
            refine pS ?_
            refine gB 3 ?_
            refine gS 0 ?_
            refine gR 12 (rg Try.f47 12) ?_
            refine sg 6 (mkE [(45, B (ltS x1.f0 x5.f0)), (44, B (ltS x1.f0 x5.f0)), (43, S x5.f0), (42, .ba 40 0), (41, S x1.f0), (40, .ba 32 0), (0, LL a24 p0), (4, .ba 32 0), (5, .ba 40 0), (9, LL a24 p0), (10, I (lenL p0)), (11, I z0)] [(32, .box [S x1.f0, I x1.f1, I x1.f2] false), (40, .box [S x5.f0, I x5.f1, I x5.f2] false)] 73) ?_
            refine sb 45 (ltS x1.f0 x5.f0) ?_ ?_
            · refine se (mkE [(0, LL a24 p0), (4, .ba 32 0), (5, .ba 40 0), (9, LL a24 p0), (10, I (lenL p0)), (11, I z0), (39, B true)] [(32, .box [S x1.f0, I x1.f1, I x1.f2] false), (40, .box [S x5.f0, I x5.f1, I x5.f2] false)] 73) ?_
              refine pN ?_
              refine pS ?_
              refine gT (.tmp 39) ?_
              refine gS 0 ?_
              refine gR 13 (rg Try.f47 13) ?_
              refine se (mkE [(2, I 7)] [] 73) ?_
              refine pN ?_
              refine pS ?_
              refine gE ?_
              exact pL
            · refine sg 12 (mkE [(51, B (eqS x1.f0 x5.f0)), (50, B (eqS x1.f0 x5.f0)), (49, S x5.f0), (48, .ba 40 0), (47, S x1.f0), (46, .ba 32 0), (45, B false), (45, B (ltS x1.f0 x5.f0)), (44, B (ltS x1.f0 x5.f0)), (43, S x5.f0), (42, .ba 40 0), (41, S x1.f0), (40, .ba 32 0), (0, LL a24 p0), (4, .ba 32 0), (5, .ba 40 0), (9, LL a24 p0), (10, I (lenL p0)), (11, I z0)] [(32, .box [S x1.f0, I x1.f1, I x1.f2] false), (40, .box [S x5.f0, I x5.f1, I x5.f2] false)] 73) ?_
              refine sb 51 (eqS x1.f0 x5.f0) ?_ ?_
              · refine se (mkE [(0, LL a24 p0), (4, .ba 32 0), (5, .ba 40 0), (9, LL a24 p0), (10, I (lenL p0)), (11, I z0), (39, B (leI x1.f1 x5.f1))] [(32, .box [S x1.f0, I x1.f1, I x1.f2] false), (40, .box [S x5.f0, I x5.f1, I x5.f2] false)] 73) ?_
                refine pN ?_
                refine pS ?_
                refine gC 39 (leI x1.f1 x5.f1) ?_ ?_
                · refine gS 0 ?_
                  refine gR 13 (rg Try.f47 13) ?_
                  refine se (mkE [(2, I 7)] [] 73) ?_
                  refine pN ?_
                  refine pS ?_
                  refine gE ?_
                  exact pL
                · refine gS 0 ?_
                  refine gR 14 (rg Try.f47 14) ?_
                  refine sg 6 (mkE [(65, B (eqS x1.f0 x5.f0)), (64, B (eqS x1.f0 x5.f0)), (63, S x5.f0), (62, .ba 40 0), (61, S x1.f0), (60, .ba 32 0), (0, LL a24 p0), (4, .ba 32 0), (5, .ba 40 0), (9, LL a24 p0), (10, I (lenL p0)), (11, I z0), (39, B (leI x1.f1 x5.f1))] [(32, .box [S x1.f0, I x1.f1, I x1.f2] false), (40, .box [S x5.f0, I x5.f1, I x5.f2] false)] 73) ?_
                  refine sb 65 (eqS x1.f0 x5.f0) ?_ ?_
                  · refine se (mkE [(0, LL a24 p0), (9, LL a24 p0), (10, I (lenL p0)), (11, I z0), (59, B (leI x1.f2 x5.f2))] [] 73) ?_
                    refine pN ?_
                    refine pS ?_
                    refine gC 59 (leI x1.f2 x5.f2) ?_ ?_
                    · refine gS 0 ?_
                      refine gR 15 (rg Try.f47 15) ?_
                      refine se (mkE [(2, I 16)] [] 73) ?_
                      refine pN ?_
                      refine pS ?_
                      refine gE ?_
                      exact pL
                    · refine gK ?_
                      refine pB ?_
                      refine pB ?_
                      refine pN ?_
                      refine pS ?_
                      refine gR 16 (rg Try.f47 16) ?_
                      refine se (mkE [(0, LL a24 p0), (9, LL a24 p0), (10, I (lenL p0)), (11, I (addI .i64 z0 1))] [] 73) ?_
                      exact pL
                  · refine se (mkE [(0, LL a24 p0), (9, LL a24 p0), (10, I (lenL p0)), (11, I z0), (59, B false)] [] 73) ?_
                    refine pN ?_
                    refine pS ?_
                    refine gF (.tmp 59) ?_
                    refine gK ?_
                    refine pB ?_
                    refine pB ?_
                    refine pN ?_
                    refine pS ?_
                    refine gR 16 (rg Try.f47 16) ?_
                    refine se (mkE [(0, LL a24 p0), (9, LL a24 p0), (10, I (lenL p0)), (11, I (addI .i64 z0 1))] [] 73) ?_
                    exact pL
              · refine se (mkE [(0, LL a24 p0), (4, .ba 32 0), (5, .ba 40 0), (9, LL a24 p0), (10, I (lenL p0)), (11, I z0), (39, B false)] [(32, .box [S x1.f0, I x1.f1, I x1.f2] false), (40, .box [S x5.f0, I x5.f1, I x5.f2] false)] 73) ?_
                refine pN ?_
                refine pS ?_
                refine gF (.tmp 39) ?_
                refine gS 0 ?_
                refine gR 14 (rg Try.f47 14) ?_
                refine sg 6 (mkE [(65, B (eqS x1.f0 x5.f0)), (64, B (eqS x1.f0 x5.f0)), (63, S x5.f0), (62, .ba 40 0), (61, S x1.f0), (60, .ba 32 0), (0, LL a24 p0), (4, .ba 32 0), (5, .ba 40 0), (9, LL a24 p0), (10, I (lenL p0)), (11, I z0), (39, B false)] [(32, .box [S x1.f0, I x1.f1, I x1.f2] false), (40, .box [S x5.f0, I x5.f1, I x5.f2] false)] 73) ?_
                refine sb 65 (eqS x1.f0 x5.f0) ?_ ?_
                · refine se (mkE [(0, LL a24 p0), (9, LL a24 p0), (10, I (lenL p0)), (11, I z0), (59, B (leI x1.f2 x5.f2))] [] 73) ?_
                  refine pN ?_
                  refine pS ?_
                  refine gC 59 (leI x1.f2 x5.f2) ?_ ?_
                  · refine gS 0 ?_
                    refine gR 15 (rg Try.f47 15) ?_
                    refine se (mkE [(2, I 16)] [] 73) ?_
                    refine pN ?_
                    refine pS ?_
                    refine gE ?_
                    exact pL
                  · refine gK ?_
                    refine pB ?_
                    refine pB ?_
                    refine pN ?_
                    refine pS ?_
                    refine gR 16 (rg Try.f47 16) ?_
                    refine se (mkE [(0, LL a24 p0), (9, LL a24 p0), (10, I (lenL p0)), (11, I (addI .i64 z0 1))] [] 73) ?_
                    exact pL
                · refine se (mkE [(0, LL a24 p0), (9, LL a24 p0), (10, I (lenL p0)), (11, I z0), (59, B false)] [] 73) ?_
                  refine pN ?_
                  refine pS ?_
                  refine gF (.tmp 59) ?_
                  refine gK ?_
                  refine pB ?_
                  refine pB ?_
                  refine pN ?_
                  refine pS ?_
                  refine gR 16 (rg Try.f47 16) ?_
                  refine se (mkE [(0, LL a24 p0), (9, LL a24 p0), (10, I (lenL p0)), (11, I (addI .i64 z0 1))] [] 73) ?_
                  exact pL
  · refine gX 0 ?_
    exact pL
noncomputable def T47 (p0 : (List S24)) : Option Int := (bif (ltI 500 (lenL p0)) then (some 2) else ((iter (L47_4 p0) 0).bind fun y6 => (Sum.elim (fun y6a => (some 0)) (fun y6b => (some y6b)) y6)))
theorem B47 (C : Callee) (h140 : ∀ (p0 : Int), C 140 [I p0] = (T140 p0).map B) (h51 : ∀ (p0 : ByteArray), C 51 [S p0] = (T51 p0).map B) (p0 : (List S24)) : runs Try.prog C (cfg.fn 47) (finFn Try.prog (cfg.fn 47).byval Try.f47) [] (execA Try.prog C (cfg.fn 47) (nr Try.f47 []) (frame0 [LL a24 p0] 73)) = (T47 p0).map I := by
  unfold T47
  refine gS 1 ?_
  refine gR 0 (rg Try.f47 0) ?_
  refine se (mkE [(0, LL a24 p0)] [] 73) ?_
  refine pN ?_
  refine pS ?_
  refine gS 3 ?_
  refine gS 0 ?_
  refine gR 1 (rg Try.f47 1) ?_
  refine sg 1 (mkE [(6, LL a24 p0), (0, LL a24 p0)] [] 73) ?_
  refine eo 7 (I (lenL p0)) (lenE 22 a24 p0) ?_
  refine se (mkE [(0, LL a24 p0), (8, B (ltI 500 (lenL p0)))] [] 73) ?_
  refine pN ?_
  refine pS ?_
  refine gC 8 (ltI 500 (lenL p0)) ?_ ?_
  · refine gS 0 ?_
    refine gR 2 (rg Try.f47 2) ?_
    refine se (mkE [(2, I 2)] [] 73) ?_
    refine pN ?_
    refine pS ?_
    refine gE ?_
    exact pL
  · refine gK ?_
    refine pN ?_
    refine pS ?_
    refine gS 17 ?_
    refine gS 4 ?_
    refine gR 3 (rg Try.f47 3) ?_
    refine sg 1 (mkE [(9, LL a24 p0), (0, LL a24 p0), (8, B (ltI 500 (lenL p0)))] [] 73) ?_
    refine eo 10 (I (lenL p0)) (lenE 22 a24 p0) ?_
    refine se (mkE [(0, LL a24 p0), (9, LL a24 p0), (10, I (lenL p0)), (11, I 0)] [] 73) ?_
    refine pN ?_
    refine pS ?_
    refine gB 0 ?_
    refine lo [(0, none), (9, none), (10, none), (11, none)] [] (L47_4 p0) (fun z0 : Int => (mkE [(0, LL a24 p0), (9, LL a24 p0), (10, I (lenL p0)), (11, I z0)] [] 73)) (Sum.elim (fun (x : (Int × Bool)) => (.exit 0, (mkE [(0, LL a24 p0), (9, LL a24 p0), (10, I (lenL p0)), (11, I x.1), (12, B x.2)] [] 73))) (fun (x : Int) => (.ret, (mkE [(2, I x)] [] 73)))) 0 (fun z => L47_4_ok C h140 h51 p0 z) ?_
    intro y6
    refine ss y6 (Z := (Sum.elim (fun (x : (Int × Bool)) => (.exit 0, (mkE [(0, LL a24 p0), (9, LL a24 p0), (10, I (lenL p0)), (11, I x.1), (12, B x.2)] [] 73))) (fun (x : Int) => (.ret, (mkE [(2, I x)] [] 73))))) (fun y6a => ?_) (fun y6b => ?_)
    · refine pH ?_
      refine pN ?_
      refine pS ?_
      refine gS 0 ?_
      refine gR 17 (rg Try.f47 17) ?_
      refine se (mkE [(2, I 0)] [] 73) ?_
      refine pN ?_
      refine pS ?_
      refine gE ?_
      exact pL
    · exact pL
theorem F47 (m : Nat) (hm : 5 ≤ m) (p0 : (List S24)) : callA Try.prog cfg m 47 [LL a24 p0] = (T47 p0).map I := by
  obtain ⟨q, rfl⟩ : ∃ q, m = q + 1 := ⟨m - 1, by omega⟩
  exact (callA_body (fn := Try.f47) (c := body_ Try.f47) q _ (by kernel_rfl) (by kernel_rfl) (by kernel_rfl)).trans (B47 _ (fun p0 => F140 q (by omega) p0) (fun p0 => F51 q (by omega) p0) p0)

noncomputable def T50 (p0 : Bool) (p1 : Int) : Option Int := (bif p0 then (some p1) else (some 0))
theorem B50 (C : Callee) (p0 : Bool) (p1 : Int) : runs Try.prog C (cfg.fn 50) (finFn Try.prog (cfg.fn 50).byval Try.f50) [] (execA Try.prog C (cfg.fn 50) (nr Try.f50 []) (frame0 [B p0, I p1] 7)) = (T50 p0 p1).map I := by
  unfold T50
  refine gS 1 ?_
  refine gR 0 (rg Try.f50 0) ?_
  refine se (mkE [(0, B p0), (1, I p1)] [] 7) ?_
  refine pN ?_
  refine pS ?_
  refine gS 3 ?_
  refine gS 0 ?_
  refine gR 1 (rg Try.f50 1) ?_
  refine se (mkE [(1, I p1), (5, B p0)] [] 7) ?_
  refine pN ?_
  refine pS ?_
  refine gC 5 p0 ?_ ?_
  · refine gS 0 ?_
    refine gR 2 (rg Try.f50 2) ?_
    refine se (mkE [(4, I p1)] [] 7) ?_
    refine pN ?_
    refine pS ?_
    refine gE ?_
    exact pL
  · refine gK ?_
    refine pN ?_
    refine pS ?_
    refine gS 0 ?_
    refine gR 3 (rg Try.f50 3) ?_
    refine se (mkE [(4, I 0)] [] 7) ?_
    refine pN ?_
    refine pS ?_
    refine gE ?_
    exact pL
theorem F50 (m : Nat) (hm : 1 ≤ m) (p0 : Bool) (p1 : Int) : callA Try.prog cfg m 50 [B p0, I p1] = (T50 p0 p1).map I := by
  obtain ⟨q, rfl⟩ : ∃ q, m = q + 1 := ⟨m - 1, by omega⟩
  exact (callA_body (fn := Try.f50) (c := body_ Try.f50) q _ (by kernel_rfl) (by kernel_rfl) (by kernel_rfl)).trans (B50 _ p0 p1)

noncomputable def L49_2 (p0 : (List Int)) (z0 : Int) : Option (Int ⊕ ((Int × Bool) ⊕ Int)) := (bif (ltI z0 (lenL p0)) then ((listAt p0 z0).bind fun x1 => (bif (neI x1 0) then (some (.inr (.inr x1))) else (some (.inl (addI .i64 z0 1))))) else (some (.inr (.inl (z0, (ltI z0 (lenL p0)))))))
theorem L49_2_ok (C : Callee) (p0 : (List Int)) (z0 : Int) : runs Try.prog C (cfg.fn 49) (finLoop ((cfg.fn 49).keep 2) ((cfg.fn 49).al 2)) [] (execA Try.prog C (cfg.fn 49) (nr Try.f49 [false, false, true, false, true]) ((fun z0 : Int => (mkE [(5, LL I p0), (6, I (lenL p0)), (7, I z0)] [] 15)) z0)) = (L49_2 p0 z0).map (Sum.elim (fun z => .inl ((fun z0 : Int => (mkE [(5, LL I p0), (6, I (lenL p0)), (7, I z0)] [] 15)) z)) (fun x => .inr ((Sum.elim (fun (x : (Int × Bool)) => (.exit 0, (mkE [(5, LL I p0), (6, I (lenL p0)), (7, I x.1), (8, B x.2)] [] 15))) (fun (x : Int) => (.ret, (mkE [(2, I x)] [] 15)))) x))) := by
  unfold L49_2
  refine gS 0 ?_
  refine gR 2 (rg Try.f49 2) ?_
  refine se (mkE [(5, LL I p0), (6, I (lenL p0)), (7, I z0), (8, B (ltI z0 (lenL p0)))] [] 15) ?_
  refine pN ?_
  refine pS ?_
  refine gS 3 ?_
  refine gC 8 (ltI z0 (lenL p0)) ?_ ?_
  · refine gK ?_
    refine pN ?_
    refine pS ?_
    refine gS 6 ?_
    refine gB 1 ?_
    refine gS 4 ?_
    refine gR 3 (rg Try.f49 3) ?_
    refine vo 9 (addrE 189 69 1 I .i64 p0 z0) (fun x1 => ?_)
    refine se (mkE [(4, I x1), (5, LL I p0), (6, I (lenL p0)), (7, I z0)] [] 15) ?_
    refine pN ?_
    refine pS ?_
    refine gS 0 ?_
    refine gR 4 (rg Try.f49 4) ?_
    refine se (mkE [(4, I x1), (5, LL I p0), (6, I (lenL p0)), (7, I z0), (12, B (neI x1 0))] [] 15) ?_
    refine pN ?_
    refine pS ?_
    refine gC 12 (neI x1 0) ?_ ?_
    · refine gS 0 ?_
      refine gR 5 (rg Try.f49 5) ?_
      refine se (mkE [(2, I x1)] [] 15) ?_
      refine pN ?_
      refine pS ?_
      refine gE ?_
      exact pL
    · refine gK ?_
      refine pB ?_
      refine pN ?_
      refine pS ?_
      refine gR 6 (rg Try.f49 6) ?_
      refine se (mkE [(5, LL I p0), (6, I (lenL p0)), (7, I (addI .i64 z0 1))] [] 15) ?_
      exact pL
  · refine gX 0 ?_
    exact pL
noncomputable def T49 (p0 : (List Int)) : Option Int := ((iter (L49_2 p0) 0).bind fun y2 => (Sum.elim (fun y2a => (some 0)) (fun y2b => (some y2b)) y2))
theorem B49 (C : Callee) (p0 : (List Int)) : runs Try.prog C (cfg.fn 49) (finFn Try.prog (cfg.fn 49).byval Try.f49) [] (execA Try.prog C (cfg.fn 49) (nr Try.f49 []) (frame0 [LL I p0] 15)) = (T49 p0).map I := by
  unfold T49
  refine gS 1 ?_
  refine gR 0 (rg Try.f49 0) ?_
  refine se (mkE [(0, LL I p0)] [] 15) ?_
  refine pN ?_
  refine pS ?_
  refine gS 7 ?_
  refine gS 2 ?_
  refine gR 1 (rg Try.f49 1) ?_
  refine sg 1 (mkE [(5, LL I p0), (0, LL I p0)] [] 15) ?_
  refine eo 6 (I (lenL p0)) (lenE 189 I p0) ?_
  refine se (mkE [(5, LL I p0), (6, I (lenL p0)), (7, I 0)] [] 15) ?_
  refine pN ?_
  refine pS ?_
  refine gB 0 ?_
  refine lo [(5, none), (6, none), (7, none)] [] (L49_2 p0) (fun z0 : Int => (mkE [(5, LL I p0), (6, I (lenL p0)), (7, I z0)] [] 15)) (Sum.elim (fun (x : (Int × Bool)) => (.exit 0, (mkE [(5, LL I p0), (6, I (lenL p0)), (7, I x.1), (8, B x.2)] [] 15))) (fun (x : Int) => (.ret, (mkE [(2, I x)] [] 15)))) 0 (fun z => L49_2_ok C p0 z) ?_
  intro y2
  refine ss y2 (Z := (Sum.elim (fun (x : (Int × Bool)) => (.exit 0, (mkE [(5, LL I p0), (6, I (lenL p0)), (7, I x.1), (8, B x.2)] [] 15))) (fun (x : Int) => (.ret, (mkE [(2, I x)] [] 15))))) (fun y2a => ?_) (fun y2b => ?_)
  · refine pH ?_
    refine pN ?_
    refine pS ?_
    refine gS 0 ?_
    refine gR 7 (rg Try.f49 7) ?_
    refine se (mkE [(2, I 0)] [] 15) ?_
    refine pN ?_
    refine pS ?_
    refine gE ?_
    exact pL
  · exact pL
theorem F49 (m : Nat) (hm : 1 ≤ m) (p0 : (List Int)) : callA Try.prog cfg m 49 [LL I p0] = (T49 p0).map I := by
  obtain ⟨q, rfl⟩ : ∃ q, m = q + 1 := ⟨m - 1, by omega⟩
  exact (callA_body (fn := Try.f49) (c := body_ Try.f49) q _ (by kernel_rfl) (by kernel_rfl) (by kernel_rfl)).trans (B49 _ p0)

noncomputable def T52 (p0 : Int) : Option Int := ((T140 p0).bind fun x1 => ((T50 (!x1) 1).bind fun x2 => (some x2)))
theorem B52 (C : Callee) (h140 : ∀ (p0 : Int), C 140 [I p0] = (T140 p0).map B) (h50 : ∀ (p0 : Bool) (p1 : Int), C 50 [B p0, I p1] = (T50 p0 p1).map I) (p0 : Int) : runs Try.prog C (cfg.fn 52) (finFn Try.prog (cfg.fn 52).byval Try.f52) [] (execA Try.prog C (cfg.fn 52) (nr Try.f52 []) (frame0 [I p0] 7)) = (T52 p0).map I := by
  unfold T52
  refine gS 1 ?_
  refine gR 0 (rg Try.f52 0) ?_
  refine se (mkE [(0, I p0)] [] 7) ?_
  refine pN ?_
  refine pS ?_
  refine gS 0 ?_
  refine gR 1 (rg Try.f52 1) ?_
  refine sg 1 (mkE [(3, I p0), (0, I p0)] [] 7) ?_
  refine co 4 [] (h140 p0) (fun x1 => ?_)
  refine sg 3 (mkE [(5, B (!x1)), (4, B x1), (3, I p0), (0, I p0)] [] 7) ?_
  refine co 6 [] (h50 (!x1) 1) (fun x2 => ?_)
  refine se (mkE [(2, I x2)] [] 7) ?_
  refine pN ?_
  refine pS ?_
  refine gE ?_
  exact pL
theorem F52 (m : Nat) (hm : 3 ≤ m) (p0 : Int) : callA Try.prog cfg m 52 [I p0] = (T52 p0).map I := by
  obtain ⟨q, rfl⟩ : ∃ q, m = q + 1 := ⟨m - 1, by omega⟩
  exact (callA_body (fn := Try.f52) (c := body_ Try.f52) q _ (by kernel_rfl) (by kernel_rfl) (by kernel_rfl)).trans (B52 _ (fun p0 => F140 q (by omega) p0) (fun p0 p1 => F50 q (by omega) p0 p1) p0)

noncomputable def T224 (p0 : S24) (p1_c0 : ByteArray) : Option Bool := (some (!eqS p0.f0 p1_c0))
theorem B224 (C : Callee) (p0 : S24) (p1_c0 : ByteArray) : runs Try.prog C (cfg.fn 224) (finFn Try.prog (cfg.fn 224).byval Try.f224) [] (execA Try.prog C (cfg.fn 224) (nr Try.f224 []) (frame0 [a24 p0, .ia [S p1_c0] 0] 8)) = (T224 p0 p1_c0).map B := by
  unfold T224
  refine gS 1 ?_
  refine gR 0 (rg Try.f224 0) ?_
  refine se (mkE [(1, .ia [S p1_c0] 0), (2, .ba 16 0)] [(16, .box [S p0.f0, I p0.f1, I p0.f2] false)] 8) ?_
  refine pN ?_
  refine pS ?_
  refine gS 0 ?_
  refine gR 1 (rg Try.f224 1) ?_
  refine se (mkE [(3, B (!eqS p0.f0 p1_c0))] [] 8) ?_
  refine pN ?_
  refine pS ?_
  refine gE ?_
  exact pL
theorem F224 (m : Nat) (hm : 1 ≤ m) (p0 : S24) (p1_c0 : ByteArray) : callA Try.prog cfg m 224 [a24 p0, .ia [S p1_c0] 0] = (T224 p0 p1_c0).map B := by
  obtain ⟨q, rfl⟩ : ∃ q, m = q + 1 := ⟨m - 1, by omega⟩
  exact (callA_body (fn := Try.f224) (c := body_ Try.f224) q _ (by kernel_rfl) (by kernel_rfl) (by kernel_rfl)).trans (B224 _ p0 p1_c0)

noncomputable def L265_2 (p0 : (List S24)) (p1_c0 : ByteArray) (z0 : Int) : Option (Int ⊕ ((Int × Bool) ⊕ Int)) := (bif (ltI z0 (lenL p0)) then ((listAt p0 z0).bind fun x1 => ((T224 x1 p1_c0).bind fun x2 => (bif x2 then (some (.inr (.inr z0))) else (some (.inl (addI .i64 z0 1)))))) else (some (.inr (.inl (z0, (ltI z0 (lenL p0)))))))
theorem L265_2_ok (C : Callee) (h224 : ∀ (p0 : S24) (p1_c0 : ByteArray), C 224 [a24 p0, .ia [S p1_c0] 0] = (T224 p0 p1_c0).map B) (p0 : (List S24)) (p1_c0 : ByteArray) (z0 : Int) : runs Try.prog C (cfg.fn 265) (finLoop ((cfg.fn 265).keep 2) ((cfg.fn 265).al 2)) [] (execA Try.prog C (cfg.fn 265) (nr Try.f265 [false, false, true, false, true]) ((fun z0 : Int => (mkE [(0, LL a24 p0), (1, .fn 224 [.ia [S p1_c0] 0]), (7, I (lenL p0)), (8, I z0)] [] 19)) z0)) = (L265_2 p0 p1_c0 z0).map (Sum.elim (fun z => .inl ((fun z0 : Int => (mkE [(0, LL a24 p0), (1, .fn 224 [.ia [S p1_c0] 0]), (7, I (lenL p0)), (8, I z0)] [] 19)) z)) (fun x => .inr ((Sum.elim (fun (x : (Int × Bool)) => (.exit 0, (mkE [(0, LL a24 p0), (1, .fn 224 [.ia [S p1_c0] 0]), (7, I (lenL p0)), (8, I x.1), (9, B x.2)] [] 19))) (fun (x : Int) => (.ret, (mkE [(4, I x)] [] 19)))) x))) := by
  unfold L265_2
  refine gS 0 ?_
  refine gR 2 (rg Try.f265 2) ?_
  refine se (mkE [(0, LL a24 p0), (1, .fn 224 [.ia [S p1_c0] 0]), (7, I (lenL p0)), (8, I z0), (9, B (ltI z0 (lenL p0)))] [] 19) ?_
  refine pN ?_
  refine pS ?_
  refine gS 3 ?_
  refine gC 9 (ltI z0 (lenL p0)) ?_ ?_
  · refine gK ?_
    refine pN ?_
    refine pS ?_
    refine gS 6 ?_
    refine gB 1 ?_
    refine gS 4 ?_
    refine gR 3 (rg Try.f265 3) ?_
    refine se (mkE [(0, LL a24 p0), (1, .fn 224 [.ia [S p1_c0] 0]), (5, I z0), (7, I (lenL p0)), (8, I z0)] [] 19) ?_
    refine pN ?_
    refine pS ?_
    refine gS 0 ?_
    refine gR 4 (rg Try.f265 4) ?_
    refine sg 3 (mkE [(13, I z0), (12, LL a24 p0), (11, .fn 224 [.ia [S p1_c0] 0]), (0, LL a24 p0), (1, .fn 224 [.ia [S p1_c0] 0]), (5, I z0), (7, I (lenL p0)), (8, I z0)] [] 19) ?_
    refine vo 14 (addrE 22 25 3 a24 .i64 p0 z0) (fun x1 => ?_)
    refine sg 5 (mkE [(15, a24 x1), (14, .ia [S x1.f0, I x1.f1, I x1.f2] 0), (13, I z0), (12, LL a24 p0), (11, .fn 224 [.ia [S p1_c0] 0]), (0, LL a24 p0), (1, .fn 224 [.ia [S p1_c0] 0]), (5, I z0), (7, I (lenL p0)), (8, I z0)] [] 19) ?_
    refine co 16 [] (h224 x1 p1_c0) (fun x2 => ?_)
    refine se (mkE [(0, LL a24 p0), (1, .fn 224 [.ia [S p1_c0] 0]), (5, I z0), (7, I (lenL p0)), (8, I z0), (16, B x2)] [] 19) ?_
    refine pN ?_
    refine pS ?_
    refine gC 16 x2 ?_ ?_
    · refine gS 0 ?_
      refine gR 5 (rg Try.f265 5) ?_
      refine se (mkE [(4, I z0)] [] 19) ?_
      refine pN ?_
      refine pS ?_
      refine gE ?_
      exact pL
    · refine gK ?_
      refine pB ?_
      refine pN ?_
      refine pS ?_
      refine gR 6 (rg Try.f265 6) ?_
      refine se (mkE [(0, LL a24 p0), (1, .fn 224 [.ia [S p1_c0] 0]), (7, I (lenL p0)), (8, I (addI .i64 z0 1))] [] 19) ?_
      exact pL
  · refine gX 0 ?_
    exact pL
noncomputable def T265 (p0 : (List S24)) (p1_c0 : ByteArray) : Option Int := ((iter (L265_2 p0 p1_c0) 0).bind fun y3 => (Sum.elim (fun y3a => (some (-1))) (fun y3b => (some y3b)) y3))
theorem B265 (C : Callee) (h224 : ∀ (p0 : S24) (p1_c0 : ByteArray), C 224 [a24 p0, .ia [S p1_c0] 0] = (T224 p0 p1_c0).map B) (p0 : (List S24)) (p1_c0 : ByteArray) : runs Try.prog C (cfg.fn 265) (finFn Try.prog (cfg.fn 265).byval Try.f265) [] (execA Try.prog C (cfg.fn 265) (nr Try.f265 []) (frame0 [LL a24 p0, .fn 224 [.ia [S p1_c0] 0]] 19)) = (T265 p0 p1_c0).map I := by
  unfold T265
  refine gS 1 ?_
  refine gR 0 (rg Try.f265 0) ?_
  refine se (mkE [(0, LL a24 p0), (1, .fn 224 [.ia [S p1_c0] 0])] [] 19) ?_
  refine pN ?_
  refine pS ?_
  refine gS 7 ?_
  refine gS 2 ?_
  refine gR 1 (rg Try.f265 1) ?_
  refine sg 1 (mkE [(6, LL a24 p0), (0, LL a24 p0), (1, .fn 224 [.ia [S p1_c0] 0])] [] 19) ?_
  refine eo 7 (I (lenL p0)) (lenE 22 a24 p0) ?_
  refine se (mkE [(0, LL a24 p0), (1, .fn 224 [.ia [S p1_c0] 0]), (7, I (lenL p0)), (8, I 0)] [] 19) ?_
  refine pN ?_
  refine pS ?_
  refine gB 0 ?_
  refine lo [(0, none), (1, none), (7, none), (8, none)] [] (L265_2 p0 p1_c0) (fun z0 : Int => (mkE [(0, LL a24 p0), (1, .fn 224 [.ia [S p1_c0] 0]), (7, I (lenL p0)), (8, I z0)] [] 19)) (Sum.elim (fun (x : (Int × Bool)) => (.exit 0, (mkE [(0, LL a24 p0), (1, .fn 224 [.ia [S p1_c0] 0]), (7, I (lenL p0)), (8, I x.1), (9, B x.2)] [] 19))) (fun (x : Int) => (.ret, (mkE [(4, I x)] [] 19)))) 0 (fun z => L265_2_ok C h224 p0 p1_c0 z) ?_
  intro y3
  refine ss y3 (Z := (Sum.elim (fun (x : (Int × Bool)) => (.exit 0, (mkE [(0, LL a24 p0), (1, .fn 224 [.ia [S p1_c0] 0]), (7, I (lenL p0)), (8, I x.1), (9, B x.2)] [] 19))) (fun (x : Int) => (.ret, (mkE [(4, I x)] [] 19))))) (fun y3a => ?_) (fun y3b => ?_)
  · refine pH ?_
    refine pN ?_
    refine pS ?_
    refine gS 0 ?_
    refine gR 7 (rg Try.f265 7) ?_
    refine se (mkE [(4, I (-1))] [] 19) ?_
    refine pN ?_
    refine pS ?_
    refine gE ?_
    exact pL
  · exact pL
theorem F265 (m : Nat) (hm : 2 ≤ m) (p0 : (List S24)) (p1_c0 : ByteArray) : callA Try.prog cfg m 265 [LL a24 p0, .fn 224 [.ia [S p1_c0] 0]] = (T265 p0 p1_c0).map I := by
  obtain ⟨q, rfl⟩ : ∃ q, m = q + 1 := ⟨m - 1, by omega⟩
  exact (callA_body (fn := Try.f265) (c := body_ Try.f265) q _ (by kernel_rfl) (by kernel_rfl) (by kernel_rfl)).trans (B265 _ (fun p0 p1_c0 => F224 q (by omega) p0 p1_c0) p0 p1_c0)

noncomputable def L223_5 (p1_c0 : ByteArray) (z0 : ((List S24) × Int × Int)) : Option (((List S24) × Int × Int) ⊕ (Int × Int × Bool × (List S24))) := (bif (ltI z0.2.2 (lenL z0.1)) then ((idxO (List.length z0.1) z0.2.2).bind fun x2 => ((getN z0.1 x2).bind fun x3 => ((T224 x3 p1_c0).bind fun x4 => (bif (!x4) then ((idxO (List.length z0.1) z0.2.1).bind fun x5 => ((getN z0.1 x5).bind fun x6 => (some (.inl ((List.set z0.1 x5 x3), (addI .i64 z0.2.1 1), (addI .i64 z0.2.2 1)))))) else (some (.inl (z0.1, z0.2.1, (addI .i64 z0.2.2 1)))))))) else (some (.inr (z0.2.1, z0.2.2, (ltI z0.2.2 (lenL z0.1)), z0.1))))
theorem L223_5_ok (C : Callee) (h224 : ∀ (p0 : S24) (p1_c0 : ByteArray), C 224 [a24 p0, .ia [S p1_c0] 0] = (T224 p0 p1_c0).map B) (p1_c0 : ByteArray) (z0 : ((List S24) × Int × Int)) : runs Try.prog C (cfg.fn 223) (finLoop ((cfg.fn 223).keep 5) ((cfg.fn 223).al 5)) [] (execA Try.prog C (cfg.fn 223) (nr Try.f223 [false, false, true, false, true, true, true]) ((fun z0 : ((List S24) × Int × Int) => (mkE [(0, .own 0 0), (1, .fn 224 [.ia [S p1_c0] 0]), (5, I z0.2.1), (6, I z0.2.2)] [(0, RR 25 3 a24 z0.1 0 false)] 42)) z0)) = (L223_5 p1_c0 z0).map (Sum.elim (fun z => .inl ((fun z0 : ((List S24) × Int × Int) => (mkE [(0, .own 0 0), (1, .fn 224 [.ia [S p1_c0] 0]), (5, I z0.2.1), (6, I z0.2.2)] [(0, RR 25 3 a24 z0.1 0 false)] 42)) z)) (fun x => .inr ((fun (x : (Int × Int × Bool × (List S24))) => (.exit 0, (mkE [(0, .own 0 0), (1, .fn 224 [.ia [S p1_c0] 0]), (5, I x.1), (6, I x.2.1), (19, B x.2.2.1)] [(0, RR 25 3 a24 x.2.2.2 0 false)] 42))) x))) := by
  unfold L223_5
  refine gS 7 ?_
  refine gS 0 ?_
  refine gR 5 (rg Try.f223 5) ?_
  refine sg 2 (mkE [(17, .own 0 0), (16, I z0.2.2), (0, .own 0 0), (1, .fn 224 [.ia [S p1_c0] 0]), (5, I z0.2.1), (6, I z0.2.2)] [(0, RR 25 3 a24 z0.1 0 false)] 42) ?_
  refine eo 18 (I (lenL z0.1)) (lenOE 22 25 3 a24 z0.1) ?_
  refine se (mkE [(0, .own 0 0), (1, .fn 224 [.ia [S p1_c0] 0]), (5, I z0.2.1), (6, I z0.2.2), (19, B (ltI z0.2.2 (lenL z0.1)))] [(0, RR 25 3 a24 z0.1 0 false)] 42) ?_
  refine pN ?_
  refine pS ?_
  refine gC 19 (ltI z0.2.2 (lenL z0.1)) ?_ ?_
  · refine gK ?_
    refine pN ?_
    refine pS ?_
    refine gS 6 ?_
    refine gB 1 ?_
    refine gS 8 ?_
    refine gR 7 (rg Try.f223 7) ?_
    refine sg 2 (mkE [(23, I z0.2.2), (22, .own 0 0), (0, .own 0 0), (1, .fn 224 [.ia [S p1_c0] 0]), (5, I z0.2.1), (6, I z0.2.2), (19, B (ltI z0.2.2 (lenL z0.1)))] [(0, RR 25 3 a24 z0.1 0 false)] 42) ?_
    refine vo 24 (addrOE 22 25 3 0 0 false a24 .i64 z0.1 z0.2.2) (fun x2 => ?_)
    refine vo 25 (loadOE 25 0 0 x2 0 25 3 3 true false a24 (fun q : S24 => a24 q) z0.1) (fun x3 => ?_)
    refine se (mkE [(0, .own 0 0), (1, .fn 224 [.ia [S p1_c0] 0]), (5, I z0.2.1), (6, I z0.2.2), (7, .ba 56 0)] [(0, RR 25 3 a24 z0.1 0 false), (56, .box [S x3.f0, I x3.f1, I x3.f2] false)] 42) ?_
    refine pN ?_
    refine pS ?_
    refine gS 0 ?_
    refine gR 8 (rg Try.f223 8) ?_
    refine sg 2 (mkE [(27, a24 x3), (26, .fn 224 [.ia [S p1_c0] 0]), (0, .own 0 0), (1, .fn 224 [.ia [S p1_c0] 0]), (5, I z0.2.1), (6, I z0.2.2), (7, .ba 56 0)] [(0, RR 25 3 a24 z0.1 0 false), (56, .box [S x3.f0, I x3.f1, I x3.f2] false)] 42) ?_
    refine co 28 [] (h224 x3 p1_c0) (fun x4 => ?_)
    refine se (mkE [(0, .own 0 0), (1, .fn 224 [.ia [S p1_c0] 0]), (5, I z0.2.1), (6, I z0.2.2), (7, .ba 56 0), (29, B (!x4))] [(0, RR 25 3 a24 z0.1 0 false), (56, .box [S x3.f0, I x3.f1, I x3.f2] false)] 42) ?_
    refine pN ?_
    refine pS ?_
    refine gC 29 (!x4) ?_ ?_
    · refine gS 10 ?_
      refine gR 9 (rg Try.f223 9) ?_
      refine sg 3 (mkE [(32, a24 x3), (31, I z0.2.1), (30, .own 0 0), (0, .own 0 0), (1, .fn 224 [.ia [S p1_c0] 0]), (5, I z0.2.1), (6, I z0.2.2), (7, .ba 56 0), (29, B (!x4))] [(0, RR 25 3 a24 z0.1 0 false), (56, .box [S x3.f0, I x3.f1, I x3.f2] false)] 42) ?_
      refine vo 33 (addrOE 22 25 3 0 0 false a24 .i64 z0.1 z0.2.1) (fun x5 => ?_)
      refine mo none (stO 25 3 0 0 x5 0 a24 z0.1 [] [S x3.f0, I x3.f1, I x3.f2] (a24 x3) (fun q : S24 => x3) 25 (.tmp 33) (.tmp 32) 3) (fun x6 => ?_)
      refine se (mkE [(0, .own 0 0), (1, .fn 224 [.ia [S p1_c0] 0]), (5, I z0.2.1), (6, I z0.2.2)] [(0, RR 25 3 a24 (List.set z0.1 x5 x3) 0 false)] 42) ?_
      refine pN ?_
      refine pS ?_
      refine gR 10 (rg Try.f223 10) ?_
      refine se (mkE [(0, .own 0 0), (1, .fn 224 [.ia [S p1_c0] 0]), (5, I (addI .i64 z0.2.1 1)), (6, I z0.2.2)] [(0, RR 25 3 a24 (List.set z0.1 x5 x3) 0 false)] 42) ?_
      refine pB ?_
      refine pN ?_
      refine pS ?_
      refine gR 6 (rg Try.f223 6) ?_
      refine se (mkE [(0, .own 0 0), (1, .fn 224 [.ia [S p1_c0] 0]), (5, I (addI .i64 z0.2.1 1)), (6, I (addI .i64 z0.2.2 1))] [(0, RR 25 3 a24 (List.set z0.1 x5 x3) 0 false)] 42) ?_
      exact pL
    · refine gK ?_
      refine pB ?_
      refine pN ?_
      refine pS ?_
      refine gR 6 (rg Try.f223 6) ?_
      refine se (mkE [(0, .own 0 0), (1, .fn 224 [.ia [S p1_c0] 0]), (5, I z0.2.1), (6, I (addI .i64 z0.2.2 1))] [(0, RR 25 3 a24 z0.1 0 false)] 42) ?_
      exact pL
  · refine gX 0 ?_
    exact pL
noncomputable def T223 (p0 : (List S24)) (p1_c0 : ByteArray) : Option (List S24) := ((T265 p0 p1_c0).bind fun x1 => (bif (eqI x1 (-1)) then (some p0) else ((iter (L223_5 p1_c0) (p0, x1, (addI .i64 x1 1))).bind fun y7 => ((vwN (List.length y7.2.2.2) y7.1).bind fun x8 => ((clrN y7.2.2.2 x8 (S24.mk (ByteArray.mk #[]) 0 0)).bind fun x9 => ((cutN x9 y7.1).bind fun x10 => (some x10)))))))
theorem B223 (C : Callee) (h224 : ∀ (p0 : S24) (p1_c0 : ByteArray), C 224 [a24 p0, .ia [S p1_c0] 0] = (T224 p0 p1_c0).map B) (h265 : ∀ (p0 : (List S24)) (p1_c0 : ByteArray), C 265 [LL a24 p0, .fn 224 [.ia [S p1_c0] 0]] = (T265 p0 p1_c0).map I) (p0 : (List S24)) (p1_c0 : ByteArray) : runs Try.prog C (cfg.fn 223) (finFn Try.prog (cfg.fn 223).byval Try.f223) [] (execA Try.prog C (cfg.fn 223) (nr Try.f223 []) (frame0 [.fr 25 3 (List.map a24 p0), .fn 224 [.ia [S p1_c0] 0]] 42)) = (T223 p0 p1_c0).map (fun l => AV.fr 25 3 (List.map a24 l)) := by
  unfold T223
  refine gS 1 ?_
  refine gR 0 (rg Try.f223 0) ?_
  refine se (mkE [(0, .own 0 0), (1, .fn 224 [.ia [S p1_c0] 0])] [(0, RR 25 3 a24 p0 0 false)] 42) ?_
  refine pN ?_
  refine pS ?_
  refine gS 2 ?_
  refine gR 1 (rg Try.f223 1) ?_
  refine sg 2 (mkE [(9, .fn 224 [.ia [S p1_c0] 0]), (8, .own 0 0), (0, .own 0 0), (1, .fn 224 [.ia [S p1_c0] 0])] [(0, RR 25 3 a24 p0 0 false)] 42) ?_
  refine co 10 [0] (h265 p0 p1_c0) (fun x1 => ?_)
  refine se (mkE [(0, .own 0 0), (1, .fn 224 [.ia [S p1_c0] 0]), (5, I x1)] [(0, RR 25 3 a24 p0 0 false)] 42) ?_
  refine pN ?_
  refine pS ?_
  refine gS 4 ?_
  refine gS 0 ?_
  refine gR 2 (rg Try.f223 2) ?_
  refine se (mkE [(0, .own 0 0), (1, .fn 224 [.ia [S p1_c0] 0]), (5, I x1), (12, B (eqI x1 (-1)))] [(0, RR 25 3 a24 p0 0 false)] 42) ?_
  refine pN ?_
  refine pS ?_
  refine gC 12 (eqI x1 (-1)) ?_ ?_
  · refine gS 0 ?_
    refine gR 3 (rg Try.f223 3) ?_
    refine se (mkE [(4, .own 0 0)] [(0, RR 25 3 a24 p0 0 false)] 42) ?_
    refine pN ?_
    refine pS ?_
    refine gE ?_
    exact pL
  · refine gK ?_
    refine pN ?_
    refine pS ?_
    refine gS 11 ?_
    refine gS 5 ?_
    refine gR 4 (rg Try.f223 4) ?_
    refine se (mkE [(0, .own 0 0), (1, .fn 224 [.ia [S p1_c0] 0]), (5, I x1), (6, I (addI .i64 x1 1))] [(0, RR 25 3 a24 p0 0 false)] 42) ?_
    refine pN ?_
    refine pS ?_
    refine gB 0 ?_
    refine lo [(0, some (25, 3)), (1, none), (5, none), (6, none)] [] (L223_5 p1_c0) (fun z0 : ((List S24) × Int × Int) => (mkE [(0, .own 0 0), (1, .fn 224 [.ia [S p1_c0] 0]), (5, I z0.2.1), (6, I z0.2.2)] [(0, RR 25 3 a24 z0.1 0 false)] 42)) (fun (x : (Int × Int × Bool × (List S24))) => (.exit 0, (mkE [(0, .own 0 0), (1, .fn 224 [.ia [S p1_c0] 0]), (5, I x.1), (6, I x.2.1), (19, B x.2.2.1)] [(0, RR 25 3 a24 x.2.2.2 0 false)] 42))) (p0, x1, (addI .i64 x1 1)) (fun z => L223_5_ok C h224 p1_c0 z) ?_
    intro y7
    refine pH ?_
    refine pN ?_
    refine pS ?_
    refine gS 12 ?_
    refine gR 11 (rg Try.f223 11) ?_
    refine sg 2 (mkE [(37, I y7.1), (36, .own 0 0), (0, .own 0 0), (1, .fn 224 [.ia [S p1_c0] 0]), (5, I y7.1), (6, I y7.2.1), (19, B y7.2.2.1)] [(0, RR 25 3 a24 y7.2.2.2 0 false)] 42) ?_
    refine vo 38 (vwE 22 25 3 0 0 false a24 y7.2.2.2 .i64 y7.1 (.tmp 36) (.tmp 37)) (fun x8 => ?_)
    refine mo none (clrO 22 25 3 0 0 a24 y7.2.2.2 x8 (S24.mk (ByteArray.mk #[]) 0 0)) (fun x9 => ?_)
    refine se (mkE [(0, .own 0 0), (5, I y7.1)] [(0, RR 25 3 a24 x9 0 false)] 42) ?_
    refine pN ?_
    refine pS ?_
    refine gS 0 ?_
    refine gR 12 (rg Try.f223 12) ?_
    refine sg 2 (mkE [(40, I y7.1), (39, .own 0 0), (0, .own 0 0), (5, I y7.1)] [(0, RR 25 3 a24 x9 0 false)] 42) ?_
    refine mo (some 41) (cutO 22 25 3 0 0 a24 x9 .i64 y7.1) (fun x10 => ?_)
    refine se (mkE [(4, .own 0 1)] [(0, RR 25 3 a24 x10 1 false)] 42) ?_
    refine pN ?_
    refine pS ?_
    refine gE ?_
    exact pL
theorem F223 (m : Nat) (hm : 3 ≤ m) (p0 : (List S24)) (p1_c0 : ByteArray) : callA Try.prog cfg m 223 [.fr 25 3 (List.map a24 p0), .fn 224 [.ia [S p1_c0] 0]] = (T223 p0 p1_c0).map (fun l => AV.fr 25 3 (List.map a24 l)) := by
  obtain ⟨q, rfl⟩ : ∃ q, m = q + 1 := ⟨m - 1, by omega⟩
  exact (callA_body (fn := Try.f223) (c := body_ Try.f223) q _ (by kernel_rfl) (by kernel_rfl) (by kernel_rfl)).trans (B223 _ (fun p0 p1_c0 => F224 q (by omega) p0 p1_c0) (fun p0 p1_c0 => F265 q (by omega) p0 p1_c0) p0 p1_c0)

noncomputable def T144 (p0 : (List S24)) (p1 : ByteArray) : Option (List S24) := ((appO 32 ([] : List S24) p0).bind fun x1 => ((T223 x1 p1).bind fun x2 => (some x2)))
theorem B144 (C : Callee) (h12 : ∀ (p0 : (List S24)), C 12 [LL a24 p0] = (appO 32 ([] : List S24) p0).map (fun l => AV.fr 25 3 (List.map a24 l))) (h223 : ∀ (p0 : (List S24)) (p1_c0 : ByteArray), C 223 [.fr 25 3 (List.map a24 p0), .fn 224 [.ia [S p1_c0] 0]] = (T223 p0 p1_c0).map (fun l => AV.fr 25 3 (List.map a24 l))) (p0 : (List S24)) (p1 : ByteArray) : runs Try.prog C (cfg.fn 144) (finFn Try.prog (cfg.fn 144).byval Try.f144) [] (execA Try.prog C (cfg.fn 144) (nr Try.f144 []) (frame0 [LL a24 p0, S p1] 9)) = (T144 p0 p1).map (fun l => AV.fr 25 3 (List.map a24 l)) := by
  unfold T144
  refine gS 1 ?_
  refine gR 0 (rg Try.f144 0) ?_
  refine se (mkE [(0, LL a24 p0), (3, .ba 24 0)] [(24, .box [S p1] false)] 9) ?_
  refine pN ?_
  refine pS ?_
  refine gS 0 ?_
  refine gR 1 (rg Try.f144 1) ?_
  refine sg 1 (mkE [(5, LL a24 p0), (0, LL a24 p0), (3, .ba 24 0)] [(24, .box [S p1] false)] 9) ?_
  refine co 6 [] (h12 p0) (fun x1 => ?_)
  refine sg 3 (mkE [(7, .fn 224 [.ba 24 0]), (6, .own 48 0), (5, LL a24 p0), (0, LL a24 p0), (3, .ba 24 0)] [(48, RR 25 3 a24 x1 0 false), (24, .box [S p1] false)] 9) ?_
  refine mo (some 8) (gvO 223 25 3 48 0 a24 x1 [.fn 224 [.ba 24 0]] [.fn 224 [.ia [S p1] 0]] [24] (h223 x1 p1)) (fun x2 => ?_)
  refine se (mkE [(4, .own 48 1)] [(48, RR 25 3 a24 x2 1 false)] 9) ?_
  refine pN ?_
  refine pS ?_
  refine gE ?_
  exact pL
theorem F144 (m : Nat) (hm : 4 ≤ m) (p0 : (List S24)) (p1 : ByteArray) : callA Try.prog cfg m 144 [LL a24 p0, S p1] = (T144 p0 p1).map (fun l => AV.fr 25 3 (List.map a24 l)) := by
  obtain ⟨q, rfl⟩ : ∃ q, m = q + 1 := ⟨m - 1, by omega⟩
  exact (callA_body (fn := Try.f144) (c := body_ Try.f144) q _ (by kernel_rfl) (by kernel_rfl) (by kernel_rfl)).trans (B144 _ (fun p0 => F12 q (by omega) p0) (fun p0 p1_c0 => F223 q (by omega) p0 p1_c0) p0 p1)

noncomputable def L53_6 (p2 : Int) (x1 : (List S24)) (z0 : ((List S24) × Int × Int)) : Option (((List S24) × Int × Int) ⊕ ((Int × Int × Int × Bool × (List S24) × ByteArray × Int × Int) ⊕ ((Int × Int × Bool × (List S24)) ⊕ Unit))) := (bif (ltI z0.2.2 (lenL x1)) then ((idxO (List.length z0.1) z0.2.2).bind fun x6 => ((getN z0.1 x6).bind fun x7 => (bif (ltI p2 x7.f2) then (some (.inr (.inl (z0.2.1, z0.2.2, z0.2.2, (ltI p2 x7.f2), z0.1, x7.f0, x7.f1, x7.f2)))) else (bif (eqI (addI .i64 z0.2.2 1) (lenL z0.1)) then (some (.inl (z0.1, (subI .i64 (addI .i64 x7.f1 p2) x7.f2), (addI .i64 z0.2.2 1)))) else ((idxO (List.length z0.1) (addI .i64 z0.2.2 1)).bind fun x8 => ((getN z0.1 x8).bind fun x9 => (bif (leI x9.f2 p2) then (some (.inl (z0.1, (subI .i64 (addI .i64 x7.f1 p2) x7.f2), (addI .i64 z0.2.2 1)))) else ((idxO (List.length z0.1) (addI .i64 z0.2.2 1)).bind fun x10 => ((getN z0.1 x10).bind fun x11 => (bif (ltI 2592000000 (subI .i64 x11.f1 x7.f1)) then (some (.inr (.inr (.inr ())))) else (bif (ltI 2592000000 (subI .i64 x11.f2 x7.f2)) then (some (.inr (.inr (.inr ())))) else ((quoO .i64 (mulI .i64 (subI .i64 p2 x7.f2) (subI .i64 x11.f1 x7.f1)) (subI .i64 x11.f2 x7.f2)).bind fun x12 => (some (.inl (z0.1, (addI .i64 x7.f1 x12), (addI .i64 z0.2.2 1)))))))))))))))) else (some (.inr (.inr (.inl (z0.2.1, z0.2.2, (ltI z0.2.2 (lenL x1)), z0.1))))))
theorem L53_6_ok (C : Callee) (p2 : Int) (x1 : (List S24)) (z0 : ((List S24) × Int × Int)) : runs Try.prog C (cfg.fn 53) (finLoop ((cfg.fn 53).keep 6) ((cfg.fn 53).al 6)) [] (execA Try.prog C (cfg.fn 53) (nr Try.f53 [false, false, true, false, true, true, true, true]) ((fun z0 : ((List S24) × Int × Int) => (mkE [(30, .own 64 0), (2, I p2), (8, .own 64 0), (9, I z0.2.1), (31, I (lenL x1)), (32, I z0.2.2)] [(64, RR 25 3 a24 z0.1 0 false)] 106)) z0)) = (L53_6 p2 x1 z0).map (Sum.elim (fun z => .inl ((fun z0 : ((List S24) × Int × Int) => (mkE [(30, .own 64 0), (2, I p2), (8, .own 64 0), (9, I z0.2.1), (31, I (lenL x1)), (32, I z0.2.2)] [(64, RR 25 3 a24 z0.1 0 false)] 106)) z)) (fun x => .inr ((Sum.elim (fun (x : (Int × Int × Int × Bool × (List S24) × ByteArray × Int × Int)) => (.exit 0, (mkE [(2, I p2), (8, .own 64 0), (9, I x.1), (10, I x.2.1), (11, .ba 88 0), (30, .own 64 0), (31, I (lenL x1)), (32, I x.2.2.1), (40, B x.2.2.2.1)] [(64, RR 25 3 a24 x.2.2.2.2.1 0 false), (88, .box [S x.2.2.2.2.2.1, I x.2.2.2.2.2.2.1, I x.2.2.2.2.2.2.2] false)] 106))) (Sum.elim (fun (x : (Int × Int × Bool × (List S24))) => (.exit 0, (mkE [(2, I p2), (8, .own 64 0), (9, I x.1), (30, .own 64 0), (31, I (lenL x1)), (32, I x.2.1), (33, B x.2.2.1)] [(64, RR 25 3 a24 x.2.2.2 0 false)] 106))) (fun (x : Unit) => (.ret, (mkE [(6, I 0), (7, I 2)] [] 106))))) x))) := by
  unfold L53_6
  refine gS 0 ?_
  refine gR 6 (rg Try.f53 6) ?_
  refine se (mkE [(2, I p2), (8, .own 64 0), (9, I z0.2.1), (30, .own 64 0), (31, I (lenL x1)), (32, I z0.2.2), (33, B (ltI z0.2.2 (lenL x1)))] [(64, RR 25 3 a24 z0.1 0 false)] 106) ?_
  refine pN ?_
  refine pS ?_
  refine gS 7 ?_
  refine gC 33 (ltI z0.2.2 (lenL x1)) ?_ ?_
  · refine gK ?_
    refine pN ?_
    refine pS ?_
    refine gS 15 ?_
    refine gB 1 ?_
    refine gS 8 ?_
    refine gR 7 (rg Try.f53 7) ?_
    refine sg 1 (mkE [(34, I z0.2.2), (2, I p2), (8, .own 64 0), (9, I z0.2.1), (30, .own 64 0), (31, I (lenL x1)), (32, I z0.2.2), (33, B (ltI z0.2.2 (lenL x1)))] [(64, RR 25 3 a24 z0.1 0 false)] 106) ?_
    refine vo 35 (addrOE 22 25 3 64 0 false a24 .i64 z0.1 z0.2.2) (fun x6 => ?_)
    refine vo 36 (loadOE 25 64 0 x6 0 25 3 3 true false a24 (fun q : S24 => a24 q) z0.1) (fun x7 => ?_)
    refine se (mkE [(2, I p2), (8, .own 64 0), (9, I z0.2.1), (10, I z0.2.2), (11, .ba 88 0), (30, .own 64 0), (31, I (lenL x1)), (32, I z0.2.2)] [(64, RR 25 3 a24 z0.1 0 false), (88, .box [S x7.f0, I x7.f1, I x7.f2] false)] 106) ?_
    refine pN ?_
    refine pS ?_
    refine gS 9 ?_
    refine gS 0 ?_
    refine gR 8 (rg Try.f53 8) ?_
    refine se (mkE [(2, I p2), (8, .own 64 0), (9, I z0.2.1), (10, I z0.2.2), (11, .ba 88 0), (30, .own 64 0), (31, I (lenL x1)), (32, I z0.2.2), (40, B (ltI p2 x7.f2))] [(64, RR 25 3 a24 z0.1 0 false), (88, .box [S x7.f0, I x7.f1, I x7.f2] false)] 106) ?_
    refine pN ?_
    refine pS ?_
    refine gC 40 (ltI p2 x7.f2) ?_ ?_
    · refine gX 0 ?_
      exact pL
    · refine gK ?_
      refine pN ?_
      refine pS ?_
      refine gS 10 ?_
      refine gR 9 (rg Try.f53 9) ?_
      refine se (mkE [(2, I p2), (8, .own 64 0), (9, I (subI .i64 (addI .i64 x7.f1 p2) x7.f2)), (10, I z0.2.2), (11, .ba 88 0), (30, .own 64 0), (31, I (lenL x1)), (32, I z0.2.2)] [(64, RR 25 3 a24 z0.1 0 false), (88, .box [S x7.f0, I x7.f1, I x7.f2] false)] 106) ?_
      refine pN ?_
      refine pS ?_
      refine gS 11 ?_
      refine gS 0 ?_
      refine gR 10 (rg Try.f53 10) ?_
      refine sg 3 (mkE [(50, .own 64 0), (49, I (addI .i64 z0.2.2 1)), (48, I z0.2.2), (2, I p2), (8, .own 64 0), (9, I (subI .i64 (addI .i64 x7.f1 p2) x7.f2)), (10, I z0.2.2), (11, .ba 88 0), (30, .own 64 0), (31, I (lenL x1)), (32, I z0.2.2)] [(64, RR 25 3 a24 z0.1 0 false), (88, .box [S x7.f0, I x7.f1, I x7.f2] false)] 106) ?_
      refine eo 51 (I (lenL z0.1)) (lenOE 22 25 3 a24 z0.1) ?_
      refine sg 6 (mkE [(53, B (eqI (addI .i64 z0.2.2 1) (lenL z0.1))), (52, B (eqI (addI .i64 z0.2.2 1) (lenL z0.1))), (51, I (lenL z0.1)), (50, .own 64 0), (49, I (addI .i64 z0.2.2 1)), (48, I z0.2.2), (2, I p2), (8, .own 64 0), (9, I (subI .i64 (addI .i64 x7.f1 p2) x7.f2)), (10, I z0.2.2), (11, .ba 88 0), (30, .own 64 0), (31, I (lenL x1)), (32, I z0.2.2)] [(64, RR 25 3 a24 z0.1 0 false), (88, .box [S x7.f0, I x7.f1, I x7.f2] false)] 106) ?_
      refine sb 53 (eqI (addI .i64 z0.2.2 1) (lenL z0.1)) ?_ ?_
      · refine se (mkE [(2, I p2), (8, .own 64 0), (9, I (subI .i64 (addI .i64 x7.f1 p2) x7.f2)), (10, I z0.2.2), (11, .ba 88 0), (30, .own 64 0), (31, I (lenL x1)), (32, I z0.2.2), (62, B true)] [(64, RR 25 3 a24 z0.1 0 false), (88, .box [S x7.f0, I x7.f1, I x7.f2] false)] 106) ?_
        refine pN ?_
        refine pS ?_
        refine gT (.tmp 62) ?_
        refine gX 1 ?_
        refine pF ?_
        refine pO ?_
        refine pH ?_
        refine pN ?_
        refine pS ?_
        refine gR 15 (rg Try.f53 15) ?_
        refine se (mkE [(2, I p2), (8, .own 64 0), (9, I (subI .i64 (addI .i64 x7.f1 p2) x7.f2)), (30, .own 64 0), (31, I (lenL x1)), (32, I (addI .i64 z0.2.2 1))] [(64, RR 25 3 a24 z0.1 0 false)] 106) ?_
        exact pL
      · refine sg 9 (mkE [(56, I (addI .i64 z0.2.2 1)), (55, I z0.2.2), (54, .own 64 0), (53, B false), (53, B (eqI (addI .i64 z0.2.2 1) (lenL z0.1))), (52, B (eqI (addI .i64 z0.2.2 1) (lenL z0.1))), (51, I (lenL z0.1)), (50, .own 64 0), (49, I (addI .i64 z0.2.2 1)), (48, I z0.2.2), (2, I p2), (8, .own 64 0), (9, I (subI .i64 (addI .i64 x7.f1 p2) x7.f2)), (10, I z0.2.2), (11, .ba 88 0), (30, .own 64 0), (31, I (lenL x1)), (32, I z0.2.2)] [(64, RR 25 3 a24 z0.1 0 false), (88, .box [S x7.f0, I x7.f1, I x7.f2] false)] 106) ?_
        refine vo 57 (addrOE 22 25 3 64 0 false a24 .i64 z0.1 (addI .i64 z0.2.2 1)) (fun x8 => ?_)
        refine sg 11 (mkE [(58, .oa 64 0 x8 2), (57, .oa 64 0 x8 0), (56, I (addI .i64 z0.2.2 1)), (55, I z0.2.2), (54, .own 64 0), (53, B false), (53, B (eqI (addI .i64 z0.2.2 1) (lenL z0.1))), (52, B (eqI (addI .i64 z0.2.2 1) (lenL z0.1))), (51, I (lenL z0.1)), (50, .own 64 0), (49, I (addI .i64 z0.2.2 1)), (48, I z0.2.2), (2, I p2), (8, .own 64 0), (9, I (subI .i64 (addI .i64 x7.f1 p2) x7.f2)), (10, I z0.2.2), (11, .ba 88 0), (30, .own 64 0), (31, I (lenL x1)), (32, I z0.2.2)] [(64, RR 25 3 a24 z0.1 0 false), (88, .box [S x7.f0, I x7.f1, I x7.f2] false)] 106) ?_
        refine vo 59 (loadOE 3 64 0 x8 2 25 3 1 false false a24 (fun q : S24 => I q.f2) z0.1) (fun x9 => ?_)
        refine se (mkE [(2, I p2), (8, .own 64 0), (9, I (subI .i64 (addI .i64 x7.f1 p2) x7.f2)), (10, I z0.2.2), (11, .ba 88 0), (30, .own 64 0), (31, I (lenL x1)), (32, I z0.2.2), (62, B (leI x9.f2 p2))] [(64, RR 25 3 a24 z0.1 0 false), (88, .box [S x7.f0, I x7.f1, I x7.f2] false)] 106) ?_
        refine pN ?_
        refine pS ?_
        refine gC 62 (leI x9.f2 p2) ?_ ?_
        · refine gX 1 ?_
          refine pF ?_
          refine pO ?_
          refine pH ?_
          refine pN ?_
          refine pS ?_
          refine gR 15 (rg Try.f53 15) ?_
          refine se (mkE [(2, I p2), (8, .own 64 0), (9, I (subI .i64 (addI .i64 x7.f1 p2) x7.f2)), (30, .own 64 0), (31, I (lenL x1)), (32, I (addI .i64 z0.2.2 1))] [(64, RR 25 3 a24 z0.1 0 false)] 106) ?_
          exact pL
        · refine gK ?_
          refine pN ?_
          refine pS ?_
          refine gS 12 ?_
          refine gR 11 (rg Try.f53 11) ?_
          refine sg 3 (mkE [(65, I (addI .i64 z0.2.2 1)), (64, I z0.2.2), (63, .own 64 0), (2, I p2), (8, .own 64 0), (9, I (subI .i64 (addI .i64 x7.f1 p2) x7.f2)), (10, I z0.2.2), (11, .ba 88 0), (30, .own 64 0), (31, I (lenL x1)), (32, I z0.2.2), (62, B (leI x9.f2 p2))] [(64, RR 25 3 a24 z0.1 0 false), (88, .box [S x7.f0, I x7.f1, I x7.f2] false)] 106) ?_
          refine vo 66 (addrOE 22 25 3 64 0 false a24 .i64 z0.1 (addI .i64 z0.2.2 1)) (fun x10 => ?_)
          refine vo 67 (loadOE 25 64 0 x10 0 25 3 3 true false a24 (fun q : S24 => a24 q) z0.1) (fun x11 => ?_)
          refine se (mkE [(2, I p2), (8, .own 64 0), (11, .ba 88 0), (12, .ba 96 0), (30, .own 64 0), (31, I (lenL x1)), (32, I z0.2.2)] [(64, RR 25 3 a24 z0.1 0 false), (88, .box [S x7.f0, I x7.f1, I x7.f2] false), (96, .box [S x11.f0, I x11.f1, I x11.f2] false)] 106) ?_
          refine pN ?_
          refine pS ?_
          refine gS 14 ?_
          refine gS 0 ?_
          refine gR 12 (rg Try.f53 12) ?_
          refine sg 7 (mkE [(74, B (ltI 2592000000 (subI .i64 x11.f1 x7.f1))), (73, B (ltI 2592000000 (subI .i64 x11.f1 x7.f1))), (72, I (subI .i64 x11.f1 x7.f1)), (71, I x7.f1), (70, .ba 88 1), (69, I x11.f1), (68, .ba 96 1), (2, I p2), (8, .own 64 0), (11, .ba 88 0), (12, .ba 96 0), (30, .own 64 0), (31, I (lenL x1)), (32, I z0.2.2)] [(64, RR 25 3 a24 z0.1 0 false), (88, .box [S x7.f0, I x7.f1, I x7.f2] false), (96, .box [S x11.f0, I x11.f1, I x11.f2] false)] 106) ?_
          refine sb 74 (ltI 2592000000 (subI .i64 x11.f1 x7.f1)) ?_ ?_
          · refine se (mkE [(2, I p2), (8, .own 64 0), (11, .ba 88 0), (12, .ba 96 0), (30, .own 64 0), (31, I (lenL x1)), (32, I z0.2.2), (81, B true)] [(64, RR 25 3 a24 z0.1 0 false), (88, .box [S x7.f0, I x7.f1, I x7.f2] false), (96, .box [S x11.f0, I x11.f1, I x11.f2] false)] 106) ?_
            refine pN ?_
            refine pS ?_
            refine gT (.tmp 81) ?_
            refine gS 0 ?_
            refine gR 13 (rg Try.f53 13) ?_
            refine se (mkE [(6, I 0), (7, I 2)] [] 106) ?_
            refine pN ?_
            refine pS ?_
            refine gE ?_
            exact pL
          · refine se (mkE [(2, I p2), (8, .own 64 0), (11, .ba 88 0), (12, .ba 96 0), (30, .own 64 0), (31, I (lenL x1)), (32, I z0.2.2), (81, B (ltI 2592000000 (subI .i64 x11.f2 x7.f2)))] [(64, RR 25 3 a24 z0.1 0 false), (88, .box [S x7.f0, I x7.f1, I x7.f2] false), (96, .box [S x11.f0, I x11.f1, I x11.f2] false)] 106) ?_
            refine pN ?_
            refine pS ?_
            refine gC 81 (ltI 2592000000 (subI .i64 x11.f2 x7.f2)) ?_ ?_
            · refine gS 0 ?_
              refine gR 13 (rg Try.f53 13) ?_
              refine se (mkE [(6, I 0), (7, I 2)] [] 106) ?_
              refine pN ?_
              refine pS ?_
              refine gE ?_
              exact pL
            · refine gK ?_
              refine pN ?_
              refine pS ?_
              refine gD 14 20 (rg Try.f53 14) [0, 1, 2, 3, 4, 5, 6, 7, 8, 9, 10, 11, 12, 13, 14, 15, 16, 17, 18, 19] ?_
              refine dg 17 [(some 82, qe (.ba 88 1)), (some 83, qe (I x7.f1)), (some 84, qe (I p2)), (some 85, qe (.ba 88 2)), (some 86, qe (I x7.f2)), (some 87, qe (I (subI .i64 p2 x7.f2))), (some 88, qe (.ba 96 1)), (some 89, qe (I x11.f1)), (some 90, qe (.ba 88 1)), (some 91, qe (I x7.f1)), (some 92, qe (I (subI .i64 x11.f1 x7.f1))), (some 93, qe (I (mulI .i64 (subI .i64 p2 x7.f2) (subI .i64 x11.f1 x7.f1)))), (some 94, qe (.ba 96 2)), (some 95, qe (I x11.f2)), (some 96, qe (.ba 88 2)), (some 97, qe (I x7.f2)), (some 98, qe (I (subI .i64 x11.f2 x7.f2)))] ?_
              refine dv 99 (mkE [(98, I (subI .i64 x11.f2 x7.f2)), (97, I x7.f2), (96, .ba 88 2), (95, I x11.f2), (94, .ba 96 2), (93, I (mulI .i64 (subI .i64 p2 x7.f2) (subI .i64 x11.f1 x7.f1))), (92, I (subI .i64 x11.f1 x7.f1)), (91, I x7.f1), (90, .ba 88 1), (89, I x11.f1), (88, .ba 96 1), (87, I (subI .i64 p2 x7.f2)), (86, I x7.f2), (85, .ba 88 2), (84, I p2), (2, I p2), (8, .own 64 0), (11, .ba 88 0), (12, .ba 96 0), (30, .own 64 0), (31, I (lenL x1)), (32, I z0.2.2), (81, B (ltI 2592000000 (subI .i64 x11.f2 x7.f2)))] [(64, RR 25 3 a24 z0.1 0 false), (88, .box [S x7.f0, I x7.f1, I x7.f2] false), (96, .box [S x11.f0, I x11.f1, I x11.f2] false)] 106) (quoE 3 .i64 (.tmp 93) (.tmp 98) (mulI .i64 (subI .i64 p2 x7.f2) (subI .i64 x11.f1 x7.f1)) (subI .i64 x11.f2 x7.f2)) (fun x12 => ?_)
              refine dg 20 [(some 82, qe (.ba 88 1)), (some 83, qe (I x7.f1)), (some 84, qe (I p2)), (some 85, qe (.ba 88 2)), (some 86, qe (I x7.f2)), (some 87, qe (I (subI .i64 p2 x7.f2))), (some 88, qe (.ba 96 1)), (some 89, qe (I x11.f1)), (some 90, qe (.ba 88 1)), (some 91, qe (I x7.f1)), (some 92, qe (I (subI .i64 x11.f1 x7.f1))), (some 93, qe (I (mulI .i64 (subI .i64 p2 x7.f2) (subI .i64 x11.f1 x7.f1)))), (some 94, qe (.ba 96 2)), (some 95, qe (I x11.f2)), (some 96, qe (.ba 88 2)), (some 97, qe (I x7.f2)), (some 98, qe (I (subI .i64 x11.f2 x7.f2))), (some 99, qe (I x12)), (some 100, qe (I (addI .i64 x7.f1 x12))), (some 9, qe (I (addI .i64 x7.f1 x12)))] ?_
              refine de (mkE [(9, I (addI .i64 x7.f1 x12)), (100, I (addI .i64 x7.f1 x12)), (99, I x12), (98, I (subI .i64 x11.f2 x7.f2)), (97, I x7.f2), (96, .ba 88 2), (95, I x11.f2), (94, .ba 96 2), (93, I (mulI .i64 (subI .i64 p2 x7.f2) (subI .i64 x11.f1 x7.f1))), (92, I (subI .i64 x11.f1 x7.f1)), (91, I x7.f1), (90, .ba 88 1), (89, I x11.f1), (88, .ba 96 1), (87, I (subI .i64 p2 x7.f2)), (86, I x7.f2), (85, .ba 88 2), (84, I p2), (83, I x7.f1), (82, .ba 88 1), (2, I p2), (8, .own 64 0), (11, .ba 88 0), (12, .ba 96 0), (30, .own 64 0), (31, I (lenL x1)), (32, I z0.2.2), (81, B (ltI 2592000000 (subI .i64 x11.f2 x7.f2)))] [(64, RR 25 3 a24 z0.1 0 false), (88, .box [S x7.f0, I x7.f1, I x7.f2] false), (96, .box [S x11.f0, I x11.f1, I x11.f2] false)] 106) ?_
              refine se (mkE [(2, I p2), (8, .own 64 0), (9, I (addI .i64 x7.f1 x12)), (30, .own 64 0), (31, I (lenL x1)), (32, I z0.2.2)] [(64, RR 25 3 a24 z0.1 0 false)] 106) ?_
              refine pB ?_
              refine pN ?_
              refine pS ?_
              refine gR 15 (rg Try.f53 15) ?_
              refine se (mkE [(2, I p2), (8, .own 64 0), (9, I (addI .i64 x7.f1 x12)), (30, .own 64 0), (31, I (lenL x1)), (32, I (addI .i64 z0.2.2 1))] [(64, RR 25 3 a24 z0.1 0 false)] 106) ?_
              exact pL
  · refine gX 0 ?_
    exact pL
noncomputable def T53 (p0 : (List S24)) (p1 : ByteArray) (p2 : Int) : Option (Int × Int) := ((T144 p0 p1).bind fun x1 => (bif (eqI (lenL x1) 0) then (some (0, 8)) else ((idxO (List.length x1) 0).bind fun x2 => ((getN x1 x2).bind fun x3 => ((idxO (List.length x1) 0).bind fun x4 => ((getN x1 x4).bind fun x5 => ((iter (L53_6 p2 x1) (x1, (subI .i64 (addI .i64 x3.f1 p2) x5.f2), 0)).bind fun y13 => (Sum.elim (fun y13a => ((T140 y13a.1).bind fun x14 => (bif (!x14) then (some (0, 11)) else (some (y13a.1, 0))))) (fun y13b => (Sum.elim (fun y13ba => ((T140 y13ba.1).bind fun x15 => (bif (!x15) then (some (0, 11)) else (some (y13ba.1, 0))))) (fun y13bb => (some (0, 2))) y13b)) y13))))))))
theorem B53 (C : Callee) (h140 : ∀ (p0 : Int), C 140 [I p0] = (T140 p0).map B) (h144 : ∀ (p0 : (List S24)) (p1 : ByteArray), C 144 [LL a24 p0, S p1] = (T144 p0 p1).map (fun l => AV.fr 25 3 (List.map a24 l))) (p0 : (List S24)) (p1 : ByteArray) (p2 : Int) : runs Try.prog C (cfg.fn 53) (finFn Try.prog (cfg.fn 53).byval Try.f53) [] (execA Try.prog C (cfg.fn 53) (nr Try.f53 []) (frame0 [LL a24 p0, S p1, I p2] 106)) = (T53 p0 p1 p2).map (fun r => AV.tup [I r.1, I r.2]) := by
  unfold T53
  refine gS 1 ?_
  refine gR 0 (rg Try.f53 0) ?_
  refine se (mkE [(0, LL a24 p0), (1, S p1), (2, I p2)] [] 106) ?_
  refine pN ?_
  refine pS ?_
  refine gS 2 ?_
  refine gR 1 (rg Try.f53 1) ?_
  refine sg 2 (mkE [(14, S p1), (13, LL a24 p0), (0, LL a24 p0), (1, S p1), (2, I p2)] [] 106) ?_
  refine co 15 [] (h144 p0 p1) (fun x1 => ?_)
  refine se (mkE [(2, I p2), (8, .own 120 0)] [(120, RR 25 3 a24 x1 0 false)] 106) ?_
  refine pN ?_
  refine pS ?_
  refine gS 4 ?_
  refine gS 0 ?_
  refine gR 2 (rg Try.f53 2) ?_
  refine sg 1 (mkE [(16, .own 120 0), (2, I p2), (8, .own 120 0)] [(120, RR 25 3 a24 x1 0 false)] 106) ?_
  refine eo 17 (I (lenL x1)) (lenOE 22 25 3 a24 x1) ?_
  refine se (mkE [(2, I p2), (8, .own 120 0), (18, B (eqI (lenL x1) 0))] [(120, RR 25 3 a24 x1 0 false)] 106) ?_
  refine pN ?_
  refine pS ?_
  refine gC 18 (eqI (lenL x1) 0) ?_ ?_
  · refine gS 0 ?_
    refine gR 3 (rg Try.f53 3) ?_
    refine se (mkE [(6, I 0), (7, I 8)] [] 106) ?_
    refine pN ?_
    refine pS ?_
    refine gE ?_
    exact pL
  · refine gK ?_
    refine pN ?_
    refine pS ?_
    refine gS 5 ?_
    refine gD 4 12 (rg Try.f53 4) [0, 1, 2, 3, 4, 5, 6, 7, 8, 9, 10, 11] ?_
    refine dg 1 [(some 19, qe (.own 120 0))] ?_
    refine dv 20 (mkE [(19, .own 120 0), (2, I p2), (8, .own 120 0), (18, B (eqI (lenL x1) 0))] [(120, RR 25 3 a24 x1 0 false)] 106) (addrOE 22 25 3 120 0 false a24 .i64 x1 0) (fun x2 => ?_)
    refine dg 3 [(some 19, qe (.own 120 0)), (some 20, qe (.oa 120 0 x2 0)), (some 21, qe (.oa 120 0 x2 1))] ?_
    refine dv 22 (mkE [(21, .oa 120 0 x2 1), (20, .oa 120 0 x2 0), (19, .own 120 0), (2, I p2), (8, .own 120 0), (18, B (eqI (lenL x1) 0))] [(120, RR 25 3 a24 x1 0 false)] 106) (loadOE 3 120 0 x2 1 25 3 1 false false a24 (fun q : S24 => I q.f1) x1) (fun x3 => ?_)
    refine dg 7 [(some 19, qe (.own 120 0)), (some 20, qe (.oa 120 0 x2 0)), (some 21, qe (.oa 120 0 x2 1)), (some 22, qe (I x3.f1)), (some 23, qe (I p2)), (some 24, qe (I (addI .i64 x3.f1 p2))), (some 25, qe (.own 120 0))] ?_
    refine dv 26 (mkE [(25, .own 120 0), (2, I p2), (8, .own 120 0), (18, B (eqI (lenL x1) 0))] [(120, RR 25 3 a24 x1 0 false)] 106) (addrOE 22 25 3 120 0 false a24 .i64 x1 0) (fun x4 => ?_)
    refine dg 9 [(some 19, qe (.own 120 0)), (some 20, qe (.oa 120 0 x2 0)), (some 21, qe (.oa 120 0 x2 1)), (some 22, qe (I x3.f1)), (some 23, qe (I p2)), (some 24, qe (I (addI .i64 x3.f1 p2))), (some 25, qe (.own 120 0)), (some 26, qe (.oa 120 0 x4 0)), (some 27, qe (.oa 120 0 x4 2))] ?_
    refine dv 28 (mkE [(27, .oa 120 0 x4 2), (26, .oa 120 0 x4 0), (25, .own 120 0), (2, I p2), (8, .own 120 0), (18, B (eqI (lenL x1) 0))] [(120, RR 25 3 a24 x1 0 false)] 106) (loadOE 3 120 0 x4 2 25 3 1 false false a24 (fun q : S24 => I q.f2) x1) (fun x5 => ?_)
    refine dg 12 [(some 19, qe (.own 120 0)), (some 20, qe (.oa 120 0 x2 0)), (some 21, qe (.oa 120 0 x2 1)), (some 22, qe (I x3.f1)), (some 23, qe (I p2)), (some 24, qe (I (addI .i64 x3.f1 p2))), (some 25, qe (.own 120 0)), (some 26, qe (.oa 120 0 x4 0)), (some 27, qe (.oa 120 0 x4 2)), (some 28, qe (I x5.f2)), (some 29, qe (I (subI .i64 (addI .i64 x3.f1 p2) x5.f2))), (some 9, qe (I (subI .i64 (addI .i64 x3.f1 p2) x5.f2)))] ?_
    refine de (mkE [(9, I (subI .i64 (addI .i64 x3.f1 p2) x5.f2)), (29, I (subI .i64 (addI .i64 x3.f1 p2) x5.f2)), (28, I x5.f2), (27, .oa 120 0 x4 2), (26, .oa 120 0 x4 0), (25, .own 120 0), (24, I (addI .i64 x3.f1 p2)), (23, I p2), (22, I x3.f1), (21, .oa 120 0 x2 1), (20, .oa 120 0 x2 0), (19, .own 120 0), (2, I p2), (8, .own 120 0), (18, B (eqI (lenL x1) 0))] [(120, RR 25 3 a24 x1 0 false)] 106) ?_
    refine se (mkE [(2, I p2), (8, .own 120 0), (9, I (subI .i64 (addI .i64 x3.f1 p2) x5.f2))] [(120, RR 25 3 a24 x1 0 false)] 106) ?_
    refine pN ?_
    refine pS ?_
    refine gS 16 ?_
    refine gS 6 ?_
    refine gR 5 (rg Try.f53 5) ?_
    refine sg 1 (mkE [(30, .own 120 0), (2, I p2), (8, .own 120 0), (9, I (subI .i64 (addI .i64 x3.f1 p2) x5.f2))] [(120, RR 25 3 a24 x1 0 false)] 106) ?_
    refine eo 31 (I (lenL x1)) (lenOE 22 25 3 a24 x1) ?_
    refine se (mkE [(2, I p2), (8, .own 120 0), (9, I (subI .i64 (addI .i64 x3.f1 p2) x5.f2)), (30, .own 120 0), (31, I (lenL x1)), (32, I 0)] [(120, RR 25 3 a24 x1 0 false)] 106) ?_
    refine pN ?_
    refine pS ?_
    refine gB 0 ?_
    refine lo [(2, none), (8, some (25, 3)), (9, none), (31, none), (32, none)] [(30, 8)] (L53_6 p2 x1) (fun z0 : ((List S24) × Int × Int) => (mkE [(30, .own 64 0), (2, I p2), (8, .own 64 0), (9, I z0.2.1), (31, I (lenL x1)), (32, I z0.2.2)] [(64, RR 25 3 a24 z0.1 0 false)] 106)) (Sum.elim (fun (x : (Int × Int × Int × Bool × (List S24) × ByteArray × Int × Int)) => (.exit 0, (mkE [(2, I p2), (8, .own 64 0), (9, I x.1), (10, I x.2.1), (11, .ba 88 0), (30, .own 64 0), (31, I (lenL x1)), (32, I x.2.2.1), (40, B x.2.2.2.1)] [(64, RR 25 3 a24 x.2.2.2.2.1 0 false), (88, .box [S x.2.2.2.2.2.1, I x.2.2.2.2.2.2.1, I x.2.2.2.2.2.2.2] false)] 106))) (Sum.elim (fun (x : (Int × Int × Bool × (List S24))) => (.exit 0, (mkE [(2, I p2), (8, .own 64 0), (9, I x.1), (30, .own 64 0), (31, I (lenL x1)), (32, I x.2.1), (33, B x.2.2.1)] [(64, RR 25 3 a24 x.2.2.2 0 false)] 106))) (fun (x : Unit) => (.ret, (mkE [(6, I 0), (7, I 2)] [] 106))))) (x1, (subI .i64 (addI .i64 x3.f1 p2) x5.f2), 0) (fun z => L53_6_ok C p2 x1 z) ?_
    intro y13
    refine ss y13 (Z := (Sum.elim (fun (x : (Int × Int × Int × Bool × (List S24) × ByteArray × Int × Int)) => (.exit 0, (mkE [(2, I p2), (8, .own 64 0), (9, I x.1), (10, I x.2.1), (11, .ba 88 0), (30, .own 64 0), (31, I (lenL x1)), (32, I x.2.2.1), (40, B x.2.2.2.1)] [(64, RR 25 3 a24 x.2.2.2.2.1 0 false), (88, .box [S x.2.2.2.2.2.1, I x.2.2.2.2.2.2.1, I x.2.2.2.2.2.2.2] false)] 106))) (Sum.elim (fun (x : (Int × Int × Bool × (List S24))) => (.exit 0, (mkE [(2, I p2), (8, .own 64 0), (9, I x.1), (30, .own 64 0), (31, I (lenL x1)), (32, I x.2.1), (33, B x.2.2.1)] [(64, RR 25 3 a24 x.2.2.2 0 false)] 106))) (fun (x : Unit) => (.ret, (mkE [(6, I 0), (7, I 2)] [] 106)))))) (fun y13a => ?_) (fun y13b => ?_)
    · refine pH ?_
      refine pN ?_
      refine pS ?_
      refine gS 18 ?_
      refine gS 0 ?_
      refine gR 16 (rg Try.f53 16) ?_
      refine sg 1 (mkE [(102, I y13a.1), (2, I p2), (8, .own 64 0), (9, I y13a.1), (10, I y13a.2.1), (11, .ba 88 0), (30, .own 64 0), (31, I (lenL x1)), (32, I y13a.2.2.1), (40, B y13a.2.2.2.1)] [(64, RR 25 3 a24 y13a.2.2.2.2.1 0 false), (88, .box [S y13a.2.2.2.2.2.1, I y13a.2.2.2.2.2.2.1, I y13a.2.2.2.2.2.2.2] false)] 106) ?_
      refine co 103 [] (h140 y13a.1) (fun x14 => ?_)
      refine se (mkE [(9, I y13a.1), (104, B (!x14))] [] 106) ?_
      refine pN ?_
      refine pS ?_
      refine gC 104 (!x14) ?_ ?_
      · refine gS 0 ?_
        refine gR 17 (rg Try.f53 17) ?_
        refine se (mkE [(6, I 0), (7, I 11)] [] 106) ?_
        refine pN ?_
        refine pS ?_
        refine gE ?_
        exact pL
      · refine gK ?_
        refine pN ?_
        refine pS ?_
        refine gS 0 ?_
        refine gR 18 (rg Try.f53 18) ?_
        refine se (mkE [(6, I y13a.1), (7, I 0)] [] 106) ?_
        refine pN ?_
        refine pS ?_
        refine gE ?_
        exact pL
    · refine ss y13b (Z := (Sum.elim (fun (x : (Int × Int × Bool × (List S24))) => (.exit 0, (mkE [(2, I p2), (8, .own 64 0), (9, I x.1), (30, .own 64 0), (31, I (lenL x1)), (32, I x.2.1), (33, B x.2.2.1)] [(64, RR 25 3 a24 x.2.2.2 0 false)] 106))) (fun (x : Unit) => (.ret, (mkE [(6, I 0), (7, I 2)] [] 106))))) (fun y13ba => ?_) (fun y13bb => ?_)
      · refine pH ?_
        refine pN ?_
        refine pS ?_
        refine gS 18 ?_
        refine gS 0 ?_
        refine gR 16 (rg Try.f53 16) ?_
        refine sg 1 (mkE [(102, I y13ba.1), (2, I p2), (8, .own 64 0), (9, I y13ba.1), (30, .own 64 0), (31, I (lenL x1)), (32, I y13ba.2.1), (33, B y13ba.2.2.1)] [(64, RR 25 3 a24 y13ba.2.2.2 0 false)] 106) ?_
        refine co 103 [] (h140 y13ba.1) (fun x15 => ?_)
        refine se (mkE [(9, I y13ba.1), (104, B (!x15))] [] 106) ?_
        refine pN ?_
        refine pS ?_
        refine gC 104 (!x15) ?_ ?_
        · refine gS 0 ?_
          refine gR 17 (rg Try.f53 17) ?_
          refine se (mkE [(6, I 0), (7, I 11)] [] 106) ?_
          refine pN ?_
          refine pS ?_
          refine gE ?_
          exact pL
        · refine gK ?_
          refine pN ?_
          refine pS ?_
          refine gS 0 ?_
          refine gR 18 (rg Try.f53 18) ?_
          refine se (mkE [(6, I y13ba.1), (7, I 0)] [] 106) ?_
          refine pN ?_
          refine pS ?_
          refine gE ?_
          exact pL
      · exact pL
theorem F53 (m : Nat) (hm : 5 ≤ m) (p0 : (List S24)) (p1 : ByteArray) (p2 : Int) : callA Try.prog cfg m 53 [LL a24 p0, S p1, I p2] = (T53 p0 p1 p2).map (fun r => AV.tup [I r.1, I r.2]) := by
  obtain ⟨q, rfl⟩ : ∃ q, m = q + 1 := ⟨m - 1, by omega⟩
  exact (callA_body (fn := Try.f53) (c := body_ Try.f53) q _ (by kernel_rfl) (by kernel_rfl) (by kernel_rfl)).trans (B53 _ (fun p0 => F140 q (by omega) p0) (fun p0 p1 => F144 q (by omega) p0 p1) p0 p1 p2)

noncomputable def L145_3 (p0 : (List S24)) (z0 : ((List S24) × Int)) : Option (((List S24) × Int) ⊕ (Int × Bool × (List S24))) := (bif (ltI z0.2 (lenL p0)) then ((listAt p0 z0.2).bind fun x1 => ((appO 32 z0.1 ([(S24.mk x1.f0 x1.f2 x1.f1)] : List S24)).bind fun x2 => (some (.inl (x2, (addI .i64 z0.2 1)))))) else (some (.inr (z0.2, (ltI z0.2 (lenL p0)), z0.1))))
theorem L145_3_ok (C : Callee) (p0 : (List S24)) (z0 : ((List S24) × Int)) : runs Try.prog C (cfg.fn 145) (finLoop ((cfg.fn 145).keep 3) ((cfg.fn 145).al 3)) [] (execA Try.prog C (cfg.fn 145) (nr Try.f145 [false, false, true, false, true, true]) ((fun z0 : ((List S24) × Int) => (mkE [(3, .own 24 0), (6, LL a24 p0), (7, I (lenL p0)), (8, I z0.2)] [(24, RR 25 3 a24 z0.1 0 false)] 24)) z0)) = (L145_3 p0 z0).map (Sum.elim (fun z => .inl ((fun z0 : ((List S24) × Int) => (mkE [(3, .own 24 0), (6, LL a24 p0), (7, I (lenL p0)), (8, I z0.2)] [(24, RR 25 3 a24 z0.1 0 false)] 24)) z)) (fun x => .inr ((fun (x : (Int × Bool × (List S24))) => (.exit 0, (mkE [(3, .own 24 0), (6, LL a24 p0), (7, I (lenL p0)), (8, I x.1), (9, B x.2.1)] [(24, RR 25 3 a24 x.2.2 0 false)] 24))) x))) := by
  unfold L145_3
  refine gS 0 ?_
  refine gR 3 (rg Try.f145 3) ?_
  refine se (mkE [(3, .own 24 0), (6, LL a24 p0), (7, I (lenL p0)), (8, I z0.2), (9, B (ltI z0.2 (lenL p0)))] [(24, RR 25 3 a24 z0.1 0 false)] 24) ?_
  refine pN ?_
  refine pS ?_
  refine gS 4 ?_
  refine gC 9 (ltI z0.2 (lenL p0)) ?_ ?_
  · refine gK ?_
    refine pN ?_
    refine pS ?_
    refine gS 6 ?_
    refine gB 1 ?_
    refine gS 5 ?_
    refine gR 4 (rg Try.f145 4) ?_
    refine vo 10 (addrE 22 25 3 a24 .i64 p0 z0.2) (fun x1 => ?_)
    refine se (mkE [(3, .own 24 0), (5, .ba 40 0), (6, LL a24 p0), (7, I (lenL p0)), (8, I z0.2)] [(24, RR 25 3 a24 z0.1 0 false), (40, .box [S x1.f0, I x1.f1, I x1.f2] false)] 24) ?_
    refine pN ?_
    refine pS ?_
    refine gR 5 (rg Try.f145 5) ?_
    refine sg 9 (mkE [(20, .own 160 0), (19, .agg [S x1.f0, I x1.f2, I x1.f1]), (18, I x1.f1), (17, .ba 40 1), (16, I x1.f2), (15, .ba 40 2), (14, S x1.f0), (13, .ba 40 0), (12, .own 24 0), (3, .own 24 0), (5, .ba 40 0), (6, LL a24 p0), (7, I (lenL p0)), (8, I z0.2)] [(160, RR 25 3 a24 ([(S24.mk x1.f0 x1.f2 x1.f1)] : List S24) 0 false), (24, RR 25 3 a24 z0.1 0 false), (40, .box [S x1.f0, I x1.f1, I x1.f2] false)] 24) ?_
    refine mo (some 21) (apO 22 25 3 32 24 a24 0 [160] (y := .own 160 0) (l2 := ([(S24.mk x1.f0 x1.f2 x1.f1)] : List S24))) (fun x2 => ?_)
    refine se (mkE [(3, .own 24 1), (6, LL a24 p0), (7, I (lenL p0)), (8, I z0.2)] [(24, RR 25 3 a24 x2 1 false)] 24) ?_
    refine pB ?_
    refine pN ?_
    refine pS ?_
    refine gR 6 (rg Try.f145 6) ?_
    refine se (mkE [(3, .own 24 1), (6, LL a24 p0), (7, I (lenL p0)), (8, I (addI .i64 z0.2 1))] [(24, RR 25 3 a24 x2 1 false)] 24) ?_
    exact pL
  · refine gX 0 ?_
    exact pL
noncomputable def T145 (p0 : (List S24)) : Option (List S24) := ((iter (L145_3 p0) ([], 0)).bind fun y3 => (some y3.2.2))
theorem B145 (C : Callee) (p0 : (List S24)) : runs Try.prog C (cfg.fn 145) (finFn Try.prog (cfg.fn 145).byval Try.f145) [] (execA Try.prog C (cfg.fn 145) (nr Try.f145 []) (frame0 [LL a24 p0] 24)) = (T145 p0).map (fun l => AV.fr 25 3 (List.map a24 l)) := by
  unfold T145
  refine gS 1 ?_
  refine gR 0 (rg Try.f145 0) ?_
  refine se (mkE [(0, LL a24 p0)] [] 24) ?_
  refine pN ?_
  refine pS ?_
  refine gS 2 ?_
  refine gR 1 (rg Try.f145 1) ?_
  refine se (mkE [(0, LL a24 p0), (3, .nils)] [] 24) ?_
  refine pN ?_
  refine pS ?_
  refine gS 7 ?_
  refine gS 3 ?_
  refine gR 2 (rg Try.f145 2) ?_
  refine sg 1 (mkE [(6, LL a24 p0), (0, LL a24 p0), (3, .nils)] [] 24) ?_
  refine eo 7 (I (lenL p0)) (lenE 22 a24 p0) ?_
  refine se (mkE [(3, .nils), (6, LL a24 p0), (7, I (lenL p0)), (8, I 0)] [] 24) ?_
  refine pN ?_
  refine pS ?_
  refine gB 0 ?_
  refine lo [(3, some (25, 3)), (6, none), (7, none), (8, none)] [] (L145_3 p0) (fun z0 : ((List S24) × Int) => (mkE [(3, .own 24 0), (6, LL a24 p0), (7, I (lenL p0)), (8, I z0.2)] [(24, RR 25 3 a24 z0.1 0 false)] 24)) (fun (x : (Int × Bool × (List S24))) => (.exit 0, (mkE [(3, .own 24 0), (6, LL a24 p0), (7, I (lenL p0)), (8, I x.1), (9, B x.2.1)] [(24, RR 25 3 a24 x.2.2 0 false)] 24))) ([], 0) (fun z => L145_3_ok C p0 z) ?_
  intro y3
  refine pH ?_
  refine pN ?_
  refine pS ?_
  refine gS 0 ?_
  refine gR 7 (rg Try.f145 7) ?_
  refine se (mkE [(2, .own 24 0)] [(24, RR 25 3 a24 y3.2.2 0 false)] 24) ?_
  refine pN ?_
  refine pS ?_
  refine gE ?_
  exact pL
theorem F145 (m : Nat) (hm : 1 ≤ m) (p0 : (List S24)) : callA Try.prog cfg m 145 [LL a24 p0] = (T145 p0).map (fun l => AV.fr 25 3 (List.map a24 l)) := by
  obtain ⟨q, rfl⟩ : ∃ q, m = q + 1 := ⟨m - 1, by omega⟩
  exact (callA_body (fn := Try.f145) (c := body_ Try.f145) q _ (by kernel_rfl) (by kernel_rfl) (by kernel_rfl)).trans (B145 _ p0)

noncomputable def T54 (p0 : (List S24)) (p1 : ByteArray) (p2 : Int) : Option (Int × Int) := ((T145 p0).bind fun x1 => ((T53 x1 p1 p2).bind fun x2 => (some (x2.1, x2.2))))
theorem B54 (C : Callee) (h145 : ∀ (p0 : (List S24)), C 145 [LL a24 p0] = (T145 p0).map (fun l => AV.fr 25 3 (List.map a24 l))) (h53 : ∀ (p0 : (List S24)) (p1 : ByteArray) (p2 : Int), C 53 [LL a24 p0, S p1, I p2] = (T53 p0 p1 p2).map (fun r => AV.tup [I r.1, I r.2])) (p0 : (List S24)) (p1 : ByteArray) (p2 : Int) : runs Try.prog C (cfg.fn 54) (finFn Try.prog (cfg.fn 54).byval Try.f54) [] (execA Try.prog C (cfg.fn 54) (nr Try.f54 []) (frame0 [LL a24 p0, S p1, I p2] 15)) = (T54 p0 p1 p2).map (fun r => AV.tup [I r.1, I r.2]) := by
  unfold T54
  refine gS 1 ?_
  refine gR 0 (rg Try.f54 0) ?_
  refine se (mkE [(0, LL a24 p0), (1, S p1), (2, I p2)] [] 15) ?_
  refine pN ?_
  refine pS ?_
  refine gS 0 ?_
  refine gR 1 (rg Try.f54 1) ?_
  refine sg 1 (mkE [(8, LL a24 p0), (0, LL a24 p0), (1, S p1), (2, I p2)] [] 15) ?_
  refine co 9 [] (h145 p0) (fun x1 => ?_)
  refine sg 4 (mkE [(11, I p2), (10, S p1), (9, .own 72 0), (8, LL a24 p0), (0, LL a24 p0), (1, S p1), (2, I p2)] [(72, RR 25 3 a24 x1 0 false)] 15) ?_
  refine co 12 [72] (h53 x1 p1 p2) (fun x2 => ?_)
  refine se (mkE [(6, I x2.1), (7, I x2.2)] [] 15) ?_
  refine pN ?_
  refine pS ?_
  refine gE ?_
  exact pL
theorem F54 (m : Nat) (hm : 6 ≤ m) (p0 : (List S24)) (p1 : ByteArray) (p2 : Int) : callA Try.prog cfg m 54 [LL a24 p0, S p1, I p2] = (T54 p0 p1 p2).map (fun r => AV.tup [I r.1, I r.2]) := by
  obtain ⟨q, rfl⟩ : ∃ q, m = q + 1 := ⟨m - 1, by omega⟩
  exact (callA_body (fn := Try.f54) (c := body_ Try.f54) q _ (by kernel_rfl) (by kernel_rfl) (by kernel_rfl)).trans (B54 _ (fun p0 => F145 q (by omega) p0) (fun p0 p1 p2 => F53 q (by omega) p0 p1 p2) p0 p1 p2)

noncomputable def L146_2 (p0 : Int) (p1 : Int) (z0 : (Int × Int)) : Option ((Int × Int) ⊕ (Int × Int × Bool)) := (bif (neI z0.2 0) then ((remO .i64 z0.1 z0.2).bind fun x1 => (some (.inl (z0.2, x1)))) else (some (.inr (z0.1, z0.2, (neI z0.2 0)))))
theorem L146_2_ok (C : Callee) (p0 : Int) (p1 : Int) (z0 : (Int × Int)) : runs Try.prog C (cfg.fn 146) (finLoop ((cfg.fn 146).keep 2) ((cfg.fn 146).al 2)) [] (execA Try.prog C (cfg.fn 146) (nr Try.f146 [false, false, false, true, true]) ((fun z0 : (Int × Int) => (mkE [(0, I p0), (1, I p1), (4, .ba 32 0), (5, I z0.1), (6, I z0.2)] [(32, .box [I 0, I 0] false)] 26)) z0)) = (L146_2 p0 p1 z0).map (Sum.elim (fun z => .inl ((fun z0 : (Int × Int) => (mkE [(0, I p0), (1, I p1), (4, .ba 32 0), (5, I z0.1), (6, I z0.2)] [(32, .box [I 0, I 0] false)] 26)) z)) (fun x => .inr ((fun (x : (Int × Int × Bool)) => (.exit 0, (mkE [(0, I p0), (1, I p1), (4, .ba 32 0), (5, I x.1), (6, I x.2.1), (10, B x.2.2)] [(32, .box [I 0, I 0] false)] 26))) x))) := by
  unfold L146_2
  refine gS 3 ?_
  refine gS 0 ?_
  refine gR 2 (rg Try.f146 2) ?_
  refine se (mkE [(0, I p0), (1, I p1), (4, .ba 32 0), (5, I z0.1), (6, I z0.2), (10, B (neI z0.2 0))] [(32, .box [I 0, I 0] false)] 26) ?_
  refine pN ?_
  refine pS ?_
  refine gC 10 (neI z0.2 0) ?_ ?_
  · refine gK ?_
    refine pN ?_
    refine pS ?_
    refine gB 1 ?_
    refine gD 3 6 (rg Try.f146 3) [0, 1, 2, 3, 4, 5] ?_
    refine dg 3 [(some 11, qe (I z0.2)), (some 12, qe (I z0.1)), (some 13, qe (I z0.2))] ?_
    refine dv 14 (mkE [(13, I z0.2), (12, I z0.1), (0, I p0), (1, I p1), (4, .ba 32 0), (5, I z0.1), (6, I z0.2), (10, B (neI z0.2 0))] [(32, .box [I 0, I 0] false)] 26) (remE 3 .i64 (.tmp 12) (.tmp 13) z0.1 z0.2) (fun x1 => ?_)
    refine dg 6 [(some 11, qe (I z0.2)), (some 12, qe (I z0.1)), (some 13, qe (I z0.2)), (some 14, qe (I x1)), (some 5, qe (I z0.2)), (some 6, qe (I x1))] ?_
    refine de (mkE [(6, I x1), (5, I z0.2), (14, I x1), (13, I z0.2), (12, I z0.1), (11, I z0.2), (0, I p0), (1, I p1), (4, .ba 32 0), (5, I z0.1), (6, I z0.2), (10, B (neI z0.2 0))] [(32, .box [I 0, I 0] false)] 26) ?_
    refine se (mkE [(0, I p0), (1, I p1), (4, .ba 32 0), (5, I z0.2), (6, I x1)] [(32, .box [I 0, I 0] false)] 26) ?_
    refine pB ?_
    exact pL
  · refine gX 0 ?_
    exact pL
noncomputable def T146 (p0 : Int) (p1 : Int) : Option S79 := ((iter (L146_2 p0 p1) (p0, p1)).bind fun y2 => (bif (ltI y2.1 0) then ((quoO .i64 p0 (subI .i64 0 y2.1)).bind fun x3 => ((quoO .i64 p1 (subI .i64 0 y2.1)).bind fun x4 => (some (S79.mk x3 x4)))) else ((quoO .i64 p0 y2.1).bind fun x5 => ((quoO .i64 p1 y2.1).bind fun x6 => (some (S79.mk x5 x6))))))
theorem B146 (C : Callee) (p0 : Int) (p1 : Int) : runs Try.prog C (cfg.fn 146) (finFn Try.prog (cfg.fn 146).byval Try.f146) [] (execA Try.prog C (cfg.fn 146) (nr Try.f146 []) (frame0 [I p0, I p1] 26)) = (T146 p0 p1).map a79 := by
  unfold T146
  refine gS 1 ?_
  refine gR 0 (rg Try.f146 0) ?_
  refine se (mkE [(0, I p0), (1, I p1), (4, .ba 32 0)] [(32, .box [I 0, I 0] false)] 26) ?_
  refine pN ?_
  refine pS ?_
  refine gS 2 ?_
  refine gR 1 (rg Try.f146 1) ?_
  refine se (mkE [(0, I p0), (1, I p1), (4, .ba 32 0), (5, I p0), (6, I p1)] [(32, .box [I 0, I 0] false)] 26) ?_
  refine pN ?_
  refine pS ?_
  refine gS 4 ?_
  refine gB 0 ?_
  refine lo [(0, none), (1, none), (4, none), (5, none), (6, none)] [] (L146_2 p0 p1) (fun z0 : (Int × Int) => (mkE [(0, I p0), (1, I p1), (4, .ba 32 0), (5, I z0.1), (6, I z0.2)] [(32, .box [I 0, I 0] false)] 26)) (fun (x : (Int × Int × Bool)) => (.exit 0, (mkE [(0, I p0), (1, I p1), (4, .ba 32 0), (5, I x.1), (6, I x.2.1), (10, B x.2.2)] [(32, .box [I 0, I 0] false)] 26))) (p0, p1) (fun z => L146_2_ok C p0 p1 z) ?_
  intro y2
  refine pH ?_
  refine pN ?_
  refine pS ?_
  refine gS 6 ?_
  refine gS 0 ?_
  refine gR 4 (rg Try.f146 4) ?_
  refine se (mkE [(0, I p0), (1, I p1), (4, .ba 32 0), (5, I y2.1), (16, B (ltI y2.1 0))] [(32, .box [I 0, I 0] false)] 26) ?_
  refine pN ?_
  refine pS ?_
  refine gC 16 (ltI y2.1 0) ?_ ?_
  · refine gR 5 (rg Try.f146 5) ?_
    refine se (mkE [(0, I p0), (1, I p1), (4, .ba 32 0), (5, I (subI .i64 0 y2.1))] [(32, .box [I 0, I 0] false)] 26) ?_
    refine pN ?_
    refine pS ?_
    refine gS 0 ?_
    refine gD 6 7 (rg Try.f146 6) [0, 1, 2, 3, 4, 5, 6, 7] ?_
    refine dg 2 [(some 19, qe (I p0)), (some 20, qe (I (subI .i64 0 y2.1)))] ?_
    refine dv 21 (mkE [(20, I (subI .i64 0 y2.1)), (19, I p0), (0, I p0), (1, I p1), (4, .ba 32 0), (5, I (subI .i64 0 y2.1))] [(32, .box [I 0, I 0] false)] 26) (quoE 3 .i64 (.tmp 19) (.tmp 20) p0 (subI .i64 0 y2.1)) (fun x3 => ?_)
    refine dg 5 [(some 19, qe (I p0)), (some 20, qe (I (subI .i64 0 y2.1))), (some 21, qe (I x3)), (some 22, qe (I p1)), (some 23, qe (I (subI .i64 0 y2.1)))] ?_
    refine dv 24 (mkE [(23, I (subI .i64 0 y2.1)), (22, I p1), (0, I p0), (1, I p1), (4, .ba 32 0), (5, I (subI .i64 0 y2.1))] [(32, .box [I 0, I 0] false)] 26) (quoE 3 .i64 (.tmp 22) (.tmp 23) p1 (subI .i64 0 y2.1)) (fun x4 => ?_)
    refine dg 7 [(some 19, qe (I p0)), (some 20, qe (I (subI .i64 0 y2.1))), (some 21, qe (I x3)), (some 22, qe (I p1)), (some 23, qe (I (subI .i64 0 y2.1))), (some 24, qe (I x4)), (some 25, qe (.agg [I x3, I x4]))] ?_
    refine de (mkE [(25, .agg [I x3, I x4]), (24, I x4), (23, I (subI .i64 0 y2.1)), (22, I p1), (21, I x3), (20, I (subI .i64 0 y2.1)), (19, I p0), (0, I p0), (1, I p1), (4, .ba 32 0), (5, I (subI .i64 0 y2.1))] [(32, .box [I 0, I 0] false)] 26) ?_
    refine se (mkE [(4, .ba 32 0)] [(32, .box [I x3, I x4] false)] 26) ?_
    refine pN ?_
    refine pS ?_
    refine gE ?_
    exact pL
  · refine gK ?_
    refine pN ?_
    refine pS ?_
    refine gS 0 ?_
    refine gD 6 7 (rg Try.f146 6) [0, 1, 2, 3, 4, 5, 6, 7] ?_
    refine dg 2 [(some 19, qe (I p0)), (some 20, qe (I y2.1))] ?_
    refine dv 21 (mkE [(20, I y2.1), (19, I p0), (0, I p0), (1, I p1), (4, .ba 32 0), (5, I y2.1), (16, B (ltI y2.1 0))] [(32, .box [I 0, I 0] false)] 26) (quoE 3 .i64 (.tmp 19) (.tmp 20) p0 y2.1) (fun x5 => ?_)
    refine dg 5 [(some 19, qe (I p0)), (some 20, qe (I y2.1)), (some 21, qe (I x5)), (some 22, qe (I p1)), (some 23, qe (I y2.1))] ?_
    refine dv 24 (mkE [(23, I y2.1), (22, I p1), (0, I p0), (1, I p1), (4, .ba 32 0), (5, I y2.1), (16, B (ltI y2.1 0))] [(32, .box [I 0, I 0] false)] 26) (quoE 3 .i64 (.tmp 22) (.tmp 23) p1 y2.1) (fun x6 => ?_)
    refine dg 7 [(some 19, qe (I p0)), (some 20, qe (I y2.1)), (some 21, qe (I x5)), (some 22, qe (I p1)), (some 23, qe (I y2.1)), (some 24, qe (I x6)), (some 25, qe (.agg [I x5, I x6]))] ?_
    refine de (mkE [(25, .agg [I x5, I x6]), (24, I x6), (23, I y2.1), (22, I p1), (21, I x5), (20, I y2.1), (19, I p0), (0, I p0), (1, I p1), (4, .ba 32 0), (5, I y2.1), (16, B (ltI y2.1 0))] [(32, .box [I 0, I 0] false)] 26) ?_
    refine se (mkE [(4, .ba 32 0)] [(32, .box [I x5, I x6] false)] 26) ?_
    refine pN ?_
    refine pS ?_
    refine gE ?_
    exact pL
theorem F146 (m : Nat) (hm : 1 ≤ m) (p0 : Int) (p1 : Int) : callA Try.prog cfg m 146 [I p0, I p1] = (T146 p0 p1).map a79 := by
  obtain ⟨q, rfl⟩ : ∃ q, m = q + 1 := ⟨m - 1, by omega⟩
  exact (callA_body (fn := Try.f146) (c := body_ Try.f146) q _ (by kernel_rfl) (by kernel_rfl) (by kernel_rfl)).trans (B146 _ p0 p1)

noncomputable def T55 (p0 : (List S24)) (p1 : ByteArray) : Option (S79 × Bool) := ((T144 p0 p1).bind fun x1 => (bif (ltI (lenL x1) 2) then (some ((S79.mk 0 0), false)) else ((idxO (List.length x1) 0).bind fun x2 => ((getN x1 x2).bind fun x3 => ((idxO (List.length x1) (subI .i64 (lenL x1) 1)).bind fun x4 => ((getN x1 x4).bind fun x5 => ((T146 (subI .i64 (subI .i64 x5.f2 x3.f2) (subI .i64 x5.f1 x3.f1)) (subI .i64 x5.f1 x3.f1)).bind fun x6 => (some (x6, true)))))))))
theorem B55 (C : Callee) (h144 : ∀ (p0 : (List S24)) (p1 : ByteArray), C 144 [LL a24 p0, S p1] = (T144 p0 p1).map (fun l => AV.fr 25 3 (List.map a24 l))) (h146 : ∀ (p0 : Int) (p1 : Int), C 146 [I p0, I p1] = (T146 p0 p1).map a79) (p0 : (List S24)) (p1 : ByteArray) : runs Try.prog C (cfg.fn 55) (finFn Try.prog (cfg.fn 55).byval Try.f55) [] (execA Try.prog C (cfg.fn 55) (nr Try.f55 []) (frame0 [LL a24 p0, S p1] 42)) = (T55 p0 p1).map (fun r => AV.tup [a79 r.1, B r.2]) := by
  unfold T55
  refine gS 1 ?_
  refine gR 0 (rg Try.f55 0) ?_
  refine se (mkE [(0, LL a24 p0), (1, S p1), (4, .ba 32 0)] [(32, .box [I 0, I 0] false)] 42) ?_
  refine pN ?_
  refine pS ?_
  refine gS 2 ?_
  refine gR 1 (rg Try.f55 1) ?_
  refine sg 2 (mkE [(10, S p1), (9, LL a24 p0), (0, LL a24 p0), (1, S p1), (4, .ba 32 0)] [(32, .box [I 0, I 0] false)] 42) ?_
  refine co 11 [] (h144 p0 p1) (fun x1 => ?_)
  refine se (mkE [(4, .ba 32 0), (6, .own 88 0)] [(32, .box [I 0, I 0] false), (88, RR 25 3 a24 x1 0 false)] 42) ?_
  refine pN ?_
  refine pS ?_
  refine gS 4 ?_
  refine gS 0 ?_
  refine gR 2 (rg Try.f55 2) ?_
  refine sg 1 (mkE [(12, .own 88 0), (4, .ba 32 0), (6, .own 88 0)] [(32, .box [I 0, I 0] false), (88, RR 25 3 a24 x1 0 false)] 42) ?_
  refine eo 13 (I (lenL x1)) (lenOE 22 25 3 a24 x1) ?_
  refine se (mkE [(4, .ba 32 0), (6, .own 88 0), (14, B (ltI (lenL x1) 2))] [(32, .box [I 0, I 0] false), (88, RR 25 3 a24 x1 0 false)] 42) ?_
  refine pN ?_
  refine pS ?_
  refine gC 14 (ltI (lenL x1) 2) ?_ ?_
  · refine gS 0 ?_
    refine gR 3 (rg Try.f55 3) ?_
    refine se (mkE [(4, .ba 32 0), (5, B false)] [(32, .box [I 0, I 0] false)] 42) ?_
    refine pN ?_
    refine pS ?_
    refine gE ?_
    exact pL
  · refine gK ?_
    refine pN ?_
    refine pS ?_
    refine gS 5 ?_
    refine gD 4 12 (rg Try.f55 4) [0, 1, 2, 3, 4, 5, 6, 7, 8, 9, 10, 11, 12] ?_
    refine dg 1 [(some 16, qe (.own 88 0))] ?_
    refine dv 17 (mkE [(16, .own 88 0), (4, .ba 32 0), (6, .own 88 0), (14, B (ltI (lenL x1) 2))] [(32, .box [I 0, I 0] false), (88, RR 25 3 a24 x1 0 false)] 42) (addrOE 22 25 3 88 0 false a24 .i64 x1 0) (fun x2 => ?_)
    refine dv 18 (mkE [(17, .oa 88 0 x2 0), (16, .own 88 0), (4, .ba 32 0), (6, .own 88 0), (14, B (ltI (lenL x1) 2))] [(32, .box [I 0, I 0] false), (88, RR 25 3 a24 x1 0 false)] 42) (loadOE 25 88 0 x2 0 25 3 3 true false a24 (fun q : S24 => a24 q) x1) (fun x3 => ?_)
    refine dg 5 [(some 16, qe (.own 88 0)), (some 17, qe (.oa 88 0 x2 0)), (some 18, qe (a24 x3)), (some 19, qe (.own 88 0)), (some 20, qe (.own 88 0))] ?_
    refine df 21 (I (lenL x1)) (mkE [(20, .own 88 0), (4, .ba 32 0), (6, .own 88 0), (14, B (ltI (lenL x1) 2))] [(32, .box [I 0, I 0] false), (88, RR 25 3 a24 x1 0 false)] 42) (lenOE 22 25 3 a24 x1) ?_
    refine dg 7 [(some 16, qe (.own 88 0)), (some 17, qe (.oa 88 0 x2 0)), (some 18, qe (a24 x3)), (some 19, qe (.own 88 0)), (some 20, qe (.own 88 0)), (some 21, qe (I (lenL x1))), (some 22, qe (I (subI .i64 (lenL x1) 1)))] ?_
    refine dv 23 (mkE [(22, I (subI .i64 (lenL x1) 1)), (21, I (lenL x1)), (20, .own 88 0), (19, .own 88 0), (4, .ba 32 0), (6, .own 88 0), (14, B (ltI (lenL x1) 2))] [(32, .box [I 0, I 0] false), (88, RR 25 3 a24 x1 0 false)] 42) (addrOE 22 25 3 88 0 false a24 .i64 x1 (subI .i64 (lenL x1) 1)) (fun x4 => ?_)
    refine dv 24 (mkE [(23, .oa 88 0 x4 0), (22, I (subI .i64 (lenL x1) 1)), (21, I (lenL x1)), (20, .own 88 0), (19, .own 88 0), (4, .ba 32 0), (6, .own 88 0), (14, B (ltI (lenL x1) 2))] [(32, .box [I 0, I 0] false), (88, RR 25 3 a24 x1 0 false)] 42) (loadOE 25 88 0 x4 0 25 3 3 true false a24 (fun q : S24 => a24 q) x1) (fun x5 => ?_)
    refine dg 12 [(some 16, qe (.own 88 0)), (some 17, qe (.oa 88 0 x2 0)), (some 18, qe (a24 x3)), (some 19, qe (.own 88 0)), (some 20, qe (.own 88 0)), (some 21, qe (I (lenL x1))), (some 22, qe (I (subI .i64 (lenL x1) 1))), (some 23, qe (.oa 88 0 x4 0)), (some 24, qe (a24 x5)), (some 7, { e := { val := .ba 56 0, news := [(56, .box [S (ByteArray.mk #[]), I 0, I 0] false)] } }), (some 8, { e := { val := .ba 64 0, news := [(64, .box [S (ByteArray.mk #[]), I 0, I 0] false)] } }), (none, { e := { val := .und }, st := some (56, .box [S x3.f0, I x3.f1, I x3.f2] false, 0, 3) })] ?_
    refine de (mkE [(8, .ba 64 0), (7, .ba 56 0), (24, a24 x5), (23, .oa 88 0 x4 0), (22, I (subI .i64 (lenL x1) 1)), (21, I (lenL x1)), (20, .own 88 0), (19, .own 88 0), (18, a24 x3), (17, .oa 88 0 x2 0), (16, .own 88 0), (4, .ba 32 0), (6, .own 88 0), (14, B (ltI (lenL x1) 2))] [(56, .box [S x3.f0, I x3.f1, I x3.f2] false), (64, .box [S (ByteArray.mk #[]), I 0, I 0] false), (56, .box [S (ByteArray.mk #[]), I 0, I 0] false), (32, .box [I 0, I 0] false), (88, RR 25 3 a24 x1 0 false)] 42) ?_
    refine se (mkE [(4, .ba 32 0), (7, .ba 56 0), (8, .ba 64 0)] [(32, .box [I 0, I 0] false), (56, .box [S x3.f0, I x3.f1, I x3.f2] false), (64, .box [S x5.f0, I x5.f1, I x5.f2] false)] 42) ?_
    refine pN ?_
    refine pS ?_
    refine gS 0 ?_
    refine gR 5 (rg Try.f55 5) ?_
    refine sg 16 (mkE [(40, I (subI .i64 x5.f1 x3.f1)), (39, I x3.f1), (38, .ba 56 1), (37, I x5.f1), (36, .ba 64 1), (35, I (subI .i64 (subI .i64 x5.f2 x3.f2) (subI .i64 x5.f1 x3.f1))), (34, I (subI .i64 x5.f1 x3.f1)), (33, I x3.f1), (32, .ba 56 1), (31, I x5.f1), (30, .ba 64 1), (29, I (subI .i64 x5.f2 x3.f2)), (28, I x3.f2), (27, .ba 56 2), (26, I x5.f2), (25, .ba 64 2), (4, .ba 32 0), (7, .ba 56 0), (8, .ba 64 0)] [(32, .box [I 0, I 0] false), (56, .box [S x3.f0, I x3.f1, I x3.f2] false), (64, .box [S x5.f0, I x5.f1, I x5.f2] false)] 42) ?_
    refine co 41 [] (h146 (subI .i64 (subI .i64 x5.f2 x3.f2) (subI .i64 x5.f1 x3.f1)) (subI .i64 x5.f1 x3.f1)) (fun x6 => ?_)
    refine se (mkE [(4, .ba 32 0), (5, B true)] [(32, .box [I x6.f0, I x6.f1] false)] 42) ?_
    refine pN ?_
    refine pS ?_
    refine gE ?_
    exact pL
theorem F55 (m : Nat) (hm : 5 ≤ m) (p0 : (List S24)) (p1 : ByteArray) : callA Try.prog cfg m 55 [LL a24 p0, S p1] = (T55 p0 p1).map (fun r => AV.tup [a79 r.1, B r.2]) := by
  obtain ⟨q, rfl⟩ : ∃ q, m = q + 1 := ⟨m - 1, by omega⟩
  exact (callA_body (fn := Try.f55) (c := body_ Try.f55) q _ (by kernel_rfl) (by kernel_rfl) (by kernel_rfl)).trans (B55 _ (fun p0 p1 => F144 q (by omega) p0 p1) (fun p0 p1 => F146 q (by omega) p0 p1) p0 p1)

noncomputable def T56 : Option Bool := ((T44 ([(S24.mk (ByteArray.mk #[112]) 0 100), (S24.mk (ByteArray.mk #[112]) 1000 1300)] : List S24) (ByteArray.mk #[112]) 700).bind fun x1 => (bif (eqI x1.2 0) then (some (eqI x1.1 500)) else (some false)))
theorem B56 (C : Callee) (h44 : ∀ (p0 : (List S24)) (p1 : ByteArray) (p2 : Int), C 44 [LL a24 p0, S p1, I p2] = (T44 p0 p1 p2).map (fun r => AV.tup [I r.1, I r.2])) : runs Try.prog C (cfg.fn 56) (finFn Try.prog (cfg.fn 56).byval Try.f56) [] (execA Try.prog C (cfg.fn 56) (nr Try.f56 []) (frame0 [] 16)) = (T56).map B := by
  unfold T56
  refine gS 1 ?_
  refine gR 0 (rg Try.f56 0) ?_
  refine se (mkE [] [] 16) ?_
  refine pN ?_
  refine pS ?_
  refine gS 2 ?_
  refine gR 1 (rg Try.f56 1) ?_
  refine sg 3 (mkE [(6, .own 48 0), (5, .agg [S (ByteArray.mk #[112]), I 1000, I 1300]), (4, .agg [S (ByteArray.mk #[112]), I 0, I 100])] [(48, RR 25 3 a24 ([(S24.mk (ByteArray.mk #[112]) 0 100), (S24.mk (ByteArray.mk #[112]) 1000 1300)] : List S24) 0 false)] 16) ?_
  refine co 7 [48] (h44 ([(S24.mk (ByteArray.mk #[112]) 0 100), (S24.mk (ByteArray.mk #[112]) 1000 1300)] : List S24) (ByteArray.mk #[112]) 700) (fun x1 => ?_)
  refine se (mkE [(1, I x1.1), (2, I x1.2)] [] 16) ?_
  refine pN ?_
  refine pS ?_
  refine gS 0 ?_
  refine gR 2 (rg Try.f56 2) ?_
  refine sg 3 (mkE [(12, B (eqI x1.2 0)), (11, B (eqI x1.2 0)), (10, I x1.2), (1, I x1.1), (2, I x1.2)] [] 16) ?_
  refine sb 12 (eqI x1.2 0) ?_ ?_
  · refine se (mkE [(0, B (eqI x1.1 500))] [] 16) ?_
    refine pN ?_
    refine pS ?_
    refine gE ?_
    exact pL
  · refine se (mkE [(0, B false)] [] 16) ?_
    refine pN ?_
    refine pS ?_
    refine gE ?_
    exact pL
theorem F56 (m : Nat) (hm : 7 ≤ m) : callA Try.prog cfg m 56 [] = (T56).map B := by
  obtain ⟨q, rfl⟩ : ∃ q, m = q + 1 := ⟨m - 1, by omega⟩
  exact (callA_body (fn := Try.f56) (c := body_ Try.f56) q _ (by kernel_rfl) (by kernel_rfl) (by kernel_rfl)).trans (B56 _ (fun p0 p1 p2 => F44 q (by omega) p0 p1 p2))

end Go.Abs.TC
