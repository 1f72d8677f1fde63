import Derived.Test.YtpakkikhfkhebaaSTS0
set_option maxRecDepth 100000
set_option linter.unusedVariables false
namespace Go.Abs.TS
open Go.RowKit Go.Proofs Go.Abs
theorem F7 (m : Nat) (hm : 1 ≤ m) (p0 : (List S31)) : callA Try.prog cfg m 7 [LL a31 p0] = (appO 56 ([] : List S31) p0).map (fun l => AV.fr 32 6 (List.map a31 l)) := by
  obtain ⟨q, rfl⟩ : ∃ q, m = q + 1 := ⟨m - 1, by omega⟩
  exact (callA_leaf (L := (leafClone Try.prog 32 6 56)) _ _ (by kernel_rfl)).trans (clone_leaf a31 _ _ (fun _ => by kernel_rfl))

noncomputable def T4 (p0 : S23) : Option S23 := ((appO 56 ([] : List S31) p0.f3).bind fun x1 => (some (S23.mk p0.f0 p0.f1 p0.f2 x1)))
theorem B4 (C : Callee) (h7 : ∀ (p0 : (List S31)), C 7 [LL a31 p0] = (appO 56 ([] : List S31) p0).map (fun l => AV.fr 32 6 (List.map a31 l))) (p0 : S23) : runs Try.prog C (cfg.fn 4) (finFn Try.prog (cfg.fn 4).byval Try.f4) [] (execA Try.prog C (cfg.fn 4) (nr Try.f4 []) (frame0 [a23 p0] 8 false)) = (T4 p0).map a23 := by
  unfold T4
  refine gS 1 ?_
  refine gR 0 (rg Try.f4 0) ?_
  refine se (mkE [(1, .ba 8 0), (2, .ba 16 0)] [(8, .box [S p0.f0, I p0.f1, I p0.f2, LL a31 p0.f3] false), (16, .box [S (ByteArray.mk #[]), I 0, I 0, .nils] false)] 8) ?_
  refine pN ?_
  refine pS ?_
  refine gS 2 ?_
  refine gR 1 (rg Try.f4 1) ?_
  refine sg 2 (mkE [(4, LL a31 p0.f3), (3, .ba 8 3), (1, .ba 8 0), (2, .ba 16 0)] [(8, .box [S p0.f0, I p0.f1, I p0.f2, LL a31 p0.f3] false), (16, .box [S (ByteArray.mk #[]), I 0, I 0, .nils] false)] 8) ?_
  refine co 5 [] (h7 p0.f3) (fun x1 => ?_)
  refine se (mkE [(1, .ba 8 0), (2, .ba 16 0)] [(8, .box [S p0.f0, I p0.f1, I p0.f2, .own 40 0] false), (16, .box [S (ByteArray.mk #[]), I 0, I 0, .nils] false), (40, RR 32 6 a31 x1 0 false)] 8) ?_
  refine pN ?_
  refine pS ?_
  refine gS 0 ?_
  refine gR 2 (rg Try.f4 2) ?_
  refine se (mkE [(2, .ba 16 0)] [(16, .box [S p0.f0, I p0.f1, I p0.f2, .own 40 0] false), (40, RR 32 6 a31 x1 0 false)] 8) ?_
  refine pN ?_
  refine pS ?_
  refine gE ?_
  exact pL
theorem F4 (m : Nat) (hm : 2 ≤ m) (p0 : S23) : callA Try.prog cfg m 4 [a23 p0] = (T4 p0).map a23 := by
  obtain ⟨q, rfl⟩ : ∃ q, m = q + 1 := ⟨m - 1, by omega⟩
  exact (callA_body (fn := Try.f4) (c := body_ Try.f4) q _ (by kernel_rfl) (by kernel_rfl) (by kernel_rfl)).trans (B4 _ (fun p0 => F7 q (by omega) p0) p0)

noncomputable def L33_2 (p0 : ByteArray) (z0 : Int) : Option (Int ⊕ ((Int × Bool) ⊕ Unit)) := (bif (ltI z0 (lenS p0)) then ((byteAt p0 z0).bind fun x1 => (bif (leI 97 x1) then (bif (leI x1 122) then (some (.inl (addI .i64 z0 1))) else (bif (ltI 0 z0) then (bif (leI 48 x1) then (bif (leI x1 57) then (some (.inl (addI .i64 z0 1))) else (bif (eqI x1 45) then (some (.inl (addI .i64 z0 1))) else (bif (!(eqI x1 95)) then (some (.inr (.inr ()))) else (some (.inl (addI .i64 z0 1)))))) else (bif (eqI x1 45) then (some (.inl (addI .i64 z0 1))) else (bif (!(eqI x1 95)) then (some (.inr (.inr ()))) else (some (.inl (addI .i64 z0 1)))))) else (some (.inr (.inr ()))))) else (bif (ltI 0 z0) then (bif (leI 48 x1) then (bif (leI x1 57) then (some (.inl (addI .i64 z0 1))) else (bif (eqI x1 45) then (some (.inl (addI .i64 z0 1))) else (bif (!(eqI x1 95)) then (some (.inr (.inr ()))) else (some (.inl (addI .i64 z0 1)))))) else (bif (eqI x1 45) then (some (.inl (addI .i64 z0 1))) else (bif (!(eqI x1 95)) then (some (.inr (.inr ()))) else (some (.inl (addI .i64 z0 1)))))) else (some (.inr (.inr ())))))) else (some (.inr (.inl (z0, (ltI z0 (lenS p0)))))))
theorem L33_2_ok (C : Callee) (p0 : ByteArray) (z0 : Int) : runs Try.prog C (cfg.fn 33) (finLoop ((cfg.fn 33).keep 2) ((cfg.fn 33).al 2)) [] (execA Try.prog C (cfg.fn 33) (nr Try.f33 [false, false, true, false, true]) ((fun z0 : Int => (mkE [(0, S p0), (3, I z0)] [] 48)) z0)) = (L33_2 p0 z0).map (Sum.elim (fun z => .inl ((fun z0 : Int => (mkE [(0, S p0), (3, I z0)] [] 48)) z)) (fun x => .inr ((Sum.elim (fun (x : (Int × Bool)) => (.exit 0, (mkE [(0, S p0), (3, I x.1), (8, B x.2)] [] 48))) (fun (x : Unit) => (.ret, (mkE [(2, B false)] [] 48)))) x))) := by
  unfold L33_2
  refine gS 4 ?_
  refine gS 0 ?_
  refine gR 2 (rg Try.f33 2) ?_
  refine se (mkE [(0, S p0), (3, I z0), (8, B (ltI z0 (lenS p0)))] [] 48) ?_
  refine pN ?_
  refine pS ?_
  refine gC 8 (ltI z0 (lenS p0)) ?_ ?_
  · refine gK ?_
    refine pN ?_
    refine pS ?_
    refine gS 3 ?_
    refine gB 1 ?_
    refine gS 5 ?_
    refine gR 4 (rg Try.f33 4) ?_
    refine sg 2 (mkE [(12, I z0), (11, S p0), (0, S p0), (3, I z0), (8, B (ltI z0 (lenS p0)))] [] 48) ?_
    refine vo 13 (byteE 9 .i64 p0 z0) (fun x1 => ?_)
    refine se (mkE [(0, S p0), (3, I z0), (4, U x1)] [] 48) ?_
    refine pN ?_
    refine pS ?_
    refine gS 0 ?_
    refine gR 5 (rg Try.f33 5) ?_
    refine sg 3 (mkE [(16, B (leI 97 x1)), (15, B (leI 97 x1)), (14, U x1), (0, S p0), (3, I z0), (4, U x1)] [] 48) ?_
    refine sb 16 (leI 97 x1) ?_ ?_
    · refine sg 7 (mkE [(20, B (leI x1 122)), (19, B (leI x1 122)), (18, B (leI x1 122)), (17, U x1), (16, B true), (16, B (leI 97 x1)), (15, B (leI 97 x1)), (14, U x1), (0, S p0), (3, I z0), (4, U x1)] [] 48) ?_
      refine sb 20 (leI x1 122) ?_ ?_
      · refine se (mkE [(0, S p0), (3, I z0), (40, B false)] [] 48) ?_
        refine pN ?_
        refine pS ?_
        refine gF (.tmp 40) ?_
        refine gK ?_
        refine pB ?_
        refine pN ?_
        refine pS ?_
        refine gR 3 (rg Try.f33 3) ?_
        refine se (mkE [(0, S p0), (3, I (addI .i64 z0 1))] [] 48) ?_
        exact pL
      · refine sg 10 (mkE [(23, B (ltI 0 z0)), (22, B (ltI 0 z0)), (21, I z0), (20, B false), (20, B (leI x1 122)), (19, B (leI x1 122)), (18, B (leI x1 122)), (17, U x1), (16, B true), (16, B (leI 97 x1)), (15, B (leI 97 x1)), (14, U x1), (0, S p0), (3, I z0), (4, U x1)] [] 48) ?_
        refine sb 23 (ltI 0 z0) ?_ ?_
        · refine sg 13 (mkE [(26, B (leI 48 x1)), (25, B (leI 48 x1)), (24, U x1), (23, B true), (23, B (ltI 0 z0)), (22, B (ltI 0 z0)), (21, I z0), (20, B false), (20, B (leI x1 122)), (19, B (leI x1 122)), (18, B (leI x1 122)), (17, U x1), (16, B true), (16, B (leI 97 x1)), (15, B (leI 97 x1)), (14, U x1), (0, S p0), (3, I z0), (4, U x1)] [] 48) ?_
          refine sb 26 (leI 48 x1) ?_ ?_
          · refine sg 17 (mkE [(30, B (leI x1 57)), (29, B (leI x1 57)), (28, B (leI x1 57)), (27, U x1), (26, B true), (26, B (leI 48 x1)), (25, B (leI 48 x1)), (24, U x1), (23, B true), (23, B (ltI 0 z0)), (22, B (ltI 0 z0)), (21, I z0), (20, B false), (20, B (leI x1 122)), (19, B (leI x1 122)), (18, B (leI x1 122)), (17, U x1), (16, B true), (16, B (leI 97 x1)), (15, B (leI 97 x1)), (14, U x1), (0, S p0), (3, I z0), (4, U x1)] [] 48) ?_
            refine sb 30 (leI x1 57) ?_ ?_
            · refine se (mkE [(0, S p0), (3, I z0), (40, B false)] [] 48) ?_
              refine pN ?_
              refine pS ?_
              refine gF (.tmp 40) ?_
              refine gK ?_
              refine pB ?_
              refine pN ?_
              refine pS ?_
              refine gR 3 (rg Try.f33 3) ?_
              refine se (mkE [(0, S p0), (3, I (addI .i64 z0 1))] [] 48) ?_
              exact pL
            · refine sg 21 (mkE [(34, B (eqI x1 45)), (33, B (eqI x1 45)), (32, B (eqI x1 45)), (31, U x1), (30, B false), (30, B (leI x1 57)), (29, B (leI x1 57)), (28, B (leI x1 57)), (27, U x1), (26, B true), (26, B (leI 48 x1)), (25, B (leI 48 x1)), (24, U x1), (23, B true), (23, B (ltI 0 z0)), (22, B (ltI 0 z0)), (21, I z0), (20, B false), (20, B (leI x1 122)), (19, B (leI x1 122)), (18, B (leI x1 122)), (17, U x1), (16, B true), (16, B (leI 97 x1)), (15, B (leI 97 x1)), (14, U x1), (0, S p0), (3, I z0), (4, U x1)] [] 48) ?_
              refine sb 34 (eqI x1 45) ?_ ?_
              · refine se (mkE [(0, S p0), (3, I z0), (40, B false)] [] 48) ?_
                refine pN ?_
                refine pS ?_
                refine gF (.tmp 40) ?_
                refine gK ?_
                refine pB ?_
                refine pN ?_
                refine pS ?_
                refine gR 3 (rg Try.f33 3) ?_
                refine se (mkE [(0, S p0), (3, I (addI .i64 z0 1))] [] 48) ?_
                exact pL
              · refine se (mkE [(0, S p0), (3, I z0), (40, B (!(eqI x1 95)))] [] 48) ?_
                refine pN ?_
                refine pS ?_
                refine gC 40 (!(eqI x1 95)) ?_ ?_
                · refine gS 0 ?_
                  refine gR 6 (rg Try.f33 6) ?_
                  refine se (mkE [(2, B false)] [] 48) ?_
                  refine pN ?_
                  refine pS ?_
                  refine gE ?_
                  exact pL
                · refine gK ?_
                  refine pB ?_
                  refine pN ?_
                  refine pS ?_
                  refine gR 3 (rg Try.f33 3) ?_
                  refine se (mkE [(0, S p0), (3, I (addI .i64 z0 1))] [] 48) ?_
                  exact pL
          · refine sg 21 (mkE [(34, B (eqI x1 45)), (33, B (eqI x1 45)), (32, B (eqI x1 45)), (31, U x1), (30, B false), (29, B false), (28, .und), (27, .und), (26, B false), (26, B (leI 48 x1)), (25, B (leI 48 x1)), (24, U x1), (23, B true), (23, B (ltI 0 z0)), (22, B (ltI 0 z0)), (21, I z0), (20, B false), (20, B (leI x1 122)), (19, B (leI x1 122)), (18, B (leI x1 122)), (17, U x1), (16, B true), (16, B (leI 97 x1)), (15, B (leI 97 x1)), (14, U x1), (0, S p0), (3, I z0), (4, U x1)] [] 48) ?_
            refine sb 34 (eqI x1 45) ?_ ?_
            · refine se (mkE [(0, S p0), (3, I z0), (40, B false)] [] 48) ?_
              refine pN ?_
              refine pS ?_
              refine gF (.tmp 40) ?_
              refine gK ?_
              refine pB ?_
              refine pN ?_
              refine pS ?_
              refine gR 3 (rg Try.f33 3) ?_
              refine se (mkE [(0, S p0), (3, I (addI .i64 z0 1))] [] 48) ?_
              exact pL
            · refine se (mkE [(0, S p0), (3, I z0), (40, B (!(eqI x1 95)))] [] 48) ?_
              refine pN ?_
              refine pS ?_
              refine gC 40 (!(eqI x1 95)) ?_ ?_
              · refine gS 0 ?_
                refine gR 6 (rg Try.f33 6) ?_
                refine se (mkE [(2, B false)] [] 48) ?_
                refine pN ?_
                refine pS ?_
                refine gE ?_
                exact pL
              · refine gK ?_
                refine pB ?_
                refine pN ?_
                refine pS ?_
                refine gR 3 (rg Try.f33 3) ?_
                refine se (mkE [(0, S p0), (3, I (addI .i64 z0 1))] [] 48) ?_
                exact pL
        · refine se (mkE [(0, S p0), (3, I z0), (40, B true)] [] 48) ?_
          refine pN ?_
          refine pS ?_
          refine gT (.tmp 40) ?_
          refine gS 0 ?_
          refine gR 6 (rg Try.f33 6) ?_
          refine se (mkE [(2, B false)] [] 48) ?_
          refine pN ?_
          refine pS ?_
          refine gE ?_
          exact pL
    · refine sg 10 (mkE [(23, B (ltI 0 z0)), (22, B (ltI 0 z0)), (21, I z0), (20, B false), (19, B false), (18, .und), (17, .und), (16, B false), (16, B (leI 97 x1)), (15, B (leI 97 x1)), (14, U x1), (0, S p0), (3, I z0), (4, U x1)] [] 48) ?_
      refine sb 23 (ltI 0 z0) ?_ ?_
      · refine sg 13 (mkE [(26, B (leI 48 x1)), (25, B (leI 48 x1)), (24, U x1), (23, B true), (23, B (ltI 0 z0)), (22, B (ltI 0 z0)), (21, I z0), (20, B false), (19, B false), (18, .und), (17, .und), (16, B false), (16, B (leI 97 x1)), (15, B (leI 97 x1)), (14, U x1), (0, S p0), (3, I z0), (4, U x1)] [] 48) ?_
        refine sb 26 (leI 48 x1) ?_ ?_
        · refine sg 17 (mkE [(30, B (leI x1 57)), (29, B (leI x1 57)), (28, B (leI x1 57)), (27, U x1), (26, B true), (26, B (leI 48 x1)), (25, B (leI 48 x1)), (24, U x1), (23, B true), (23, B (ltI 0 z0)), (22, B (ltI 0 z0)), (21, I z0), (20, B false), (19, B false), (18, .und), (17, .und), (16, B false), (16, B (leI 97 x1)), (15, B (leI 97 x1)), (14, U x1), (0, S p0), (3, I z0), (4, U x1)] [] 48) ?_
          refine sb 30 (leI x1 57) ?_ ?_
          · refine se (mkE [(0, S p0), (3, I z0), (40, B false)] [] 48) ?_
            refine pN ?_
            refine pS ?_
            refine gF (.tmp 40) ?_
            refine gK ?_
            refine pB ?_
            refine pN ?_
            refine pS ?_
            refine gR 3 (rg Try.f33 3) ?_
            refine se (mkE [(0, S p0), (3, I (addI .i64 z0 1))] [] 48) ?_
            exact pL
          · refine sg 21 (mkE [(34, B (eqI x1 45)), (33, B (eqI x1 45)), (32, B (eqI x1 45)), (31, U x1), (30, B false), (30, B (leI x1 57)), (29, B (leI x1 57)), (28, B (leI x1 57)), (27, U x1), (26, B true), (26, B (leI 48 x1)), (25, B (leI 48 x1)), (24, U x1), (23, B true), (23, B (ltI 0 z0)), (22, B (ltI 0 z0)), (21, I z0), (20, B false), (19, B false), (18, .und), (17, .und), (16, B false), (16, B (leI 97 x1)), (15, B (leI 97 x1)), (14, U x1), (0, S p0), (3, I z0), (4, U x1)] [] 48) ?_
            refine sb 34 (eqI x1 45) ?_ ?_
            · refine se (mkE [(0, S p0), (3, I z0), (40, B false)] [] 48) ?_
              refine pN ?_
              refine pS ?_
              refine gF (.tmp 40) ?_
              refine gK ?_
              refine pB ?_
              refine pN ?_
              refine pS ?_
              refine gR 3 (rg Try.f33 3) ?_
              refine se (mkE [(0, S p0), (3, I (addI .i64 z0 1))] [] 48) ?_
              exact pL
            · refine se (mkE [(0, S p0), (3, I z0), (40, B (!(eqI x1 95)))] [] 48) ?_
              refine pN ?_
              refine pS ?_
              refine gC 40 (!(eqI x1 95)) ?_ ?_
              · refine gS 0 ?_
                refine gR 6 (rg Try.f33 6) ?_
                refine se (mkE [(2, B false)] [] 48) ?_
                refine pN ?_
                refine pS ?_
                refine gE ?_
                exact pL
              · refine gK ?_
                refine pB ?_
                refine pN ?_
                refine pS ?_
                refine gR 3 (rg Try.f33 3) ?_
                refine se (mkE [(0, S p0), (3, I (addI .i64 z0 1))] [] 48) ?_
                exact pL
        · refine sg 21 (mkE [(34, B (eqI x1 45)), (33, B (eqI x1 45)), (32, B (eqI x1 45)), (31, U x1), (30, B false), (29, B false), (28, .und), (27, .und), (26, B false), (26, B (leI 48 x1)), (25, B (leI 48 x1)), (24, U x1), (23, B true), (23, B (ltI 0 z0)), (22, B (ltI 0 z0)), (21, I z0), (20, B false), (19, B false), (18, .und), (17, .und), (16, B false), (16, B (leI 97 x1)), (15, B (leI 97 x1)), (14, U x1), (0, S p0), (3, I z0), (4, U x1)] [] 48) ?_
          refine sb 34 (eqI x1 45) ?_ ?_
          · refine se (mkE [(0, S p0), (3, I z0), (40, B false)] [] 48) ?_
            refine pN ?_
            refine pS ?_
            refine gF (.tmp 40) ?_
            refine gK ?_
            refine pB ?_
            refine pN ?_
            refine pS ?_
            refine gR 3 (rg Try.f33 3) ?_
            refine se (mkE [(0, S p0), (3, I (addI .i64 z0 1))] [] 48) ?_
            exact pL
          · refine se (mkE [(0, S p0), (3, I z0), (40, B (!(eqI x1 95)))] [] 48) ?_
            refine pN ?_
            refine pS ?_
            refine gC 40 (!(eqI x1 95)) ?_ ?_
            · refine gS 0 ?_
              refine gR 6 (rg Try.f33 6) ?_
              refine se (mkE [(2, B false)] [] 48) ?_
              refine pN ?_
              refine pS ?_
              refine gE ?_
              exact pL
            · refine gK ?_
              refine pB ?_
              refine pN ?_
              refine pS ?_
              refine gR 3 (rg Try.f33 3) ?_
              refine se (mkE [(0, S p0), (3, I (addI .i64 z0 1))] [] 48) ?_
              exact pL
      · refine se (mkE [(0, S p0), (3, I z0), (40, B true)] [] 48) ?_
        refine pN ?_
        refine pS ?_
        refine gT (.tmp 40) ?_
        refine gS 0 ?_
        refine gR 6 (rg Try.f33 6) ?_
        refine se (mkE [(2, B false)] [] 48) ?_
        refine pN ?_
        refine pS ?_
        refine gE ?_
        exact pL
  · refine gX 0 ?_
    exact pL
noncomputable def T33 (p0 : ByteArray) : Option Bool := ((iter (L33_2 p0) 0).bind fun y2 => (Sum.elim (fun y2a => (bif (!eqS p0 (ByteArray.mk #[])) then (some (leI (lenS p0) 40)) else (some false))) (fun y2b => (some false)) y2))
theorem B33 (C : Callee) (p0 : ByteArray) : runs Try.prog C (cfg.fn 33) (finFn Try.prog (cfg.fn 33).byval Try.f33) [] (execA Try.prog C (cfg.fn 33) (nr Try.f33 []) (frame0 [S p0] 48 false)) = (T33 p0).map B := by
  unfold T33
  refine gS 1 ?_
  refine gR 0 (rg Try.f33 0) ?_
  refine se (mkE [(0, S p0)] [] 48) ?_
  refine pN ?_
  refine pS ?_
  refine gS 7 ?_
  refine gS 2 ?_
  refine gR 1 (rg Try.f33 1) ?_
  refine se (mkE [(0, S p0), (3, I 0)] [] 48) ?_
  refine pN ?_
  refine pS ?_
  refine gB 0 ?_
  refine lo [(0, none), (3, none)] [] (L33_2 p0) (fun z0 : Int => (mkE [(0, S p0), (3, I z0)] [] 48)) (Sum.elim (fun (x : (Int × Bool)) => (.exit 0, (mkE [(0, S p0), (3, I x.1), (8, B x.2)] [] 48))) (fun (x : Unit) => (.ret, (mkE [(2, B false)] [] 48)))) 0 (fun z => L33_2_ok C p0 z) ?_
  intro y2
  refine ss y2 (Z := (Sum.elim (fun (x : (Int × Bool)) => (.exit 0, (mkE [(0, S p0), (3, I x.1), (8, B x.2)] [] 48))) (fun (x : Unit) => (.ret, (mkE [(2, B false)] [] 48))))) (fun y2a => ?_) (fun y2b => ?_)
  · refine pH ?_
    refine pN ?_
    refine pS ?_
    refine gS 0 ?_
    refine gR 7 (rg Try.f33 7) ?_
    refine sg 3 (mkE [(43, B (!eqS p0 (ByteArray.mk #[]))), (42, B (!eqS p0 (ByteArray.mk #[]))), (41, S p0), (0, S p0), (3, I y2a.1), (8, B y2a.2)] [] 48) ?_
    refine sb 43 (!eqS p0 (ByteArray.mk #[])) ?_ ?_
    · refine se (mkE [(2, B (leI (lenS p0) 40))] [] 48) ?_
      refine pN ?_
      refine pS ?_
      refine gE ?_
      exact pL
    · refine se (mkE [(2, B false)] [] 48) ?_
      refine pN ?_
      refine pS ?_
      refine gE ?_
      exact pL
  · exact pL
theorem F33 (m : Nat) (hm : 1 ≤ m) (p0 : ByteArray) : callA Try.prog cfg m 33 [S p0] = (T33 p0).map B := by
  obtain ⟨q, rfl⟩ : ∃ q, m = q + 1 := ⟨m - 1, by omega⟩
  exact (callA_body (fn := Try.f33) (c := body_ Try.f33) q _ (by kernel_rfl) (by kernel_rfl) (by kernel_rfl)).trans (B33 _ p0)

noncomputable def T37 (p0 : Int) (p1 : Int) (p2 : Int) : Option Bool := (bif (ltI p0 p1) then (some true) else (some (ltI p2 p0)))
theorem B37 (C : Callee) (p0 : Int) (p1 : Int) (p2 : Int) : runs Try.prog C (cfg.fn 37) (finFn Try.prog (cfg.fn 37).byval Try.f37) [] (execA Try.prog C (cfg.fn 37) (nr Try.f37 []) (frame0 [I p0, I p1, I p2] 15 false)) = (T37 p0 p1 p2).map B := by
  unfold T37
  refine gS 1 ?_
  refine gR 0 (rg Try.f37 0) ?_
  refine se (mkE [(0, I p0), (1, I p1), (2, I p2)] [] 15) ?_
  refine pN ?_
  refine pS ?_
  refine gS 0 ?_
  refine gR 1 (rg Try.f37 1) ?_
  refine sg 4 (mkE [(10, B (ltI p0 p1)), (9, B (ltI p0 p1)), (8, I p1), (7, I p0), (0, I p0), (1, I p1), (2, I p2)] [] 15) ?_
  refine sb 10 (ltI p0 p1) ?_ ?_
  · refine se (mkE [(6, B true)] [] 15) ?_
    refine pN ?_
    refine pS ?_
    refine gE ?_
    exact pL
  · refine se (mkE [(6, B (ltI p2 p0))] [] 15) ?_
    refine pN ?_
    refine pS ?_
    refine gE ?_
    exact pL
theorem F37 (m : Nat) (hm : 1 ≤ m) (p0 : Int) (p1 : Int) (p2 : Int) : callA Try.prog cfg m 37 [I p0, I p1, I p2] = (T37 p0 p1 p2).map B := by
  obtain ⟨q, rfl⟩ : ∃ q, m = q + 1 := ⟨m - 1, by omega⟩
  exact (callA_body (fn := Try.f37) (c := body_ Try.f37) q _ (by kernel_rfl) (by kernel_rfl) (by kernel_rfl)).trans (B37 _ p0 p1 p2)

noncomputable def T46 (p0 : Int) : Option Bool := ((T37 p0 1 20000).bind fun x1 => (some (!x1)))
theorem B46 (C : Callee) (h37 : ∀ (p0 : Int) (p1 : Int) (p2 : Int), C 37 [I p0, I p1, I p2] = (T37 p0 p1 p2).map B) (p0 : Int) : runs Try.prog C (cfg.fn 46) (finFn Try.prog (cfg.fn 46).byval Try.f46) [] (execA Try.prog C (cfg.fn 46) (nr Try.f46 []) (frame0 [I p0] 6 false)) = (T46 p0).map B := by
  unfold T46
  refine gS 1 ?_
  refine gR 0 (rg Try.f46 0) ?_
  refine se (mkE [(0, I p0)] [] 6) ?_
  refine pN ?_
  refine pS ?_
  refine gS 0 ?_
  refine gR 1 (rg Try.f46 1) ?_
  refine sg 1 (mkE [(3, I p0), (0, I p0)] [] 6) ?_
  refine co 4 [] (h37 p0 1 20000) (fun x1 => ?_)
  refine se (mkE [(2, B (!x1))] [] 6) ?_
  refine pN ?_
  refine pS ?_
  refine gE ?_
  exact pL
theorem F46 (m : Nat) (hm : 2 ≤ m) (p0 : Int) : callA Try.prog cfg m 46 [I p0] = (T46 p0).map B := by
  obtain ⟨q, rfl⟩ : ∃ q, m = q + 1 := ⟨m - 1, by omega⟩
  exact (callA_body (fn := Try.f46) (c := body_ Try.f46) q _ (by kernel_rfl) (by kernel_rfl) (by kernel_rfl)).trans (B46 _ (fun p0 p1 p2 => F37 q (by omega) p0 p1 p2) p0)

noncomputable def L34_2 (p0 : (List Int)) (z0 : Int) : Option (Int ⊕ ((Int × Bool) ⊕ Unit)) := (bif (ltI z0 (lenL p0)) then ((listAt p0 z0).bind fun x1 => ((T46 x1).bind fun x2 => (bif (!x2) then (some (.inr (.inr ()))) else (some (.inl (addI .i64 z0 1)))))) else (some (.inr (.inl (z0, (ltI z0 (lenL p0)))))))
theorem L34_2_ok (C : Callee) (h46 : ∀ (p0 : Int), C 46 [I p0] = (T46 p0).map B) (p0 : (List Int)) (z0 : Int) : runs Try.prog C (cfg.fn 34) (finLoop ((cfg.fn 34).keep 2) ((cfg.fn 34).al 2)) [] (execA Try.prog C (cfg.fn 34) (nr Try.f34 [false, false, true, false, true]) ((fun z0 : Int => (mkE [(5, LL I p0), (6, I (lenL p0)), (7, I z0)] [] 15)) z0)) = (L34_2 p0 z0).map (Sum.elim (fun z => .inl ((fun z0 : Int => (mkE [(5, LL I p0), (6, I (lenL p0)), (7, I z0)] [] 15)) z)) (fun x => .inr ((Sum.elim (fun (x : (Int × Bool)) => (.exit 0, (mkE [(5, LL I p0), (6, I (lenL p0)), (7, I x.1), (8, B x.2)] [] 15))) (fun (x : Unit) => (.ret, (mkE [(2, I 1)] [] 15)))) x))) := by
  unfold L34_2
  refine gS 0 ?_
  refine gR 2 (rg Try.f34 2) ?_
  refine se (mkE [(5, LL I p0), (6, I (lenL p0)), (7, I z0), (8, B (ltI z0 (lenL p0)))] [] 15) ?_
  refine pN ?_
  refine pS ?_
  refine gS 3 ?_
  refine gC 8 (ltI z0 (lenL p0)) ?_ ?_
  · refine gK ?_
    refine pN ?_
    refine pS ?_
    refine gS 6 ?_
    refine gB 1 ?_
    refine gS 4 ?_
    refine gR 3 (rg Try.f34 3) ?_
    refine vo 9 (addrE 75 3 1 I .i64 p0 z0) (fun x1 => ?_)
    refine se (mkE [(4, I x1), (5, LL I p0), (6, I (lenL p0)), (7, I z0)] [] 15) ?_
    refine pN ?_
    refine pS ?_
    refine gS 0 ?_
    refine gR 4 (rg Try.f34 4) ?_
    refine sg 1 (mkE [(11, I x1), (4, I x1), (5, LL I p0), (6, I (lenL p0)), (7, I z0)] [] 15) ?_
    refine co 12 [] (h46 x1) (fun x2 => ?_)
    refine se (mkE [(5, LL I p0), (6, I (lenL p0)), (7, I z0), (13, B (!x2))] [] 15) ?_
    refine pN ?_
    refine pS ?_
    refine gC 13 (!x2) ?_ ?_
    · refine gS 0 ?_
      refine gR 5 (rg Try.f34 5) ?_
      refine se (mkE [(2, I 1)] [] 15) ?_
      refine pN ?_
      refine pS ?_
      refine gE ?_
      exact pL
    · refine gK ?_
      refine pB ?_
      refine pN ?_
      refine pS ?_
      refine gR 6 (rg Try.f34 6) ?_
      refine se (mkE [(5, LL I p0), (6, I (lenL p0)), (7, I (addI .i64 z0 1))] [] 15) ?_
      exact pL
  · refine gX 0 ?_
    exact pL
noncomputable def T34 (p0 : (List Int)) : Option Int := ((iter (L34_2 p0) 0).bind fun y3 => (Sum.elim (fun y3a => (some 0)) (fun y3b => (some 1)) y3))
theorem B34 (C : Callee) (h46 : ∀ (p0 : Int), C 46 [I p0] = (T46 p0).map B) (p0 : (List Int)) : runs Try.prog C (cfg.fn 34) (finFn Try.prog (cfg.fn 34).byval Try.f34) [] (execA Try.prog C (cfg.fn 34) (nr Try.f34 []) (frame0 [LL I p0] 15 false)) = (T34 p0).map I := by
  unfold T34
  refine gS 1 ?_
  refine gR 0 (rg Try.f34 0) ?_
  refine se (mkE [(0, LL I p0)] [] 15) ?_
  refine pN ?_
  refine pS ?_
  refine gS 7 ?_
  refine gS 2 ?_
  refine gR 1 (rg Try.f34 1) ?_
  refine sg 1 (mkE [(5, LL I p0), (0, LL I p0)] [] 15) ?_
  refine eo 6 (I (lenL p0)) (lenE 75 I p0) ?_
  refine se (mkE [(5, LL I p0), (6, I (lenL p0)), (7, I 0)] [] 15) ?_
  refine pN ?_
  refine pS ?_
  refine gB 0 ?_
  refine lo [(5, none), (6, none), (7, none)] [] (L34_2 p0) (fun z0 : Int => (mkE [(5, LL I p0), (6, I (lenL p0)), (7, I z0)] [] 15)) (Sum.elim (fun (x : (Int × Bool)) => (.exit 0, (mkE [(5, LL I p0), (6, I (lenL p0)), (7, I x.1), (8, B x.2)] [] 15))) (fun (x : Unit) => (.ret, (mkE [(2, I 1)] [] 15)))) 0 (fun z => L34_2_ok C h46 p0 z) ?_
  intro y3
  refine ss y3 (Z := (Sum.elim (fun (x : (Int × Bool)) => (.exit 0, (mkE [(5, LL I p0), (6, I (lenL p0)), (7, I x.1), (8, B x.2)] [] 15))) (fun (x : Unit) => (.ret, (mkE [(2, I 1)] [] 15))))) (fun y3a => ?_) (fun y3b => ?_)
  · refine pH ?_
    refine pN ?_
    refine pS ?_
    refine gS 0 ?_
    refine gR 7 (rg Try.f34 7) ?_
    refine se (mkE [(2, I 0)] [] 15) ?_
    refine pN ?_
    refine pS ?_
    refine gE ?_
    exact pL
  · exact pL
theorem F34 (m : Nat) (hm : 3 ≤ m) (p0 : (List Int)) : callA Try.prog cfg m 34 [LL I p0] = (T34 p0).map I := by
  obtain ⟨q, rfl⟩ : ∃ q, m = q + 1 := ⟨m - 1, by omega⟩
  exact (callA_body (fn := Try.f34) (c := body_ Try.f34) q _ (by kernel_rfl) (by kernel_rfl) (by kernel_rfl)).trans (B34 _ (fun p0 => F46 q (by omega) p0) p0)

noncomputable def T35 (p0 : S29) : Option Int := ((T37 p0.f0 (-100000) 100000).bind fun x1 => (bif x1 then (some 1) else ((T37 p0.f1 (-100000) 100000).bind fun x2 => (bif x2 then (some 1) else ((T37 p0.f2 1 (subI .i64 100000 p0.f0)).bind fun x3 => (bif x3 then (some 1) else ((T37 p0.f3 1 (subI .i64 100000 p0.f1)).bind fun x4 => (bif x4 then (some 1) else (some 0)))))))))
theorem B35 (C : Callee) (h37 : ∀ (p0 : Int) (p1 : Int) (p2 : Int), C 37 [I p0, I p1, I p2] = (T37 p0 p1 p2).map B) (p0 : S29) : runs Try.prog C (cfg.fn 35) (finFn Try.prog (cfg.fn 35).byval Try.f35) [] (execA Try.prog C (cfg.fn 35) (nr Try.f35 []) (frame0 [a29 p0] 25 false)) = (T35 p0).map I := by
  unfold T35
  refine gS 1 ?_
  refine gR 0 (rg Try.f35 0) ?_
  refine se (mkE [(1, .ba 8 0)] [(8, .box [I p0.f0, I p0.f1, I p0.f2, I p0.f3] false)] 25) ?_
  refine pN ?_
  refine pS ?_
  refine gS 3 ?_
  refine gS 0 ?_
  refine gR 1 (rg Try.f35 1) ?_
  refine sg 2 (mkE [(4, I p0.f0), (3, .ba 8 0), (1, .ba 8 0)] [(8, .box [I p0.f0, I p0.f1, I p0.f2, I p0.f3] false)] 25) ?_
  refine co 5 [] (h37 p0.f0 (-100000) 100000) (fun x1 => ?_)
  refine sg 4 (mkE [(6, B x1), (5, B x1), (4, I p0.f0), (3, .ba 8 0), (1, .ba 8 0)] [(8, .box [I p0.f0, I p0.f1, I p0.f2, I p0.f3] false)] 25) ?_
  refine sb 6 x1 ?_ ?_
  · refine se (mkE [(1, .ba 8 0), (10, B true)] [(8, .box [I p0.f0, I p0.f1, I p0.f2, I p0.f3] false)] 25) ?_
    refine pN ?_
    refine pS ?_
    refine gT (.tmp 10) ?_
    refine gS 0 ?_
    refine gR 2 (rg Try.f35 2) ?_
    refine se (mkE [(2, I 1)] [] 25) ?_
    refine pN ?_
    refine pS ?_
    refine gE ?_
    exact pL
  · refine sg 6 (mkE [(8, I p0.f1), (7, .ba 8 1), (6, B false), (6, B x1), (5, B x1), (4, I p0.f0), (3, .ba 8 0), (1, .ba 8 0)] [(8, .box [I p0.f0, I p0.f1, I p0.f2, I p0.f3] false)] 25) ?_
    refine co 9 [] (h37 p0.f1 (-100000) 100000) (fun x2 => ?_)
    refine se (mkE [(1, .ba 8 0), (10, B x2)] [(8, .box [I p0.f0, I p0.f1, I p0.f2, I p0.f3] false)] 25) ?_
    refine pN ?_
    refine pS ?_
    refine gC 10 x2 ?_ ?_
    · refine gS 0 ?_
      refine gR 2 (rg Try.f35 2) ?_
      refine se (mkE [(2, I 1)] [] 25) ?_
      refine pN ?_
      refine pS ?_
      refine gE ?_
      exact pL
    · refine gK ?_
      refine pN ?_
      refine pS ?_
      refine gS 5 ?_
      refine gS 0 ?_
      refine gR 3 (rg Try.f35 3) ?_
      refine sg 5 (mkE [(15, I (subI .i64 100000 p0.f0)), (14, I p0.f0), (13, .ba 8 0), (12, I p0.f2), (11, .ba 8 2), (1, .ba 8 0), (10, B x2)] [(8, .box [I p0.f0, I p0.f1, I p0.f2, I p0.f3] false)] 25) ?_
      refine co 16 [] (h37 p0.f2 1 (subI .i64 100000 p0.f0)) (fun x3 => ?_)
      refine sg 7 (mkE [(17, B x3), (16, B x3), (15, I (subI .i64 100000 p0.f0)), (14, I p0.f0), (13, .ba 8 0), (12, I p0.f2), (11, .ba 8 2), (1, .ba 8 0), (10, B x2)] [(8, .box [I p0.f0, I p0.f1, I p0.f2, I p0.f3] false)] 25) ?_
      refine sb 17 x3 ?_ ?_
      · refine se (mkE [(24, B true)] [] 25) ?_
        refine pN ?_
        refine pS ?_
        refine gT (.tmp 24) ?_
        refine gS 0 ?_
        refine gR 4 (rg Try.f35 4) ?_
        refine se (mkE [(2, I 1)] [] 25) ?_
        refine pN ?_
        refine pS ?_
        refine gE ?_
        exact pL
      · refine sg 12 (mkE [(22, I (subI .i64 100000 p0.f1)), (21, I p0.f1), (20, .ba 8 1), (19, I p0.f3), (18, .ba 8 3), (17, B false), (17, B x3), (16, B x3), (15, I (subI .i64 100000 p0.f0)), (14, I p0.f0), (13, .ba 8 0), (12, I p0.f2), (11, .ba 8 2), (1, .ba 8 0), (10, B x2)] [(8, .box [I p0.f0, I p0.f1, I p0.f2, I p0.f3] false)] 25) ?_
        refine co 23 [] (h37 p0.f3 1 (subI .i64 100000 p0.f1)) (fun x4 => ?_)
        refine se (mkE [(24, B x4)] [] 25) ?_
        refine pN ?_
        refine pS ?_
        refine gC 24 x4 ?_ ?_
        · refine gS 0 ?_
          refine gR 4 (rg Try.f35 4) ?_
          refine se (mkE [(2, I 1)] [] 25) ?_
          refine pN ?_
          refine pS ?_
          refine gE ?_
          exact pL
        · refine gK ?_
          refine pN ?_
          refine pS ?_
          refine gS 0 ?_
          refine gR 5 (rg Try.f35 5) ?_
          refine se (mkE [(2, I 0)] [] 25) ?_
          refine pN ?_
          refine pS ?_
          refine gE ?_
          exact pL
theorem F35 (m : Nat) (hm : 2 ≤ m) (p0 : S29) : callA Try.prog cfg m 35 [a29 p0] = (T35 p0).map I := by
  obtain ⟨q, rfl⟩ : ∃ q, m = q + 1 := ⟨m - 1, by omega⟩
  exact (callA_body (fn := Try.f35) (c := body_ Try.f35) q _ (by kernel_rfl) (by kernel_rfl) (by kernel_rfl)).trans (B35 _ (fun p0 p1 p2 => F37 q (by omega) p0 p1 p2) p0)

noncomputable def T36 (p0 : S29) (p1 : Int) (p2 : Int) : Option Bool := (bif (leI 0 p0.f0) then (bif (leI 0 p0.f1) then (bif (leI (addI .i64 p0.f0 p0.f2) p1) then (some (leI (addI .i64 p0.f1 p0.f3) p2)) else (some false)) else (some false)) else (some false))
theorem B36 (C : Callee) (p0 : S29) (p1 : Int) (p2 : Int) : runs Try.prog C (cfg.fn 36) (finFn Try.prog (cfg.fn 36).byval Try.f36) [] (execA Try.prog C (cfg.fn 36) (nr Try.f36 []) (frame0 [a29 p0, I p1, I p2] 33 false)) = (T36 p0 p1 p2).map B := by
  unfold T36
  refine gS 1 ?_
  refine gR 0 (rg Try.f36 0) ?_
  refine se (mkE [(1, I p1), (2, I p2), (3, .ba 24 0)] [(24, .box [I p0.f0, I p0.f1, I p0.f2, I p0.f3] false)] 33) ?_
  refine pN ?_
  refine pS ?_
  refine gS 0 ?_
  refine gR 1 (rg Try.f36 1) ?_
  refine sg 4 (mkE [(10, B (leI 0 p0.f0)), (9, B (leI 0 p0.f0)), (8, I p0.f0), (7, .ba 24 0), (1, I p1), (2, I p2), (3, .ba 24 0)] [(24, .box [I p0.f0, I p0.f1, I p0.f2, I p0.f3] false)] 33) ?_
  refine sb 10 (leI 0 p0.f0) ?_ ?_
  · refine sg 9 (mkE [(15, B (leI 0 p0.f1)), (14, B (leI 0 p0.f1)), (13, B (leI 0 p0.f1)), (12, I p0.f1), (11, .ba 24 1), (10, B true), (10, B (leI 0 p0.f0)), (9, B (leI 0 p0.f0)), (8, I p0.f0), (7, .ba 24 0), (1, I p1), (2, I p2), (3, .ba 24 0)] [(24, .box [I p0.f0, I p0.f1, I p0.f2, I p0.f3] false)] 33) ?_
    refine sb 15 (leI 0 p0.f1) ?_ ?_
    · refine sg 18 (mkE [(24, B (leI (addI .i64 p0.f0 p0.f2) p1)), (23, B (leI (addI .i64 p0.f0 p0.f2) p1)), (22, B (leI (addI .i64 p0.f0 p0.f2) p1)), (21, I p1), (20, I (addI .i64 p0.f0 p0.f2)), (19, I p0.f2), (18, .ba 24 2), (17, I p0.f0), (16, .ba 24 0), (15, B true), (15, B (leI 0 p0.f1)), (14, B (leI 0 p0.f1)), (13, B (leI 0 p0.f1)), (12, I p0.f1), (11, .ba 24 1), (10, B true), (10, B (leI 0 p0.f0)), (9, B (leI 0 p0.f0)), (8, I p0.f0), (7, .ba 24 0), (1, I p1), (2, I p2), (3, .ba 24 0)] [(24, .box [I p0.f0, I p0.f1, I p0.f2, I p0.f3] false)] 33) ?_
      refine sb 24 (leI (addI .i64 p0.f0 p0.f2) p1) ?_ ?_
      · refine se (mkE [(6, B (leI (addI .i64 p0.f1 p0.f3) p2))] [] 33) ?_
        refine pN ?_
        refine pS ?_
        refine gE ?_
        exact pL
      · refine se (mkE [(6, B false)] [] 33) ?_
        refine pN ?_
        refine pS ?_
        refine gE ?_
        exact pL
    · refine se (mkE [(6, B false)] [] 33) ?_
      refine pN ?_
      refine pS ?_
      refine gE ?_
      exact pL
  · refine se (mkE [(6, B false)] [] 33) ?_
    refine pN ?_
    refine pS ?_
    refine gE ?_
    exact pL
theorem F36 (m : Nat) (hm : 1 ≤ m) (p0 : S29) (p1 : Int) (p2 : Int) : callA Try.prog cfg m 36 [a29 p0, I p1, I p2] = (T36 p0 p1 p2).map B := by
  obtain ⟨q, rfl⟩ : ∃ q, m = q + 1 := ⟨m - 1, by omega⟩
  exact (callA_body (fn := Try.f36) (c := body_ Try.f36) q _ (by kernel_rfl) (by kernel_rfl) (by kernel_rfl)).trans (B36 _ p0 p1 p2)

noncomputable def L12_9 (p0 : S23) (z0 : Int) : Option (Int ⊕ ((Int × Bool) ⊕ Int)) := (bif (ltI z0 (lenL p0.f3)) then ((listAt p0.f3 z0).bind fun x3 => ((T33 x3.f0).bind fun x4 => (bif (!x4) then (some (.inr (.inr 5))) else ((T35 x3.f1).bind fun x5 => (bif (neI x5 0) then (some (.inr (.inr x5))) else ((T36 x3.f1 p0.f1 p0.f2).bind fun x6 => (bif (!x6) then (some (.inr (.inr 3))) else ((T37 x3.f2 0 1000).bind fun x7 => (bif x7 then (some (.inr (.inr 1))) else (bif (ltI 0 z0) then ((listAt p0.f3 (subI .i64 z0 1)).bind fun x8 => (bif (ltS x3.f0 x8.f0 || eqS x3.f0 x8.f0) then (some (.inr (.inr 7))) else (some (.inl (addI .i64 z0 1))))) else (some (.inl (addI .i64 z0 1))))))))))))) else (some (.inr (.inl (z0, (ltI z0 (lenL p0.f3)))))))
theorem L12_9_ok (C : Callee) (h33 : ∀ (p0 : ByteArray), C 33 [S p0] = (T33 p0).map B) (h35 : ∀ (p0 : S29), C 35 [a29 p0] = (T35 p0).map I) (h36 : ∀ (p0 : S29) (p1 : Int) (p2 : Int), C 36 [a29 p0, I p1, I p2] = (T36 p0 p1 p2).map B) (h37 : ∀ (p0 : Int) (p1 : Int) (p2 : Int), C 37 [I p0, I p1, I p2] = (T37 p0 p1 p2).map B) (p0 : S23) (z0 : Int) : runs Try.prog C (cfg.fn 12) (finLoop ((cfg.fn 12).keep 9) ((cfg.fn 12).al 9)) [] (execA Try.prog C (cfg.fn 12) (nr Try.f12 [false, false, true, false, true, true, true, true]) ((fun z0 : Int => (mkE [(1, .ba 8 0), (25, LL a31 p0.f3), (26, I (lenL p0.f3)), (27, I z0)] [(8, .box [S p0.f0, I p0.f1, I p0.f2, LL a31 p0.f3] false)] 68)) z0)) = (L12_9 p0 z0).map (Sum.elim (fun z => .inl ((fun z0 : Int => (mkE [(1, .ba 8 0), (25, LL a31 p0.f3), (26, I (lenL p0.f3)), (27, I z0)] [(8, .box [S p0.f0, I p0.f1, I p0.f2, LL a31 p0.f3] false)] 68)) z)) (fun x => .inr ((Sum.elim (fun (x : (Int × Bool)) => (.exit 0, (mkE [(1, .ba 8 0), (25, LL a31 p0.f3), (26, I (lenL p0.f3)), (27, I x.1), (28, B x.2)] [(8, .box [S p0.f0, I p0.f1, I p0.f2, LL a31 p0.f3] false)] 68))) (fun (x : Int) => (.ret, (mkE [(2, I x)] [] 68)))) x))) := by
  unfold L12_9
  refine gS 0 ?_
  refine gR 9 (rg Try.f12 9) ?_
  refine se (mkE [(1, .ba 8 0), (25, LL a31 p0.f3), (26, I (lenL p0.f3)), (27, I z0), (28, B (ltI z0 (lenL p0.f3)))] [(8, .box [S p0.f0, I p0.f1, I p0.f2, LL a31 p0.f3] false)] 68) ?_
  refine pN ?_
  refine pS ?_
  refine gS 10 ?_
  refine gC 28 (ltI z0 (lenL p0.f3)) ?_ ?_
  · refine gK ?_
    refine pN ?_
    refine pS ?_
    refine gS 22 ?_
    refine gB 1 ?_
    refine gS 11 ?_
    refine gR 10 (rg Try.f12 10) ?_
    refine sg 1 (mkE [(29, I z0), (1, .ba 8 0), (25, LL a31 p0.f3), (26, I (lenL p0.f3)), (27, I z0), (28, B (ltI z0 (lenL p0.f3)))] [(8, .box [S p0.f0, I p0.f1, I p0.f2, LL a31 p0.f3] false)] 68) ?_
    refine vo 30 (addrE 22 32 6 a31 .i64 p0.f3 z0) (fun x3 => ?_)
    refine se (mkE [(1, .ba 8 0), (4, I z0), (5, .ba 40 0), (25, LL a31 p0.f3), (26, I (lenL p0.f3)), (27, I z0)] [(8, .box [S p0.f0, I p0.f1, I p0.f2, LL a31 p0.f3] false), (40, .box [S x3.f0, I x3.f1.f0, I x3.f1.f1, I x3.f1.f2, I x3.f1.f3, I x3.f2] false)] 68) ?_
    refine pN ?_
    refine pS ?_
    refine gS 13 ?_
    refine gS 0 ?_
    refine gR 11 (rg Try.f12 11) ?_
    refine sg 2 (mkE [(33, S x3.f0), (32, .ba 40 0), (1, .ba 8 0), (4, I z0), (5, .ba 40 0), (25, LL a31 p0.f3), (26, I (lenL p0.f3)), (27, I z0)] [(8, .box [S p0.f0, I p0.f1, I p0.f2, LL a31 p0.f3] false), (40, .box [S x3.f0, I x3.f1.f0, I x3.f1.f1, I x3.f1.f2, I x3.f1.f3, I x3.f2] false)] 68) ?_
    refine co 34 [] (h33 x3.f0) (fun x4 => ?_)
    refine se (mkE [(1, .ba 8 0), (4, I z0), (5, .ba 40 0), (25, LL a31 p0.f3), (26, I (lenL p0.f3)), (27, I z0), (35, B (!x4))] [(8, .box [S p0.f0, I p0.f1, I p0.f2, LL a31 p0.f3] false), (40, .box [S x3.f0, I x3.f1.f0, I x3.f1.f1, I x3.f1.f2, I x3.f1.f3, I x3.f2] false)] 68) ?_
    refine pN ?_
    refine pS ?_
    refine gC 35 (!x4) ?_ ?_
    · refine gS 0 ?_
      refine gR 12 (rg Try.f12 12) ?_
      refine se (mkE [(2, I 5)] [] 68) ?_
      refine pN ?_
      refine pS ?_
      refine gE ?_
      exact pL
    · refine gK ?_
      refine pN ?_
      refine pS ?_
      refine gS 16 ?_
      refine gS 14 ?_
      refine gR 13 (rg Try.f12 13) ?_
      refine sg 2 (mkE [(37, a29 x3.f1), (36, .ba 40 1), (1, .ba 8 0), (4, I z0), (5, .ba 40 0), (25, LL a31 p0.f3), (26, I (lenL p0.f3)), (27, I z0), (35, B (!x4))] [(8, .box [S p0.f0, I p0.f1, I p0.f2, LL a31 p0.f3] false), (40, .box [S x3.f0, I x3.f1.f0, I x3.f1.f1, I x3.f1.f2, I x3.f1.f3, I x3.f2] false)] 68) ?_
      refine co 38 [] (h35 x3.f1) (fun x5 => ?_)
      refine se (mkE [(1, .ba 8 0), (4, I z0), (5, .ba 40 0), (6, I x5), (25, LL a31 p0.f3), (26, I (lenL p0.f3)), (27, I z0)] [(8, .box [S p0.f0, I p0.f1, I p0.f2, LL a31 p0.f3] false), (40, .box [S x3.f0, I x3.f1.f0, I x3.f1.f1, I x3.f1.f2, I x3.f1.f3, I x3.f2] false)] 68) ?_
      refine pN ?_
      refine pS ?_
      refine gS 0 ?_
      refine gR 14 (rg Try.f12 14) ?_
      refine se (mkE [(1, .ba 8 0), (4, I z0), (5, .ba 40 0), (6, I x5), (25, LL a31 p0.f3), (26, I (lenL p0.f3)), (27, I z0), (40, B (neI x5 0))] [(8, .box [S p0.f0, I p0.f1, I p0.f2, LL a31 p0.f3] false), (40, .box [S x3.f0, I x3.f1.f0, I x3.f1.f1, I x3.f1.f2, I x3.f1.f3, I x3.f2] false)] 68) ?_
      refine pN ?_
      refine pS ?_
      refine gC 40 (neI x5 0) ?_ ?_
      · refine gS 0 ?_
        refine gR 15 (rg Try.f12 15) ?_
        refine se (mkE [(2, I x5)] [] 68) ?_
        refine pN ?_
        refine pS ?_
        refine gE ?_
        exact pL
      · refine gK ?_
        refine pN ?_
        refine pS ?_
        refine gS 18 ?_
        refine gS 0 ?_
        refine gR 16 (rg Try.f12 16) ?_
        refine sg 6 (mkE [(47, I p0.f2), (46, .ba 8 2), (45, I p0.f1), (44, .ba 8 1), (43, a29 x3.f1), (42, .ba 40 1), (1, .ba 8 0), (4, I z0), (5, .ba 40 0), (6, I x5), (25, LL a31 p0.f3), (26, I (lenL p0.f3)), (27, I z0), (40, B (neI x5 0))] [(8, .box [S p0.f0, I p0.f1, I p0.f2, LL a31 p0.f3] false), (40, .box [S x3.f0, I x3.f1.f0, I x3.f1.f1, I x3.f1.f2, I x3.f1.f3, I x3.f2] false)] 68) ?_
        refine co 48 [] (h36 x3.f1 p0.f1 p0.f2) (fun x6 => ?_)
        refine se (mkE [(1, .ba 8 0), (4, I z0), (5, .ba 40 0), (25, LL a31 p0.f3), (26, I (lenL p0.f3)), (27, I z0), (49, B (!x6))] [(8, .box [S p0.f0, I p0.f1, I p0.f2, LL a31 p0.f3] false), (40, .box [S x3.f0, I x3.f1.f0, I x3.f1.f1, I x3.f1.f2, I x3.f1.f3, I x3.f2] false)] 68) ?_
        refine pN ?_
        refine pS ?_
        refine gC 49 (!x6) ?_ ?_
        · refine gS 0 ?_
          refine gR 17 (rg Try.f12 17) ?_
          refine se (mkE [(2, I 3)] [] 68) ?_
          refine pN ?_
          refine pS ?_
          refine gE ?_
          exact pL
        · refine gK ?_
          refine pN ?_
          refine pS ?_
          refine gS 20 ?_
          refine gS 0 ?_
          refine gR 18 (rg Try.f12 18) ?_
          refine sg 2 (mkE [(51, I x3.f2), (50, .ba 40 5), (1, .ba 8 0), (4, I z0), (5, .ba 40 0), (25, LL a31 p0.f3), (26, I (lenL p0.f3)), (27, I z0), (49, B (!x6))] [(8, .box [S p0.f0, I p0.f1, I p0.f2, LL a31 p0.f3] false), (40, .box [S x3.f0, I x3.f1.f0, I x3.f1.f1, I x3.f1.f2, I x3.f1.f3, I x3.f2] false)] 68) ?_
          refine co 52 [] (h37 x3.f2 0 1000) (fun x7 => ?_)
          refine se (mkE [(1, .ba 8 0), (4, I z0), (5, .ba 40 0), (25, LL a31 p0.f3), (26, I (lenL p0.f3)), (27, I z0), (52, B x7)] [(8, .box [S p0.f0, I p0.f1, I p0.f2, LL a31 p0.f3] false), (40, .box [S x3.f0, I x3.f1.f0, I x3.f1.f1, I x3.f1.f2, I x3.f1.f3, I x3.f2] false)] 68) ?_
          refine pN ?_
          refine pS ?_
          refine gC 52 x7 ?_ ?_
          · refine gS 0 ?_
            refine gR 19 (rg Try.f12 19) ?_
            refine se (mkE [(2, I 1)] [] 68) ?_
            refine pN ?_
            refine pS ?_
            refine gE ?_
            exact pL
          · refine gK ?_
            refine pN ?_
            refine pS ?_
            refine gS 0 ?_
            refine gD 20 14 (rg Try.f12 20) [0, 1, 2, 3, 4, 5, 6, 7, 8, 9, 10, 11, 12, 13] ?_
            refine dg 3 [(some 53, qe (I z0)), (some 54, qe (B (ltI 0 z0))), (some 55, qe (B (ltI 0 z0)))] ?_
            refine db 2 55 (ltI 0 z0) ?_ ?_
            · refine dg 9 [(some 53, qe (I z0)), (some 54, qe (B (ltI 0 z0))), (some 55, qe (B true)), (some 56, qe (.ba 40 0)), (some 57, qe (S x3.f0)), (some 58, qe (.ba 8 3)), (some 59, qe (LL a31 p0.f3)), (some 60, qe (I z0)), (some 61, qe (I (subI .i64 z0 1)))] ?_
              refine dv 62 (mkE [(61, I (subI .i64 z0 1)), (60, I z0), (59, LL a31 p0.f3), (58, .ba 8 3), (55, B true), (54, B (ltI 0 z0)), (53, I z0), (1, .ba 8 0), (4, I z0), (5, .ba 40 0), (25, LL a31 p0.f3), (26, I (lenL p0.f3)), (27, I z0), (52, B x7)] [(8, .box [S p0.f0, I p0.f1, I p0.f2, LL a31 p0.f3] false), (40, .box [S x3.f0, I x3.f1.f0, I x3.f1.f1, I x3.f1.f2, I x3.f1.f3, I x3.f2] false)] 68) (addrE 22 32 6 a31 .i64 p0.f3 (subI .i64 z0 1)) (fun x8 => ?_)
              refine dg 14 [(some 53, qe (I z0)), (some 54, qe (B (ltI 0 z0))), (some 55, qe (B true)), (some 56, qe (.ba 40 0)), (some 57, qe (S x3.f0)), (some 58, qe (.ba 8 3)), (some 59, qe (LL a31 p0.f3)), (some 60, qe (I z0)), (some 61, qe (I (subI .i64 z0 1))), (some 62, qe (.ia [S x8.f0, I x8.f1.f0, I x8.f1.f1, I x8.f1.f2, I x8.f1.f3, I x8.f2] 0)), (some 63, qe (.ia [S x8.f0, I x8.f1.f0, I x8.f1.f1, I x8.f1.f2, I x8.f1.f3, I x8.f2] 0)), (some 64, qe (S x8.f0)), (some 65, qe (B (ltS x3.f0 x8.f0 || eqS x3.f0 x8.f0))), (some 66, qe (B (ltS x3.f0 x8.f0 || eqS x3.f0 x8.f0)))] ?_
              refine de (mkE [(66, B (ltS x3.f0 x8.f0 || eqS x3.f0 x8.f0)), (65, B (ltS x3.f0 x8.f0 || eqS x3.f0 x8.f0)), (64, S x8.f0), (63, .ia [S x8.f0, I x8.f1.f0, I x8.f1.f1, I x8.f1.f2, I x8.f1.f3, I x8.f2] 0), (62, .ia [S x8.f0, I x8.f1.f0, I x8.f1.f1, I x8.f1.f2, I x8.f1.f3, I x8.f2] 0), (61, I (subI .i64 z0 1)), (60, I z0), (59, LL a31 p0.f3), (58, .ba 8 3), (57, S x3.f0), (56, .ba 40 0), (55, B true), (54, B (ltI 0 z0)), (53, I z0), (1, .ba 8 0), (4, I z0), (5, .ba 40 0), (25, LL a31 p0.f3), (26, I (lenL p0.f3)), (27, I z0), (52, B x7)] [(8, .box [S p0.f0, I p0.f1, I p0.f2, LL a31 p0.f3] false), (40, .box [S x3.f0, I x3.f1.f0, I x3.f1.f1, I x3.f1.f2, I x3.f1.f3, I x3.f2] false)] 68) ?_
              refine se (mkE [(1, .ba 8 0), (25, LL a31 p0.f3), (26, I (lenL p0.f3)), (27, I z0), (66, B (ltS x3.f0 x8.f0 || eqS x3.f0 x8.f0))] [(8, .box [S p0.f0, I p0.f1, I p0.f2, LL a31 p0.f3] false)] 68) ?_
              refine pN ?_
              refine pS ?_
              refine gC 66 (ltS x3.f0 x8.f0 || eqS x3.f0 x8.f0) ?_ ?_
              · refine gS 0 ?_
                refine gR 21 (rg Try.f12 21) ?_
                refine se (mkE [(2, I 7)] [] 68) ?_
                refine pN ?_
                refine pS ?_
                refine gE ?_
                exact pL
              · refine gK ?_
                refine pB ?_
                refine pN ?_
                refine pS ?_
                refine gR 22 (rg Try.f12 22) ?_
                refine se (mkE [(1, .ba 8 0), (25, LL a31 p0.f3), (26, I (lenL p0.f3)), (27, I (addI .i64 z0 1))] [(8, .box [S p0.f0, I p0.f1, I p0.f2, LL a31 p0.f3] false)] 68) ?_
                exact pL
            · refine dg 14 [(some 53, qe (I z0)), (some 54, qe (B (ltI 0 z0))), (some 55, qe (B false)), (some 56, qe (.und)), (some 57, qe (.und)), (some 58, qe (.und)), (some 59, qe (.und)), (some 60, qe (.und)), (some 61, qe (.und)), (some 62, qe (.und)), (some 63, qe (.und)), (some 64, qe (.und)), (some 65, qe (.und)), (some 66, qe (B false))] ?_
              refine de (mkE [(66, B false), (65, .und), (64, .und), (63, .und), (62, .und), (61, .und), (60, .und), (59, .und), (58, .und), (57, .und), (56, .und), (55, B false), (54, B (ltI 0 z0)), (53, I z0), (1, .ba 8 0), (4, I z0), (5, .ba 40 0), (25, LL a31 p0.f3), (26, I (lenL p0.f3)), (27, I z0), (52, B x7)] [(8, .box [S p0.f0, I p0.f1, I p0.f2, LL a31 p0.f3] false), (40, .box [S x3.f0, I x3.f1.f0, I x3.f1.f1, I x3.f1.f2, I x3.f1.f3, I x3.f2] false)] 68) ?_
              refine se (mkE [(1, .ba 8 0), (25, LL a31 p0.f3), (26, I (lenL p0.f3)), (27, I z0), (66, B false)] [(8, .box [S p0.f0, I p0.f1, I p0.f2, LL a31 p0.f3] false)] 68) ?_
              refine pN ?_
              refine pS ?_
              refine gF (.tmp 66) ?_
              refine gK ?_
              refine pB ?_
              refine pN ?_
              refine pS ?_
              refine gR 22 (rg Try.f12 22) ?_
              refine se (mkE [(1, .ba 8 0), (25, LL a31 p0.f3), (26, I (lenL p0.f3)), (27, I (addI .i64 z0 1))] [(8, .box [S p0.f0, I p0.f1, I p0.f2, LL a31 p0.f3] false)] 68) ?_
              exact pL
  · refine gX 0 ?_
    exact pL
noncomputable def T12 (p0 : S23) : Option Int := ((T33 p0.f0).bind fun x1 => (bif (!x1) then (some 5) else ((T34 ([p0.f1, p0.f2] : List Int)).bind fun x2 => (bif (neI x2 0) then (some x2) else (bif (ltI 30 (lenL p0.f3)) then (some 2) else ((iter (L12_9 p0) 0).bind fun y9 => (Sum.elim (fun y9a => (some 0)) (fun y9b => (some y9b)) y9)))))))
theorem B12 (C : Callee) (h33 : ∀ (p0 : ByteArray), C 33 [S p0] = (T33 p0).map B) (h34 : ∀ (p0 : (List Int)), C 34 [LL I p0] = (T34 p0).map I) (h35 : ∀ (p0 : S29), C 35 [a29 p0] = (T35 p0).map I) (h36 : ∀ (p0 : S29) (p1 : Int) (p2 : Int), C 36 [a29 p0, I p1, I p2] = (T36 p0 p1 p2).map B) (h37 : ∀ (p0 : Int) (p1 : Int) (p2 : Int), C 37 [I p0, I p1, I p2] = (T37 p0 p1 p2).map B) (p0 : S23) : runs Try.prog C (cfg.fn 12) (finFn Try.prog (cfg.fn 12).byval Try.f12) [] (execA Try.prog C (cfg.fn 12) (nr Try.f12 []) (frame0 [a23 p0] 68 false)) = (T12 p0).map I := by
  unfold T12
  refine gS 1 ?_
  refine gR 0 (rg Try.f12 0) ?_
  refine se (mkE [(1, .ba 8 0)] [(8, .box [S p0.f0, I p0.f1, I p0.f2, LL a31 p0.f3] false)] 68) ?_
  refine pN ?_
  refine pS ?_
  refine gS 3 ?_
  refine gS 0 ?_
  refine gR 1 (rg Try.f12 1) ?_
  refine sg 2 (mkE [(8, S p0.f0), (7, .ba 8 0), (1, .ba 8 0)] [(8, .box [S p0.f0, I p0.f1, I p0.f2, LL a31 p0.f3] false)] 68) ?_
  refine co 9 [] (h33 p0.f0) (fun x1 => ?_)
  refine se (mkE [(1, .ba 8 0), (10, B (!x1))] [(8, .box [S p0.f0, I p0.f1, I p0.f2, LL a31 p0.f3] false)] 68) ?_
  refine pN ?_
  refine pS ?_
  refine gC 10 (!x1) ?_ ?_
  · refine gS 0 ?_
    refine gR 2 (rg Try.f12 2) ?_
    refine se (mkE [(2, I 5)] [] 68) ?_
    refine pN ?_
    refine pS ?_
    refine gE ?_
    exact pL
  · refine gK ?_
    refine pN ?_
    refine pS ?_
    refine gS 6 ?_
    refine gS 4 ?_
    refine gR 3 (rg Try.f12 3) ?_
    refine sg 5 (mkE [(15, .own 120 0), (14, I p0.f2), (13, .ba 8 2), (12, I p0.f1), (11, .ba 8 1), (1, .ba 8 0), (10, B (!x1))] [(120, RR 3 1 I ([p0.f1, p0.f2] : List Int) 0 false), (8, .box [S p0.f0, I p0.f1, I p0.f2, LL a31 p0.f3] false)] 68) ?_
    refine co 16 [120] (h34 ([p0.f1, p0.f2] : List Int)) (fun x2 => ?_)
    refine se (mkE [(1, .ba 8 0), (3, I x2)] [(8, .box [S p0.f0, I p0.f1, I p0.f2, LL a31 p0.f3] false)] 68) ?_
    refine pN ?_
    refine pS ?_
    refine gS 0 ?_
    refine gR 4 (rg Try.f12 4) ?_
    refine se (mkE [(1, .ba 8 0), (3, I x2), (18, B (neI x2 0))] [(8, .box [S p0.f0, I p0.f1, I p0.f2, LL a31 p0.f3] false)] 68) ?_
    refine pN ?_
    refine pS ?_
    refine gC 18 (neI x2 0) ?_ ?_
    · refine gS 0 ?_
      refine gR 5 (rg Try.f12 5) ?_
      refine se (mkE [(2, I x2)] [] 68) ?_
      refine pN ?_
      refine pS ?_
      refine gE ?_
      exact pL
    · refine gK ?_
      refine pN ?_
      refine pS ?_
      refine gS 8 ?_
      refine gS 0 ?_
      refine gR 6 (rg Try.f12 6) ?_
      refine sg 2 (mkE [(21, LL a31 p0.f3), (20, .ba 8 3), (1, .ba 8 0), (3, I x2), (18, B (neI x2 0))] [(8, .box [S p0.f0, I p0.f1, I p0.f2, LL a31 p0.f3] false)] 68) ?_
      refine eo 22 (I (lenL p0.f3)) (lenE 22 a31 p0.f3) ?_
      refine se (mkE [(1, .ba 8 0), (23, B (ltI 30 (lenL p0.f3)))] [(8, .box [S p0.f0, I p0.f1, I p0.f2, LL a31 p0.f3] false)] 68) ?_
      refine pN ?_
      refine pS ?_
      refine gC 23 (ltI 30 (lenL p0.f3)) ?_ ?_
      · refine gS 0 ?_
        refine gR 7 (rg Try.f12 7) ?_
        refine se (mkE [(2, I 2)] [] 68) ?_
        refine pN ?_
        refine pS ?_
        refine gE ?_
        exact pL
      · refine gK ?_
        refine pN ?_
        refine pS ?_
        refine gS 23 ?_
        refine gS 9 ?_
        refine gR 8 (rg Try.f12 8) ?_
        refine sg 2 (mkE [(25, LL a31 p0.f3), (24, .ba 8 3), (1, .ba 8 0), (23, B (ltI 30 (lenL p0.f3)))] [(8, .box [S p0.f0, I p0.f1, I p0.f2, LL a31 p0.f3] false)] 68) ?_
        refine eo 26 (I (lenL p0.f3)) (lenE 22 a31 p0.f3) ?_
        refine se (mkE [(1, .ba 8 0), (25, LL a31 p0.f3), (26, I (lenL p0.f3)), (27, I 0)] [(8, .box [S p0.f0, I p0.f1, I p0.f2, LL a31 p0.f3] false)] 68) ?_
        refine pN ?_
        refine pS ?_
        refine gB 0 ?_
        refine lo [(1, none), (25, none), (26, none), (27, none)] [] (L12_9 p0) (fun z0 : Int => (mkE [(1, .ba 8 0), (25, LL a31 p0.f3), (26, I (lenL p0.f3)), (27, I z0)] [(8, .box [S p0.f0, I p0.f1, I p0.f2, LL a31 p0.f3] false)] 68)) (Sum.elim (fun (x : (Int × Bool)) => (.exit 0, (mkE [(1, .ba 8 0), (25, LL a31 p0.f3), (26, I (lenL p0.f3)), (27, I x.1), (28, B x.2)] [(8, .box [S p0.f0, I p0.f1, I p0.f2, LL a31 p0.f3] false)] 68))) (fun (x : Int) => (.ret, (mkE [(2, I x)] [] 68)))) 0 (fun z => L12_9_ok C h33 h35 h36 h37 p0 z) ?_
        intro y9
        refine ss y9 (Z := (Sum.elim (fun (x : (Int × Bool)) => (.exit 0, (mkE [(1, .ba 8 0), (25, LL a31 p0.f3), (26, I (lenL p0.f3)), (27, I x.1), (28, B x.2)] [(8, .box [S p0.f0, I p0.f1, I p0.f2, LL a31 p0.f3] false)] 68))) (fun (x : Int) => (.ret, (mkE [(2, I x)] [] 68))))) (fun y9a => ?_) (fun y9b => ?_)
        · refine pH ?_
          refine pN ?_
          refine pS ?_
          refine gS 0 ?_
          refine gR 23 (rg Try.f12 23) ?_
          refine se (mkE [(2, I 0)] [] 68) ?_
          refine pN ?_
          refine pS ?_
          refine gE ?_
          exact pL
        · exact pL
theorem F12 (m : Nat) (hm : 4 ≤ m) (p0 : S23) : callA Try.prog cfg m 12 [a23 p0] = (T12 p0).map I := by
  obtain ⟨q, rfl⟩ : ∃ q, m = q + 1 := ⟨m - 1, by omega⟩
  exact (callA_body (fn := Try.f12) (c := body_ Try.f12) q _ (by kernel_rfl) (by kernel_rfl) (by kernel_rfl)).trans (B12 _ (fun p0 => F33 q (by omega) p0) (fun p0 => F34 q (by omega) p0) (fun p0 => F35 q (by omega) p0) (fun p0 p1 p2 => F36 q (by omega) p0 p1 p2) (fun p0 p1 p2 => F37 q (by omega) p0 p1 p2) p0)

noncomputable def T23 (p0 : Int) (p1 : Int) : Option Int := ((T37 p0 (-100000) 100000).bind fun x1 => (bif x1 then (some 1) else ((T37 p1 (-100000) 100000).bind fun x2 => (bif x2 then (some 1) else (some 0)))))
theorem B23 (C : Callee) (h37 : ∀ (p0 : Int) (p1 : Int) (p2 : Int), C 37 [I p0, I p1, I p2] = (T37 p0 p1 p2).map B) (p0 : Int) (p1 : Int) : runs Try.prog C (cfg.fn 23) (finFn Try.prog (cfg.fn 23).byval Try.f23) [] (execA Try.prog C (cfg.fn 23) (nr Try.f23 []) (frame0 [I p0, I p1] 11 false)) = (T23 p0 p1).map I := by
  unfold T23
  refine gS 1 ?_
  refine gR 0 (rg Try.f23 0) ?_
  refine se (mkE [(0, I p0), (1, I p1)] [] 11) ?_
  refine pN ?_
  refine pS ?_
  refine gS 3 ?_
  refine gS 0 ?_
  refine gR 1 (rg Try.f23 1) ?_
  refine sg 1 (mkE [(5, I p0), (0, I p0), (1, I p1)] [] 11) ?_
  refine co 6 [] (h37 p0 (-100000) 100000) (fun x1 => ?_)
  refine sg 3 (mkE [(7, B x1), (6, B x1), (5, I p0), (0, I p0), (1, I p1)] [] 11) ?_
  refine sb 7 x1 ?_ ?_
  · refine se (mkE [(10, B true)] [] 11) ?_
    refine pN ?_
    refine pS ?_
    refine gT (.tmp 10) ?_
    refine gS 0 ?_
    refine gR 2 (rg Try.f23 2) ?_
    refine se (mkE [(4, I 1)] [] 11) ?_
    refine pN ?_
    refine pS ?_
    refine gE ?_
    exact pL
  · refine sg 4 (mkE [(8, I p1), (7, B false), (7, B x1), (6, B x1), (5, I p0), (0, I p0), (1, I p1)] [] 11) ?_
    refine co 9 [] (h37 p1 (-100000) 100000) (fun x2 => ?_)
    refine se (mkE [(10, B x2)] [] 11) ?_
    refine pN ?_
    refine pS ?_
    refine gC 10 x2 ?_ ?_
    · refine gS 0 ?_
      refine gR 2 (rg Try.f23 2) ?_
      refine se (mkE [(4, I 1)] [] 11) ?_
      refine pN ?_
      refine pS ?_
      refine gE ?_
      exact pL
    · refine gK ?_
      refine pN ?_
      refine pS ?_
      refine gS 0 ?_
      refine gR 3 (rg Try.f23 3) ?_
      refine se (mkE [(4, I 0)] [] 11) ?_
      refine pN ?_
      refine pS ?_
      refine gE ?_
      exact pL
theorem F23 (m : Nat) (hm : 2 ≤ m) (p0 : Int) (p1 : Int) : callA Try.prog cfg m 23 [I p0, I p1] = (T23 p0 p1).map I := by
  obtain ⟨q, rfl⟩ : ∃ q, m = q + 1 := ⟨m - 1, by omega⟩
  exact (callA_body (fn := Try.f23) (c := body_ Try.f23) q _ (by kernel_rfl) (by kernel_rfl) (by kernel_rfl)).trans (B23 _ (fun p0 p1 p2 => F37 q (by omega) p0 p1 p2) p0 p1)

noncomputable def T24 (p0 : S29) (p1 : Int) (p2 : Int) : Option Bool := (bif (leI p0.f0 p1) then (bif (ltI p1 (addI .i64 p0.f0 p0.f2)) then (bif (leI p0.f1 p2) then (some (ltI p2 (addI .i64 p0.f1 p0.f3))) else (some false)) else (some false)) else (some false))
theorem B24 (C : Callee) (p0 : S29) (p1 : Int) (p2 : Int) : runs Try.prog C (cfg.fn 24) (finFn Try.prog (cfg.fn 24).byval Try.f24) [] (execA Try.prog C (cfg.fn 24) (nr Try.f24 []) (frame0 [a29 p0, I p1, I p2] 35 false)) = (T24 p0 p1 p2).map B := by
  unfold T24
  refine gS 1 ?_
  refine gR 0 (rg Try.f24 0) ?_
  refine se (mkE [(1, I p1), (2, I p2), (3, .ba 24 0)] [(24, .box [I p0.f0, I p0.f1, I p0.f2, I p0.f3] false)] 35) ?_
  refine pN ?_
  refine pS ?_
  refine gS 0 ?_
  refine gR 1 (rg Try.f24 1) ?_
  refine sg 5 (mkE [(11, B (leI p0.f0 p1)), (10, B (leI p0.f0 p1)), (9, I p1), (8, I p0.f0), (7, .ba 24 0), (1, I p1), (2, I p2), (3, .ba 24 0)] [(24, .box [I p0.f0, I p0.f1, I p0.f2, I p0.f3] false)] 35) ?_
  refine sb 11 (leI p0.f0 p1) ?_ ?_
  · refine sg 14 (mkE [(20, B (ltI p1 (addI .i64 p0.f0 p0.f2))), (19, B (ltI p1 (addI .i64 p0.f0 p0.f2))), (18, B (ltI p1 (addI .i64 p0.f0 p0.f2))), (17, I (addI .i64 p0.f0 p0.f2)), (16, I p0.f2), (15, .ba 24 2), (14, I p0.f0), (13, .ba 24 0), (12, I p1), (11, B true), (11, B (leI p0.f0 p1)), (10, B (leI p0.f0 p1)), (9, I p1), (8, I p0.f0), (7, .ba 24 0), (1, I p1), (2, I p2), (3, .ba 24 0)] [(24, .box [I p0.f0, I p0.f1, I p0.f2, I p0.f3] false)] 35) ?_
    refine sb 20 (ltI p1 (addI .i64 p0.f0 p0.f2)) ?_ ?_
    · refine sg 20 (mkE [(26, B (leI p0.f1 p2)), (25, B (leI p0.f1 p2)), (24, B (leI p0.f1 p2)), (23, I p2), (22, I p0.f1), (21, .ba 24 1), (20, B true), (20, B (ltI p1 (addI .i64 p0.f0 p0.f2))), (19, B (ltI p1 (addI .i64 p0.f0 p0.f2))), (18, B (ltI p1 (addI .i64 p0.f0 p0.f2))), (17, I (addI .i64 p0.f0 p0.f2)), (16, I p0.f2), (15, .ba 24 2), (14, I p0.f0), (13, .ba 24 0), (12, I p1), (11, B true), (11, B (leI p0.f0 p1)), (10, B (leI p0.f0 p1)), (9, I p1), (8, I p0.f0), (7, .ba 24 0), (1, I p1), (2, I p2), (3, .ba 24 0)] [(24, .box [I p0.f0, I p0.f1, I p0.f2, I p0.f3] false)] 35) ?_
      refine sb 26 (leI p0.f1 p2) ?_ ?_
      · refine se (mkE [(6, B (ltI p2 (addI .i64 p0.f1 p0.f3)))] [] 35) ?_
        refine pN ?_
        refine pS ?_
        refine gE ?_
        exact pL
      · refine se (mkE [(6, B false)] [] 35) ?_
        refine pN ?_
        refine pS ?_
        refine gE ?_
        exact pL
    · refine se (mkE [(6, B false)] [] 35) ?_
      refine pN ?_
      refine pS ?_
      refine gE ?_
      exact pL
  · refine se (mkE [(6, B false)] [] 35) ?_
    refine pN ?_
    refine pS ?_
    refine gE ?_
    exact pL
theorem F24 (m : Nat) (hm : 1 ≤ m) (p0 : S29) (p1 : Int) (p2 : Int) : callA Try.prog cfg m 24 [a29 p0, I p1, I p2] = (T24 p0 p1 p2).map B := by
  obtain ⟨q, rfl⟩ : ∃ q, m = q + 1 := ⟨m - 1, by omega⟩
  exact (callA_body (fn := Try.f24) (c := body_ Try.f24) q _ (by kernel_rfl) (by kernel_rfl) (by kernel_rfl)).trans (B24 _ p0 p1 p2)

noncomputable def T25 (p0 : (List S31)) (p1 : Int) (p2 : Int) : Option Bool := ((listAt p0 p1).bind fun x1 => ((listAt p0 p2).bind fun x2 => (bif (ltI x2.f2 x1.f2) then (some true) else ((listAt p0 p1).bind fun x3 => ((listAt p0 p2).bind fun x4 => (bif (eqI x3.f2 x4.f2) then (some (ltI p2 p1)) else (some false)))))))
theorem B25 (C : Callee) (p0 : (List S31)) (p1 : Int) (p2 : Int) : runs Try.prog C (cfg.fn 25) (finFn Try.prog (cfg.fn 25).byval Try.f25) [] (execA Try.prog C (cfg.fn 25) (nr Try.f25 []) (frame0 [LL a31 p0, I p1, I p2] 36 false)) = (T25 p0 p1 p2).map B := by
  unfold T25
  refine gS 1 ?_
  refine gR 0 (rg Try.f25 0) ?_
  refine se (mkE [(0, LL a31 p0), (1, I p1), (2, I p2)] [] 36) ?_
  refine pN ?_
  refine pS ?_
  refine gS 0 ?_
  refine gD 1 30 (rg Try.f25 1) [0, 1, 2, 3, 4, 5, 6, 7, 8, 9, 10, 11, 12, 13, 14, 15, 16, 17, 18, 19, 20, 21, 22, 23, 24, 25, 26, 27, 28, 29] ?_
  refine dg 2 [(some 7, qe (LL a31 p0)), (some 8, qe (I p1))] ?_
  refine dv 9 (mkE [(8, I p1), (7, LL a31 p0), (0, LL a31 p0), (1, I p1), (2, I p2)] [] 36) (addrE 22 32 6 a31 .i64 p0 p1) (fun x1 => ?_)
  refine dg 7 [(some 7, qe (LL a31 p0)), (some 8, qe (I p1)), (some 9, qe (.ia [S x1.f0, I x1.f1.f0, I x1.f1.f1, I x1.f1.f2, I x1.f1.f3, I x1.f2] 0)), (some 10, qe (.ia [S x1.f0, I x1.f1.f0, I x1.f1.f1, I x1.f1.f2, I x1.f1.f3, I x1.f2] 5)), (some 11, qe (I x1.f2)), (some 12, qe (LL a31 p0)), (some 13, qe (I p2))] ?_
  refine dv 14 (mkE [(13, I p2), (12, LL a31 p0), (0, LL a31 p0), (1, I p1), (2, I p2)] [] 36) (addrE 22 32 6 a31 .i64 p0 p2) (fun x2 => ?_)
  refine dg 12 [(some 7, qe (LL a31 p0)), (some 8, qe (I p1)), (some 9, qe (.ia [S x1.f0, I x1.f1.f0, I x1.f1.f1, I x1.f1.f2, I x1.f1.f3, I x1.f2] 0)), (some 10, qe (.ia [S x1.f0, I x1.f1.f0, I x1.f1.f1, I x1.f1.f2, I x1.f1.f3, I x1.f2] 5)), (some 11, qe (I x1.f2)), (some 12, qe (LL a31 p0)), (some 13, qe (I p2)), (some 14, qe (.ia [S x2.f0, I x2.f1.f0, I x2.f1.f1, I x2.f1.f2, I x2.f1.f3, I x2.f2] 0)), (some 15, qe (.ia [S x2.f0, I x2.f1.f0, I x2.f1.f1, I x2.f1.f2, I x2.f1.f3, I x2.f2] 5)), (some 16, qe (I x2.f2)), (some 17, qe (B (ltI x2.f2 x1.f2))), (some 18, qe (B (ltI x2.f2 x1.f2)))] ?_
  refine db 11 18 (ltI x2.f2 x1.f2) ?_ ?_
  · refine dg 30 [(some 7, qe (LL a31 p0)), (some 8, qe (I p1)), (some 9, qe (.ia [S x1.f0, I x1.f1.f0, I x1.f1.f1, I x1.f1.f2, I x1.f1.f3, I x1.f2] 0)), (some 10, qe (.ia [S x1.f0, I x1.f1.f0, I x1.f1.f1, I x1.f1.f2, I x1.f1.f3, I x1.f2] 5)), (some 11, qe (I x1.f2)), (some 12, qe (LL a31 p0)), (some 13, qe (I p2)), (some 14, qe (.ia [S x2.f0, I x2.f1.f0, I x2.f1.f1, I x2.f1.f2, I x2.f1.f3, I x2.f2] 0)), (some 15, qe (.ia [S x2.f0, I x2.f1.f0, I x2.f1.f1, I x2.f1.f2, I x2.f1.f3, I x2.f2] 5)), (some 16, qe (I x2.f2)), (some 17, qe (B (ltI x2.f2 x1.f2))), (some 18, qe (B true)), (some 19, qe (.und)), (some 20, qe (.und)), (some 21, qe (.und)), (some 22, qe (.und)), (some 23, qe (.und)), (some 24, qe (.und)), (some 25, qe (.und)), (some 26, qe (.und)), (some 27, qe (.und)), (some 28, qe (.und)), (some 29, qe (.und)), (some 30, qe (.und)), (some 31, qe (.und)), (some 32, qe (.und)), (some 33, qe (.und)), (some 34, qe (.und)), (some 35, qe (B true)), (some 6, qe (B true))] ?_
    refine de (mkE [(6, B true), (35, B true), (34, .und), (33, .und), (32, .und), (31, .und), (30, .und), (29, .und), (28, .und), (27, .und), (26, .und), (25, .und), (24, .und), (23, .und), (22, .und), (21, .und), (20, .und), (19, .und), (18, B true), (17, B (ltI x2.f2 x1.f2)), (16, I x2.f2), (15, .ia [S x2.f0, I x2.f1.f0, I x2.f1.f1, I x2.f1.f2, I x2.f1.f3, I x2.f2] 5), (14, .ia [S x2.f0, I x2.f1.f0, I x2.f1.f1, I x2.f1.f2, I x2.f1.f3, I x2.f2] 0), (13, I p2), (12, LL a31 p0), (11, I x1.f2), (10, .ia [S x1.f0, I x1.f1.f0, I x1.f1.f1, I x1.f1.f2, I x1.f1.f3, I x1.f2] 5), (9, .ia [S x1.f0, I x1.f1.f0, I x1.f1.f1, I x1.f1.f2, I x1.f1.f3, I x1.f2] 0), (8, I p1), (7, LL a31 p0), (0, LL a31 p0), (1, I p1), (2, I p2)] [] 36) ?_
    refine se (mkE [(6, B true)] [] 36) ?_
    refine pN ?_
    refine pS ?_
    refine gE ?_
    exact pL
  · refine dg 14 [(some 7, qe (LL a31 p0)), (some 8, qe (I p1)), (some 9, qe (.ia [S x1.f0, I x1.f1.f0, I x1.f1.f1, I x1.f1.f2, I x1.f1.f3, I x1.f2] 0)), (some 10, qe (.ia [S x1.f0, I x1.f1.f0, I x1.f1.f1, I x1.f1.f2, I x1.f1.f3, I x1.f2] 5)), (some 11, qe (I x1.f2)), (some 12, qe (LL a31 p0)), (some 13, qe (I p2)), (some 14, qe (.ia [S x2.f0, I x2.f1.f0, I x2.f1.f1, I x2.f1.f2, I x2.f1.f3, I x2.f2] 0)), (some 15, qe (.ia [S x2.f0, I x2.f1.f0, I x2.f1.f1, I x2.f1.f2, I x2.f1.f3, I x2.f2] 5)), (some 16, qe (I x2.f2)), (some 17, qe (B (ltI x2.f2 x1.f2))), (some 18, qe (B false)), (some 19, qe (LL a31 p0)), (some 20, qe (I p1))] ?_
    refine dv 21 (mkE [(20, I p1), (19, LL a31 p0), (18, B false), (17, B (ltI x2.f2 x1.f2)), (16, I x2.f2), (15, .ia [S x2.f0, I x2.f1.f0, I x2.f1.f1, I x2.f1.f2, I x2.f1.f3, I x2.f2] 5), (14, .ia [S x2.f0, I x2.f1.f0, I x2.f1.f1, I x2.f1.f2, I x2.f1.f3, I x2.f2] 0), (13, I p2), (12, LL a31 p0), (11, I x1.f2), (10, .ia [S x1.f0, I x1.f1.f0, I x1.f1.f1, I x1.f1.f2, I x1.f1.f3, I x1.f2] 5), (9, .ia [S x1.f0, I x1.f1.f0, I x1.f1.f1, I x1.f1.f2, I x1.f1.f3, I x1.f2] 0), (8, I p1), (7, LL a31 p0), (0, LL a31 p0), (1, I p1), (2, I p2)] [] 36) (addrE 22 32 6 a31 .i64 p0 p1) (fun x3 => ?_)
    refine dg 19 [(some 7, qe (LL a31 p0)), (some 8, qe (I p1)), (some 9, qe (.ia [S x1.f0, I x1.f1.f0, I x1.f1.f1, I x1.f1.f2, I x1.f1.f3, I x1.f2] 0)), (some 10, qe (.ia [S x1.f0, I x1.f1.f0, I x1.f1.f1, I x1.f1.f2, I x1.f1.f3, I x1.f2] 5)), (some 11, qe (I x1.f2)), (some 12, qe (LL a31 p0)), (some 13, qe (I p2)), (some 14, qe (.ia [S x2.f0, I x2.f1.f0, I x2.f1.f1, I x2.f1.f2, I x2.f1.f3, I x2.f2] 0)), (some 15, qe (.ia [S x2.f0, I x2.f1.f0, I x2.f1.f1, I x2.f1.f2, I x2.f1.f3, I x2.f2] 5)), (some 16, qe (I x2.f2)), (some 17, qe (B (ltI x2.f2 x1.f2))), (some 18, qe (B false)), (some 19, qe (LL a31 p0)), (some 20, qe (I p1)), (some 21, qe (.ia [S x3.f0, I x3.f1.f0, I x3.f1.f1, I x3.f1.f2, I x3.f1.f3, I x3.f2] 0)), (some 22, qe (.ia [S x3.f0, I x3.f1.f0, I x3.f1.f1, I x3.f1.f2, I x3.f1.f3, I x3.f2] 5)), (some 23, qe (I x3.f2)), (some 24, qe (LL a31 p0)), (some 25, qe (I p2))] ?_
    refine dv 26 (mkE [(25, I p2), (24, LL a31 p0), (18, B false), (17, B (ltI x2.f2 x1.f2)), (16, I x2.f2), (15, .ia [S x2.f0, I x2.f1.f0, I x2.f1.f1, I x2.f1.f2, I x2.f1.f3, I x2.f2] 5), (14, .ia [S x2.f0, I x2.f1.f0, I x2.f1.f1, I x2.f1.f2, I x2.f1.f3, I x2.f2] 0), (13, I p2), (12, LL a31 p0), (11, I x1.f2), (10, .ia [S x1.f0, I x1.f1.f0, I x1.f1.f1, I x1.f1.f2, I x1.f1.f3, I x1.f2] 5), (9, .ia [S x1.f0, I x1.f1.f0, I x1.f1.f1, I x1.f1.f2, I x1.f1.f3, I x1.f2] 0), (8, I p1), (7, LL a31 p0), (0, LL a31 p0), (1, I p1), (2, I p2)] [] 36) (addrE 22 32 6 a31 .i64 p0 p2) (fun x4 => ?_)
    refine dg 24 [(some 7, qe (LL a31 p0)), (some 8, qe (I p1)), (some 9, qe (.ia [S x1.f0, I x1.f1.f0, I x1.f1.f1, I x1.f1.f2, I x1.f1.f3, I x1.f2] 0)), (some 10, qe (.ia [S x1.f0, I x1.f1.f0, I x1.f1.f1, I x1.f1.f2, I x1.f1.f3, I x1.f2] 5)), (some 11, qe (I x1.f2)), (some 12, qe (LL a31 p0)), (some 13, qe (I p2)), (some 14, qe (.ia [S x2.f0, I x2.f1.f0, I x2.f1.f1, I x2.f1.f2, I x2.f1.f3, I x2.f2] 0)), (some 15, qe (.ia [S x2.f0, I x2.f1.f0, I x2.f1.f1, I x2.f1.f2, I x2.f1.f3, I x2.f2] 5)), (some 16, qe (I x2.f2)), (some 17, qe (B (ltI x2.f2 x1.f2))), (some 18, qe (B false)), (some 19, qe (LL a31 p0)), (some 20, qe (I p1)), (some 21, qe (.ia [S x3.f0, I x3.f1.f0, I x3.f1.f1, I x3.f1.f2, I x3.f1.f3, I x3.f2] 0)), (some 22, qe (.ia [S x3.f0, I x3.f1.f0, I x3.f1.f1, I x3.f1.f2, I x3.f1.f3, I x3.f2] 5)), (some 23, qe (I x3.f2)), (some 24, qe (LL a31 p0)), (some 25, qe (I p2)), (some 26, qe (.ia [S x4.f0, I x4.f1.f0, I x4.f1.f1, I x4.f1.f2, I x4.f1.f3, I x4.f2] 0)), (some 27, qe (.ia [S x4.f0, I x4.f1.f0, I x4.f1.f1, I x4.f1.f2, I x4.f1.f3, I x4.f2] 5)), (some 28, qe (I x4.f2)), (some 29, qe (B (eqI x3.f2 x4.f2))), (some 30, qe (B (eqI x3.f2 x4.f2)))] ?_
    refine db 23 30 (eqI x3.f2 x4.f2) ?_ ?_
    · refine dg 30 [(some 7, qe (LL a31 p0)), (some 8, qe (I p1)), (some 9, qe (.ia [S x1.f0, I x1.f1.f0, I x1.f1.f1, I x1.f1.f2, I x1.f1.f3, I x1.f2] 0)), (some 10, qe (.ia [S x1.f0, I x1.f1.f0, I x1.f1.f1, I x1.f1.f2, I x1.f1.f3, I x1.f2] 5)), (some 11, qe (I x1.f2)), (some 12, qe (LL a31 p0)), (some 13, qe (I p2)), (some 14, qe (.ia [S x2.f0, I x2.f1.f0, I x2.f1.f1, I x2.f1.f2, I x2.f1.f3, I x2.f2] 0)), (some 15, qe (.ia [S x2.f0, I x2.f1.f0, I x2.f1.f1, I x2.f1.f2, I x2.f1.f3, I x2.f2] 5)), (some 16, qe (I x2.f2)), (some 17, qe (B (ltI x2.f2 x1.f2))), (some 18, qe (B false)), (some 19, qe (LL a31 p0)), (some 20, qe (I p1)), (some 21, qe (.ia [S x3.f0, I x3.f1.f0, I x3.f1.f1, I x3.f1.f2, I x3.f1.f3, I x3.f2] 0)), (some 22, qe (.ia [S x3.f0, I x3.f1.f0, I x3.f1.f1, I x3.f1.f2, I x3.f1.f3, I x3.f2] 5)), (some 23, qe (I x3.f2)), (some 24, qe (LL a31 p0)), (some 25, qe (I p2)), (some 26, qe (.ia [S x4.f0, I x4.f1.f0, I x4.f1.f1, I x4.f1.f2, I x4.f1.f3, I x4.f2] 0)), (some 27, qe (.ia [S x4.f0, I x4.f1.f0, I x4.f1.f1, I x4.f1.f2, I x4.f1.f3, I x4.f2] 5)), (some 28, qe (I x4.f2)), (some 29, qe (B (eqI x3.f2 x4.f2))), (some 30, qe (B true)), (some 31, qe (I p1)), (some 32, qe (I p2)), (some 33, qe (B (ltI p2 p1))), (some 34, qe (B (ltI p2 p1))), (some 35, qe (B (ltI p2 p1))), (some 6, qe (B (ltI p2 p1)))] ?_
      refine de (mkE [(6, B (ltI p2 p1)), (35, B (ltI p2 p1)), (34, B (ltI p2 p1)), (33, B (ltI p2 p1)), (32, I p2), (31, I p1), (30, B true), (29, B (eqI x3.f2 x4.f2)), (28, I x4.f2), (27, .ia [S x4.f0, I x4.f1.f0, I x4.f1.f1, I x4.f1.f2, I x4.f1.f3, I x4.f2] 5), (26, .ia [S x4.f0, I x4.f1.f0, I x4.f1.f1, I x4.f1.f2, I x4.f1.f3, I x4.f2] 0), (25, I p2), (24, LL a31 p0), (23, I x3.f2), (22, .ia [S x3.f0, I x3.f1.f0, I x3.f1.f1, I x3.f1.f2, I x3.f1.f3, I x3.f2] 5), (21, .ia [S x3.f0, I x3.f1.f0, I x3.f1.f1, I x3.f1.f2, I x3.f1.f3, I x3.f2] 0), (20, I p1), (19, LL a31 p0), (18, B false), (17, B (ltI x2.f2 x1.f2)), (16, I x2.f2), (15, .ia [S x2.f0, I x2.f1.f0, I x2.f1.f1, I x2.f1.f2, I x2.f1.f3, I x2.f2] 5), (14, .ia [S x2.f0, I x2.f1.f0, I x2.f1.f1, I x2.f1.f2, I x2.f1.f3, I x2.f2] 0), (13, I p2), (12, LL a31 p0), (11, I x1.f2), (10, .ia [S x1.f0, I x1.f1.f0, I x1.f1.f1, I x1.f1.f2, I x1.f1.f3, I x1.f2] 5), (9, .ia [S x1.f0, I x1.f1.f0, I x1.f1.f1, I x1.f1.f2, I x1.f1.f3, I x1.f2] 0), (8, I p1), (7, LL a31 p0), (0, LL a31 p0), (1, I p1), (2, I p2)] [] 36) ?_
      refine se (mkE [(6, B (ltI p2 p1))] [] 36) ?_
      refine pN ?_
      refine pS ?_
      refine gE ?_
      exact pL
    · refine dg 30 [(some 7, qe (LL a31 p0)), (some 8, qe (I p1)), (some 9, qe (.ia [S x1.f0, I x1.f1.f0, I x1.f1.f1, I x1.f1.f2, I x1.f1.f3, I x1.f2] 0)), (some 10, qe (.ia [S x1.f0, I x1.f1.f0, I x1.f1.f1, I x1.f1.f2, I x1.f1.f3, I x1.f2] 5)), (some 11, qe (I x1.f2)), (some 12, qe (LL a31 p0)), (some 13, qe (I p2)), (some 14, qe (.ia [S x2.f0, I x2.f1.f0, I x2.f1.f1, I x2.f1.f2, I x2.f1.f3, I x2.f2] 0)), (some 15, qe (.ia [S x2.f0, I x2.f1.f0, I x2.f1.f1, I x2.f1.f2, I x2.f1.f3, I x2.f2] 5)), (some 16, qe (I x2.f2)), (some 17, qe (B (ltI x2.f2 x1.f2))), (some 18, qe (B false)), (some 19, qe (LL a31 p0)), (some 20, qe (I p1)), (some 21, qe (.ia [S x3.f0, I x3.f1.f0, I x3.f1.f1, I x3.f1.f2, I x3.f1.f3, I x3.f2] 0)), (some 22, qe (.ia [S x3.f0, I x3.f1.f0, I x3.f1.f1, I x3.f1.f2, I x3.f1.f3, I x3.f2] 5)), (some 23, qe (I x3.f2)), (some 24, qe (LL a31 p0)), (some 25, qe (I p2)), (some 26, qe (.ia [S x4.f0, I x4.f1.f0, I x4.f1.f1, I x4.f1.f2, I x4.f1.f3, I x4.f2] 0)), (some 27, qe (.ia [S x4.f0, I x4.f1.f0, I x4.f1.f1, I x4.f1.f2, I x4.f1.f3, I x4.f2] 5)), (some 28, qe (I x4.f2)), (some 29, qe (B (eqI x3.f2 x4.f2))), (some 30, qe (B false)), (some 31, qe (.und)), (some 32, qe (.und)), (some 33, qe (.und)), (some 34, qe (B false)), (some 35, qe (B false)), (some 6, qe (B false))] ?_
      refine de (mkE [(6, B false), (35, B false), (34, B false), (33, .und), (32, .und), (31, .und), (30, B false), (29, B (eqI x3.f2 x4.f2)), (28, I x4.f2), (27, .ia [S x4.f0, I x4.f1.f0, I x4.f1.f1, I x4.f1.f2, I x4.f1.f3, I x4.f2] 5), (26, .ia [S x4.f0, I x4.f1.f0, I x4.f1.f1, I x4.f1.f2, I x4.f1.f3, I x4.f2] 0), (25, I p2), (24, LL a31 p0), (23, I x3.f2), (22, .ia [S x3.f0, I x3.f1.f0, I x3.f1.f1, I x3.f1.f2, I x3.f1.f3, I x3.f2] 5), (21, .ia [S x3.f0, I x3.f1.f0, I x3.f1.f1, I x3.f1.f2, I x3.f1.f3, I x3.f2] 0), (20, I p1), (19, LL a31 p0), (18, B false), (17, B (ltI x2.f2 x1.f2)), (16, I x2.f2), (15, .ia [S x2.f0, I x2.f1.f0, I x2.f1.f1, I x2.f1.f2, I x2.f1.f3, I x2.f2] 5), (14, .ia [S x2.f0, I x2.f1.f0, I x2.f1.f1, I x2.f1.f2, I x2.f1.f3, I x2.f2] 0), (13, I p2), (12, LL a31 p0), (11, I x1.f2), (10, .ia [S x1.f0, I x1.f1.f0, I x1.f1.f1, I x1.f1.f2, I x1.f1.f3, I x1.f2] 5), (9, .ia [S x1.f0, I x1.f1.f0, I x1.f1.f1, I x1.f1.f2, I x1.f1.f3, I x1.f2] 0), (8, I p1), (7, LL a31 p0), (0, LL a31 p0), (1, I p1), (2, I p2)] [] 36) ?_
      refine se (mkE [(6, B false)] [] 36) ?_
      refine pN ?_
      refine pS ?_
      refine gE ?_
      exact pL
theorem F25 (m : Nat) (hm : 1 ≤ m) (p0 : (List S31)) (p1 : Int) (p2 : Int) : callA Try.prog cfg m 25 [LL a31 p0, I p1, I p2] = (T25 p0 p1 p2).map B := by
  obtain ⟨q, rfl⟩ : ∃ q, m = q + 1 := ⟨m - 1, by omega⟩
  exact (callA_body (fn := Try.f25) (c := body_ Try.f25) q _ (by kernel_rfl) (by kernel_rfl) (by kernel_rfl)).trans (B25 _ p0 p1 p2)

noncomputable def L8_9 (p0 : S23) (p1 : Int) (p2 : Int) (z0 : (Int × Int)) : Option ((Int × Int) ⊕ (Int × Int × Bool)) := (bif (ltI z0.2 (lenL p0.f3)) then ((listAt p0.f3 z0.2).bind fun x3 => ((T24 x3.f1 p1 p2).bind fun x4 => (bif x4 then (bif (ltI z0.1 0) then (some (.inl (z0.2, (addI .i64 z0.2 1)))) else ((T25 p0.f3 z0.2 z0.1).bind fun x5 => (bif x5 then (some (.inl (z0.2, (addI .i64 z0.2 1)))) else (some (.inl (z0.1, (addI .i64 z0.2 1))))))) else (some (.inl (z0.1, (addI .i64 z0.2 1))))))) else (some (.inr (z0.1, z0.2, (ltI z0.2 (lenL p0.f3))))))
theorem L8_9_ok (C : Callee) (h24 : ∀ (p0 : S29) (p1 : Int) (p2 : Int), C 24 [a29 p0, I p1, I p2] = (T24 p0 p1 p2).map B) (h25 : ∀ (p0 : (List S31)) (p1 : Int) (p2 : Int), C 25 [LL a31 p0, I p1, I p2] = (T25 p0 p1 p2).map B) (p0 : S23) (p1 : Int) (p2 : Int) (z0 : (Int × Int)) : runs Try.prog C (cfg.fn 8) (finLoop ((cfg.fn 8).keep 9) ((cfg.fn 8).al 9)) [] (execA Try.prog C (cfg.fn 8) (nr Try.f8 [false, false, true, false, true, true, true, true]) ((fun z0 : (Int × Int) => (mkE [(1, I p1), (2, I p2), (3, .ba 24 0), (11, I z0.1), (26, LL a31 p0.f3), (27, I (lenL p0.f3)), (28, I z0.2)] [(24, .box [S p0.f0, I p0.f1, I p0.f2, LL a31 p0.f3] false)] 59)) z0)) = (L8_9 p0 p1 p2 z0).map (Sum.elim (fun z => .inl ((fun z0 : (Int × Int) => (mkE [(1, I p1), (2, I p2), (3, .ba 24 0), (11, I z0.1), (26, LL a31 p0.f3), (27, I (lenL p0.f3)), (28, I z0.2)] [(24, .box [S p0.f0, I p0.f1, I p0.f2, LL a31 p0.f3] false)] 59)) z)) (fun x => .inr ((fun (x : (Int × Int × Bool)) => (.exit 0, (mkE [(1, I p1), (2, I p2), (3, .ba 24 0), (11, I x.1), (26, LL a31 p0.f3), (27, I (lenL p0.f3)), (28, I x.2.1), (29, B x.2.2)] [(24, .box [S p0.f0, I p0.f1, I p0.f2, LL a31 p0.f3] false)] 59))) x))) := by
  unfold L8_9
  refine gS 0 ?_
  refine gR 9 (rg Try.f8 9) ?_
  refine se (mkE [(1, I p1), (2, I p2), (3, .ba 24 0), (11, I z0.1), (26, LL a31 p0.f3), (27, I (lenL p0.f3)), (28, I z0.2), (29, B (ltI z0.2 (lenL p0.f3)))] [(24, .box [S p0.f0, I p0.f1, I p0.f2, LL a31 p0.f3] false)] 59) ?_
  refine pN ?_
  refine pS ?_
  refine gS 10 ?_
  refine gC 29 (ltI z0.2 (lenL p0.f3)) ?_ ?_
  · refine gK ?_
    refine pN ?_
    refine pS ?_
    refine gS 13 ?_
    refine gB 1 ?_
    refine gS 11 ?_
    refine gR 10 (rg Try.f8 10) ?_
    refine sg 1 (mkE [(30, I z0.2), (1, I p1), (2, I p2), (3, .ba 24 0), (11, I z0.1), (26, LL a31 p0.f3), (27, I (lenL p0.f3)), (28, I z0.2), (29, B (ltI z0.2 (lenL p0.f3)))] [(24, .box [S p0.f0, I p0.f1, I p0.f2, LL a31 p0.f3] false)] 59) ?_
    refine vo 31 (addrE 22 32 6 a31 .i64 p0.f3 z0.2) (fun x3 => ?_)
    refine se (mkE [(1, I p1), (2, I p2), (3, .ba 24 0), (11, I z0.1), (12, I z0.2), (13, .ba 104 0), (26, LL a31 p0.f3), (27, I (lenL p0.f3)), (28, I z0.2)] [(24, .box [S p0.f0, I p0.f1, I p0.f2, LL a31 p0.f3] false), (104, .box [S x3.f0, I x3.f1.f0, I x3.f1.f1, I x3.f1.f2, I x3.f1.f3, I x3.f2] false)] 59) ?_
    refine pN ?_
    refine pS ?_
    refine gS 0 ?_
    refine gR 11 (rg Try.f8 11) ?_
    refine sg 4 (mkE [(36, I p2), (35, I p1), (34, a29 x3.f1), (33, .ba 104 1), (1, I p1), (2, I p2), (3, .ba 24 0), (11, I z0.1), (12, I z0.2), (13, .ba 104 0), (26, LL a31 p0.f3), (27, I (lenL p0.f3)), (28, I z0.2)] [(24, .box [S p0.f0, I p0.f1, I p0.f2, LL a31 p0.f3] false), (104, .box [S x3.f0, I x3.f1.f0, I x3.f1.f1, I x3.f1.f2, I x3.f1.f3, I x3.f2] false)] 59) ?_
    refine co 37 [] (h24 x3.f1 p1 p2) (fun x4 => ?_)
    refine sg 6 (mkE [(38, B x4), (37, B x4), (36, I p2), (35, I p1), (34, a29 x3.f1), (33, .ba 104 1), (1, I p1), (2, I p2), (3, .ba 24 0), (11, I z0.1), (12, I z0.2), (13, .ba 104 0), (26, LL a31 p0.f3), (27, I (lenL p0.f3)), (28, I z0.2)] [(24, .box [S p0.f0, I p0.f1, I p0.f2, LL a31 p0.f3] false), (104, .box [S x3.f0, I x3.f1.f0, I x3.f1.f1, I x3.f1.f2, I x3.f1.f3, I x3.f2] false)] 59) ?_
    refine sb 38 x4 ?_ ?_
    · refine sg 9 (mkE [(41, B (ltI z0.1 0)), (40, B (ltI z0.1 0)), (39, I z0.1), (38, B true), (38, B x4), (37, B x4), (36, I p2), (35, I p1), (34, a29 x3.f1), (33, .ba 104 1), (1, I p1), (2, I p2), (3, .ba 24 0), (11, I z0.1), (12, I z0.2), (13, .ba 104 0), (26, LL a31 p0.f3), (27, I (lenL p0.f3)), (28, I z0.2)] [(24, .box [S p0.f0, I p0.f1, I p0.f2, LL a31 p0.f3] false), (104, .box [S x3.f0, I x3.f1.f0, I x3.f1.f1, I x3.f1.f2, I x3.f1.f3, I x3.f2] false)] 59) ?_
      refine sb 41 (ltI z0.1 0) ?_ ?_
      · refine se (mkE [(1, I p1), (2, I p2), (3, .ba 24 0), (11, I z0.1), (12, I z0.2), (26, LL a31 p0.f3), (27, I (lenL p0.f3)), (28, I z0.2), (48, B true)] [(24, .box [S p0.f0, I p0.f1, I p0.f2, LL a31 p0.f3] false)] 59) ?_
        refine pN ?_
        refine pS ?_
        refine gT (.tmp 48) ?_
        refine gR 12 (rg Try.f8 12) ?_
        refine se (mkE [(1, I p1), (2, I p2), (3, .ba 24 0), (11, I z0.2), (26, LL a31 p0.f3), (27, I (lenL p0.f3)), (28, I z0.2)] [(24, .box [S p0.f0, I p0.f1, I p0.f2, LL a31 p0.f3] false)] 59) ?_
        refine pB ?_
        refine pN ?_
        refine pS ?_
        refine gR 13 (rg Try.f8 13) ?_
        refine se (mkE [(1, I p1), (2, I p2), (3, .ba 24 0), (11, I z0.2), (26, LL a31 p0.f3), (27, I (lenL p0.f3)), (28, I (addI .i64 z0.2 1))] [(24, .box [S p0.f0, I p0.f1, I p0.f2, LL a31 p0.f3] false)] 59) ?_
        exact pL
      · refine sg 13 (mkE [(45, I z0.1), (44, I z0.2), (43, LL a31 p0.f3), (42, .ba 24 3), (41, B false), (41, B (ltI z0.1 0)), (40, B (ltI z0.1 0)), (39, I z0.1), (38, B true), (38, B x4), (37, B x4), (36, I p2), (35, I p1), (34, a29 x3.f1), (33, .ba 104 1), (1, I p1), (2, I p2), (3, .ba 24 0), (11, I z0.1), (12, I z0.2), (13, .ba 104 0), (26, LL a31 p0.f3), (27, I (lenL p0.f3)), (28, I z0.2)] [(24, .box [S p0.f0, I p0.f1, I p0.f2, LL a31 p0.f3] false), (104, .box [S x3.f0, I x3.f1.f0, I x3.f1.f1, I x3.f1.f2, I x3.f1.f3, I x3.f2] false)] 59) ?_
        refine co 46 [] (h25 p0.f3 z0.2 z0.1) (fun x5 => ?_)
        refine se (mkE [(1, I p1), (2, I p2), (3, .ba 24 0), (11, I z0.1), (12, I z0.2), (26, LL a31 p0.f3), (27, I (lenL p0.f3)), (28, I z0.2), (48, B x5)] [(24, .box [S p0.f0, I p0.f1, I p0.f2, LL a31 p0.f3] false)] 59) ?_
        refine pN ?_
        refine pS ?_
        refine gC 48 x5 ?_ ?_
        · refine gR 12 (rg Try.f8 12) ?_
          refine se (mkE [(1, I p1), (2, I p2), (3, .ba 24 0), (11, I z0.2), (26, LL a31 p0.f3), (27, I (lenL p0.f3)), (28, I z0.2)] [(24, .box [S p0.f0, I p0.f1, I p0.f2, LL a31 p0.f3] false)] 59) ?_
          refine pB ?_
          refine pN ?_
          refine pS ?_
          refine gR 13 (rg Try.f8 13) ?_
          refine se (mkE [(1, I p1), (2, I p2), (3, .ba 24 0), (11, I z0.2), (26, LL a31 p0.f3), (27, I (lenL p0.f3)), (28, I (addI .i64 z0.2 1))] [(24, .box [S p0.f0, I p0.f1, I p0.f2, LL a31 p0.f3] false)] 59) ?_
          exact pL
        · refine gK ?_
          refine pB ?_
          refine pN ?_
          refine pS ?_
          refine gR 13 (rg Try.f8 13) ?_
          refine se (mkE [(1, I p1), (2, I p2), (3, .ba 24 0), (11, I z0.1), (26, LL a31 p0.f3), (27, I (lenL p0.f3)), (28, I (addI .i64 z0.2 1))] [(24, .box [S p0.f0, I p0.f1, I p0.f2, LL a31 p0.f3] false)] 59) ?_
          exact pL
    · refine se (mkE [(1, I p1), (2, I p2), (3, .ba 24 0), (11, I z0.1), (12, I z0.2), (26, LL a31 p0.f3), (27, I (lenL p0.f3)), (28, I z0.2), (48, B false)] [(24, .box [S p0.f0, I p0.f1, I p0.f2, LL a31 p0.f3] false)] 59) ?_
      refine pN ?_
      refine pS ?_
      refine gF (.tmp 48) ?_
      refine gK ?_
      refine pB ?_
      refine pN ?_
      refine pS ?_
      refine gR 13 (rg Try.f8 13) ?_
      refine se (mkE [(1, I p1), (2, I p2), (3, .ba 24 0), (11, I z0.1), (26, LL a31 p0.f3), (27, I (lenL p0.f3)), (28, I (addI .i64 z0.2 1))] [(24, .box [S p0.f0, I p0.f1, I p0.f2, LL a31 p0.f3] false)] 59) ?_
      exact pL
  · refine gX 0 ?_
    exact pL
noncomputable def T8 (p0 : S23) (p1 : Int) (p2 : Int) : Option (ByteArray × Bool × Int) := ((T12 p0).bind fun x1 => (bif (neI x1 0) then (some ((ByteArray.mk #[]), false, x1)) else ((T23 p1 p2).bind fun x2 => (bif (neI x2 0) then (some ((ByteArray.mk #[]), false, x2)) else ((iter (L8_9 p0 p1 p2) ((-1), 0)).bind fun y6 => (bif (ltI y6.1 0) then (some ((ByteArray.mk #[]), false, 0)) else ((listAt p0.f3 y6.1).bind fun x7 => (some (x7.f0, true, 0)))))))))
theorem B8 (C : Callee) (h12 : ∀ (p0 : S23), C 12 [a23 p0] = (T12 p0).map I) (h23 : ∀ (p0 : Int) (p1 : Int), C 23 [I p0, I p1] = (T23 p0 p1).map I) (h24 : ∀ (p0 : S29) (p1 : Int) (p2 : Int), C 24 [a29 p0, I p1, I p2] = (T24 p0 p1 p2).map B) (h25 : ∀ (p0 : (List S31)) (p1 : Int) (p2 : Int), C 25 [LL a31 p0, I p1, I p2] = (T25 p0 p1 p2).map B) (p0 : S23) (p1 : Int) (p2 : Int) : runs Try.prog C (cfg.fn 8) (finFn Try.prog (cfg.fn 8).byval Try.f8) [] (execA Try.prog C (cfg.fn 8) (nr Try.f8 []) (frame0 [a23 p0, I p1, I p2] 59 false)) = (T8 p0 p1 p2).map (fun r => AV.tup [S r.1, B r.2.1, I r.2.2]) := by
  unfold T8
  refine gS 1 ?_
  refine gR 0 (rg Try.f8 0) ?_
  refine se (mkE [(1, I p1), (2, I p2), (3, .ba 24 0)] [(24, .box [S p0.f0, I p0.f1, I p0.f2, LL a31 p0.f3] false)] 59) ?_
  refine pN ?_
  refine pS ?_
  refine gS 4 ?_
  refine gS 2 ?_
  refine gR 1 (rg Try.f8 1) ?_
  refine sg 1 (mkE [(14, a23 p0), (1, I p1), (2, I p2), (3, .ba 24 0)] [(24, .box [S p0.f0, I p0.f1, I p0.f2, LL a31 p0.f3] false)] 59) ?_
  refine co 15 [] (h12 p0) (fun x1 => ?_)
  refine se (mkE [(1, I p1), (2, I p2), (3, .ba 24 0), (9, I x1)] [(24, .box [S p0.f0, I p0.f1, I p0.f2, LL a31 p0.f3] false)] 59) ?_
  refine pN ?_
  refine pS ?_
  refine gS 0 ?_
  refine gR 2 (rg Try.f8 2) ?_
  refine se (mkE [(1, I p1), (2, I p2), (3, .ba 24 0), (9, I x1), (17, B (neI x1 0))] [(24, .box [S p0.f0, I p0.f1, I p0.f2, LL a31 p0.f3] false)] 59) ?_
  refine pN ?_
  refine pS ?_
  refine gC 17 (neI x1 0) ?_ ?_
  · refine gS 0 ?_
    refine gR 3 (rg Try.f8 3) ?_
    refine se (mkE [(6, S (ByteArray.mk #[])), (7, B false), (8, I x1)] [] 59) ?_
    refine pN ?_
    refine pS ?_
    refine gE ?_
    exact pL
  · refine gK ?_
    refine pN ?_
    refine pS ?_
    refine gS 7 ?_
    refine gS 5 ?_
    refine gR 4 (rg Try.f8 4) ?_
    refine sg 2 (mkE [(20, I p2), (19, I p1), (1, I p1), (2, I p2), (3, .ba 24 0), (9, I x1), (17, B (neI x1 0))] [(24, .box [S p0.f0, I p0.f1, I p0.f2, LL a31 p0.f3] false)] 59) ?_
    refine co 21 [] (h23 p1 p2) (fun x2 => ?_)
    refine se (mkE [(1, I p1), (2, I p2), (3, .ba 24 0), (10, I x2)] [(24, .box [S p0.f0, I p0.f1, I p0.f2, LL a31 p0.f3] false)] 59) ?_
    refine pN ?_
    refine pS ?_
    refine gS 0 ?_
    refine gR 5 (rg Try.f8 5) ?_
    refine se (mkE [(1, I p1), (2, I p2), (3, .ba 24 0), (10, I x2), (23, B (neI x2 0))] [(24, .box [S p0.f0, I p0.f1, I p0.f2, LL a31 p0.f3] false)] 59) ?_
    refine pN ?_
    refine pS ?_
    refine gC 23 (neI x2 0) ?_ ?_
    · refine gS 0 ?_
      refine gR 6 (rg Try.f8 6) ?_
      refine se (mkE [(6, S (ByteArray.mk #[])), (7, B false), (8, I x2)] [] 59) ?_
      refine pN ?_
      refine pS ?_
      refine gE ?_
      exact pL
    · refine gK ?_
      refine pN ?_
      refine pS ?_
      refine gS 8 ?_
      refine gR 7 (rg Try.f8 7) ?_
      refine se (mkE [(1, I p1), (2, I p2), (3, .ba 24 0), (11, I (-1))] [(24, .box [S p0.f0, I p0.f1, I p0.f2, LL a31 p0.f3] false)] 59) ?_
      refine pN ?_
      refine pS ?_
      refine gS 14 ?_
      refine gS 9 ?_
      refine gR 8 (rg Try.f8 8) ?_
      refine sg 2 (mkE [(26, LL a31 p0.f3), (25, .ba 24 3), (1, I p1), (2, I p2), (3, .ba 24 0), (11, I (-1))] [(24, .box [S p0.f0, I p0.f1, I p0.f2, LL a31 p0.f3] false)] 59) ?_
      refine eo 27 (I (lenL p0.f3)) (lenE 22 a31 p0.f3) ?_
      refine se (mkE [(1, I p1), (2, I p2), (3, .ba 24 0), (11, I (-1)), (26, LL a31 p0.f3), (27, I (lenL p0.f3)), (28, I 0)] [(24, .box [S p0.f0, I p0.f1, I p0.f2, LL a31 p0.f3] false)] 59) ?_
      refine pN ?_
      refine pS ?_
      refine gB 0 ?_
      refine lo [(1, none), (2, none), (3, none), (11, none), (26, none), (27, none), (28, none)] [] (L8_9 p0 p1 p2) (fun z0 : (Int × Int) => (mkE [(1, I p1), (2, I p2), (3, .ba 24 0), (11, I z0.1), (26, LL a31 p0.f3), (27, I (lenL p0.f3)), (28, I z0.2)] [(24, .box [S p0.f0, I p0.f1, I p0.f2, LL a31 p0.f3] false)] 59)) (fun (x : (Int × Int × Bool)) => (.exit 0, (mkE [(1, I p1), (2, I p2), (3, .ba 24 0), (11, I x.1), (26, LL a31 p0.f3), (27, I (lenL p0.f3)), (28, I x.2.1), (29, B x.2.2)] [(24, .box [S p0.f0, I p0.f1, I p0.f2, LL a31 p0.f3] false)] 59))) ((-1), 0) (fun z => L8_9_ok C h24 h25 p0 p1 p2 z) ?_
      intro y6
      refine pH ?_
      refine pN ?_
      refine pS ?_
      refine gS 16 ?_
      refine gS 0 ?_
      refine gR 14 (rg Try.f8 14) ?_
      refine se (mkE [(3, .ba 24 0), (11, I y6.1), (52, B (ltI y6.1 0))] [(24, .box [S p0.f0, I p0.f1, I p0.f2, LL a31 p0.f3] false)] 59) ?_
      refine pN ?_
      refine pS ?_
      refine gC 52 (ltI y6.1 0) ?_ ?_
      · refine gS 0 ?_
        refine gR 15 (rg Try.f8 15) ?_
        refine se (mkE [(6, S (ByteArray.mk #[])), (7, B false), (8, I 0)] [] 59) ?_
        refine pN ?_
        refine pS ?_
        refine gE ?_
        exact pL
      · refine gK ?_
        refine pN ?_
        refine pS ?_
        refine gS 0 ?_
        refine gR 16 (rg Try.f8 16) ?_
        refine sg 3 (mkE [(55, I y6.1), (54, LL a31 p0.f3), (53, .ba 24 3), (3, .ba 24 0), (11, I y6.1), (52, B (ltI y6.1 0))] [(24, .box [S p0.f0, I p0.f1, I p0.f2, LL a31 p0.f3] false)] 59) ?_
        refine vo 56 (addrE 22 32 6 a31 .i64 p0.f3 y6.1) (fun x7 => ?_)
        refine se (mkE [(6, S x7.f0), (7, B true), (8, I 0)] [] 59) ?_
        refine pN ?_
        refine pS ?_
        refine gE ?_
        exact pL
theorem F8 (m : Nat) (hm : 5 ≤ m) (p0 : S23) (p1 : Int) (p2 : Int) : callA Try.prog cfg m 8 [a23 p0, I p1, I p2] = (T8 p0 p1 p2).map (fun r => AV.tup [S r.1, B r.2.1, I r.2.2]) := by
  obtain ⟨q, rfl⟩ : ∃ q, m = q + 1 := ⟨m - 1, by omega⟩
  exact (callA_body (fn := Try.f8) (c := body_ Try.f8) q _ (by kernel_rfl) (by kernel_rfl) (by kernel_rfl)).trans (B8 _ (fun p0 => F12 q (by omega) p0) (fun p0 p1 => F23 q (by omega) p0 p1) (fun p0 p1 p2 => F24 q (by omega) p0 p1 p2) (fun p0 p1 p2 => F25 q (by omega) p0 p1 p2) p0 p1 p2)

theorem F62 (m : Nat) (hm : 1 ≤ m) (p1 : Int) : callA Try.prog cfg m 62 [.nils, I p1] = (growO S29 32 p1).map (fun l => AV.fr 30 4 (List.map a29 l)) := by
  obtain ⟨q, rfl⟩ : ∃ q, m = q + 1 := ⟨m - 1, by omega⟩
  exact (callA_leaf (L := (leafGrow Try.prog 30 4 32)) _ _ (by kernel_rfl)).trans (grow_leaf 30 4 32 a29 _ p1 (by kernel_rfl))

noncomputable def L55_3 (p0 : (List (List S29))) (z0 : (Int × Int)) : Option ((Int × Int) ⊕ (Int × Int × Bool)) := (bif (ltI z0.2 (lenL p0)) then ((listAt p0 z0.2).bind fun x1 => (bif (ltI (addI .i64 z0.1 (lenL x1)) 0) then none else (some (.inl ((addI .i64 z0.1 (lenL x1)), (addI .i64 z0.2 1)))))) else (some (.inr (z0.1, z0.2, (ltI z0.2 (lenL p0))))))
theorem L55_3_ok (C : Callee) (p0 : (List (List S29))) (z0 : (Int × Int)) : runs Try.prog C (cfg.fn 55) (finLoop ((cfg.fn 55).keep 3) ((cfg.fn 55).al 3)) [] (execA Try.prog C (cfg.fn 55) (nr Try.f55 [false, false, true, false, true, true]) ((fun z0 : (Int × Int) => (mkE [(0, LL (LL a29) p0), (3, I z0.1), (9, LL (LL a29) p0), (10, I (lenL p0)), (11, I z0.2)] [] 36)) z0)) = (L55_3 p0 z0).map (Sum.elim (fun z => .inl ((fun z0 : (Int × Int) => (mkE [(0, LL (LL a29) p0), (3, I z0.1), (9, LL (LL a29) p0), (10, I (lenL p0)), (11, I z0.2)] [] 36)) z)) (fun x => .inr ((fun (x : (Int × Int × Bool)) => (.exit 0, (mkE [(0, LL (LL a29) p0), (3, I x.1), (9, LL (LL a29) p0), (10, I (lenL p0)), (11, I x.2.1), (12, B x.2.2)] [] 36))) x))) := by
  unfold L55_3
  refine gS 0 ?_
  refine gR 3 (rg Try.f55 3) ?_
  refine se (mkE [(0, LL (LL a29) p0), (3, I z0.1), (9, LL (LL a29) p0), (10, I (lenL p0)), (11, I z0.2), (12, B (ltI z0.2 (lenL p0)))] [] 36) ?_
  refine pN ?_
  refine pS ?_
  refine gS 4 ?_
  refine gC 12 (ltI z0.2 (lenL p0)) ?_ ?_
  · refine gK ?_
    refine pN ?_
    refine pS ?_
    refine gS 8 ?_
    refine gB 1 ?_
    refine gS 5 ?_
    refine gR 4 (rg Try.f55 4) ?_
    refine vo 13 (addrE 94 59 1 (LL a29) .i64 p0 z0.2) (fun x1 => ?_)
    refine se (mkE [(0, LL (LL a29) p0), (3, I z0.1), (5, LL a29 x1), (9, LL (LL a29) p0), (10, I (lenL p0)), (11, I z0.2)] [] 36) ?_
    refine pN ?_
    refine pS ?_
    refine gS 6 ?_
    refine gR 5 (rg Try.f55 5) ?_
    refine sg 2 (mkE [(16, LL a29 x1), (15, I z0.1), (0, LL (LL a29) p0), (3, I z0.1), (5, LL a29 x1), (9, LL (LL a29) p0), (10, I (lenL p0)), (11, I z0.2)] [] 36) ?_
    refine eo 17 (I (lenL x1)) (lenE 59 a29 x1) ?_
    refine se (mkE [(0, LL (LL a29) p0), (3, I (addI .i64 z0.1 (lenL x1))), (9, LL (LL a29) p0), (10, I (lenL p0)), (11, I z0.2)] [] 36) ?_
    refine pN ?_
    refine pS ?_
    refine gS 0 ?_
    refine gR 6 (rg Try.f55 6) ?_
    refine se (mkE [(0, LL (LL a29) p0), (3, I (addI .i64 z0.1 (lenL x1))), (9, LL (LL a29) p0), (10, I (lenL p0)), (11, I z0.2), (20, B (ltI (addI .i64 z0.1 (lenL x1)) 0))] [] 36) ?_
    refine pN ?_
    refine pS ?_
    refine gC 20 (ltI (addI .i64 z0.1 (lenL x1)) 0) ?_ ?_
    · refine gR 7 (rg Try.f55 7) ?_
      exact nO
    · refine gK ?_
      refine pB ?_
      refine pN ?_
      refine pS ?_
      refine gR 8 (rg Try.f55 8) ?_
      refine se (mkE [(0, LL (LL a29) p0), (3, I (addI .i64 z0.1 (lenL x1))), (9, LL (LL a29) p0), (10, I (lenL p0)), (11, I (addI .i64 z0.2 1))] [] 36) ?_
      exact pL
  · refine gX 0 ?_
    exact pL
noncomputable def L55_11 (p0 : (List (List S29))) (z1 : ((List S29) × Int)) : Option (((List S29) × Int) ⊕ (Int × Bool × (List S29))) := (bif (ltI z1.2 (lenL p0)) then ((listAt p0 z1.2).bind fun x4 => ((appO 32 z1.1 x4).bind fun x5 => (some (.inl (x5, (addI .i64 z1.2 1)))))) else (some (.inr (z1.2, (ltI z1.2 (lenL p0)), z1.1))))
theorem L55_11_ok (C : Callee) (p0 : (List (List S29))) (z1 : ((List S29) × Int)) : runs Try.prog C (cfg.fn 55) (finLoop ((cfg.fn 55).keep 11) ((cfg.fn 55).al 11)) [] (execA Try.prog C (cfg.fn 55) (nr Try.f55 [false, false, true, false, true, true, true, true]) ((fun z1 : ((List S29) × Int) => (mkE [(6, .own 48 0), (25, LL (LL a29) p0), (26, I (lenL p0)), (27, I z1.2)] [(48, RR 30 4 a29 z1.1 0 false)] 36)) z1)) = (L55_11 p0 z1).map (Sum.elim (fun z => .inl ((fun z1 : ((List S29) × Int) => (mkE [(6, .own 48 0), (25, LL (LL a29) p0), (26, I (lenL p0)), (27, I z1.2)] [(48, RR 30 4 a29 z1.1 0 false)] 36)) z)) (fun x => .inr ((fun (x : (Int × Bool × (List S29))) => (.exit 2, (mkE [(6, .own 48 0), (25, LL (LL a29) p0), (26, I (lenL p0)), (27, I x.1), (28, B x.2.1)] [(48, RR 30 4 a29 x.2.2 0 false)] 36))) x))) := by
  unfold L55_11
  refine gS 0 ?_
  refine gR 11 (rg Try.f55 11) ?_
  refine se (mkE [(6, .own 48 0), (25, LL (LL a29) p0), (26, I (lenL p0)), (27, I z1.2), (28, B (ltI z1.2 (lenL p0)))] [(48, RR 30 4 a29 z1.1 0 false)] 36) ?_
  refine pN ?_
  refine pS ?_
  refine gS 12 ?_
  refine gC 28 (ltI z1.2 (lenL p0)) ?_ ?_
  · refine gK ?_
    refine pN ?_
    refine pS ?_
    refine gS 14 ?_
    refine gB 3 ?_
    refine gS 13 ?_
    refine gR 12 (rg Try.f55 12) ?_
    refine vo 29 (addrE 94 59 1 (LL a29) .i64 p0 z1.2) (fun x4 => ?_)
    refine se (mkE [(6, .own 48 0), (8, LL a29 x4), (25, LL (LL a29) p0), (26, I (lenL p0)), (27, I z1.2)] [(48, RR 30 4 a29 z1.1 0 false)] 36) ?_
    refine pN ?_
    refine pS ?_
    refine gR 13 (rg Try.f55 13) ?_
    refine sg 2 (mkE [(32, LL a29 x4), (31, .own 48 0), (6, .own 48 0), (8, LL a29 x4), (25, LL (LL a29) p0), (26, I (lenL p0)), (27, I z1.2)] [(48, RR 30 4 a29 z1.1 0 false)] 36) ?_
    refine mo (some 33) (apO 59 30 4 32 48 a29 0 [] (y := LL a29 x4) (l2 := x4)) (fun x5 => ?_)
    refine se (mkE [(6, .own 48 1), (25, LL (LL a29) p0), (26, I (lenL p0)), (27, I z1.2)] [(48, RR 30 4 a29 x5 1 false)] 36) ?_
    refine pB ?_
    refine pN ?_
    refine pS ?_
    refine gR 14 (rg Try.f55 14) ?_
    refine se (mkE [(6, .own 48 1), (25, LL (LL a29) p0), (26, I (lenL p0)), (27, I (addI .i64 z1.2 1))] [(48, RR 30 4 a29 x5 1 false)] 36) ?_
    exact pL
  · refine gX 2 ?_
    exact pL
noncomputable def T55 (p0 : (List (List S29))) : Option (List S29) := ((iter (L55_3 p0) (0, 0)).bind fun y2 => ((growO S29 32 y2.1).bind fun x3 => ((iter (L55_11 p0) (x3, 0)).bind fun y6 => (some y6.2.2))))
theorem B55 (C : Callee) (h62 : ∀ (p1 : Int), C 62 [.nils, I p1] = (growO S29 32 p1).map (fun l => AV.fr 30 4 (List.map a29 l))) (p0 : (List (List S29))) : runs Try.prog C (cfg.fn 55) (finFn Try.prog (cfg.fn 55).byval Try.f55) [] (execA Try.prog C (cfg.fn 55) (nr Try.f55 []) (frame0 [LL (LL a29) p0] 36 false)) = (T55 p0).map (fun l => AV.fr 30 4 (List.map a29 l)) := by
  unfold T55
  refine gS 1 ?_
  refine gR 0 (rg Try.f55 0) ?_
  refine se (mkE [(0, LL (LL a29) p0)] [] 36) ?_
  refine pN ?_
  refine pS ?_
  refine gS 2 ?_
  refine gR 1 (rg Try.f55 1) ?_
  refine se (mkE [(0, LL (LL a29) p0), (3, I 0)] [] 36) ?_
  refine pN ?_
  refine pS ?_
  refine gS 9 ?_
  refine gS 3 ?_
  refine gR 2 (rg Try.f55 2) ?_
  refine sg 1 (mkE [(9, LL (LL a29) p0), (0, LL (LL a29) p0), (3, I 0)] [] 36) ?_
  refine eo 10 (I (lenL p0)) (lenE 94 (LL a29) p0) ?_
  refine se (mkE [(0, LL (LL a29) p0), (3, I 0), (9, LL (LL a29) p0), (10, I (lenL p0)), (11, I 0)] [] 36) ?_
  refine pN ?_
  refine pS ?_
  refine gB 0 ?_
  refine lo [(0, none), (3, none), (9, none), (10, none), (11, none)] [] (L55_3 p0) (fun z0 : (Int × Int) => (mkE [(0, LL (LL a29) p0), (3, I z0.1), (9, LL (LL a29) p0), (10, I (lenL p0)), (11, I z0.2)] [] 36)) (fun (x : (Int × Int × Bool)) => (.exit 0, (mkE [(0, LL (LL a29) p0), (3, I x.1), (9, LL (LL a29) p0), (10, I (lenL p0)), (11, I x.2.1), (12, B x.2.2)] [] 36))) (0, 0) (fun z => L55_3_ok C p0 z) ?_
  intro y2
  refine pH ?_
  refine pN ?_
  refine pS ?_
  refine gS 10 ?_
  refine gR 9 (rg Try.f55 9) ?_
  refine sg 1 (mkE [(23, I y2.1), (0, LL (LL a29) p0), (3, I y2.1), (9, LL (LL a29) p0), (10, I (lenL p0)), (11, I y2.2.1), (12, B y2.2.2)] [] 36) ?_
  refine co 24 [] (h62 y2.1) (fun x3 => ?_)
  refine se (mkE [(0, LL (LL a29) p0), (6, .own 192 0)] [(192, RR 30 4 a29 x3 0 false)] 36) ?_
  refine pN ?_
  refine pS ?_
  refine gS 15 ?_
  refine gS 11 ?_
  refine gR 10 (rg Try.f55 10) ?_
  refine sg 1 (mkE [(25, LL (LL a29) p0), (0, LL (LL a29) p0), (6, .own 192 0)] [(192, RR 30 4 a29 x3 0 false)] 36) ?_
  refine eo 26 (I (lenL p0)) (lenE 94 (LL a29) p0) ?_
  refine se (mkE [(6, .own 192 0), (25, LL (LL a29) p0), (26, I (lenL p0)), (27, I 0)] [(192, RR 30 4 a29 x3 0 false)] 36) ?_
  refine pN ?_
  refine pS ?_
  refine gB 2 ?_
  refine lo [(6, some (30, 4)), (25, none), (26, none), (27, none)] [] (L55_11 p0) (fun z1 : ((List S29) × Int) => (mkE [(6, .own 48 0), (25, LL (LL a29) p0), (26, I (lenL p0)), (27, I z1.2)] [(48, RR 30 4 a29 z1.1 0 false)] 36)) (fun (x : (Int × Bool × (List S29))) => (.exit 2, (mkE [(6, .own 48 0), (25, LL (LL a29) p0), (26, I (lenL p0)), (27, I x.1), (28, B x.2.1)] [(48, RR 30 4 a29 x.2.2 0 false)] 36))) (x3, 0) (fun z => L55_11_ok C p0 z) ?_
  intro y6
  refine pH ?_
  refine pN ?_
  refine pS ?_
  refine gS 0 ?_
  refine gR 15 (rg Try.f55 15) ?_
  refine se (mkE [(2, .own 48 0)] [(48, RR 30 4 a29 y6.2.2 0 false)] 36) ?_
  refine pN ?_
  refine pS ?_
  refine gE ?_
  exact pL
theorem F55 (m : Nat) (hm : 2 ≤ m) (p0 : (List (List S29))) : callA Try.prog cfg m 55 [LL (LL a29) p0] = (T55 p0).map (fun l => AV.fr 30 4 (List.map a29 l)) := by
  obtain ⟨q, rfl⟩ : ∃ q, m = q + 1 := ⟨m - 1, by omega⟩
  exact (callA_body (fn := Try.f55) (c := body_ Try.f55) q _ (by kernel_rfl) (by kernel_rfl) (by kernel_rfl)).trans (B55 _ (fun p1 => F62 q (by omega) p1) p0)

theorem F56 (m : Nat) (hm : 1 ≤ m) (p0 : (List Int)) : callA Try.prog cfg m 56 [.fr 3 1 (List.map I p0)] = (sortIO p0).map (fun (r : (List Int)) => AV.inp (.tup []) (.fr 3 1 (List.map I r))) := by
  obtain ⟨q, rfl⟩ : ∃ q, m = q + 1 := ⟨m - 1, by omega⟩
  exact (callA_leaf (L := (leafSortI 3)) _ _ (by kernel_rfl)).trans (sortI_leaf 3 _ p0)

theorem F57 (m : Nat) (hm : 1 ≤ m) (p0 : (List Int)) : callA Try.prog cfg m 57 [.fr 3 1 (List.map I p0)] = (compIO p0).map (fun l => AV.fr 3 1 (List.map I l)) := by
  obtain ⟨q, rfl⟩ : ∃ q, m = q + 1 := ⟨m - 1, by omega⟩
  exact (callA_leaf (L := (leafCompI 3)) _ _ (by kernel_rfl)).trans (compI_leaf 3 _ p0)

noncomputable def T66 (p0 : S90) (p1 : S90) : Option Int := (some (subI .i64 p0.f0 p1.f0))
theorem B66 (C : Callee) (p0 : S90) (p1 : S90) : runs Try.prog C (cfg.fn 66) (finFn Try.prog (cfg.fn 66).byval Try.f66) [] (execA Try.prog C (cfg.fn 66) (nr Try.f66 []) (frame0 [a90 p0, a90 p1] 10 false)) = (T66 p0 p1).map I := by
  unfold T66
  refine gS 1 ?_
  refine gR 0 (rg Try.f66 0) ?_
  refine se (mkE [(2, .ba 16 0), (3, .ba 24 0)] [(16, .box [I p0.f0, I p0.f1] false), (24, .box [I p1.f0, I p1.f1] false)] 10) ?_
  refine pN ?_
  refine pS ?_
  refine gS 0 ?_
  refine gR 1 (rg Try.f66 1) ?_
  refine se (mkE [(4, I (subI .i64 p0.f0 p1.f0))] [] 10) ?_
  refine pN ?_
  refine pS ?_
  refine gE ?_
  exact pL
theorem F66 (m : Nat) (hm : 1 ≤ m) (p0 : S90) (p1 : S90) : callA Try.prog cfg m 66 [a90 p0, a90 p1] = (T66 p0 p1).map I := by
  obtain ⟨q, rfl⟩ : ∃ q, m = q + 1 := ⟨m - 1, by omega⟩
  exact (callA_body (fn := Try.f66) (c := body_ Try.f66) q _ (by kernel_rfl) (by kernel_rfl) (by kernel_rfl)).trans (B66 _ p0 p1)

theorem F65 (m : Nat) (hm : 2 ≤ m) (p0 : (List S90)) : callA Try.prog cfg m 65 [.fr 91 2 (List.map a90 p0), .fn 66 []] = (sortO (fun x y => T66 x y) p0).map (fun (r : (List S90)) => AV.inp (.tup []) (.fr 91 2 (List.map a90 r))) := by
  obtain ⟨q, rfl⟩ : ∃ q, m = q + 1 := ⟨m - 1, by omega⟩
  exact (callA_leaf (L := (leafSortF Try.prog 91 2)) _ _ (by kernel_rfl)).trans (sortF_leaf 91 2 66 [] a90 (fun x y => T66 x y) _ p0 (fun x y => F66 q (by omega) x y) (fun _ => by kernel_rfl) (by kernel_rfl))

noncomputable def L59_3 (p0 : (List S29)) (p1 : Int) (z0 : ((List S90) × Int)) : Option (((List S90) × Int) ⊕ (Int × Bool × (List S90))) := (bif (ltI z0.2 (lenL p0)) then ((listAt p0 z0.2).bind fun x1 => (bif (leI x1.f1 p1) then (bif (ltI p1 (addI .i64 x1.f1 x1.f3)) then ((appO 16 z0.1 ([(S90.mk x1.f0 (addI .i64 x1.f0 x1.f2))] : List S90)).bind fun x2 => (some (.inl (x2, (addI .i64 z0.2 1))))) else (some (.inl (z0.1, (addI .i64 z0.2 1))))) else (some (.inl (z0.1, (addI .i64 z0.2 1)))))) else (some (.inr (z0.2, (ltI z0.2 (lenL p0)), z0.1))))
theorem L59_3_ok (C : Callee) (p0 : (List S29)) (p1 : Int) (z0 : ((List S90) × Int)) : runs Try.prog C (cfg.fn 59) (finLoop ((cfg.fn 59).keep 3) ((cfg.fn 59).al 3)) [] (execA Try.prog C (cfg.fn 59) (nr Try.f59 [false, false, true, false, true, true]) ((fun z0 : ((List S90) × Int) => (mkE [(1, I p1), (5, .own 40 0), (12, LL a29 p0), (13, I (lenL p0)), (14, I z0.2)] [(40, RR 91 2 a90 z0.1 0 false)] 84)) z0)) = (L59_3 p0 p1 z0).map (Sum.elim (fun z => .inl ((fun z0 : ((List S90) × Int) => (mkE [(1, I p1), (5, .own 40 0), (12, LL a29 p0), (13, I (lenL p0)), (14, I z0.2)] [(40, RR 91 2 a90 z0.1 0 false)] 84)) z)) (fun x => .inr ((fun (x : (Int × Bool × (List S90))) => (.exit 0, (mkE [(1, I p1), (5, .own 40 0), (12, LL a29 p0), (13, I (lenL p0)), (14, I x.1), (15, B x.2.1)] [(40, RR 91 2 a90 x.2.2 0 false)] 84))) x))) := by
  unfold L59_3
  refine gS 0 ?_
  refine gR 3 (rg Try.f59 3) ?_
  refine se (mkE [(1, I p1), (5, .own 40 0), (12, LL a29 p0), (13, I (lenL p0)), (14, I z0.2), (15, B (ltI z0.2 (lenL p0)))] [(40, RR 91 2 a90 z0.1 0 false)] 84) ?_
  refine pN ?_
  refine pS ?_
  refine gS 4 ?_
  refine gC 15 (ltI z0.2 (lenL p0)) ?_ ?_
  · refine gK ?_
    refine pN ?_
    refine pS ?_
    refine gS 7 ?_
    refine gB 1 ?_
    refine gS 5 ?_
    refine gR 4 (rg Try.f59 4) ?_
    refine vo 16 (addrE 59 30 4 a29 .i64 p0 z0.2) (fun x1 => ?_)
    refine se (mkE [(1, I p1), (5, .own 40 0), (7, .ba 56 0), (12, LL a29 p0), (13, I (lenL p0)), (14, I z0.2)] [(40, RR 91 2 a90 z0.1 0 false), (56, .box [I x1.f0, I x1.f1, I x1.f2, I x1.f3] false)] 84) ?_
    refine pN ?_
    refine pS ?_
    refine gS 0 ?_
    refine gR 5 (rg Try.f59 5) ?_
    refine sg 5 (mkE [(22, B (leI x1.f1 p1)), (21, B (leI x1.f1 p1)), (20, I p1), (19, I x1.f1), (18, .ba 56 1), (1, I p1), (5, .own 40 0), (7, .ba 56 0), (12, LL a29 p0), (13, I (lenL p0)), (14, I z0.2)] [(40, RR 91 2 a90 z0.1 0 false), (56, .box [I x1.f0, I x1.f1, I x1.f2, I x1.f3] false)] 84) ?_
    refine sb 22 (leI x1.f1 p1) ?_ ?_
    · refine se (mkE [(1, I p1), (5, .own 40 0), (7, .ba 56 0), (12, LL a29 p0), (13, I (lenL p0)), (14, I z0.2), (30, B (ltI p1 (addI .i64 x1.f1 x1.f3)))] [(40, RR 91 2 a90 z0.1 0 false), (56, .box [I x1.f0, I x1.f1, I x1.f2, I x1.f3] false)] 84) ?_
      refine pN ?_
      refine pS ?_
      refine gC 30 (ltI p1 (addI .i64 x1.f1 x1.f3)) ?_ ?_
      · refine gR 6 (rg Try.f59 6) ?_
        refine sg 10 (mkE [(40, .own 320 0), (39, .agg [I x1.f0, I (addI .i64 x1.f0 x1.f2)]), (38, I (addI .i64 x1.f0 x1.f2)), (37, I x1.f2), (36, .ba 56 2), (35, I x1.f0), (34, .ba 56 0), (33, I x1.f0), (32, .ba 56 0), (31, .own 40 0), (1, I p1), (5, .own 40 0), (7, .ba 56 0), (12, LL a29 p0), (13, I (lenL p0)), (14, I z0.2), (30, B (ltI p1 (addI .i64 x1.f1 x1.f3)))] [(320, RR 91 2 a90 ([(S90.mk x1.f0 (addI .i64 x1.f0 x1.f2))] : List S90) 0 false), (40, RR 91 2 a90 z0.1 0 false), (56, .box [I x1.f0, I x1.f1, I x1.f2, I x1.f3] false)] 84) ?_
        refine mo (some 41) (apO 86 91 2 16 40 a90 0 [320] (y := .own 320 0) (l2 := ([(S90.mk x1.f0 (addI .i64 x1.f0 x1.f2))] : List S90))) (fun x2 => ?_)
        refine se (mkE [(1, I p1), (5, .own 40 1), (12, LL a29 p0), (13, I (lenL p0)), (14, I z0.2)] [(40, RR 91 2 a90 x2 1 false)] 84) ?_
        refine pB ?_
        refine pN ?_
        refine pS ?_
        refine gR 7 (rg Try.f59 7) ?_
        refine se (mkE [(1, I p1), (5, .own 40 1), (12, LL a29 p0), (13, I (lenL p0)), (14, I (addI .i64 z0.2 1))] [(40, RR 91 2 a90 x2 1 false)] 84) ?_
        exact pL
      · refine gK ?_
        refine pB ?_
        refine pN ?_
        refine pS ?_
        refine gR 7 (rg Try.f59 7) ?_
        refine se (mkE [(1, I p1), (5, .own 40 0), (12, LL a29 p0), (13, I (lenL p0)), (14, I (addI .i64 z0.2 1))] [(40, RR 91 2 a90 z0.1 0 false)] 84) ?_
        exact pL
    · refine se (mkE [(1, I p1), (5, .own 40 0), (7, .ba 56 0), (12, LL a29 p0), (13, I (lenL p0)), (14, I z0.2), (30, B false)] [(40, RR 91 2 a90 z0.1 0 false), (56, .box [I x1.f0, I x1.f1, I x1.f2, I x1.f3] false)] 84) ?_
      refine pN ?_
      refine pS ?_
      refine gF (.tmp 30) ?_
      refine gK ?_
      refine pB ?_
      refine pN ?_
      refine pS ?_
      refine gR 7 (rg Try.f59 7) ?_
      refine se (mkE [(1, I p1), (5, .own 40 0), (12, LL a29 p0), (13, I (lenL p0)), (14, I (addI .i64 z0.2 1))] [(40, RR 91 2 a90 z0.1 0 false)] 84) ?_
      exact pL
  · refine gX 0 ?_
    exact pL
noncomputable def L59_11 (x4 : (List S90)) (z1 : ((List S90) × (List S90) × Int)) : Option (((List S90) × (List S90) × Int) ⊕ (Int × Bool × (List S90) × (List S90))) := (bif (ltI z1.2.2 (lenL x4)) then ((idxO (List.length z1.2.1) z1.2.2).bind fun x5 => ((getN z1.2.1 x5).bind fun x6 => (bif (leI 0 (subI .i64 (lenL z1.1) 1)) then ((idxO (List.length z1.1) (subI .i64 (lenL z1.1) 1)).bind fun x7 => ((getN z1.1 x7).bind fun x8 => (bif (leI x6.f0 x8.f1) then ((idxO (List.length z1.1) (subI .i64 (lenL z1.1) 1)).bind fun x9 => ((getN z1.1 x9).bind fun x10 => ((idxO (List.length z1.1) (subI .i64 (lenL z1.1) 1)).bind fun x11 => ((getN z1.1 x11).bind fun x12 => (some (.inl ((List.set z1.1 x11 (S90.mk x12.f0 (maxI x10.f1 x6.f1))), z1.2.1, (addI .i64 z1.2.2 1)))))))) else ((appO 16 z1.1 ([x6] : List S90)).bind fun x13 => (some (.inl (x13, z1.2.1, (addI .i64 z1.2.2 1)))))))) else ((appO 16 z1.1 ([x6] : List S90)).bind fun x14 => (some (.inl (x14, z1.2.1, (addI .i64 z1.2.2 1)))))))) else (some (.inr (z1.2.2, (ltI z1.2.2 (lenL x4)), z1.1, z1.2.1))))
theorem L59_11_ok (C : Callee) (x4 : (List S90)) (z1 : ((List S90) × (List S90) × Int)) : runs Try.prog C (cfg.fn 59) (finLoop ((cfg.fn 59).keep 11) ((cfg.fn 59).al 11)) [] (execA Try.prog C (cfg.fn 59) (nr Try.f59 [false, false, true, false, true, true, true, true, true]) ((fun z1 : ((List S90) × (List S90) × Int) => (mkE [(8, .own 64 0), (45, .own 360 0), (46, I (lenL x4)), (47, I z1.2.2)] [(64, RR 91 2 a90 z1.1 0 false), (360, RR 91 2 a90 z1.2.1 0 false)] 84)) z1)) = (L59_11 x4 z1).map (Sum.elim (fun z => .inl ((fun z1 : ((List S90) × (List S90) × Int) => (mkE [(8, .own 64 0), (45, .own 360 0), (46, I (lenL x4)), (47, I z1.2.2)] [(64, RR 91 2 a90 z1.1 0 false), (360, RR 91 2 a90 z1.2.1 0 false)] 84)) z)) (fun x => .inr ((fun (x : (Int × Bool × (List S90) × (List S90))) => (.exit 2, (mkE [(8, .own 64 0), (45, .own 360 0), (46, I (lenL x4)), (47, I x.1), (48, B x.2.1)] [(64, RR 91 2 a90 x.2.2.1 0 false), (360, RR 91 2 a90 x.2.2.2 0 false)] 84))) x))) := by
  unfold L59_11
  refine gS 0 ?_
  refine gR 11 (rg Try.f59 11) ?_
  refine se (mkE [(8, .own 64 0), (45, .own 360 0), (46, I (lenL x4)), (47, I z1.2.2), (48, B (ltI z1.2.2 (lenL x4)))] [(64, RR 91 2 a90 z1.1 0 false), (360, RR 91 2 a90 z1.2.1 0 false)] 84) ?_
  refine pN ?_
  refine pS ?_
  refine gS 12 ?_
  refine gC 48 (ltI z1.2.2 (lenL x4)) ?_ ?_
  · refine gK ?_
    refine pN ?_
    refine pS ?_
    refine gS 17 ?_
    refine gB 3 ?_
    refine gS 13 ?_
    refine gR 12 (rg Try.f59 12) ?_
    refine vo 49 (addrOE 86 91 2 360 0 false a90 .i64 z1.2.1 z1.2.2) (fun x5 => ?_)
    refine vo 50 (loadOE 91 360 0 x5 0 91 2 2 true false a90 (fun q : S90 => a90 q) z1.2.1) (fun x6 => ?_)
    refine se (mkE [(8, .own 64 0), (10, .ba 80 0), (45, .own 360 0), (46, I (lenL x4)), (47, I z1.2.2)] [(64, RR 91 2 a90 z1.1 0 false), (80, .box [I x6.f0, I x6.f1] false), (360, RR 91 2 a90 z1.2.1 0 false)] 84) ?_
    refine pN ?_
    refine pS ?_
    refine gS 14 ?_
    refine gR 13 (rg Try.f59 13) ?_
    refine sg 1 (mkE [(51, .own 64 0), (8, .own 64 0), (10, .ba 80 0), (45, .own 360 0), (46, I (lenL x4)), (47, I z1.2.2)] [(64, RR 91 2 a90 z1.1 0 false), (80, .box [I x6.f0, I x6.f1] false), (360, RR 91 2 a90 z1.2.1 0 false)] 84) ?_
    refine eo 52 (I (lenL z1.1)) (lenOE 86 91 2 a90 z1.1) ?_
    refine se (mkE [(8, .own 64 0), (10, .ba 80 0), (11, I (subI .i64 (lenL z1.1) 1)), (45, .own 360 0), (46, I (lenL x4)), (47, I z1.2.2)] [(64, RR 91 2 a90 z1.1 0 false), (80, .box [I x6.f0, I x6.f1] false), (360, RR 91 2 a90 z1.2.1 0 false)] 84) ?_
    refine pN ?_
    refine pS ?_
    refine gS 0 ?_
    refine gD 14 12 (rg Try.f59 14) [0, 1, 2, 3, 4, 5, 6, 7, 8, 9, 10, 11] ?_
    refine dg 3 [(some 54, qe (I (subI .i64 (lenL z1.1) 1))), (some 55, qe (B (leI 0 (subI .i64 (lenL z1.1) 1)))), (some 56, qe (B (leI 0 (subI .i64 (lenL z1.1) 1))))] ?_
    refine db 2 56 (leI 0 (subI .i64 (lenL z1.1) 1)) ?_ ?_
    · refine dg 7 [(some 54, qe (I (subI .i64 (lenL z1.1) 1))), (some 55, qe (B (leI 0 (subI .i64 (lenL z1.1) 1)))), (some 56, qe (B true)), (some 57, qe (.ba 80 0)), (some 58, qe (I x6.f0)), (some 59, qe (.own 64 0)), (some 60, qe (I (subI .i64 (lenL z1.1) 1)))] ?_
      refine dv 61 (mkE [(60, I (subI .i64 (lenL z1.1) 1)), (59, .own 64 0), (56, B true), (55, B (leI 0 (subI .i64 (lenL z1.1) 1))), (54, I (subI .i64 (lenL z1.1) 1)), (8, .own 64 0), (10, .ba 80 0), (11, I (subI .i64 (lenL z1.1) 1)), (45, .own 360 0), (46, I (lenL x4)), (47, I z1.2.2)] [(64, RR 91 2 a90 z1.1 0 false), (80, .box [I x6.f0, I x6.f1] false), (360, RR 91 2 a90 z1.2.1 0 false)] 84) (addrOE 86 91 2 64 0 false a90 .i64 z1.1 (subI .i64 (lenL z1.1) 1)) (fun x7 => ?_)
      refine dg 9 [(some 54, qe (I (subI .i64 (lenL z1.1) 1))), (some 55, qe (B (leI 0 (subI .i64 (lenL z1.1) 1)))), (some 56, qe (B true)), (some 57, qe (.ba 80 0)), (some 58, qe (I x6.f0)), (some 59, qe (.own 64 0)), (some 60, qe (I (subI .i64 (lenL z1.1) 1))), (some 61, qe (.oa 64 0 x7 0)), (some 62, qe (.oa 64 0 x7 1))] ?_
      refine dv 63 (mkE [(62, .oa 64 0 x7 1), (61, .oa 64 0 x7 0), (60, I (subI .i64 (lenL z1.1) 1)), (59, .own 64 0), (56, B true), (55, B (leI 0 (subI .i64 (lenL z1.1) 1))), (54, I (subI .i64 (lenL z1.1) 1)), (8, .own 64 0), (10, .ba 80 0), (11, I (subI .i64 (lenL z1.1) 1)), (45, .own 360 0), (46, I (lenL x4)), (47, I z1.2.2)] [(64, RR 91 2 a90 z1.1 0 false), (80, .box [I x6.f0, I x6.f1] false), (360, RR 91 2 a90 z1.2.1 0 false)] 84) (loadOE 3 64 0 x7 1 91 2 1 false false a90 (fun q : S90 => I q.f1) z1.1) (fun x8 => ?_)
      refine dg 12 [(some 54, qe (I (subI .i64 (lenL z1.1) 1))), (some 55, qe (B (leI 0 (subI .i64 (lenL z1.1) 1)))), (some 56, qe (B true)), (some 57, qe (.ba 80 0)), (some 58, qe (I x6.f0)), (some 59, qe (.own 64 0)), (some 60, qe (I (subI .i64 (lenL z1.1) 1))), (some 61, qe (.oa 64 0 x7 0)), (some 62, qe (.oa 64 0 x7 1)), (some 63, qe (I x8.f1)), (some 64, qe (B (leI x6.f0 x8.f1))), (some 65, qe (B (leI x6.f0 x8.f1)))] ?_
      refine de (mkE [(65, B (leI x6.f0 x8.f1)), (64, B (leI x6.f0 x8.f1)), (63, I x8.f1), (62, .oa 64 0 x7 1), (61, .oa 64 0 x7 0), (60, I (subI .i64 (lenL z1.1) 1)), (59, .own 64 0), (58, I x6.f0), (57, .ba 80 0), (56, B true), (55, B (leI 0 (subI .i64 (lenL z1.1) 1))), (54, I (subI .i64 (lenL z1.1) 1)), (8, .own 64 0), (10, .ba 80 0), (11, I (subI .i64 (lenL z1.1) 1)), (45, .own 360 0), (46, I (lenL x4)), (47, I z1.2.2)] [(64, RR 91 2 a90 z1.1 0 false), (80, .box [I x6.f0, I x6.f1] false), (360, RR 91 2 a90 z1.2.1 0 false)] 84) ?_
      refine se (mkE [(8, .own 64 0), (10, .ba 80 0), (11, I (subI .i64 (lenL z1.1) 1)), (45, .own 360 0), (46, I (lenL x4)), (47, I z1.2.2), (65, B (leI x6.f0 x8.f1))] [(64, RR 91 2 a90 z1.1 0 false), (80, .box [I x6.f0, I x6.f1] false), (360, RR 91 2 a90 z1.2.1 0 false)] 84) ?_
      refine pN ?_
      refine pS ?_
      refine gC 65 (leI x6.f0 x8.f1) ?_ ?_
      · refine gD 15 12 (rg Try.f59 15) [0, 1, 2, 3, 4, 5, 6, 7, 8, 9, 10, 11, 12] ?_
        refine dg 4 [(some 66, qe (.own 64 0)), (some 67, qe (I (subI .i64 (lenL z1.1) 1))), (some 68, qe (.own 64 0)), (some 69, qe (I (subI .i64 (lenL z1.1) 1)))] ?_
        refine dv 70 (mkE [(69, I (subI .i64 (lenL z1.1) 1)), (68, .own 64 0), (8, .own 64 0), (10, .ba 80 0), (11, I (subI .i64 (lenL z1.1) 1)), (45, .own 360 0), (46, I (lenL x4)), (47, I z1.2.2), (65, B (leI x6.f0 x8.f1))] [(64, RR 91 2 a90 z1.1 0 false), (80, .box [I x6.f0, I x6.f1] false), (360, RR 91 2 a90 z1.2.1 0 false)] 84) (addrOE 86 91 2 64 0 false a90 .i64 z1.1 (subI .i64 (lenL z1.1) 1)) (fun x9 => ?_)
        refine dg 6 [(some 66, qe (.own 64 0)), (some 67, qe (I (subI .i64 (lenL z1.1) 1))), (some 68, qe (.own 64 0)), (some 69, qe (I (subI .i64 (lenL z1.1) 1))), (some 70, qe (.oa 64 0 x9 0)), (some 71, qe (.oa 64 0 x9 1))] ?_
        refine dv 72 (mkE [(71, .oa 64 0 x9 1), (70, .oa 64 0 x9 0), (69, I (subI .i64 (lenL z1.1) 1)), (68, .own 64 0), (8, .own 64 0), (10, .ba 80 0), (11, I (subI .i64 (lenL z1.1) 1)), (45, .own 360 0), (46, I (lenL x4)), (47, I z1.2.2), (65, B (leI x6.f0 x8.f1))] [(64, RR 91 2 a90 z1.1 0 false), (80, .box [I x6.f0, I x6.f1] false), (360, RR 91 2 a90 z1.2.1 0 false)] 84) (loadOE 3 64 0 x9 1 91 2 1 false false a90 (fun q : S90 => I q.f1) z1.1) (fun x10 => ?_)
        refine dg 10 [(some 66, qe (.own 64 0)), (some 67, qe (I (subI .i64 (lenL z1.1) 1))), (some 68, qe (.own 64 0)), (some 69, qe (I (subI .i64 (lenL z1.1) 1))), (some 70, qe (.oa 64 0 x9 0)), (some 71, qe (.oa 64 0 x9 1)), (some 72, qe (I x10.f1)), (some 73, qe (.ba 80 1)), (some 74, qe (I x6.f1)), (some 75, qe (I (maxI x10.f1 x6.f1)))] ?_
        refine dv 76 (mkE [(75, I (maxI x10.f1 x6.f1)), (74, I x6.f1), (73, .ba 80 1), (72, I x10.f1), (71, .oa 64 0 x9 1), (70, .oa 64 0 x9 0), (69, I (subI .i64 (lenL z1.1) 1)), (68, .own 64 0), (67, I (subI .i64 (lenL z1.1) 1)), (66, .own 64 0), (8, .own 64 0), (10, .ba 80 0), (11, I (subI .i64 (lenL z1.1) 1)), (45, .own 360 0), (46, I (lenL x4)), (47, I z1.2.2), (65, B (leI x6.f0 x8.f1))] [(64, RR 91 2 a90 z1.1 0 false), (80, .box [I x6.f0, I x6.f1] false), (360, RR 91 2 a90 z1.2.1 0 false)] 84) (addrOE 86 91 2 64 0 false a90 .i64 z1.1 (subI .i64 (lenL z1.1) 1)) (fun x11 => ?_)
        refine dg 12 [(some 66, qe (.own 64 0)), (some 67, qe (I (subI .i64 (lenL z1.1) 1))), (some 68, qe (.own 64 0)), (some 69, qe (I (subI .i64 (lenL z1.1) 1))), (some 70, qe (.oa 64 0 x9 0)), (some 71, qe (.oa 64 0 x9 1)), (some 72, qe (I x10.f1)), (some 73, qe (.ba 80 1)), (some 74, qe (I x6.f1)), (some 75, qe (I (maxI x10.f1 x6.f1))), (some 76, qe (.oa 64 0 x11 0)), (some 77, qe (.oa 64 0 x11 1))] ?_
        refine de (mkE [(77, .oa 64 0 x11 1), (76, .oa 64 0 x11 0), (75, I (maxI x10.f1 x6.f1)), (74, I x6.f1), (73, .ba 80 1), (72, I x10.f1), (71, .oa 64 0 x9 1), (70, .oa 64 0 x9 0), (69, I (subI .i64 (lenL z1.1) 1)), (68, .own 64 0), (67, I (subI .i64 (lenL z1.1) 1)), (66, .own 64 0), (8, .own 64 0), (10, .ba 80 0), (11, I (subI .i64 (lenL z1.1) 1)), (45, .own 360 0), (46, I (lenL x4)), (47, I z1.2.2), (65, B (leI x6.f0 x8.f1))] [(64, RR 91 2 a90 z1.1 0 false), (80, .box [I x6.f0, I x6.f1] false), (360, RR 91 2 a90 z1.2.1 0 false)] 84) ?_
        refine mo none (stO 91 2 64 0 x11 1 a90 z1.1 [] [I (maxI x10.f1 x6.f1)] (I (maxI x10.f1 x6.f1)) (fun q : S90 => (S90.mk q.f0 (maxI x10.f1 x6.f1))) 3 (.tmp 77) (.tmp 75) 1) (fun x12 => ?_)
        refine se (mkE [(8, .own 64 0), (45, .own 360 0), (46, I (lenL x4)), (47, I z1.2.2)] [(64, RR 91 2 a90 (List.set z1.1 x11 (S90.mk x12.f0 (maxI x10.f1 x6.f1))) 0 false), (360, RR 91 2 a90 z1.2.1 0 false)] 84) ?_
        refine pB ?_
        refine pN ?_
        refine pS ?_
        refine gR 17 (rg Try.f59 17) ?_
        refine se (mkE [(8, .own 64 0), (45, .own 360 0), (46, I (lenL x4)), (47, I (addI .i64 z1.2.2 1))] [(64, RR 91 2 a90 (List.set z1.1 x11 (S90.mk x12.f0 (maxI x10.f1 x6.f1))) 0 false), (360, RR 91 2 a90 z1.2.1 0 false)] 84) ?_
        exact pL
      · refine gR 16 (rg Try.f59 16) ?_
        refine sg 3 (mkE [(80, .own 640 0), (79, a90 x6), (78, .own 64 0), (8, .own 64 0), (10, .ba 80 0), (11, I (subI .i64 (lenL z1.1) 1)), (45, .own 360 0), (46, I (lenL x4)), (47, I z1.2.2), (65, B (leI x6.f0 x8.f1))] [(640, RR 91 2 a90 ([x6] : List S90) 0 false), (64, RR 91 2 a90 z1.1 0 false), (80, .box [I x6.f0, I x6.f1] false), (360, RR 91 2 a90 z1.2.1 0 false)] 84) ?_
        refine mo (some 81) (apO 86 91 2 16 64 a90 0 [640] (y := .own 640 0) (l2 := ([x6] : List S90))) (fun x13 => ?_)
        refine se (mkE [(8, .own 64 1), (45, .own 360 0), (46, I (lenL x4)), (47, I z1.2.2)] [(64, RR 91 2 a90 x13 1 false), (360, RR 91 2 a90 z1.2.1 0 false)] 84) ?_
        refine pB ?_
        refine pN ?_
        refine pS ?_
        refine gR 17 (rg Try.f59 17) ?_
        refine se (mkE [(8, .own 64 1), (45, .own 360 0), (46, I (lenL x4)), (47, I (addI .i64 z1.2.2 1))] [(64, RR 91 2 a90 x13 1 false), (360, RR 91 2 a90 z1.2.1 0 false)] 84) ?_
        exact pL
    · refine dg 12 [(some 54, qe (I (subI .i64 (lenL z1.1) 1))), (some 55, qe (B (leI 0 (subI .i64 (lenL z1.1) 1)))), (some 56, qe (B false)), (some 57, qe (.und)), (some 58, qe (.und)), (some 59, qe (.und)), (some 60, qe (.und)), (some 61, qe (.und)), (some 62, qe (.und)), (some 63, qe (.und)), (some 64, qe (.und)), (some 65, qe (B false))] ?_
      refine de (mkE [(65, B false), (64, .und), (63, .und), (62, .und), (61, .und), (60, .und), (59, .und), (58, .und), (57, .und), (56, B false), (55, B (leI 0 (subI .i64 (lenL z1.1) 1))), (54, I (subI .i64 (lenL z1.1) 1)), (8, .own 64 0), (10, .ba 80 0), (11, I (subI .i64 (lenL z1.1) 1)), (45, .own 360 0), (46, I (lenL x4)), (47, I z1.2.2)] [(64, RR 91 2 a90 z1.1 0 false), (80, .box [I x6.f0, I x6.f1] false), (360, RR 91 2 a90 z1.2.1 0 false)] 84) ?_
      refine se (mkE [(8, .own 64 0), (10, .ba 80 0), (11, I (subI .i64 (lenL z1.1) 1)), (45, .own 360 0), (46, I (lenL x4)), (47, I z1.2.2), (65, B false)] [(64, RR 91 2 a90 z1.1 0 false), (80, .box [I x6.f0, I x6.f1] false), (360, RR 91 2 a90 z1.2.1 0 false)] 84) ?_
      refine pN ?_
      refine pS ?_
      refine gF (.tmp 65) ?_
      refine gR 16 (rg Try.f59 16) ?_
      refine sg 3 (mkE [(80, .own 640 0), (79, a90 x6), (78, .own 64 0), (8, .own 64 0), (10, .ba 80 0), (11, I (subI .i64 (lenL z1.1) 1)), (45, .own 360 0), (46, I (lenL x4)), (47, I z1.2.2), (65, B false)] [(640, RR 91 2 a90 ([x6] : List S90) 0 false), (64, RR 91 2 a90 z1.1 0 false), (80, .box [I x6.f0, I x6.f1] false), (360, RR 91 2 a90 z1.2.1 0 false)] 84) ?_
      refine mo (some 81) (apO 86 91 2 16 64 a90 0 [640] (y := .own 640 0) (l2 := ([x6] : List S90))) (fun x14 => ?_)
      refine se (mkE [(8, .own 64 1), (45, .own 360 0), (46, I (lenL x4)), (47, I z1.2.2)] [(64, RR 91 2 a90 x14 1 false), (360, RR 91 2 a90 z1.2.1 0 false)] 84) ?_
      refine pB ?_
      refine pN ?_
      refine pS ?_
      refine gR 17 (rg Try.f59 17) ?_
      refine se (mkE [(8, .own 64 1), (45, .own 360 0), (46, I (lenL x4)), (47, I (addI .i64 z1.2.2 1))] [(64, RR 91 2 a90 x14 1 false), (360, RR 91 2 a90 z1.2.1 0 false)] 84) ?_
      exact pL
  · refine gX 2 ?_
    exact pL
noncomputable def T59 (p0 : (List S29)) (p1 : Int) : Option (List S90) := ((iter (L59_3 p0 p1) ([], 0)).bind fun y3 => ((sortO (fun x y => T66 x y) y3.2.2).bind fun x4 => ((iter (L59_11 x4) ([], x4, 0)).bind fun y15 => (some y15.2.2.1))))
theorem B59 (C : Callee) (h65 : ∀ (p0 : (List S90)), C 65 [.fr 91 2 (List.map a90 p0), .fn 66 []] = (sortO (fun x y => T66 x y) p0).map (fun (r : (List S90)) => AV.inp (.tup []) (.fr 91 2 (List.map a90 r)))) (p0 : (List S29)) (p1 : Int) : runs Try.prog C (cfg.fn 59) (finFn Try.prog (cfg.fn 59).byval Try.f59) [] (execA Try.prog C (cfg.fn 59) (nr Try.f59 []) (frame0 [LL a29 p0, I p1] 84 false)) = (T59 p0 p1).map (fun l => AV.fr 91 2 (List.map a90 l)) := by
  unfold T59
  refine gS 1 ?_
  refine gR 0 (rg Try.f59 0) ?_
  refine se (mkE [(0, LL a29 p0), (1, I p1)] [] 84) ?_
  refine pN ?_
  refine pS ?_
  refine gS 2 ?_
  refine gR 1 (rg Try.f59 1) ?_
  refine se (mkE [(0, LL a29 p0), (1, I p1), (5, .nils)] [] 84) ?_
  refine pN ?_
  refine pS ?_
  refine gS 8 ?_
  refine gS 3 ?_
  refine gR 2 (rg Try.f59 2) ?_
  refine sg 1 (mkE [(12, LL a29 p0), (0, LL a29 p0), (1, I p1), (5, .nils)] [] 84) ?_
  refine eo 13 (I (lenL p0)) (lenE 59 a29 p0) ?_
  refine se (mkE [(1, I p1), (5, .nils), (12, LL a29 p0), (13, I (lenL p0)), (14, I 0)] [] 84) ?_
  refine pN ?_
  refine pS ?_
  refine gB 0 ?_
  refine lo [(1, none), (5, some (91, 2)), (12, none), (13, none), (14, none)] [] (L59_3 p0 p1) (fun z0 : ((List S90) × Int) => (mkE [(1, I p1), (5, .own 40 0), (12, LL a29 p0), (13, I (lenL p0)), (14, I z0.2)] [(40, RR 91 2 a90 z0.1 0 false)] 84)) (fun (x : (Int × Bool × (List S90))) => (.exit 0, (mkE [(1, I p1), (5, .own 40 0), (12, LL a29 p0), (13, I (lenL p0)), (14, I x.1), (15, B x.2.1)] [(40, RR 91 2 a90 x.2.2 0 false)] 84))) ([], 0) (fun z => L59_3_ok C p0 p1 z) ?_
  intro y3
  refine pH ?_
  refine pN ?_
  refine pS ?_
  refine gS 9 ?_
  refine gR 8 (rg Try.f59 8) ?_
  refine sg 1 (mkE [(43, .own 40 0), (1, I p1), (5, .own 40 0), (12, LL a29 p0), (13, I (lenL p0)), (14, I y3.1), (15, B y3.2.1)] [(40, RR 91 2 a90 y3.2.2 0 false)] 84) ?_
  refine mo (some 44) (ipR 65 91 2 40 0 a90 y3.2.2 [.fn 66 []] [.fn 66 []] [] (fun x : (List S90) => .tup []) (fun x : (List S90) => x) (h65 y3.2.2)) (fun x4 => ?_)
  refine se (mkE [(5, .own 40 0)] [(40, RR 91 2 a90 x4 0 false)] 84) ?_
  refine pN ?_
  refine pS ?_
  refine gS 10 ?_
  refine gR 9 (rg Try.f59 9) ?_
  refine se (mkE [(5, .own 40 0), (8, .nils)] [(40, RR 91 2 a90 x4 0 false)] 84) ?_
  refine pN ?_
  refine pS ?_
  refine gS 18 ?_
  refine gS 11 ?_
  refine gR 10 (rg Try.f59 10) ?_
  refine sg 1 (mkE [(45, .own 40 0), (5, .own 40 0), (8, .nils)] [(40, RR 91 2 a90 x4 0 false)] 84) ?_
  refine eo 46 (I (lenL x4)) (lenOE 86 91 2 a90 x4) ?_
  refine se (mkE [(8, .nils), (45, .own 40 0), (46, I (lenL x4)), (47, I 0)] [(40, RR 91 2 a90 x4 0 false)] 84) ?_
  refine pN ?_
  refine pS ?_
  refine gB 2 ?_
  refine lo [(8, some (91, 2)), (45, some (91, 2)), (46, none), (47, none)] [] (L59_11 x4) (fun z1 : ((List S90) × (List S90) × Int) => (mkE [(8, .own 64 0), (45, .own 360 0), (46, I (lenL x4)), (47, I z1.2.2)] [(64, RR 91 2 a90 z1.1 0 false), (360, RR 91 2 a90 z1.2.1 0 false)] 84)) (fun (x : (Int × Bool × (List S90) × (List S90))) => (.exit 2, (mkE [(8, .own 64 0), (45, .own 360 0), (46, I (lenL x4)), (47, I x.1), (48, B x.2.1)] [(64, RR 91 2 a90 x.2.2.1 0 false), (360, RR 91 2 a90 x.2.2.2 0 false)] 84))) ([], x4, 0) (fun z => L59_11_ok C x4 z) ?_
  intro y15
  refine pH ?_
  refine pN ?_
  refine pS ?_
  refine gS 0 ?_
  refine gR 18 (rg Try.f59 18) ?_
  refine se (mkE [(4, .own 64 0)] [(64, RR 91 2 a90 y15.2.2.1 0 false)] 84) ?_
  refine pN ?_
  refine pS ?_
  refine gE ?_
  exact pL
theorem F59 (m : Nat) (hm : 3 ≤ m) (p0 : (List S29)) (p1 : Int) : callA Try.prog cfg m 59 [LL a29 p0, I p1] = (T59 p0 p1).map (fun l => AV.fr 91 2 (List.map a90 l)) := by
  obtain ⟨q, rfl⟩ : ∃ q, m = q + 1 := ⟨m - 1, by omega⟩
  exact (callA_body (fn := Try.f59) (c := body_ Try.f59) q _ (by kernel_rfl) (by kernel_rfl) (by kernel_rfl)).trans (B59 _ (fun p0 => F65 q (by omega) p0) p0 p1)

noncomputable def L58_6 (p0 : (List S90)) (p1 : (List S90)) (z0 : ((List S90) × Int × Int)) (x1 : S90) (z1 : Int) : Option (Int ⊕ (Int × Bool)) := (bif (ltI z1 (lenL p1)) then ((listAt p1 z1).bind fun x2 => (bif (leI x2.f1 x1.f0) then (some (.inl (addI .i64 z1 1))) else (some (.inr (z1, (leI x2.f1 x1.f0)))))) else (some (.inr (z1, false))))
theorem L58_6_ok (C : Callee) (p0 : (List S90)) (p1 : (List S90)) (z0 : ((List S90) × Int × Int)) (x1 : S90) (z1 : Int) : runs Try.prog C (cfg.fn 58) (finLoop ((cfg.fn 58).keep 6) ((cfg.fn 58).al 6)) [] (execA Try.prog C (cfg.fn 58) (nr Try.f58 [false, false, false, true, false, false, true, true, false, false, true, false, true, true, true]) ((fun z1 : Int => (mkE [(1, LL a90 p1), (5, .own 40 0), (6, I z1), (8, .ba 64 0), (10, LL a90 p0), (11, I (lenL p0)), (12, I z0.2.2)] [(40, RR 91 2 a90 z0.1 0 false), (64, .box [I x1.f0, I x1.f1] false)] 88)) z1)) = (L58_6 p0 p1 z0 x1 z1).map (Sum.elim (fun z => .inl ((fun z1 : Int => (mkE [(1, LL a90 p1), (5, .own 40 0), (6, I z1), (8, .ba 64 0), (10, LL a90 p0), (11, I (lenL p0)), (12, I z0.2.2)] [(40, RR 91 2 a90 z0.1 0 false), (64, .box [I x1.f0, I x1.f1] false)] 88)) z)) (fun x => .inr ((fun (x : (Int × Bool)) => (.exit 2, (mkE [(1, LL a90 p1), (5, .own 40 0), (6, I x.1), (8, .ba 64 0), (10, LL a90 p0), (11, I (lenL p0)), (12, I z0.2.2), (29, B x.2)] [(40, RR 91 2 a90 z0.1 0 false), (64, .box [I x1.f0, I x1.f1] false)] 88))) x))) := by
  unfold L58_6
  refine gS 7 ?_
  refine gS 0 ?_
  refine gD 6 14 (rg Try.f58 6) [0, 1, 2, 3, 4, 5, 6, 7, 8, 9, 10, 11, 12, 13] ?_
  refine dg 2 [(some 16, qe (I z1)), (some 17, qe (LL a90 p1))] ?_
  refine df 18 (I (lenL p1)) (mkE [(17, LL a90 p1), (1, LL a90 p1), (5, .own 40 0), (6, I z1), (8, .ba 64 0), (10, LL a90 p0), (11, I (lenL p0)), (12, I z0.2.2)] [(40, RR 91 2 a90 z0.1 0 false), (64, .box [I x1.f0, I x1.f1] false)] 88) (lenE 86 a90 p1) ?_
  refine dg 5 [(some 16, qe (I z1)), (some 17, qe (LL a90 p1)), (some 18, qe (I (lenL p1))), (some 19, qe (B (ltI z1 (lenL p1)))), (some 20, qe (B (ltI z1 (lenL p1))))] ?_
  refine db 4 20 (ltI z1 (lenL p1)) ?_ ?_
  · refine dg 7 [(some 16, qe (I z1)), (some 17, qe (LL a90 p1)), (some 18, qe (I (lenL p1))), (some 19, qe (B (ltI z1 (lenL p1)))), (some 20, qe (B true)), (some 21, qe (LL a90 p1)), (some 22, qe (I z1))] ?_
    refine dv 23 (mkE [(22, I z1), (21, LL a90 p1), (20, B true), (19, B (ltI z1 (lenL p1))), (18, I (lenL p1)), (17, LL a90 p1), (16, I z1), (1, LL a90 p1), (5, .own 40 0), (6, I z1), (8, .ba 64 0), (10, LL a90 p0), (11, I (lenL p0)), (12, I z0.2.2)] [(40, RR 91 2 a90 z0.1 0 false), (64, .box [I x1.f0, I x1.f1] false)] 88) (addrE 86 91 2 a90 .i64 p1 z1) (fun x2 => ?_)
    refine dg 14 [(some 16, qe (I z1)), (some 17, qe (LL a90 p1)), (some 18, qe (I (lenL p1))), (some 19, qe (B (ltI z1 (lenL p1)))), (some 20, qe (B true)), (some 21, qe (LL a90 p1)), (some 22, qe (I z1)), (some 23, qe (.ia [I x2.f0, I x2.f1] 0)), (some 24, qe (.ia [I x2.f0, I x2.f1] 1)), (some 25, qe (I x2.f1)), (some 26, qe (.ba 64 0)), (some 27, qe (I x1.f0)), (some 28, qe (B (leI x2.f1 x1.f0))), (some 29, qe (B (leI x2.f1 x1.f0)))] ?_
    refine de (mkE [(29, B (leI x2.f1 x1.f0)), (28, B (leI x2.f1 x1.f0)), (27, I x1.f0), (26, .ba 64 0), (25, I x2.f1), (24, .ia [I x2.f0, I x2.f1] 1), (23, .ia [I x2.f0, I x2.f1] 0), (22, I z1), (21, LL a90 p1), (20, B true), (19, B (ltI z1 (lenL p1))), (18, I (lenL p1)), (17, LL a90 p1), (16, I z1), (1, LL a90 p1), (5, .own 40 0), (6, I z1), (8, .ba 64 0), (10, LL a90 p0), (11, I (lenL p0)), (12, I z0.2.2)] [(40, RR 91 2 a90 z0.1 0 false), (64, .box [I x1.f0, I x1.f1] false)] 88) ?_
    refine se (mkE [(1, LL a90 p1), (5, .own 40 0), (6, I z1), (8, .ba 64 0), (10, LL a90 p0), (11, I (lenL p0)), (12, I z0.2.2), (29, B (leI x2.f1 x1.f0))] [(40, RR 91 2 a90 z0.1 0 false), (64, .box [I x1.f0, I x1.f1] false)] 88) ?_
    refine pN ?_
    refine pS ?_
    refine gC 29 (leI x2.f1 x1.f0) ?_ ?_
    · refine gK ?_
      refine pN ?_
      refine pS ?_
      refine gB 3 ?_
      refine gR 7 (rg Try.f58 7) ?_
      refine se (mkE [(1, LL a90 p1), (5, .own 40 0), (6, I (addI .i64 z1 1)), (8, .ba 64 0), (10, LL a90 p0), (11, I (lenL p0)), (12, I z0.2.2)] [(40, RR 91 2 a90 z0.1 0 false), (64, .box [I x1.f0, I x1.f1] false)] 88) ?_
      refine pB ?_
      exact pL
    · refine gX 2 ?_
      exact pL
  · refine dg 14 [(some 16, qe (I z1)), (some 17, qe (LL a90 p1)), (some 18, qe (I (lenL p1))), (some 19, qe (B (ltI z1 (lenL p1)))), (some 20, qe (B false)), (some 21, qe (.und)), (some 22, qe (.und)), (some 23, qe (.und)), (some 24, qe (.und)), (some 25, qe (.und)), (some 26, qe (.und)), (some 27, qe (.und)), (some 28, qe (.und)), (some 29, qe (B false))] ?_
    refine de (mkE [(29, B false), (28, .und), (27, .und), (26, .und), (25, .und), (24, .und), (23, .und), (22, .und), (21, .und), (20, B false), (19, B (ltI z1 (lenL p1))), (18, I (lenL p1)), (17, LL a90 p1), (16, I z1), (1, LL a90 p1), (5, .own 40 0), (6, I z1), (8, .ba 64 0), (10, LL a90 p0), (11, I (lenL p0)), (12, I z0.2.2)] [(40, RR 91 2 a90 z0.1 0 false), (64, .box [I x1.f0, I x1.f1] false)] 88) ?_
    refine se (mkE [(1, LL a90 p1), (5, .own 40 0), (6, I z1), (8, .ba 64 0), (10, LL a90 p0), (11, I (lenL p0)), (12, I z0.2.2), (29, B false)] [(40, RR 91 2 a90 z0.1 0 false), (64, .box [I x1.f0, I x1.f1] false)] 88) ?_
    refine pN ?_
    refine pS ?_
    refine gF (.tmp 29) ?_
    refine gX 2 ?_
    exact pL
noncomputable def L58_9 (p0 : (List S90)) (p1 : (List S90)) (z0 : ((List S90) × Int × Int)) (x1 : S90) (y3 : (Int × Bool)) (z2 : ((List S90) × Int × Int)) : Option (((List S90) × Int × Int) ⊕ (Int × Bool × (List S90) × Int)) := (bif (ltI z2.2.2 (lenL p1)) then ((listAt p1 z2.2.2).bind fun x4 => (bif (ltI x4.f0 x1.f1) then ((listAt p1 z2.2.2).bind fun x5 => (bif (ltI z2.2.1 x5.f0) then ((listAt p1 z2.2.2).bind fun x6 => ((appO 16 z2.1 ([(S90.mk z2.2.1 x6.f0)] : List S90)).bind fun x7 => ((listAt p1 z2.2.2).bind fun x8 => (some (.inl (x7, (maxI z2.2.1 x8.f1), (addI .i64 z2.2.2 1))))))) else ((listAt p1 z2.2.2).bind fun x9 => (some (.inl (z2.1, (maxI z2.2.1 x9.f1), (addI .i64 z2.2.2 1))))))) else (some (.inr (z2.2.2, (ltI x4.f0 x1.f1), z2.1, z2.2.1))))) else (some (.inr (z2.2.2, false, z2.1, z2.2.1))))
theorem L58_9_ok (C : Callee) (p0 : (List S90)) (p1 : (List S90)) (z0 : ((List S90) × Int × Int)) (x1 : S90) (y3 : (Int × Bool)) (z2 : ((List S90) × Int × Int)) : runs Try.prog C (cfg.fn 58) (finLoop ((cfg.fn 58).keep 9) ((cfg.fn 58).al 9)) [] (execA Try.prog C (cfg.fn 58) (nr Try.f58 [false, false, true, false, true, true, false, false, true, true, false, false, true, false, true, true, true]) ((fun z2 : ((List S90) × Int × Int) => (mkE [(1, LL a90 p1), (5, .own 40 0), (6, I y3.1), (8, .ba 64 0), (9, I z2.2.2), (10, LL a90 p0), (11, I (lenL p0)), (12, I z0.2.2)] [(40, RR 91 2 a90 z2.1 0 false), (64, .box [I z2.2.1, I x1.f1] false)] 88)) z2)) = (L58_9 p0 p1 z0 x1 y3 z2).map (Sum.elim (fun z => .inl ((fun z2 : ((List S90) × Int × Int) => (mkE [(1, LL a90 p1), (5, .own 40 0), (6, I y3.1), (8, .ba 64 0), (9, I z2.2.2), (10, LL a90 p0), (11, I (lenL p0)), (12, I z0.2.2)] [(40, RR 91 2 a90 z2.1 0 false), (64, .box [I z2.2.1, I x1.f1] false)] 88)) z)) (fun x => .inr ((fun (x : (Int × Bool × (List S90) × Int)) => (.exit 4, (mkE [(1, LL a90 p1), (5, .own 40 0), (6, I y3.1), (8, .ba 64 0), (9, I x.1), (10, LL a90 p0), (11, I (lenL p0)), (12, I z0.2.2), (46, B x.2.1)] [(40, RR 91 2 a90 x.2.2.1 0 false), (64, .box [I x.2.2.2, I x1.f1] false)] 88))) x))) := by
  unfold L58_9
  refine gS 11 ?_
  refine gS 0 ?_
  refine gD 9 14 (rg Try.f58 9) [0, 1, 2, 3, 4, 5, 6, 7, 8, 9, 10, 11, 12, 13] ?_
  refine dg 2 [(some 33, qe (I z2.2.2)), (some 34, qe (LL a90 p1))] ?_
  refine df 35 (I (lenL p1)) (mkE [(34, LL a90 p1), (1, LL a90 p1), (5, .own 40 0), (6, I y3.1), (8, .ba 64 0), (9, I z2.2.2), (10, LL a90 p0), (11, I (lenL p0)), (12, I z0.2.2)] [(40, RR 91 2 a90 z2.1 0 false), (64, .box [I z2.2.1, I x1.f1] false)] 88) (lenE 86 a90 p1) ?_
  refine dg 5 [(some 33, qe (I z2.2.2)), (some 34, qe (LL a90 p1)), (some 35, qe (I (lenL p1))), (some 36, qe (B (ltI z2.2.2 (lenL p1)))), (some 37, qe (B (ltI z2.2.2 (lenL p1))))] ?_
  refine db 4 37 (ltI z2.2.2 (lenL p1)) ?_ ?_
  · refine dg 7 [(some 33, qe (I z2.2.2)), (some 34, qe (LL a90 p1)), (some 35, qe (I (lenL p1))), (some 36, qe (B (ltI z2.2.2 (lenL p1)))), (some 37, qe (B true)), (some 38, qe (LL a90 p1)), (some 39, qe (I z2.2.2))] ?_
    refine dv 40 (mkE [(39, I z2.2.2), (38, LL a90 p1), (37, B true), (36, B (ltI z2.2.2 (lenL p1))), (35, I (lenL p1)), (34, LL a90 p1), (33, I z2.2.2), (1, LL a90 p1), (5, .own 40 0), (6, I y3.1), (8, .ba 64 0), (9, I z2.2.2), (10, LL a90 p0), (11, I (lenL p0)), (12, I z0.2.2)] [(40, RR 91 2 a90 z2.1 0 false), (64, .box [I z2.2.1, I x1.f1] false)] 88) (addrE 86 91 2 a90 .i64 p1 z2.2.2) (fun x4 => ?_)
    refine dg 14 [(some 33, qe (I z2.2.2)), (some 34, qe (LL a90 p1)), (some 35, qe (I (lenL p1))), (some 36, qe (B (ltI z2.2.2 (lenL p1)))), (some 37, qe (B true)), (some 38, qe (LL a90 p1)), (some 39, qe (I z2.2.2)), (some 40, qe (.ia [I x4.f0, I x4.f1] 0)), (some 41, qe (.ia [I x4.f0, I x4.f1] 0)), (some 42, qe (I x4.f0)), (some 43, qe (.ba 64 1)), (some 44, qe (I x1.f1)), (some 45, qe (B (ltI x4.f0 x1.f1))), (some 46, qe (B (ltI x4.f0 x1.f1)))] ?_
    refine de (mkE [(46, B (ltI x4.f0 x1.f1)), (45, B (ltI x4.f0 x1.f1)), (44, I x1.f1), (43, .ba 64 1), (42, I x4.f0), (41, .ia [I x4.f0, I x4.f1] 0), (40, .ia [I x4.f0, I x4.f1] 0), (39, I z2.2.2), (38, LL a90 p1), (37, B true), (36, B (ltI z2.2.2 (lenL p1))), (35, I (lenL p1)), (34, LL a90 p1), (33, I z2.2.2), (1, LL a90 p1), (5, .own 40 0), (6, I y3.1), (8, .ba 64 0), (9, I z2.2.2), (10, LL a90 p0), (11, I (lenL p0)), (12, I z0.2.2)] [(40, RR 91 2 a90 z2.1 0 false), (64, .box [I z2.2.1, I x1.f1] false)] 88) ?_
    refine se (mkE [(1, LL a90 p1), (5, .own 40 0), (6, I y3.1), (8, .ba 64 0), (9, I z2.2.2), (10, LL a90 p0), (11, I (lenL p0)), (12, I z0.2.2), (46, B (ltI x4.f0 x1.f1))] [(40, RR 91 2 a90 z2.1 0 false), (64, .box [I z2.2.1, I x1.f1] false)] 88) ?_
    refine pN ?_
    refine pS ?_
    refine gC 46 (ltI x4.f0 x1.f1) ?_ ?_
    · refine gK ?_
      refine pN ?_
      refine pS ?_
      refine gS 10 ?_
      refine gB 5 ?_
      refine gS 13 ?_
      refine gS 0 ?_
      refine gD 11 8 (rg Try.f58 11) [0, 1, 2, 3, 4, 5, 6, 7] ?_
      refine dg 2 [(some 49, qe (LL a90 p1)), (some 50, qe (I z2.2.2))] ?_
      refine dv 51 (mkE [(50, I z2.2.2), (49, LL a90 p1), (1, LL a90 p1), (5, .own 40 0), (6, I y3.1), (8, .ba 64 0), (9, I z2.2.2), (10, LL a90 p0), (11, I (lenL p0)), (12, I z0.2.2), (46, B (ltI x4.f0 x1.f1))] [(40, RR 91 2 a90 z2.1 0 false), (64, .box [I z2.2.1, I x1.f1] false)] 88) (addrE 86 91 2 a90 .i64 p1 z2.2.2) (fun x5 => ?_)
      refine dg 8 [(some 49, qe (LL a90 p1)), (some 50, qe (I z2.2.2)), (some 51, qe (.ia [I x5.f0, I x5.f1] 0)), (some 52, qe (.ia [I x5.f0, I x5.f1] 0)), (some 53, qe (I x5.f0)), (some 54, qe (.ba 64 0)), (some 55, qe (I z2.2.1)), (some 56, qe (B (ltI z2.2.1 x5.f0)))] ?_
      refine de (mkE [(56, B (ltI z2.2.1 x5.f0)), (55, I z2.2.1), (54, .ba 64 0), (53, I x5.f0), (52, .ia [I x5.f0, I x5.f1] 0), (51, .ia [I x5.f0, I x5.f1] 0), (50, I z2.2.2), (49, LL a90 p1), (1, LL a90 p1), (5, .own 40 0), (6, I y3.1), (8, .ba 64 0), (9, I z2.2.2), (10, LL a90 p0), (11, I (lenL p0)), (12, I z0.2.2), (46, B (ltI x4.f0 x1.f1))] [(40, RR 91 2 a90 z2.1 0 false), (64, .box [I z2.2.1, I x1.f1] false)] 88) ?_
      refine se (mkE [(1, LL a90 p1), (5, .own 40 0), (6, I y3.1), (8, .ba 64 0), (9, I z2.2.2), (10, LL a90 p0), (11, I (lenL p0)), (12, I z0.2.2), (56, B (ltI z2.2.1 x5.f0))] [(40, RR 91 2 a90 z2.1 0 false), (64, .box [I z2.2.1, I x1.f1] false)] 88) ?_
      refine pN ?_
      refine pS ?_
      refine gC 56 (ltI z2.2.1 x5.f0) ?_ ?_
      · refine gD 12 10 (rg Try.f58 12) [0, 1, 2, 3, 4, 5, 6, 7, 8, 9, 10, 11] ?_
        refine dg 5 [(some 57, qe (.own 40 0)), (some 58, qe (.ba 64 0)), (some 59, qe (I z2.2.1)), (some 60, qe (LL a90 p1)), (some 61, qe (I z2.2.2))] ?_
        refine dv 62 (mkE [(61, I z2.2.2), (60, LL a90 p1), (1, LL a90 p1), (5, .own 40 0), (6, I y3.1), (8, .ba 64 0), (9, I z2.2.2), (10, LL a90 p0), (11, I (lenL p0)), (12, I z0.2.2), (56, B (ltI z2.2.1 x5.f0))] [(40, RR 91 2 a90 z2.1 0 false), (64, .box [I z2.2.1, I x1.f1] false)] 88) (addrE 86 91 2 a90 .i64 p1 z2.2.2) (fun x6 => ?_)
        refine dg 10 [(some 57, qe (.own 40 0)), (some 58, qe (.ba 64 0)), (some 59, qe (I z2.2.1)), (some 60, qe (LL a90 p1)), (some 61, qe (I z2.2.2)), (some 62, qe (.ia [I x6.f0, I x6.f1] 0)), (some 63, qe (.ia [I x6.f0, I x6.f1] 0)), (some 64, qe (I x6.f0)), (some 65, qe (.agg [I z2.2.1, I x6.f0])), (some 66, { e := { val := .own 528 0, news := [(528, RR 91 2 a90 ([(S90.mk z2.2.1 x6.f0)] : List S90) 0 false)] } })] ?_
        refine de (mkE [(66, .own 528 0), (65, .agg [I z2.2.1, I x6.f0]), (64, I x6.f0), (63, .ia [I x6.f0, I x6.f1] 0), (62, .ia [I x6.f0, I x6.f1] 0), (61, I z2.2.2), (60, LL a90 p1), (59, I z2.2.1), (58, .ba 64 0), (57, .own 40 0), (1, LL a90 p1), (5, .own 40 0), (6, I y3.1), (8, .ba 64 0), (9, I z2.2.2), (10, LL a90 p0), (11, I (lenL p0)), (12, I z0.2.2), (56, B (ltI z2.2.1 x5.f0))] [(528, RR 91 2 a90 ([(S90.mk z2.2.1 x6.f0)] : List S90) 0 false), (40, RR 91 2 a90 z2.1 0 false), (64, .box [I z2.2.1, I x1.f1] false)] 88) ?_
        refine mo (some 67) (apO 86 91 2 16 40 a90 0 [528] (y := .own 528 0) (l2 := ([(S90.mk z2.2.1 x6.f0)] : List S90))) (fun x7 => ?_)
        refine se (mkE [(1, LL a90 p1), (5, .own 40 1), (6, I y3.1), (8, .ba 64 0), (9, I z2.2.2), (10, LL a90 p0), (11, I (lenL p0)), (12, I z0.2.2)] [(40, RR 91 2 a90 x7 1 false), (64, .box [I z2.2.1, I x1.f1] false)] 88) ?_
        refine pN ?_
        refine pS ?_
        refine gD 13 9 (rg Try.f58 13) [0, 1, 2, 3, 4, 5, 6, 7, 8, 9] ?_
        refine dg 4 [(some 68, qe (.ba 64 0)), (some 69, qe (I z2.2.1)), (some 70, qe (LL a90 p1)), (some 71, qe (I z2.2.2))] ?_
        refine dv 72 (mkE [(71, I z2.2.2), (70, LL a90 p1), (1, LL a90 p1), (5, .own 40 1), (6, I y3.1), (8, .ba 64 0), (9, I z2.2.2), (10, LL a90 p0), (11, I (lenL p0)), (12, I z0.2.2)] [(40, RR 91 2 a90 x7 1 false), (64, .box [I z2.2.1, I x1.f1] false)] 88) (addrE 86 91 2 a90 .i64 p1 z2.2.2) (fun x8 => ?_)
        refine dg 9 [(some 68, qe (.ba 64 0)), (some 69, qe (I z2.2.1)), (some 70, qe (LL a90 p1)), (some 71, qe (I z2.2.2)), (some 72, qe (.ia [I x8.f0, I x8.f1] 0)), (some 73, qe (.ia [I x8.f0, I x8.f1] 1)), (some 74, qe (I x8.f1)), (some 75, qe (I (maxI z2.2.1 x8.f1))), (some 76, qe (.ba 64 0))] ?_
        refine de (mkE [(76, .ba 64 0), (75, I (maxI z2.2.1 x8.f1)), (74, I x8.f1), (73, .ia [I x8.f0, I x8.f1] 1), (72, .ia [I x8.f0, I x8.f1] 0), (71, I z2.2.2), (70, LL a90 p1), (69, I z2.2.1), (68, .ba 64 0), (1, LL a90 p1), (5, .own 40 1), (6, I y3.1), (8, .ba 64 0), (9, I z2.2.2), (10, LL a90 p0), (11, I (lenL p0)), (12, I z0.2.2)] [(40, RR 91 2 a90 x7 1 false), (64, .box [I z2.2.1, I x1.f1] false)] 88) ?_
        refine se (mkE [(1, LL a90 p1), (5, .own 40 1), (6, I y3.1), (8, .ba 64 0), (9, I z2.2.2), (10, LL a90 p0), (11, I (lenL p0)), (12, I z0.2.2)] [(40, RR 91 2 a90 x7 1 false), (64, .box [I (maxI z2.2.1 x8.f1), I x1.f1] false)] 88) ?_
        refine pB ?_
        refine pN ?_
        refine pS ?_
        refine gR 10 (rg Try.f58 10) ?_
        refine se (mkE [(1, LL a90 p1), (5, .own 40 1), (6, I y3.1), (8, .ba 64 0), (9, I (addI .i64 z2.2.2 1)), (10, LL a90 p0), (11, I (lenL p0)), (12, I z0.2.2)] [(40, RR 91 2 a90 x7 1 false), (64, .box [I (maxI z2.2.1 x8.f1), I x1.f1] false)] 88) ?_
        exact pL
      · refine gK ?_
        refine pN ?_
        refine pS ?_
        refine gD 13 9 (rg Try.f58 13) [0, 1, 2, 3, 4, 5, 6, 7, 8, 9] ?_
        refine dg 4 [(some 68, qe (.ba 64 0)), (some 69, qe (I z2.2.1)), (some 70, qe (LL a90 p1)), (some 71, qe (I z2.2.2))] ?_
        refine dv 72 (mkE [(71, I z2.2.2), (70, LL a90 p1), (1, LL a90 p1), (5, .own 40 0), (6, I y3.1), (8, .ba 64 0), (9, I z2.2.2), (10, LL a90 p0), (11, I (lenL p0)), (12, I z0.2.2), (56, B (ltI z2.2.1 x5.f0))] [(40, RR 91 2 a90 z2.1 0 false), (64, .box [I z2.2.1, I x1.f1] false)] 88) (addrE 86 91 2 a90 .i64 p1 z2.2.2) (fun x9 => ?_)
        refine dg 9 [(some 68, qe (.ba 64 0)), (some 69, qe (I z2.2.1)), (some 70, qe (LL a90 p1)), (some 71, qe (I z2.2.2)), (some 72, qe (.ia [I x9.f0, I x9.f1] 0)), (some 73, qe (.ia [I x9.f0, I x9.f1] 1)), (some 74, qe (I x9.f1)), (some 75, qe (I (maxI z2.2.1 x9.f1))), (some 76, qe (.ba 64 0))] ?_
        refine de (mkE [(76, .ba 64 0), (75, I (maxI z2.2.1 x9.f1)), (74, I x9.f1), (73, .ia [I x9.f0, I x9.f1] 1), (72, .ia [I x9.f0, I x9.f1] 0), (71, I z2.2.2), (70, LL a90 p1), (69, I z2.2.1), (68, .ba 64 0), (1, LL a90 p1), (5, .own 40 0), (6, I y3.1), (8, .ba 64 0), (9, I z2.2.2), (10, LL a90 p0), (11, I (lenL p0)), (12, I z0.2.2), (56, B (ltI z2.2.1 x5.f0))] [(40, RR 91 2 a90 z2.1 0 false), (64, .box [I z2.2.1, I x1.f1] false)] 88) ?_
        refine se (mkE [(1, LL a90 p1), (5, .own 40 0), (6, I y3.1), (8, .ba 64 0), (9, I z2.2.2), (10, LL a90 p0), (11, I (lenL p0)), (12, I z0.2.2)] [(40, RR 91 2 a90 z2.1 0 false), (64, .box [I (maxI z2.2.1 x9.f1), I x1.f1] false)] 88) ?_
        refine pB ?_
        refine pN ?_
        refine pS ?_
        refine gR 10 (rg Try.f58 10) ?_
        refine se (mkE [(1, LL a90 p1), (5, .own 40 0), (6, I y3.1), (8, .ba 64 0), (9, I (addI .i64 z2.2.2 1)), (10, LL a90 p0), (11, I (lenL p0)), (12, I z0.2.2)] [(40, RR 91 2 a90 z2.1 0 false), (64, .box [I (maxI z2.2.1 x9.f1), I x1.f1] false)] 88) ?_
        exact pL
    · refine gX 4 ?_
      exact pL
  · refine dg 14 [(some 33, qe (I z2.2.2)), (some 34, qe (LL a90 p1)), (some 35, qe (I (lenL p1))), (some 36, qe (B (ltI z2.2.2 (lenL p1)))), (some 37, qe (B false)), (some 38, qe (.und)), (some 39, qe (.und)), (some 40, qe (.und)), (some 41, qe (.und)), (some 42, qe (.und)), (some 43, qe (.und)), (some 44, qe (.und)), (some 45, qe (.und)), (some 46, qe (B false))] ?_
    refine de (mkE [(46, B false), (45, .und), (44, .und), (43, .und), (42, .und), (41, .und), (40, .und), (39, .und), (38, .und), (37, B false), (36, B (ltI z2.2.2 (lenL p1))), (35, I (lenL p1)), (34, LL a90 p1), (33, I z2.2.2), (1, LL a90 p1), (5, .own 40 0), (6, I y3.1), (8, .ba 64 0), (9, I z2.2.2), (10, LL a90 p0), (11, I (lenL p0)), (12, I z0.2.2)] [(40, RR 91 2 a90 z2.1 0 false), (64, .box [I z2.2.1, I x1.f1] false)] 88) ?_
    refine se (mkE [(1, LL a90 p1), (5, .own 40 0), (6, I y3.1), (8, .ba 64 0), (9, I z2.2.2), (10, LL a90 p0), (11, I (lenL p0)), (12, I z0.2.2), (46, B false)] [(40, RR 91 2 a90 z2.1 0 false), (64, .box [I z2.2.1, I x1.f1] false)] 88) ?_
    refine pN ?_
    refine pS ?_
    refine gF (.tmp 46) ?_
    refine gX 4 ?_
    exact pL
noncomputable def L58_4 (p0 : (List S90)) (p1 : (List S90)) (z0 : ((List S90) × Int × Int)) : Option (((List S90) × Int × Int) ⊕ (Int × Int × Bool × (List S90))) := (bif (ltI z0.2.2 (lenL p0)) then ((listAt p0 z0.2.2).bind fun x1 => ((iter (L58_6 p0 p1 z0 x1) z0.2.1).bind fun y3 => ((iter (L58_9 p0 p1 z0 x1 y3) (z0.1, x1.f0, y3.1)).bind fun y10 => (bif (ltI y10.2.2.2 x1.f1) then ((appO 16 y10.2.2.1 ([(S90.mk y10.2.2.2 x1.f1)] : List S90)).bind fun x11 => (some (.inl (x11, y3.1, (addI .i64 z0.2.2 1))))) else (some (.inl (y10.2.2.1, y3.1, (addI .i64 z0.2.2 1)))))))) else (some (.inr (z0.2.1, z0.2.2, (ltI z0.2.2 (lenL p0)), z0.1))))
theorem L58_4_ok (C : Callee) (p0 : (List S90)) (p1 : (List S90)) (z0 : ((List S90) × Int × Int)) : runs Try.prog C (cfg.fn 58) (finLoop ((cfg.fn 58).keep 4) ((cfg.fn 58).al 4)) [] (execA Try.prog C (cfg.fn 58) (nr Try.f58 [false, false, true, false, true, true, true]) ((fun z0 : ((List S90) × Int × Int) => (mkE [(1, LL a90 p1), (5, .own 40 0), (6, I z0.2.1), (10, LL a90 p0), (11, I (lenL p0)), (12, I z0.2.2)] [(40, RR 91 2 a90 z0.1 0 false)] 88)) z0)) = (L58_4 p0 p1 z0).map (Sum.elim (fun z => .inl ((fun z0 : ((List S90) × Int × Int) => (mkE [(1, LL a90 p1), (5, .own 40 0), (6, I z0.2.1), (10, LL a90 p0), (11, I (lenL p0)), (12, I z0.2.2)] [(40, RR 91 2 a90 z0.1 0 false)] 88)) z)) (fun x => .inr ((fun (x : (Int × Int × Bool × (List S90))) => (.exit 0, (mkE [(1, LL a90 p1), (5, .own 40 0), (6, I x.1), (10, LL a90 p0), (11, I (lenL p0)), (12, I x.2.1), (13, B x.2.2.1)] [(40, RR 91 2 a90 x.2.2.2 0 false)] 88))) x))) := by
  unfold L58_4
  refine gS 0 ?_
  refine gR 4 (rg Try.f58 4) ?_
  refine se (mkE [(1, LL a90 p1), (5, .own 40 0), (6, I z0.2.1), (10, LL a90 p0), (11, I (lenL p0)), (12, I z0.2.2), (13, B (ltI z0.2.2 (lenL p0)))] [(40, RR 91 2 a90 z0.1 0 false)] 88) ?_
  refine pN ?_
  refine pS ?_
  refine gS 5 ?_
  refine gC 13 (ltI z0.2.2 (lenL p0)) ?_ ?_
  · refine gK ?_
    refine pN ?_
    refine pS ?_
    refine gS 16 ?_
    refine gB 1 ?_
    refine gS 6 ?_
    refine gR 5 (rg Try.f58 5) ?_
    refine vo 14 (addrE 86 91 2 a90 .i64 p0 z0.2.2) (fun x1 => ?_)
    refine se (mkE [(1, LL a90 p1), (5, .own 40 0), (6, I z0.2.1), (8, .ba 64 0), (10, LL a90 p0), (11, I (lenL p0)), (12, I z0.2.2)] [(40, RR 91 2 a90 z0.1 0 false), (64, .box [I x1.f0, I x1.f1] false)] 88) ?_
    refine pN ?_
    refine pS ?_
    refine gS 8 ?_
    refine gB 2 ?_
    refine lo [(1, none), (5, some (91, 2)), (6, none), (8, none), (10, none), (11, none), (12, none)] [] (L58_6 p0 p1 z0 x1) (fun z1 : Int => (mkE [(1, LL a90 p1), (5, .own 40 0), (6, I z1), (8, .ba 64 0), (10, LL a90 p0), (11, I (lenL p0)), (12, I z0.2.2)] [(40, RR 91 2 a90 z0.1 0 false), (64, .box [I x1.f0, I x1.f1] false)] 88)) (fun (x : (Int × Bool)) => (.exit 2, (mkE [(1, LL a90 p1), (5, .own 40 0), (6, I x.1), (8, .ba 64 0), (10, LL a90 p0), (11, I (lenL p0)), (12, I z0.2.2), (29, B x.2)] [(40, RR 91 2 a90 z0.1 0 false), (64, .box [I x1.f0, I x1.f1] false)] 88))) z0.2.1 (fun z => L58_6_ok C p0 p1 z0 x1 z) ?_
    intro y3
    refine pH ?_
    refine pN ?_
    refine pS ?_
    refine gS 14 ?_
    refine gS 9 ?_
    refine gR 8 (rg Try.f58 8) ?_
    refine se (mkE [(1, LL a90 p1), (5, .own 40 0), (6, I y3.1), (8, .ba 64 0), (9, I y3.1), (10, LL a90 p0), (11, I (lenL p0)), (12, I z0.2.2)] [(40, RR 91 2 a90 z0.1 0 false), (64, .box [I x1.f0, I x1.f1] false)] 88) ?_
    refine pN ?_
    refine pS ?_
    refine gB 4 ?_
    refine lo [(1, none), (5, some (91, 2)), (6, none), (8, none), (9, none), (10, none), (11, none), (12, none)] [] (L58_9 p0 p1 z0 x1 y3) (fun z2 : ((List S90) × Int × Int) => (mkE [(1, LL a90 p1), (5, .own 40 0), (6, I y3.1), (8, .ba 64 0), (9, I z2.2.2), (10, LL a90 p0), (11, I (lenL p0)), (12, I z0.2.2)] [(40, RR 91 2 a90 z2.1 0 false), (64, .box [I z2.2.1, I x1.f1] false)] 88)) (fun (x : (Int × Bool × (List S90) × Int)) => (.exit 4, (mkE [(1, LL a90 p1), (5, .own 40 0), (6, I y3.1), (8, .ba 64 0), (9, I x.1), (10, LL a90 p0), (11, I (lenL p0)), (12, I z0.2.2), (46, B x.2.1)] [(40, RR 91 2 a90 x.2.2.1 0 false), (64, .box [I x.2.2.2, I x1.f1] false)] 88))) (z0.1, x1.f0, y3.1) (fun z => L58_9_ok C p0 p1 z0 x1 y3 z) ?_
    intro y10
    refine pH ?_
    refine pN ?_
    refine pS ?_
    refine gS 0 ?_
    refine gR 14 (rg Try.f58 14) ?_
    refine se (mkE [(1, LL a90 p1), (5, .own 40 0), (6, I y3.1), (8, .ba 64 0), (10, LL a90 p0), (11, I (lenL p0)), (12, I z0.2.2), (81, B (ltI y10.2.2.2 x1.f1))] [(40, RR 91 2 a90 y10.2.2.1 0 false), (64, .box [I y10.2.2.2, I x1.f1] false)] 88) ?_
    refine pN ?_
    refine pS ?_
    refine gC 81 (ltI y10.2.2.2 x1.f1) ?_ ?_
    · refine gR 15 (rg Try.f58 15) ?_
      refine sg 3 (mkE [(84, .own 672 0), (83, .agg [I y10.2.2.2, I x1.f1]), (82, .own 40 0), (1, LL a90 p1), (5, .own 40 0), (6, I y3.1), (8, .ba 64 0), (10, LL a90 p0), (11, I (lenL p0)), (12, I z0.2.2), (81, B (ltI y10.2.2.2 x1.f1))] [(672, RR 91 2 a90 ([(S90.mk y10.2.2.2 x1.f1)] : List S90) 0 false), (40, RR 91 2 a90 y10.2.2.1 0 false), (64, .box [I y10.2.2.2, I x1.f1] false)] 88) ?_
      refine mo (some 85) (apO 86 91 2 16 40 a90 0 [672] (y := .own 672 0) (l2 := ([(S90.mk y10.2.2.2 x1.f1)] : List S90))) (fun x11 => ?_)
      refine se (mkE [(1, LL a90 p1), (5, .own 40 1), (6, I y3.1), (10, LL a90 p0), (11, I (lenL p0)), (12, I z0.2.2)] [(40, RR 91 2 a90 x11 1 false)] 88) ?_
      refine pB ?_
      refine pN ?_
      refine pS ?_
      refine gR 16 (rg Try.f58 16) ?_
      refine se (mkE [(1, LL a90 p1), (5, .own 40 1), (6, I y3.1), (10, LL a90 p0), (11, I (lenL p0)), (12, I (addI .i64 z0.2.2 1))] [(40, RR 91 2 a90 x11 1 false)] 88) ?_
      exact pL
    · refine gK ?_
      refine pB ?_
      refine pN ?_
      refine pS ?_
      refine gR 16 (rg Try.f58 16) ?_
      refine se (mkE [(1, LL a90 p1), (5, .own 40 0), (6, I y3.1), (10, LL a90 p0), (11, I (lenL p0)), (12, I (addI .i64 z0.2.2 1))] [(40, RR 91 2 a90 y10.2.2.1 0 false)] 88) ?_
      exact pL
  · refine gX 0 ?_
    exact pL
noncomputable def T58 (p0 : (List S90)) (p1 : (List S90)) : Option (List S90) := ((iter (L58_4 p0 p1) ([], 0, 0)).bind fun y12 => (some y12.2.2.2))
theorem B58 (C : Callee) (p0 : (List S90)) (p1 : (List S90)) : runs Try.prog C (cfg.fn 58) (finFn Try.prog (cfg.fn 58).byval Try.f58) [] (execA Try.prog C (cfg.fn 58) (nr Try.f58 []) (frame0 [LL a90 p0, LL a90 p1] 88 false)) = (T58 p0 p1).map (fun l => AV.fr 91 2 (List.map a90 l)) := by
  unfold T58
  refine gS 1 ?_
  refine gR 0 (rg Try.f58 0) ?_
  refine se (mkE [(0, LL a90 p0), (1, LL a90 p1)] [] 88) ?_
  refine pN ?_
  refine pS ?_
  refine gS 2 ?_
  refine gR 1 (rg Try.f58 1) ?_
  refine se (mkE [(0, LL a90 p0), (1, LL a90 p1), (5, .nils)] [] 88) ?_
  refine pN ?_
  refine pS ?_
  refine gS 3 ?_
  refine gR 2 (rg Try.f58 2) ?_
  refine se (mkE [(0, LL a90 p0), (1, LL a90 p1), (5, .nils), (6, I 0)] [] 88) ?_
  refine pN ?_
  refine pS ?_
  refine gS 17 ?_
  refine gS 4 ?_
  refine gR 3 (rg Try.f58 3) ?_
  refine sg 1 (mkE [(10, LL a90 p0), (0, LL a90 p0), (1, LL a90 p1), (5, .nils), (6, I 0)] [] 88) ?_
  refine eo 11 (I (lenL p0)) (lenE 86 a90 p0) ?_
  refine se (mkE [(1, LL a90 p1), (5, .nils), (6, I 0), (10, LL a90 p0), (11, I (lenL p0)), (12, I 0)] [] 88) ?_
  refine pN ?_
  refine pS ?_
  refine gB 0 ?_
  refine lo [(1, none), (5, some (91, 2)), (6, none), (10, none), (11, none), (12, none)] [] (L58_4 p0 p1) (fun z0 : ((List S90) × Int × Int) => (mkE [(1, LL a90 p1), (5, .own 40 0), (6, I z0.2.1), (10, LL a90 p0), (11, I (lenL p0)), (12, I z0.2.2)] [(40, RR 91 2 a90 z0.1 0 false)] 88)) (fun (x : (Int × Int × Bool × (List S90))) => (.exit 0, (mkE [(1, LL a90 p1), (5, .own 40 0), (6, I x.1), (10, LL a90 p0), (11, I (lenL p0)), (12, I x.2.1), (13, B x.2.2.1)] [(40, RR 91 2 a90 x.2.2.2 0 false)] 88))) ([], 0, 0) (fun z => L58_4_ok C p0 p1 z) ?_
  intro y12
  refine pH ?_
  refine pN ?_
  refine pS ?_
  refine gS 0 ?_
  refine gR 17 (rg Try.f58 17) ?_
  refine se (mkE [(4, .own 40 0)] [(40, RR 91 2 a90 y12.2.2.2 0 false)] 88) ?_
  refine pN ?_
  refine pS ?_
  refine gE ?_
  exact pL
theorem F58 (m : Nat) (hm : 1 ≤ m) (p0 : (List S90)) (p1 : (List S90)) : callA Try.prog cfg m 58 [LL a90 p0, LL a90 p1] = (T58 p0 p1).map (fun l => AV.fr 91 2 (List.map a90 l)) := by
  obtain ⟨q, rfl⟩ : ∃ q, m = q + 1 := ⟨m - 1, by omega⟩
  exact (callA_body (fn := Try.f58) (c := body_ Try.f58) q _ (by kernel_rfl) (by kernel_rfl) (by kernel_rfl)).trans (B58 _ p0 p1)

noncomputable def L60_4 (p0 : (List S90)) (p1 : (List S90)) (z0 : Int) : Option (Int ⊕ ((Int × Bool) ⊕ Unit)) := (bif (ltI z0 (lenL p0)) then ((listAt p0 z0).bind fun x1 => ((listAt p1 z0).bind fun x2 => (bif (!allB [eqI x1.f0 x2.f0, eqI x1.f1 x2.f1]) then (some (.inr (.inr ()))) else (some (.inl (addI .i64 z0 1)))))) else (some (.inr (.inl (z0, (ltI z0 (lenL p0)))))))
theorem L60_4_ok (C : Callee) (p0 : (List S90)) (p1 : (List S90)) (z0 : Int) : runs Try.prog C (cfg.fn 60) (finLoop ((cfg.fn 60).keep 4) ((cfg.fn 60).al 4)) [] (execA Try.prog C (cfg.fn 60) (nr Try.f60 [false, false, true, false, true, true]) ((fun z0 : Int => (mkE [(0, LL a90 p0), (1, LL a90 p1), (12, I (lenL p0)), (13, I z0)] [] 26)) z0)) = (L60_4 p0 p1 z0).map (Sum.elim (fun z => .inl ((fun z0 : Int => (mkE [(0, LL a90 p0), (1, LL a90 p1), (12, I (lenL p0)), (13, I z0)] [] 26)) z)) (fun x => .inr ((Sum.elim (fun (x : (Int × Bool)) => (.exit 0, (mkE [(0, LL a90 p0), (1, LL a90 p1), (12, I (lenL p0)), (13, I x.1), (14, B x.2)] [] 26))) (fun (x : Unit) => (.ret, (mkE [(4, B false)] [] 26)))) x))) := by
  unfold L60_4
  refine gS 0 ?_
  refine gR 4 (rg Try.f60 4) ?_
  refine se (mkE [(0, LL a90 p0), (1, LL a90 p1), (12, I (lenL p0)), (13, I z0), (14, B (ltI z0 (lenL p0)))] [] 26) ?_
  refine pN ?_
  refine pS ?_
  refine gS 5 ?_
  refine gC 14 (ltI z0 (lenL p0)) ?_ ?_
  · refine gK ?_
    refine pN ?_
    refine pS ?_
    refine gS 8 ?_
    refine gB 1 ?_
    refine gS 6 ?_
    refine gR 5 (rg Try.f60 5) ?_
    refine se (mkE [(0, LL a90 p0), (1, LL a90 p1), (5, I z0), (12, I (lenL p0)), (13, I z0)] [] 26) ?_
    refine pN ?_
    refine pS ?_
    refine gS 0 ?_
    refine gD 6 9 (rg Try.f60 6) [0, 1, 2, 3, 4, 5, 6, 7, 8] ?_
    refine dg 2 [(some 16, qe (LL a90 p0)), (some 17, qe (I z0))] ?_
    refine dv 18 (mkE [(17, I z0), (16, LL a90 p0), (0, LL a90 p0), (1, LL a90 p1), (5, I z0), (12, I (lenL p0)), (13, I z0)] [] 26) (addrE 86 91 2 a90 .i64 p0 z0) (fun x1 => ?_)
    refine dg 6 [(some 16, qe (LL a90 p0)), (some 17, qe (I z0)), (some 18, qe (.ia [I x1.f0, I x1.f1] 0)), (some 19, qe (a90 x1)), (some 20, qe (LL a90 p1)), (some 21, qe (I z0))] ?_
    refine dv 22 (mkE [(21, I z0), (20, LL a90 p1), (0, LL a90 p0), (1, LL a90 p1), (5, I z0), (12, I (lenL p0)), (13, I z0)] [] 26) (addrE 86 91 2 a90 .i64 p1 z0) (fun x2 => ?_)
    refine dg 8 [(some 16, qe (LL a90 p0)), (some 17, qe (I z0)), (some 18, qe (.ia [I x1.f0, I x1.f1] 0)), (some 19, qe (a90 x1)), (some 20, qe (LL a90 p1)), (some 21, qe (I z0)), (some 22, qe (.ia [I x2.f0, I x2.f1] 0)), (some 23, qe (a90 x2))] ?_
    refine df 24 (B (!allB [eqI x1.f0 x2.f0, eqI x1.f1 x2.f1])) (mkE [(23, a90 x2), (22, .ia [I x2.f0, I x2.f1] 0), (21, I z0), (20, LL a90 p1), (19, a90 x1), (18, .ia [I x1.f0, I x1.f1] 0), (17, I z0), (16, LL a90 p0), (0, LL a90 p0), (1, LL a90 p1), (5, I z0), (12, I (lenL p0)), (13, I z0)] [] 26) (neqE 91 (.tmp 19) (.tmp 23) [I x1.f0, I x1.f1] [I x2.f0, I x2.f1] [.int .i64 x1.f0, .int .i64 x1.f1] [.int .i64 x2.f0, .int .i64 x2.f1] [eqI x1.f0 x2.f0, eqI x1.f1 x2.f1]) ?_
    refine de (mkE [(24, B (!allB [eqI x1.f0 x2.f0, eqI x1.f1 x2.f1])), (23, a90 x2), (22, .ia [I x2.f0, I x2.f1] 0), (21, I z0), (20, LL a90 p1), (19, a90 x1), (18, .ia [I x1.f0, I x1.f1] 0), (17, I z0), (16, LL a90 p0), (0, LL a90 p0), (1, LL a90 p1), (5, I z0), (12, I (lenL p0)), (13, I z0)] [] 26) ?_
    refine se (mkE [(0, LL a90 p0), (1, LL a90 p1), (12, I (lenL p0)), (13, I z0), (24, B (!allB [eqI x1.f0 x2.f0, eqI x1.f1 x2.f1]))] [] 26) ?_
    refine pN ?_
    refine pS ?_
    refine gC 24 (!allB [eqI x1.f0 x2.f0, eqI x1.f1 x2.f1]) ?_ ?_
    · refine gS 0 ?_
      refine gR 7 (rg Try.f60 7) ?_
      refine se (mkE [(4, B false)] [] 26) ?_
      refine pN ?_
      refine pS ?_
      refine gE ?_
      exact pL
    · refine gK ?_
      refine pB ?_
      refine pN ?_
      refine pS ?_
      refine gR 8 (rg Try.f60 8) ?_
      refine se (mkE [(0, LL a90 p0), (1, LL a90 p1), (12, I (lenL p0)), (13, I (addI .i64 z0 1))] [] 26) ?_
      exact pL
  · refine gX 0 ?_
    exact pL
noncomputable def T60 (p0 : (List S90)) (p1 : (List S90)) : Option Bool := (bif (neI (lenL p0) (lenL p1)) then (some false) else ((iter (L60_4 p0 p1) 0).bind fun y3 => (Sum.elim (fun y3a => (some true)) (fun y3b => (some false)) y3)))
theorem B60 (C : Callee) (p0 : (List S90)) (p1 : (List S90)) : runs Try.prog C (cfg.fn 60) (finFn Try.prog (cfg.fn 60).byval Try.f60) [] (execA Try.prog C (cfg.fn 60) (nr Try.f60 []) (frame0 [LL a90 p0, LL a90 p1] 26 false)) = (T60 p0 p1).map B := by
  unfold T60
  refine gS 1 ?_
  refine gR 0 (rg Try.f60 0) ?_
  refine se (mkE [(0, LL a90 p0), (1, LL a90 p1)] [] 26) ?_
  refine pN ?_
  refine pS ?_
  refine gS 3 ?_
  refine gS 0 ?_
  refine gR 1 (rg Try.f60 1) ?_
  refine sg 1 (mkE [(6, LL a90 p0), (0, LL a90 p0), (1, LL a90 p1)] [] 26) ?_
  refine eo 7 (I (lenL p0)) (lenE 86 a90 p0) ?_
  refine sg 3 (mkE [(8, LL a90 p1), (7, I (lenL p0)), (6, LL a90 p0), (0, LL a90 p0), (1, LL a90 p1)] [] 26) ?_
  refine eo 9 (I (lenL p1)) (lenE 86 a90 p1) ?_
  refine se (mkE [(0, LL a90 p0), (1, LL a90 p1), (10, B (neI (lenL p0) (lenL p1)))] [] 26) ?_
  refine pN ?_
  refine pS ?_
  refine gC 10 (neI (lenL p0) (lenL p1)) ?_ ?_
  · refine gS 0 ?_
    refine gR 2 (rg Try.f60 2) ?_
    refine se (mkE [(4, B false)] [] 26) ?_
    refine pN ?_
    refine pS ?_
    refine gE ?_
    exact pL
  · refine gK ?_
    refine pN ?_
    refine pS ?_
    refine gS 9 ?_
    refine gS 4 ?_
    refine gR 3 (rg Try.f60 3) ?_
    refine sg 1 (mkE [(11, LL a90 p0), (0, LL a90 p0), (1, LL a90 p1), (10, B (neI (lenL p0) (lenL p1)))] [] 26) ?_
    refine eo 12 (I (lenL p0)) (lenE 86 a90 p0) ?_
    refine se (mkE [(0, LL a90 p0), (1, LL a90 p1), (12, I (lenL p0)), (13, I 0)] [] 26) ?_
    refine pN ?_
    refine pS ?_
    refine gB 0 ?_
    refine lo [(0, none), (1, none), (12, none), (13, none)] [] (L60_4 p0 p1) (fun z0 : Int => (mkE [(0, LL a90 p0), (1, LL a90 p1), (12, I (lenL p0)), (13, I z0)] [] 26)) (Sum.elim (fun (x : (Int × Bool)) => (.exit 0, (mkE [(0, LL a90 p0), (1, LL a90 p1), (12, I (lenL p0)), (13, I x.1), (14, B x.2)] [] 26))) (fun (x : Unit) => (.ret, (mkE [(4, B false)] [] 26)))) 0 (fun z => L60_4_ok C p0 p1 z) ?_
    intro y3
    refine ss y3 (Z := (Sum.elim (fun (x : (Int × Bool)) => (.exit 0, (mkE [(0, LL a90 p0), (1, LL a90 p1), (12, I (lenL p0)), (13, I x.1), (14, B x.2)] [] 26))) (fun (x : Unit) => (.ret, (mkE [(4, B false)] [] 26))))) (fun y3a => ?_) (fun y3b => ?_)
    · refine pH ?_
      refine pN ?_
      refine pS ?_
      refine gS 0 ?_
      refine gR 9 (rg Try.f60 9) ?_
      refine se (mkE [(4, B true)] [] 26) ?_
      refine pN ?_
      refine pS ?_
      refine gE ?_
      exact pL
    · exact pL
theorem F60 (m : Nat) (hm : 1 ≤ m) (p0 : (List S90)) (p1 : (List S90)) : callA Try.prog cfg m 60 [LL a90 p0, LL a90 p1] = (T60 p0 p1).map B := by
  obtain ⟨q, rfl⟩ : ∃ q, m = q + 1 := ⟨m - 1, by omega⟩
  exact (callA_body (fn := Try.f60) (c := body_ Try.f60) q _ (by kernel_rfl) (by kernel_rfl) (by kernel_rfl)).trans (B60 _ p0 p1)

noncomputable def L44_3 (p0 : (List S29)) (p1 : (List S29)) (x1 : (List S29)) (z0 : ((List Int) × (List S29) × Int)) : Option (((List Int) × (List S29) × Int) ⊕ (Int × Bool × (List Int) × (List S29))) := (bif (ltI z0.2.2 (lenL x1)) then ((idxO (List.length z0.2.1) z0.2.2).bind fun x2 => ((getN z0.2.1 x2).bind fun x3 => ((appO 8 z0.1 ([x3.f1, (addI .i64 x3.f1 x3.f3)] : List Int)).bind fun x4 => (some (.inl (x4, z0.2.1, (addI .i64 z0.2.2 1))))))) else (some (.inr (z0.2.2, (ltI z0.2.2 (lenL x1)), z0.1, z0.2.1))))
theorem L44_3_ok (C : Callee) (p0 : (List S29)) (p1 : (List S29)) (x1 : (List S29)) (z0 : ((List Int) × (List S29) × Int)) : runs Try.prog C (cfg.fn 44) (finLoop ((cfg.fn 44).keep 3) ((cfg.fn 44).al 3)) [] (execA Try.prog C (cfg.fn 44) (nr Try.f44 [false, false, true, false, true, true]) ((fun z0 : ((List Int) × (List S29) × Int) => (mkE [(0, LL a29 p0), (1, LL a29 p1), (5, .own 40 0), (19, .own 152 0), (20, I (lenL x1)), (21, I z0.2.2)] [(40, RR 3 1 I z0.1 0 false), (152, RR 30 4 a29 z0.2.1 0 false)] 88)) z0)) = (L44_3 p0 p1 x1 z0).map (Sum.elim (fun z => .inl ((fun z0 : ((List Int) × (List S29) × Int) => (mkE [(0, LL a29 p0), (1, LL a29 p1), (5, .own 40 0), (19, .own 152 0), (20, I (lenL x1)), (21, I z0.2.2)] [(40, RR 3 1 I z0.1 0 false), (152, RR 30 4 a29 z0.2.1 0 false)] 88)) z)) (fun x => .inr ((fun (x : (Int × Bool × (List Int) × (List S29))) => (.exit 0, (mkE [(0, LL a29 p0), (1, LL a29 p1), (5, .own 40 0), (19, .own 152 0), (20, I (lenL x1)), (21, I x.1), (22, B x.2.1)] [(40, RR 3 1 I x.2.2.1 0 false), (152, RR 30 4 a29 x.2.2.2 0 false)] 88))) x))) := by
  unfold L44_3
  refine gS 0 ?_
  refine gR 3 (rg Try.f44 3) ?_
  refine se (mkE [(0, LL a29 p0), (1, LL a29 p1), (5, .own 40 0), (19, .own 152 0), (20, I (lenL x1)), (21, I z0.2.2), (22, B (ltI z0.2.2 (lenL x1)))] [(40, RR 3 1 I z0.1 0 false), (152, RR 30 4 a29 z0.2.1 0 false)] 88) ?_
  refine pN ?_
  refine pS ?_
  refine gS 4 ?_
  refine gC 22 (ltI z0.2.2 (lenL x1)) ?_ ?_
  · refine gK ?_
    refine pN ?_
    refine pS ?_
    refine gS 6 ?_
    refine gB 1 ?_
    refine gS 5 ?_
    refine gR 4 (rg Try.f44 4) ?_
    refine vo 23 (addrOE 59 30 4 152 0 false a29 .i64 z0.2.1 z0.2.2) (fun x2 => ?_)
    refine vo 24 (loadOE 30 152 0 x2 0 30 4 4 true false a29 (fun q : S29 => a29 q) z0.2.1) (fun x3 => ?_)
    refine se (mkE [(0, LL a29 p0), (1, LL a29 p1), (5, .own 40 0), (7, .ba 56 0), (19, .own 152 0), (20, I (lenL x1)), (21, I z0.2.2)] [(40, RR 3 1 I z0.1 0 false), (56, .box [I x3.f0, I x3.f1, I x3.f2, I x3.f3] false), (152, RR 30 4 a29 z0.2.1 0 false)] 88) ?_
    refine pN ?_
    refine pS ?_
    refine gR 5 (rg Try.f44 5) ?_
    refine sg 9 (mkE [(33, .own 264 0), (32, I (addI .i64 x3.f1 x3.f3)), (31, I x3.f3), (30, .ba 56 3), (29, I x3.f1), (28, .ba 56 1), (27, I x3.f1), (26, .ba 56 1), (25, .own 40 0), (0, LL a29 p0), (1, LL a29 p1), (5, .own 40 0), (7, .ba 56 0), (19, .own 152 0), (20, I (lenL x1)), (21, I z0.2.2)] [(264, RR 3 1 I ([x3.f1, (addI .i64 x3.f1 x3.f3)] : List Int) 0 false), (40, RR 3 1 I z0.1 0 false), (56, .box [I x3.f0, I x3.f1, I x3.f2, I x3.f3] false), (152, RR 30 4 a29 z0.2.1 0 false)] 88) ?_
    refine mo (some 34) (apO 75 3 1 8 40 I 0 [264] (y := .own 264 0) (l2 := ([x3.f1, (addI .i64 x3.f1 x3.f3)] : List Int))) (fun x4 => ?_)
    refine se (mkE [(0, LL a29 p0), (1, LL a29 p1), (5, .own 40 1), (19, .own 152 0), (20, I (lenL x1)), (21, I z0.2.2)] [(40, RR 3 1 I x4 1 false), (152, RR 30 4 a29 z0.2.1 0 false)] 88) ?_
    refine pB ?_
    refine pN ?_
    refine pS ?_
    refine gR 6 (rg Try.f44 6) ?_
    refine se (mkE [(0, LL a29 p0), (1, LL a29 p1), (5, .own 40 1), (19, .own 152 0), (20, I (lenL x1)), (21, I (addI .i64 z0.2.2 1))] [(40, RR 3 1 I x4 1 false), (152, RR 30 4 a29 z0.2.1 0 false)] 88) ?_
    exact pL
  · refine gX 0 ?_
    exact pL
noncomputable def L44_20 (p0 : (List S29)) (p1 : (List S29)) (x7 : (List Int)) (z1 : ((List Int) × (List S29) × (List S90) × Int × Int)) (x9 : Int) (x12 : (List S90)) (z2 : ((List Int) × (List S29) × Int)) : Option (((List Int) × (List S29) × Int) ⊕ (Int × Bool × (List Int) × (List S29))) := (bif (ltI z2.2.2 (lenL z1.2.2.1)) then ((listAt z1.2.2.1 z2.2.2).bind fun x14 => ((appO 32 z2.2.1 ([(S29.mk x14.f0 z1.2.2.2.1 (subI .i64 x14.f1 x14.f0) (subI .i64 x9 z1.2.2.2.1))] : List S29)).bind fun x15 => (some (.inl (z2.1, x15, (addI .i64 z2.2.2 1)))))) else (some (.inr (z2.2.2, (ltI z2.2.2 (lenL z1.2.2.1)), z2.1, z2.2.1))))
theorem L44_20_ok (C : Callee) (p0 : (List S29)) (p1 : (List S29)) (x7 : (List Int)) (z1 : ((List Int) × (List S29) × (List S90) × Int × Int)) (x9 : Int) (x12 : (List S90)) (z2 : ((List Int) × (List S29) × Int)) : runs Try.prog C (cfg.fn 44) (finLoop ((cfg.fn 44).keep 20) ((cfg.fn 44).al 20)) [] (execA Try.prog C (cfg.fn 44) (nr Try.f44 [false, false, true, false, true, true, true, true, false, false, true, true, false, false, true, false, true, true, true, true, true, true, true, true]) ((fun z2 : ((List Int) × (List S29) × Int) => (mkE [(40, .own 40 0), (0, LL a29 p0), (1, LL a29 p1), (5, .own 40 0), (8, .own 64 0), (10, I z1.2.2.2.1), (12, I x9), (13, LL a90 x12), (41, I (lenL x7)), (42, I z1.2.2.2.2), (62, LL a90 z1.2.2.1), (63, I (lenL z1.2.2.1)), (64, I z2.2.2)] [(40, RR 3 1 I z2.1 0 false), (64, RR 30 4 a29 z2.2.1 0 false)] 88)) z2)) = (L44_20 p0 p1 x7 z1 x9 x12 z2).map (Sum.elim (fun z => .inl ((fun z2 : ((List Int) × (List S29) × Int) => (mkE [(40, .own 40 0), (0, LL a29 p0), (1, LL a29 p1), (5, .own 40 0), (8, .own 64 0), (10, I z1.2.2.2.1), (12, I x9), (13, LL a90 x12), (41, I (lenL x7)), (42, I z1.2.2.2.2), (62, LL a90 z1.2.2.1), (63, I (lenL z1.2.2.1)), (64, I z2.2.2)] [(40, RR 3 1 I z2.1 0 false), (64, RR 30 4 a29 z2.2.1 0 false)] 88)) z)) (fun x => .inr ((fun (x : (Int × Bool × (List Int) × (List S29))) => (.exit 4, (mkE [(0, LL a29 p0), (1, LL a29 p1), (5, .own 40 0), (8, .own 64 0), (10, I z1.2.2.2.1), (12, I x9), (13, LL a90 x12), (40, .own 40 0), (41, I (lenL x7)), (42, I z1.2.2.2.2), (62, LL a90 z1.2.2.1), (63, I (lenL z1.2.2.1)), (64, I x.1), (65, B x.2.1)] [(40, RR 3 1 I x.2.2.1 0 false), (64, RR 30 4 a29 x.2.2.2 0 false)] 88))) x))) := by
  unfold L44_20
  refine gS 0 ?_
  refine gR 20 (rg Try.f44 20) ?_
  refine se (mkE [(0, LL a29 p0), (1, LL a29 p1), (5, .own 40 0), (8, .own 64 0), (10, I z1.2.2.2.1), (12, I x9), (13, LL a90 x12), (40, .own 40 0), (41, I (lenL x7)), (42, I z1.2.2.2.2), (62, LL a90 z1.2.2.1), (63, I (lenL z1.2.2.1)), (64, I z2.2.2), (65, B (ltI z2.2.2 (lenL z1.2.2.1)))] [(40, RR 3 1 I z2.1 0 false), (64, RR 30 4 a29 z2.2.1 0 false)] 88) ?_
  refine pN ?_
  refine pS ?_
  refine gS 21 ?_
  refine gC 65 (ltI z2.2.2 (lenL z1.2.2.1)) ?_ ?_
  · refine gK ?_
    refine pN ?_
    refine pS ?_
    refine gS 23 ?_
    refine gB 5 ?_
    refine gS 22 ?_
    refine gR 21 (rg Try.f44 21) ?_
    refine vo 66 (addrE 86 91 2 a90 .i64 z1.2.2.1 z2.2.2) (fun x14 => ?_)
    refine se (mkE [(0, LL a29 p0), (1, LL a29 p1), (5, .own 40 0), (8, .own 64 0), (10, I z1.2.2.2.1), (12, I x9), (13, LL a90 x12), (15, .ba 120 0), (40, .own 40 0), (41, I (lenL x7)), (42, I z1.2.2.2.2), (62, LL a90 z1.2.2.1), (63, I (lenL z1.2.2.1)), (64, I z2.2.2)] [(40, RR 3 1 I z2.1 0 false), (64, RR 30 4 a29 z2.2.1 0 false), (120, .box [I x14.f0, I x14.f1] false)] 88) ?_
    refine pN ?_
    refine pS ?_
    refine gR 22 (rg Try.f44 22) ?_
    refine sg 14 (mkE [(81, .own 648 0), (80, .agg [I x14.f0, I z1.2.2.2.1, I (subI .i64 x14.f1 x14.f0), I (subI .i64 x9 z1.2.2.2.1)]), (79, I (subI .i64 x9 z1.2.2.2.1)), (78, I z1.2.2.2.1), (77, I x9), (76, I (subI .i64 x14.f1 x14.f0)), (75, I x14.f0), (74, .ba 120 0), (73, I x14.f1), (72, .ba 120 1), (71, I z1.2.2.2.1), (70, I x14.f0), (69, .ba 120 0), (68, .own 64 0), (0, LL a29 p0), (1, LL a29 p1), (5, .own 40 0), (8, .own 64 0), (10, I z1.2.2.2.1), (12, I x9), (13, LL a90 x12), (15, .ba 120 0), (40, .own 40 0), (41, I (lenL x7)), (42, I z1.2.2.2.2), (62, LL a90 z1.2.2.1), (63, I (lenL z1.2.2.1)), (64, I z2.2.2)] [(648, RR 30 4 a29 ([(S29.mk x14.f0 z1.2.2.2.1 (subI .i64 x14.f1 x14.f0) (subI .i64 x9 z1.2.2.2.1))] : List S29) 0 false), (40, RR 3 1 I z2.1 0 false), (64, RR 30 4 a29 z2.2.1 0 false), (120, .box [I x14.f0, I x14.f1] false)] 88) ?_
    refine mo (some 82) (apO 59 30 4 32 64 a29 0 [648] (y := .own 648 0) (l2 := ([(S29.mk x14.f0 z1.2.2.2.1 (subI .i64 x14.f1 x14.f0) (subI .i64 x9 z1.2.2.2.1))] : List S29))) (fun x15 => ?_)
    refine se (mkE [(0, LL a29 p0), (1, LL a29 p1), (5, .own 40 0), (8, .own 64 1), (10, I z1.2.2.2.1), (12, I x9), (13, LL a90 x12), (40, .own 40 0), (41, I (lenL x7)), (42, I z1.2.2.2.2), (62, LL a90 z1.2.2.1), (63, I (lenL z1.2.2.1)), (64, I z2.2.2)] [(40, RR 3 1 I z2.1 0 false), (64, RR 30 4 a29 x15 1 false)] 88) ?_
    refine pB ?_
    refine pN ?_
    refine pS ?_
    refine gR 23 (rg Try.f44 23) ?_
    refine se (mkE [(0, LL a29 p0), (1, LL a29 p1), (5, .own 40 0), (8, .own 64 1), (10, I z1.2.2.2.1), (12, I x9), (13, LL a90 x12), (40, .own 40 0), (41, I (lenL x7)), (42, I z1.2.2.2.2), (62, LL a90 z1.2.2.1), (63, I (lenL z1.2.2.1)), (64, I (addI .i64 z2.2.2 1))] [(40, RR 3 1 I z2.1 0 false), (64, RR 30 4 a29 x15 1 false)] 88) ?_
    exact pL
  · refine gX 4 ?_
    exact pL
noncomputable def L44_20_v1 (p0 : (List S29)) (p1 : (List S29)) (x7 : (List Int)) (z1 : ((List Int) × (List S29) × (List S90) × Int × Int)) (x9 : Int) (z2 : ((List Int) × (List S29) × Int)) : Option (((List Int) × (List S29) × Int) ⊕ (Int × Bool × (List Int) × (List S29))) := (bif (ltI z2.2.2 (lenL z1.2.2.1)) then ((listAt z1.2.2.1 z2.2.2).bind fun x18 => ((appO 32 z2.2.1 ([(S29.mk x18.f0 z1.2.2.2.1 (subI .i64 x18.f1 x18.f0) (subI .i64 x9 z1.2.2.2.1))] : List S29)).bind fun x19 => (some (.inl (z2.1, x19, (addI .i64 z2.2.2 1)))))) else (some (.inr (z2.2.2, (ltI z2.2.2 (lenL z1.2.2.1)), z2.1, z2.2.1))))
theorem L44_20_v1_ok (C : Callee) (p0 : (List S29)) (p1 : (List S29)) (x7 : (List Int)) (z1 : ((List Int) × (List S29) × (List S90) × Int × Int)) (x9 : Int) (z2 : ((List Int) × (List S29) × Int)) : runs Try.prog C (cfg.fn 44) (finLoop ((cfg.fn 44).keep 20) ((cfg.fn 44).al 20)) [] (execA Try.prog C (cfg.fn 44) (nr Try.f44 [false, false, true, false, true, true, true, true, false, false, true, true, false, false, true, false, true, true, true, true, true, true, true, true]) ((fun z2 : ((List Int) × (List S29) × Int) => (mkE [(40, .own 40 0), (0, LL a29 p0), (1, LL a29 p1), (5, .own 40 0), (8, .own 64 0), (10, I z1.2.2.2.1), (12, I x9), (13, LL a90 ([] : List S90)), (41, I (lenL x7)), (42, I z1.2.2.2.2), (62, LL a90 z1.2.2.1), (63, I (lenL z1.2.2.1)), (64, I z2.2.2)] [(40, RR 3 1 I z2.1 0 false), (64, RR 30 4 a29 z2.2.1 0 false)] 88)) z2)) = (L44_20_v1 p0 p1 x7 z1 x9 z2).map (Sum.elim (fun z => .inl ((fun z2 : ((List Int) × (List S29) × Int) => (mkE [(40, .own 40 0), (0, LL a29 p0), (1, LL a29 p1), (5, .own 40 0), (8, .own 64 0), (10, I z1.2.2.2.1), (12, I x9), (13, LL a90 ([] : List S90)), (41, I (lenL x7)), (42, I z1.2.2.2.2), (62, LL a90 z1.2.2.1), (63, I (lenL z1.2.2.1)), (64, I z2.2.2)] [(40, RR 3 1 I z2.1 0 false), (64, RR 30 4 a29 z2.2.1 0 false)] 88)) z)) (fun x => .inr ((fun (x : (Int × Bool × (List Int) × (List S29))) => (.exit 4, (mkE [(0, LL a29 p0), (1, LL a29 p1), (5, .own 40 0), (8, .own 64 0), (10, I z1.2.2.2.1), (12, I x9), (13, LL a90 ([] : List S90)), (40, .own 40 0), (41, I (lenL x7)), (42, I z1.2.2.2.2), (62, LL a90 z1.2.2.1), (63, I (lenL z1.2.2.1)), (64, I x.1), (65, B x.2.1)] [(40, RR 3 1 I x.2.2.1 0 false), (64, RR 30 4 a29 x.2.2.2 0 false)] 88))) x))) := by
  unfold L44_20_v1
  refine gS 0 ?_
  refine gR 20 (rg Try.f44 20) ?_
  refine se (mkE [(0, LL a29 p0), (1, LL a29 p1), (5, .own 40 0), (8, .own 64 0), (10, I z1.2.2.2.1), (12, I x9), (13, LL a90 ([] : List S90)), (40, .own 40 0), (41, I (lenL x7)), (42, I z1.2.2.2.2), (62, LL a90 z1.2.2.1), (63, I (lenL z1.2.2.1)), (64, I z2.2.2), (65, B (ltI z2.2.2 (lenL z1.2.2.1)))] [(40, RR 3 1 I z2.1 0 false), (64, RR 30 4 a29 z2.2.1 0 false)] 88) ?_
  refine pN ?_
  refine pS ?_
  refine gS 21 ?_
  refine gC 65 (ltI z2.2.2 (lenL z1.2.2.1)) ?_ ?_
  · refine gK ?_
    refine pN ?_
    refine pS ?_
    refine gS 23 ?_
    refine gB 5 ?_
    refine gS 22 ?_
    refine gR 21 (rg Try.f44 21) ?_
    refine vo 66 (addrE 86 91 2 a90 .i64 z1.2.2.1 z2.2.2) (fun x18 => ?_)
    refine se (mkE [(0, LL a29 p0), (1, LL a29 p1), (5, .own 40 0), (8, .own 64 0), (10, I z1.2.2.2.1), (12, I x9), (13, LL a90 ([] : List S90)), (15, .ba 120 0), (40, .own 40 0), (41, I (lenL x7)), (42, I z1.2.2.2.2), (62, LL a90 z1.2.2.1), (63, I (lenL z1.2.2.1)), (64, I z2.2.2)] [(40, RR 3 1 I z2.1 0 false), (64, RR 30 4 a29 z2.2.1 0 false), (120, .box [I x18.f0, I x18.f1] false)] 88) ?_
    refine pN ?_
    refine pS ?_
    refine gR 22 (rg Try.f44 22) ?_
    refine sg 14 (mkE [(81, .own 648 0), (80, .agg [I x18.f0, I z1.2.2.2.1, I (subI .i64 x18.f1 x18.f0), I (subI .i64 x9 z1.2.2.2.1)]), (79, I (subI .i64 x9 z1.2.2.2.1)), (78, I z1.2.2.2.1), (77, I x9), (76, I (subI .i64 x18.f1 x18.f0)), (75, I x18.f0), (74, .ba 120 0), (73, I x18.f1), (72, .ba 120 1), (71, I z1.2.2.2.1), (70, I x18.f0), (69, .ba 120 0), (68, .own 64 0), (0, LL a29 p0), (1, LL a29 p1), (5, .own 40 0), (8, .own 64 0), (10, I z1.2.2.2.1), (12, I x9), (13, LL a90 ([] : List S90)), (15, .ba 120 0), (40, .own 40 0), (41, I (lenL x7)), (42, I z1.2.2.2.2), (62, LL a90 z1.2.2.1), (63, I (lenL z1.2.2.1)), (64, I z2.2.2)] [(648, RR 30 4 a29 ([(S29.mk x18.f0 z1.2.2.2.1 (subI .i64 x18.f1 x18.f0) (subI .i64 x9 z1.2.2.2.1))] : List S29) 0 false), (40, RR 3 1 I z2.1 0 false), (64, RR 30 4 a29 z2.2.1 0 false), (120, .box [I x18.f0, I x18.f1] false)] 88) ?_
    refine mo (some 82) (apO 59 30 4 32 64 a29 0 [648] (y := .own 648 0) (l2 := ([(S29.mk x18.f0 z1.2.2.2.1 (subI .i64 x18.f1 x18.f0) (subI .i64 x9 z1.2.2.2.1))] : List S29))) (fun x19 => ?_)
    refine se (mkE [(0, LL a29 p0), (1, LL a29 p1), (5, .own 40 0), (8, .own 64 1), (10, I z1.2.2.2.1), (12, I x9), (13, LL a90 ([] : List S90)), (40, .own 40 0), (41, I (lenL x7)), (42, I z1.2.2.2.2), (62, LL a90 z1.2.2.1), (63, I (lenL z1.2.2.1)), (64, I z2.2.2)] [(40, RR 3 1 I z2.1 0 false), (64, RR 30 4 a29 x19 1 false)] 88) ?_
    refine pB ?_
    refine pN ?_
    refine pS ?_
    refine gR 23 (rg Try.f44 23) ?_
    refine se (mkE [(0, LL a29 p0), (1, LL a29 p1), (5, .own 40 0), (8, .own 64 1), (10, I z1.2.2.2.1), (12, I x9), (13, LL a90 ([] : List S90)), (40, .own 40 0), (41, I (lenL x7)), (42, I z1.2.2.2.2), (62, LL a90 z1.2.2.1), (63, I (lenL z1.2.2.1)), (64, I (addI .i64 z2.2.2 1))] [(40, RR 3 1 I z2.1 0 false), (64, RR 30 4 a29 x19 1 false)] 88) ?_
    exact pL
  · refine gX 4 ?_
    exact pL
noncomputable def L44_13 (p0 : (List S29)) (p1 : (List S29)) (x7 : (List Int)) (z1 : ((List Int) × (List S29) × (List S90) × Int × Int)) : Option (((List Int) × (List S29) × (List S90) × Int × Int) ⊕ ((List S90) × Int × Int × Bool × (List Int) × (List S29))) := (bif (ltI z1.2.2.2.2 (lenL x7)) then ((idxO (List.length z1.1) z1.2.2.2.2).bind fun x8 => ((getN z1.1 x8).bind fun x9 => (bif (ltI (addI .i64 z1.2.2.2.2 1) (lenL z1.1)) then ((T59 p0 x9).bind fun x10 => ((T59 p1 x9).bind fun x11 => ((T58 x10 x11).bind fun x12 => ((T60 z1.2.2.1 x12).bind fun x13 => (bif x13 then (some (.inl (z1.1, z1.2.1, z1.2.2.1, z1.2.2.2.1, (addI .i64 z1.2.2.2.2 1)))) else ((iter (L44_20 p0 p1 x7 z1 x9 x12) (z1.1, z1.2.1, 0)).bind fun y16 => (some (.inl (y16.2.2.1, y16.2.2.2, x12, x9, (addI .i64 z1.2.2.2.2 1)))))))))) else ((T60 z1.2.2.1 []).bind fun x17 => (bif x17 then (some (.inl (z1.1, z1.2.1, z1.2.2.1, z1.2.2.2.1, (addI .i64 z1.2.2.2.2 1)))) else ((iter (L44_20_v1 p0 p1 x7 z1 x9) (z1.1, z1.2.1, 0)).bind fun y20 => (some (.inl (y20.2.2.1, y20.2.2.2, ([] : List S90), x9, (addI .i64 z1.2.2.2.2 1)))))))))) else (some (.inr (z1.2.2.1, z1.2.2.2.1, z1.2.2.2.2, (ltI z1.2.2.2.2 (lenL x7)), z1.1, z1.2.1))))
theorem L44_13_ok (C : Callee) (h58 : ∀ (p0 : (List S90)) (p1 : (List S90)), C 58 [LL a90 p0, LL a90 p1] = (T58 p0 p1).map (fun l => AV.fr 91 2 (List.map a90 l))) (h59 : ∀ (p0 : (List S29)) (p1 : Int), C 59 [LL a29 p0, I p1] = (T59 p0 p1).map (fun l => AV.fr 91 2 (List.map a90 l))) (h60 : ∀ (p0 : (List S90)) (p1 : (List S90)), C 60 [LL a90 p0, LL a90 p1] = (T60 p0 p1).map B) (p0 : (List S29)) (p1 : (List S29)) (x7 : (List Int)) (z1 : ((List Int) × (List S29) × (List S90) × Int × Int)) : runs Try.prog C (cfg.fn 44) (finLoop ((cfg.fn 44).keep 13) ((cfg.fn 44).al 13)) [] (execA Try.prog C (cfg.fn 44) (nr Try.f44 [false, false, true, false, true, true, true, true, true, true, true, true]) ((fun z1 : ((List Int) × (List S29) × (List S90) × Int × Int) => (mkE [(40, .own 40 0), (0, LL a29 p0), (1, LL a29 p1), (5, .own 40 0), (8, .own 64 0), (9, LL a90 z1.2.2.1), (10, I z1.2.2.2.1), (41, I (lenL x7)), (42, I z1.2.2.2.2)] [(40, RR 3 1 I z1.1 0 false), (64, RR 30 4 a29 z1.2.1 0 false)] 88)) z1)) = (L44_13 p0 p1 x7 z1).map (Sum.elim (fun z => .inl ((fun z1 : ((List Int) × (List S29) × (List S90) × Int × Int) => (mkE [(40, .own 40 0), (0, LL a29 p0), (1, LL a29 p1), (5, .own 40 0), (8, .own 64 0), (9, LL a90 z1.2.2.1), (10, I z1.2.2.2.1), (41, I (lenL x7)), (42, I z1.2.2.2.2)] [(40, RR 3 1 I z1.1 0 false), (64, RR 30 4 a29 z1.2.1 0 false)] 88)) z)) (fun x => .inr ((fun (x : ((List S90) × Int × Int × Bool × (List Int) × (List S29))) => (.exit 2, (mkE [(0, LL a29 p0), (1, LL a29 p1), (5, .own 40 0), (8, .own 64 0), (9, LL a90 x.1), (10, I x.2.1), (40, .own 40 0), (41, I (lenL x7)), (42, I x.2.2.1), (43, B x.2.2.2.1)] [(40, RR 3 1 I x.2.2.2.2.1 0 false), (64, RR 30 4 a29 x.2.2.2.2.2 0 false)] 88))) x))) := by
  unfold L44_13
  refine gS 0 ?_
  refine gR 13 (rg Try.f44 13) ?_
  refine se (mkE [(0, LL a29 p0), (1, LL a29 p1), (5, .own 40 0), (8, .own 64 0), (9, LL a90 z1.2.2.1), (10, I z1.2.2.2.1), (40, .own 40 0), (41, I (lenL x7)), (42, I z1.2.2.2.2), (43, B (ltI z1.2.2.2.2 (lenL x7)))] [(40, RR 3 1 I z1.1 0 false), (64, RR 30 4 a29 z1.2.1 0 false)] 88) ?_
  refine pN ?_
  refine pS ?_
  refine gS 14 ?_
  refine gC 43 (ltI z1.2.2.2.2 (lenL x7)) ?_ ?_
  · refine gK ?_
    refine pN ?_
    refine pS ?_
    refine gS 25 ?_
    refine gB 3 ?_
    refine gS 15 ?_
    refine gR 14 (rg Try.f44 14) ?_
    refine sg 1 (mkE [(44, I z1.2.2.2.2), (0, LL a29 p0), (1, LL a29 p1), (5, .own 40 0), (8, .own 64 0), (9, LL a90 z1.2.2.1), (10, I z1.2.2.2.1), (40, .own 40 0), (41, I (lenL x7)), (42, I z1.2.2.2.2), (43, B (ltI z1.2.2.2.2 (lenL x7)))] [(40, RR 3 1 I z1.1 0 false), (64, RR 30 4 a29 z1.2.1 0 false)] 88) ?_
    refine vo 45 (addrOE 75 3 1 40 0 false I .i64 z1.1 z1.2.2.2.2) (fun x8 => ?_)
    refine vo 46 (loadOE 3 40 0 x8 0 3 1 1 false false I (fun q : Int => I q) z1.1) (fun x9 => ?_)
    refine se (mkE [(0, LL a29 p0), (1, LL a29 p1), (5, .own 40 0), (8, .own 64 0), (9, LL a90 z1.2.2.1), (10, I z1.2.2.2.1), (11, I z1.2.2.2.2), (12, I x9), (40, .own 40 0), (41, I (lenL x7)), (42, I z1.2.2.2.2)] [(40, RR 3 1 I z1.1 0 false), (64, RR 30 4 a29 z1.2.1 0 false)] 88) ?_
    refine pN ?_
    refine pS ?_
    refine gS 16 ?_
    refine gR 15 (rg Try.f44 15) ?_
    refine se (mkE [(0, LL a29 p0), (1, LL a29 p1), (5, .own 40 0), (8, .own 64 0), (9, LL a90 z1.2.2.1), (10, I z1.2.2.2.1), (11, I z1.2.2.2.2), (12, I x9), (13, .nils), (40, .own 40 0), (41, I (lenL x7)), (42, I z1.2.2.2.2)] [(40, RR 3 1 I z1.1 0 false), (64, RR 30 4 a29 z1.2.1 0 false)] 88) ?_
    refine pN ?_
    refine pS ?_
    refine gS 18 ?_
    refine gS 0 ?_
    refine gR 16 (rg Try.f44 16) ?_
    refine sg 3 (mkE [(49, .own 40 0), (48, I (addI .i64 z1.2.2.2.2 1)), (47, I z1.2.2.2.2), (0, LL a29 p0), (1, LL a29 p1), (5, .own 40 0), (8, .own 64 0), (9, LL a90 z1.2.2.1), (10, I z1.2.2.2.1), (11, I z1.2.2.2.2), (12, I x9), (13, .nils), (40, .own 40 0), (41, I (lenL x7)), (42, I z1.2.2.2.2)] [(40, RR 3 1 I z1.1 0 false), (64, RR 30 4 a29 z1.2.1 0 false)] 88) ?_
    refine eo 50 (I (lenL z1.1)) (lenOE 75 3 1 I z1.1) ?_
    refine se (mkE [(0, LL a29 p0), (1, LL a29 p1), (5, .own 40 0), (8, .own 64 0), (9, LL a90 z1.2.2.1), (10, I z1.2.2.2.1), (12, I x9), (13, .nils), (40, .own 40 0), (41, I (lenL x7)), (42, I z1.2.2.2.2), (51, B (ltI (addI .i64 z1.2.2.2.2 1) (lenL z1.1)))] [(40, RR 3 1 I z1.1 0 false), (64, RR 30 4 a29 z1.2.1 0 false)] 88) ?_
    refine pN ?_
    refine pS ?_
    refine gC 51 (ltI (addI .i64 z1.2.2.2.2 1) (lenL z1.1)) ?_ ?_
    · refine gR 17 (rg Try.f44 17) ?_
      refine sg 2 (mkE [(53, I x9), (52, LL a29 p0), (0, LL a29 p0), (1, LL a29 p1), (5, .own 40 0), (8, .own 64 0), (9, LL a90 z1.2.2.1), (10, I z1.2.2.2.1), (12, I x9), (13, .nils), (40, .own 40 0), (41, I (lenL x7)), (42, I z1.2.2.2.2), (51, B (ltI (addI .i64 z1.2.2.2.2 1) (lenL z1.1)))] [(40, RR 3 1 I z1.1 0 false), (64, RR 30 4 a29 z1.2.1 0 false)] 88) ?_
      refine co 54 [] (h59 p0 x9) (fun x10 => ?_)
      refine sg 5 (mkE [(56, I x9), (55, LL a29 p1), (54, .own 432 0), (53, I x9), (52, LL a29 p0), (0, LL a29 p0), (1, LL a29 p1), (5, .own 40 0), (8, .own 64 0), (9, LL a90 z1.2.2.1), (10, I z1.2.2.2.1), (12, I x9), (13, .nils), (40, .own 40 0), (41, I (lenL x7)), (42, I z1.2.2.2.2), (51, B (ltI (addI .i64 z1.2.2.2.2 1) (lenL z1.1)))] [(432, RR 91 2 a90 x10 0 false), (40, RR 3 1 I z1.1 0 false), (64, RR 30 4 a29 z1.2.1 0 false)] 88) ?_
      refine co 57 [] (h59 p1 x9) (fun x11 => ?_)
      refine co 58 [432, 456] (h58 x10 x11) (fun x12 => ?_)
      refine se (mkE [(0, LL a29 p0), (1, LL a29 p1), (5, .own 40 0), (8, .own 64 0), (9, LL a90 z1.2.2.1), (10, I z1.2.2.2.1), (12, I x9), (13, .own 464 0), (40, .own 40 0), (41, I (lenL x7)), (42, I z1.2.2.2.2)] [(40, RR 3 1 I z1.1 0 false), (64, RR 30 4 a29 z1.2.1 0 false), (464, RR 91 2 a90 x12 0 false)] 88) ?_
      refine pN ?_
      refine pS ?_
      refine gS 19 ?_
      refine gS 0 ?_
      refine gR 18 (rg Try.f44 18) ?_
      refine sg 2 (mkE [(60, .own 464 0), (59, LL a90 z1.2.2.1), (0, LL a29 p0), (1, LL a29 p1), (5, .own 40 0), (8, .own 64 0), (9, LL a90 z1.2.2.1), (10, I z1.2.2.2.1), (12, I x9), (13, .own 464 0), (40, .own 40 0), (41, I (lenL x7)), (42, I z1.2.2.2.2)] [(40, RR 3 1 I z1.1 0 false), (64, RR 30 4 a29 z1.2.1 0 false), (464, RR 91 2 a90 x12 0 false)] 88) ?_
      refine co 61 [464] (h60 z1.2.2.1 x12) (fun x13 => ?_)
      refine se (mkE [(0, LL a29 p0), (1, LL a29 p1), (5, .own 40 0), (8, .own 64 0), (9, LL a90 z1.2.2.1), (10, I z1.2.2.2.1), (12, I x9), (13, .own 464 0), (40, .own 40 0), (41, I (lenL x7)), (42, I z1.2.2.2.2), (61, B x13)] [(40, RR 3 1 I z1.1 0 false), (64, RR 30 4 a29 z1.2.1 0 false), (464, RR 91 2 a90 x12 0 false)] 88) ?_
      refine pN ?_
      refine pS ?_
      refine gC 61 x13 ?_ ?_
      · refine gX 3 ?_
        refine pF ?_
        refine pO ?_
        refine pH ?_
        refine pN ?_
        refine pS ?_
        refine gR 25 (rg Try.f44 25) ?_
        refine se (mkE [(0, LL a29 p0), (1, LL a29 p1), (5, .own 40 0), (8, .own 64 0), (9, LL a90 z1.2.2.1), (10, I z1.2.2.2.1), (40, .own 40 0), (41, I (lenL x7)), (42, I (addI .i64 z1.2.2.2.2 1))] [(40, RR 3 1 I z1.1 0 false), (64, RR 30 4 a29 z1.2.1 0 false)] 88) ?_
        exact pL
      · refine gK ?_
        refine pN ?_
        refine pS ?_
        refine gS 24 ?_
        refine gS 20 ?_
        refine gR 19 (rg Try.f44 19) ?_
        refine sg 1 (mkE [(62, LL a90 z1.2.2.1), (0, LL a29 p0), (1, LL a29 p1), (5, .own 40 0), (8, .own 64 0), (9, LL a90 z1.2.2.1), (10, I z1.2.2.2.1), (12, I x9), (13, .own 464 0), (40, .own 40 0), (41, I (lenL x7)), (42, I z1.2.2.2.2), (61, B x13)] [(40, RR 3 1 I z1.1 0 false), (64, RR 30 4 a29 z1.2.1 0 false), (464, RR 91 2 a90 x12 0 false)] 88) ?_
        refine eo 63 (I (lenL z1.2.2.1)) (lenE 86 a90 z1.2.2.1) ?_
        refine se (mkE [(0, LL a29 p0), (1, LL a29 p1), (5, .own 40 0), (8, .own 64 0), (10, I z1.2.2.2.1), (12, I x9), (13, .own 464 0), (40, .own 40 0), (41, I (lenL x7)), (42, I z1.2.2.2.2), (62, LL a90 z1.2.2.1), (63, I (lenL z1.2.2.1)), (64, I 0)] [(40, RR 3 1 I z1.1 0 false), (64, RR 30 4 a29 z1.2.1 0 false), (464, RR 91 2 a90 x12 0 false)] 88) ?_
        refine pN ?_
        refine pS ?_
        refine gB 4 ?_
        refine lo [(0, none), (1, none), (5, some (3, 1)), (8, some (30, 4)), (10, none), (12, none), (13, none), (41, none), (42, none), (62, none), (63, none), (64, none)] [(40, 5)] (L44_20 p0 p1 x7 z1 x9 x12) (fun z2 : ((List Int) × (List S29) × Int) => (mkE [(40, .own 40 0), (0, LL a29 p0), (1, LL a29 p1), (5, .own 40 0), (8, .own 64 0), (10, I z1.2.2.2.1), (12, I x9), (13, LL a90 x12), (41, I (lenL x7)), (42, I z1.2.2.2.2), (62, LL a90 z1.2.2.1), (63, I (lenL z1.2.2.1)), (64, I z2.2.2)] [(40, RR 3 1 I z2.1 0 false), (64, RR 30 4 a29 z2.2.1 0 false)] 88)) (fun (x : (Int × Bool × (List Int) × (List S29))) => (.exit 4, (mkE [(0, LL a29 p0), (1, LL a29 p1), (5, .own 40 0), (8, .own 64 0), (10, I z1.2.2.2.1), (12, I x9), (13, LL a90 x12), (40, .own 40 0), (41, I (lenL x7)), (42, I z1.2.2.2.2), (62, LL a90 z1.2.2.1), (63, I (lenL z1.2.2.1)), (64, I x.1), (65, B x.2.1)] [(40, RR 3 1 I x.2.2.1 0 false), (64, RR 30 4 a29 x.2.2.2 0 false)] 88))) (z1.1, z1.2.1, 0) (fun z => L44_20_ok C p0 p1 x7 z1 x9 x12 z) ?_
        intro y16
        refine pH ?_
        refine pN ?_
        refine pS ?_
        refine gR 24 (rg Try.f44 24) ?_
        refine se (mkE [(0, LL a29 p0), (1, LL a29 p1), (5, .own 40 0), (8, .own 64 0), (9, LL a90 x12), (10, I x9), (40, .own 40 0), (41, I (lenL x7)), (42, I z1.2.2.2.2)] [(40, RR 3 1 I y16.2.2.1 0 false), (64, RR 30 4 a29 y16.2.2.2 0 false)] 88) ?_
        refine pB ?_
        refine pN ?_
        refine pS ?_
        refine gR 25 (rg Try.f44 25) ?_
        refine se (mkE [(0, LL a29 p0), (1, LL a29 p1), (5, .own 40 0), (8, .own 64 0), (9, LL a90 x12), (10, I x9), (40, .own 40 0), (41, I (lenL x7)), (42, I (addI .i64 z1.2.2.2.2 1))] [(40, RR 3 1 I y16.2.2.1 0 false), (64, RR 30 4 a29 y16.2.2.2 0 false)] 88) ?_
        exact pL
    · refine gK ?_
      refine pN ?_
      refine pS ?_
      refine gS 19 ?_
      refine gS 0 ?_
      refine gR 18 (rg Try.f44 18) ?_
      refine sg 2 (mkE [(60, .nils), (59, LL a90 z1.2.2.1), (0, LL a29 p0), (1, LL a29 p1), (5, .own 40 0), (8, .own 64 0), (9, LL a90 z1.2.2.1), (10, I z1.2.2.2.1), (12, I x9), (13, .nils), (40, .own 40 0), (41, I (lenL x7)), (42, I z1.2.2.2.2), (51, B (ltI (addI .i64 z1.2.2.2.2 1) (lenL z1.1)))] [(40, RR 3 1 I z1.1 0 false), (64, RR 30 4 a29 z1.2.1 0 false)] 88) ?_
      refine co 61 [] (h60 z1.2.2.1 []) (fun x17 => ?_)
      refine se (mkE [(0, LL a29 p0), (1, LL a29 p1), (5, .own 40 0), (8, .own 64 0), (9, LL a90 z1.2.2.1), (10, I z1.2.2.2.1), (12, I x9), (13, .nils), (40, .own 40 0), (41, I (lenL x7)), (42, I z1.2.2.2.2), (61, B x17)] [(40, RR 3 1 I z1.1 0 false), (64, RR 30 4 a29 z1.2.1 0 false)] 88) ?_
      refine pN ?_
      refine pS ?_
      refine gC 61 x17 ?_ ?_
      · refine gX 3 ?_
        refine pF ?_
        refine pO ?_
        refine pH ?_
        refine pN ?_
        refine pS ?_
        refine gR 25 (rg Try.f44 25) ?_
        refine se (mkE [(0, LL a29 p0), (1, LL a29 p1), (5, .own 40 0), (8, .own 64 0), (9, LL a90 z1.2.2.1), (10, I z1.2.2.2.1), (40, .own 40 0), (41, I (lenL x7)), (42, I (addI .i64 z1.2.2.2.2 1))] [(40, RR 3 1 I z1.1 0 false), (64, RR 30 4 a29 z1.2.1 0 false)] 88) ?_
        exact pL
      · refine gK ?_
        refine pN ?_
        refine pS ?_
        refine gS 24 ?_
        refine gS 20 ?_
        refine gR 19 (rg Try.f44 19) ?_
        refine sg 1 (mkE [(62, LL a90 z1.2.2.1), (0, LL a29 p0), (1, LL a29 p1), (5, .own 40 0), (8, .own 64 0), (9, LL a90 z1.2.2.1), (10, I z1.2.2.2.1), (12, I x9), (13, .nils), (40, .own 40 0), (41, I (lenL x7)), (42, I z1.2.2.2.2), (61, B x17)] [(40, RR 3 1 I z1.1 0 false), (64, RR 30 4 a29 z1.2.1 0 false)] 88) ?_
        refine eo 63 (I (lenL z1.2.2.1)) (lenE 86 a90 z1.2.2.1) ?_
        refine se (mkE [(0, LL a29 p0), (1, LL a29 p1), (5, .own 40 0), (8, .own 64 0), (10, I z1.2.2.2.1), (12, I x9), (13, .nils), (40, .own 40 0), (41, I (lenL x7)), (42, I z1.2.2.2.2), (62, LL a90 z1.2.2.1), (63, I (lenL z1.2.2.1)), (64, I 0)] [(40, RR 3 1 I z1.1 0 false), (64, RR 30 4 a29 z1.2.1 0 false)] 88) ?_
        refine pN ?_
        refine pS ?_
        refine gB 4 ?_
        refine lo [(0, none), (1, none), (5, some (3, 1)), (8, some (30, 4)), (10, none), (12, none), (13, none), (41, none), (42, none), (62, none), (63, none), (64, none)] [(40, 5)] (L44_20_v1 p0 p1 x7 z1 x9) (fun z2 : ((List Int) × (List S29) × Int) => (mkE [(40, .own 40 0), (0, LL a29 p0), (1, LL a29 p1), (5, .own 40 0), (8, .own 64 0), (10, I z1.2.2.2.1), (12, I x9), (13, LL a90 ([] : List S90)), (41, I (lenL x7)), (42, I z1.2.2.2.2), (62, LL a90 z1.2.2.1), (63, I (lenL z1.2.2.1)), (64, I z2.2.2)] [(40, RR 3 1 I z2.1 0 false), (64, RR 30 4 a29 z2.2.1 0 false)] 88)) (fun (x : (Int × Bool × (List Int) × (List S29))) => (.exit 4, (mkE [(0, LL a29 p0), (1, LL a29 p1), (5, .own 40 0), (8, .own 64 0), (10, I z1.2.2.2.1), (12, I x9), (13, LL a90 ([] : List S90)), (40, .own 40 0), (41, I (lenL x7)), (42, I z1.2.2.2.2), (62, LL a90 z1.2.2.1), (63, I (lenL z1.2.2.1)), (64, I x.1), (65, B x.2.1)] [(40, RR 3 1 I x.2.2.1 0 false), (64, RR 30 4 a29 x.2.2.2 0 false)] 88))) (z1.1, z1.2.1, 0) (fun z => L44_20_v1_ok C p0 p1 x7 z1 x9 z) ?_
        intro y20
        refine pH ?_
        refine pN ?_
        refine pS ?_
        refine gR 24 (rg Try.f44 24) ?_
        refine se (mkE [(0, LL a29 p0), (1, LL a29 p1), (5, .own 40 0), (8, .own 64 0), (9, LL a90 ([] : List S90)), (10, I x9), (40, .own 40 0), (41, I (lenL x7)), (42, I z1.2.2.2.2)] [(40, RR 3 1 I y20.2.2.1 0 false), (64, RR 30 4 a29 y20.2.2.2 0 false)] 88) ?_
        refine pB ?_
        refine pN ?_
        refine pS ?_
        refine gR 25 (rg Try.f44 25) ?_
        refine se (mkE [(0, LL a29 p0), (1, LL a29 p1), (5, .own 40 0), (8, .own 64 0), (9, LL a90 ([] : List S90)), (10, I x9), (40, .own 40 0), (41, I (lenL x7)), (42, I (addI .i64 z1.2.2.2.2 1))] [(40, RR 3 1 I y20.2.2.1 0 false), (64, RR 30 4 a29 y20.2.2.2 0 false)] 88) ?_
        exact pL
  · refine gX 2 ?_
    exact pL
noncomputable def T44 (p0 : (List S29)) (p1 : (List S29)) : Option (List S29) := ((T55 ([p0, p1] : List (List S29))).bind fun x1 => ((iter (L44_3 p0 p1 x1) ([], x1, 0)).bind fun y5 => ((sortIO y5.2.2.1).bind fun x6 => ((compIO x6).bind fun x7 => ((iter (L44_13 p0 p1 x7) (x7, [], ([] : List S90), 0, 0)).bind fun y21 => (some y21.2.2.2.2.2))))))
theorem B44 (C : Callee) (h55 : ∀ (p0 : (List (List S29))), C 55 [LL (LL a29) p0] = (T55 p0).map (fun l => AV.fr 30 4 (List.map a29 l))) (h56 : ∀ (p0 : (List Int)), C 56 [.fr 3 1 (List.map I p0)] = (sortIO p0).map (fun (r : (List Int)) => AV.inp (.tup []) (.fr 3 1 (List.map I r)))) (h57 : ∀ (p0 : (List Int)), C 57 [.fr 3 1 (List.map I p0)] = (compIO p0).map (fun l => AV.fr 3 1 (List.map I l))) (h58 : ∀ (p0 : (List S90)) (p1 : (List S90)), C 58 [LL a90 p0, LL a90 p1] = (T58 p0 p1).map (fun l => AV.fr 91 2 (List.map a90 l))) (h59 : ∀ (p0 : (List S29)) (p1 : Int), C 59 [LL a29 p0, I p1] = (T59 p0 p1).map (fun l => AV.fr 91 2 (List.map a90 l))) (h60 : ∀ (p0 : (List S90)) (p1 : (List S90)), C 60 [LL a90 p0, LL a90 p1] = (T60 p0 p1).map B) (p0 : (List S29)) (p1 : (List S29)) : runs Try.prog C (cfg.fn 44) (finFn Try.prog (cfg.fn 44).byval Try.f44) [] (execA Try.prog C (cfg.fn 44) (nr Try.f44 []) (frame0 [LL a29 p0, LL a29 p1] 88 false)) = (T44 p0 p1).map (fun l => AV.fr 30 4 (List.map a29 l)) := by
  unfold T44
  refine gS 1 ?_
  refine gR 0 (rg Try.f44 0) ?_
  refine se (mkE [(0, LL a29 p0), (1, LL a29 p1)] [] 88) ?_
  refine pN ?_
  refine pS ?_
  refine gS 2 ?_
  refine gR 1 (rg Try.f44 1) ?_
  refine se (mkE [(0, LL a29 p0), (1, LL a29 p1), (5, .nils)] [] 88) ?_
  refine pN ?_
  refine pS ?_
  refine gS 7 ?_
  refine gS 3 ?_
  refine gR 2 (rg Try.f44 2) ?_
  refine sg 3 (mkE [(18, .own 144 0), (17, LL a29 p1), (16, LL a29 p0), (0, LL a29 p0), (1, LL a29 p1), (5, .nils)] [(144, RR 59 1 (LL a29) ([p0, p1] : List (List S29)) 0 false)] 88) ?_
  refine co 19 [144] (h55 ([p0, p1] : List (List S29))) (fun x1 => ?_)
  refine eo 20 (I (lenL x1)) (lenOE 59 30 4 a29 x1) ?_
  refine se (mkE [(0, LL a29 p0), (1, LL a29 p1), (5, .nils), (19, .own 152 0), (20, I (lenL x1)), (21, I 0)] [(152, RR 30 4 a29 x1 0 false)] 88) ?_
  refine pN ?_
  refine pS ?_
  refine gB 0 ?_
  refine lo [(0, none), (1, none), (5, some (3, 1)), (19, some (30, 4)), (20, none), (21, none)] [] (L44_3 p0 p1 x1) (fun z0 : ((List Int) × (List S29) × Int) => (mkE [(0, LL a29 p0), (1, LL a29 p1), (5, .own 40 0), (19, .own 152 0), (20, I (lenL x1)), (21, I z0.2.2)] [(40, RR 3 1 I z0.1 0 false), (152, RR 30 4 a29 z0.2.1 0 false)] 88)) (fun (x : (Int × Bool × (List Int) × (List S29))) => (.exit 0, (mkE [(0, LL a29 p0), (1, LL a29 p1), (5, .own 40 0), (19, .own 152 0), (20, I (lenL x1)), (21, I x.1), (22, B x.2.1)] [(40, RR 3 1 I x.2.2.1 0 false), (152, RR 30 4 a29 x.2.2.2 0 false)] 88))) ([], x1, 0) (fun z => L44_3_ok C p0 p1 x1 z) ?_
  intro y5
  refine pH ?_
  refine pN ?_
  refine pS ?_
  refine gS 8 ?_
  refine gR 7 (rg Try.f44 7) ?_
  refine sg 1 (mkE [(36, .own 40 0), (0, LL a29 p0), (1, LL a29 p1), (5, .own 40 0), (19, .own 152 0), (20, I (lenL x1)), (21, I y5.1), (22, B y5.2.1)] [(40, RR 3 1 I y5.2.2.1 0 false), (152, RR 30 4 a29 y5.2.2.2 0 false)] 88) ?_
  refine mo (some 37) (ipR 56 3 1 40 0 I y5.2.2.1 [] [] [] (fun x : (List Int) => .tup []) (fun x : (List Int) => x) (h56 y5.2.2.1)) (fun x6 => ?_)
  refine se (mkE [(0, LL a29 p0), (1, LL a29 p1), (5, .own 40 0)] [(40, RR 3 1 I x6 0 false)] 88) ?_
  refine pN ?_
  refine pS ?_
  refine gS 9 ?_
  refine gR 8 (rg Try.f44 8) ?_
  refine sg 1 (mkE [(38, .own 40 0), (0, LL a29 p0), (1, LL a29 p1), (5, .own 40 0)] [(40, RR 3 1 I x6 0 false)] 88) ?_
  refine mo (some 39) (gvO 57 3 1 40 0 I x6 [] [] [] (h57 x6)) (fun x7 => ?_)
  refine se (mkE [(0, LL a29 p0), (1, LL a29 p1), (5, .own 40 1)] [(40, RR 3 1 I x7 1 false)] 88) ?_
  refine pN ?_
  refine pS ?_
  refine gS 10 ?_
  refine gR 9 (rg Try.f44 9) ?_
  refine se (mkE [(0, LL a29 p0), (1, LL a29 p1), (5, .own 40 1), (8, .nils)] [(40, RR 3 1 I x7 1 false)] 88) ?_
  refine pN ?_
  refine pS ?_
  refine gS 11 ?_
  refine gR 10 (rg Try.f44 10) ?_
  refine se (mkE [(0, LL a29 p0), (1, LL a29 p1), (5, .own 40 1), (8, .nils), (9, .nils)] [(40, RR 3 1 I x7 1 false)] 88) ?_
  refine pN ?_
  refine pS ?_
  refine gS 12 ?_
  refine gR 11 (rg Try.f44 11) ?_
  refine se (mkE [(0, LL a29 p0), (1, LL a29 p1), (5, .own 40 1), (8, .nils), (9, .nils), (10, I 0)] [(40, RR 3 1 I x7 1 false)] 88) ?_
  refine pN ?_
  refine pS ?_
  refine gS 26 ?_
  refine gS 13 ?_
  refine gR 12 (rg Try.f44 12) ?_
  refine sg 1 (mkE [(40, .own 40 1), (0, LL a29 p0), (1, LL a29 p1), (5, .own 40 1), (8, .nils), (9, .nils), (10, I 0)] [(40, RR 3 1 I x7 1 false)] 88) ?_
  refine eo 41 (I (lenL x7)) (lenOE 75 3 1 I x7) ?_
  refine se (mkE [(0, LL a29 p0), (1, LL a29 p1), (5, .own 40 1), (8, .nils), (9, .nils), (10, I 0), (40, .own 40 1), (41, I (lenL x7)), (42, I 0)] [(40, RR 3 1 I x7 1 false)] 88) ?_
  refine pN ?_
  refine pS ?_
  refine gB 2 ?_
  refine lo [(0, none), (1, none), (5, some (3, 1)), (8, some (30, 4)), (9, none), (10, none), (41, none), (42, none)] [(40, 5)] (L44_13 p0 p1 x7) (fun z1 : ((List Int) × (List S29) × (List S90) × Int × Int) => (mkE [(40, .own 40 0), (0, LL a29 p0), (1, LL a29 p1), (5, .own 40 0), (8, .own 64 0), (9, LL a90 z1.2.2.1), (10, I z1.2.2.2.1), (41, I (lenL x7)), (42, I z1.2.2.2.2)] [(40, RR 3 1 I z1.1 0 false), (64, RR 30 4 a29 z1.2.1 0 false)] 88)) (fun (x : ((List S90) × Int × Int × Bool × (List Int) × (List S29))) => (.exit 2, (mkE [(0, LL a29 p0), (1, LL a29 p1), (5, .own 40 0), (8, .own 64 0), (9, LL a90 x.1), (10, I x.2.1), (40, .own 40 0), (41, I (lenL x7)), (42, I x.2.2.1), (43, B x.2.2.2.1)] [(40, RR 3 1 I x.2.2.2.2.1 0 false), (64, RR 30 4 a29 x.2.2.2.2.2 0 false)] 88))) (x7, [], ([] : List S90), 0, 0) (fun z => L44_13_ok C h58 h59 h60 p0 p1 x7 z) ?_
  intro y21
  refine pH ?_
  refine pN ?_
  refine pS ?_
  refine gS 0 ?_
  refine gR 26 (rg Try.f44 26) ?_
  refine se (mkE [(4, .own 64 0)] [(64, RR 30 4 a29 y21.2.2.2.2.2 0 false)] 88) ?_
  refine pN ?_
  refine pS ?_
  refine gE ?_
  exact pL
theorem F44 (m : Nat) (hm : 4 ≤ m) (p0 : (List S29)) (p1 : (List S29)) : callA Try.prog cfg m 44 [LL a29 p0, LL a29 p1] = (T44 p0 p1).map (fun l => AV.fr 30 4 (List.map a29 l)) := by
  obtain ⟨q, rfl⟩ : ∃ q, m = q + 1 := ⟨m - 1, by omega⟩
  exact (callA_body (fn := Try.f44) (c := body_ Try.f44) q _ (by kernel_rfl) (by kernel_rfl) (by kernel_rfl)).trans (B44 _ (fun p0 => F55 q (by omega) p0) (fun p0 => F56 q (by omega) p0) (fun p0 => F57 q (by omega) p0) (fun p0 p1 => F58 q (by omega) p0 p1) (fun p0 p1 => F59 q (by omega) p0 p1) (fun p0 p1 => F60 q (by omega) p0 p1) p0 p1)

noncomputable def L27_3 (p0 : S23) (p1 : Int) (z0 : ((List S29) × Int)) : Option (((List S29) × Int) ⊕ (Int × Bool × (List S29))) := (bif (ltI z0.2 (lenL p0.f3)) then ((listAt p0.f3 z0.2).bind fun x1 => ((T25 p0.f3 z0.2 p1).bind fun x2 => (bif x2 then ((appO 32 z0.1 ([x1.f1] : List S29)).bind fun x3 => (some (.inl (x3, (addI .i64 z0.2 1))))) else (some (.inl (z0.1, (addI .i64 z0.2 1))))))) else (some (.inr (z0.2, (ltI z0.2 (lenL p0.f3)), z0.1))))
theorem L27_3_ok (C : Callee) (h25 : ∀ (p0 : (List S31)) (p1 : Int) (p2 : Int), C 25 [LL a31 p0, I p1, I p2] = (T25 p0 p1 p2).map B) (p0 : S23) (p1 : Int) (z0 : ((List S29) × Int)) : runs Try.prog C (cfg.fn 27) (finLoop ((cfg.fn 27).keep 3) ((cfg.fn 27).al 3)) [] (execA Try.prog C (cfg.fn 27) (nr Try.f27 [false, false, true, false, true, true]) ((fun z0 : ((List S29) × Int) => (mkE [(1, I p1), (2, .ba 16 0), (5, .own 40 0), (9, LL a31 p0.f3), (10, I (lenL p0.f3)), (11, I z0.2)] [(16, .box [S p0.f0, I p0.f1, I p0.f2, LL a31 p0.f3] false), (40, RR 30 4 a29 z0.1 0 false)] 36)) z0)) = (L27_3 p0 p1 z0).map (Sum.elim (fun z => .inl ((fun z0 : ((List S29) × Int) => (mkE [(1, I p1), (2, .ba 16 0), (5, .own 40 0), (9, LL a31 p0.f3), (10, I (lenL p0.f3)), (11, I z0.2)] [(16, .box [S p0.f0, I p0.f1, I p0.f2, LL a31 p0.f3] false), (40, RR 30 4 a29 z0.1 0 false)] 36)) z)) (fun x => .inr ((fun (x : (Int × Bool × (List S29))) => (.exit 0, (mkE [(1, I p1), (2, .ba 16 0), (5, .own 40 0), (9, LL a31 p0.f3), (10, I (lenL p0.f3)), (11, I x.1), (12, B x.2.1)] [(16, .box [S p0.f0, I p0.f1, I p0.f2, LL a31 p0.f3] false), (40, RR 30 4 a29 x.2.2 0 false)] 36))) x))) := by
  unfold L27_3
  refine gS 0 ?_
  refine gR 3 (rg Try.f27 3) ?_
  refine se (mkE [(1, I p1), (2, .ba 16 0), (5, .own 40 0), (9, LL a31 p0.f3), (10, I (lenL p0.f3)), (11, I z0.2), (12, B (ltI z0.2 (lenL p0.f3)))] [(16, .box [S p0.f0, I p0.f1, I p0.f2, LL a31 p0.f3] false), (40, RR 30 4 a29 z0.1 0 false)] 36) ?_
  refine pN ?_
  refine pS ?_
  refine gS 4 ?_
  refine gC 12 (ltI z0.2 (lenL p0.f3)) ?_ ?_
  · refine gK ?_
    refine pN ?_
    refine pS ?_
    refine gS 7 ?_
    refine gB 1 ?_
    refine gS 5 ?_
    refine gR 4 (rg Try.f27 4) ?_
    refine sg 1 (mkE [(13, I z0.2), (1, I p1), (2, .ba 16 0), (5, .own 40 0), (9, LL a31 p0.f3), (10, I (lenL p0.f3)), (11, I z0.2), (12, B (ltI z0.2 (lenL p0.f3)))] [(16, .box [S p0.f0, I p0.f1, I p0.f2, LL a31 p0.f3] false), (40, RR 30 4 a29 z0.1 0 false)] 36) ?_
    refine vo 14 (addrE 22 32 6 a31 .i64 p0.f3 z0.2) (fun x1 => ?_)
    refine se (mkE [(1, I p1), (2, .ba 16 0), (5, .own 40 0), (6, I z0.2), (7, .ba 56 0), (9, LL a31 p0.f3), (10, I (lenL p0.f3)), (11, I z0.2)] [(16, .box [S p0.f0, I p0.f1, I p0.f2, LL a31 p0.f3] false), (40, RR 30 4 a29 z0.1 0 false), (56, .box [S x1.f0, I x1.f1.f0, I x1.f1.f1, I x1.f1.f2, I x1.f1.f3, I x1.f2] false)] 36) ?_
    refine pN ?_
    refine pS ?_
    refine gS 0 ?_
    refine gR 5 (rg Try.f27 5) ?_
    refine sg 4 (mkE [(19, I p1), (18, I z0.2), (17, LL a31 p0.f3), (16, .ba 16 3), (1, I p1), (2, .ba 16 0), (5, .own 40 0), (6, I z0.2), (7, .ba 56 0), (9, LL a31 p0.f3), (10, I (lenL p0.f3)), (11, I z0.2)] [(16, .box [S p0.f0, I p0.f1, I p0.f2, LL a31 p0.f3] false), (40, RR 30 4 a29 z0.1 0 false), (56, .box [S x1.f0, I x1.f1.f0, I x1.f1.f1, I x1.f1.f2, I x1.f1.f3, I x1.f2] false)] 36) ?_
    refine co 20 [] (h25 p0.f3 z0.2 p1) (fun x2 => ?_)
    refine se (mkE [(1, I p1), (2, .ba 16 0), (5, .own 40 0), (7, .ba 56 0), (9, LL a31 p0.f3), (10, I (lenL p0.f3)), (11, I z0.2), (20, B x2)] [(16, .box [S p0.f0, I p0.f1, I p0.f2, LL a31 p0.f3] false), (40, RR 30 4 a29 z0.1 0 false), (56, .box [S x1.f0, I x1.f1.f0, I x1.f1.f1, I x1.f1.f2, I x1.f1.f3, I x1.f2] false)] 36) ?_
    refine pN ?_
    refine pS ?_
    refine gC 20 x2 ?_ ?_
    · refine gR 6 (rg Try.f27 6) ?_
      refine sg 4 (mkE [(24, .own 192 0), (23, a29 x1.f1), (22, .ba 56 1), (21, .own 40 0), (1, I p1), (2, .ba 16 0), (5, .own 40 0), (7, .ba 56 0), (9, LL a31 p0.f3), (10, I (lenL p0.f3)), (11, I z0.2), (20, B x2)] [(192, RR 30 4 a29 ([x1.f1] : List S29) 0 false), (16, .box [S p0.f0, I p0.f1, I p0.f2, LL a31 p0.f3] false), (40, RR 30 4 a29 z0.1 0 false), (56, .box [S x1.f0, I x1.f1.f0, I x1.f1.f1, I x1.f1.f2, I x1.f1.f3, I x1.f2] false)] 36) ?_
      refine mo (some 25) (apO 59 30 4 32 40 a29 0 [192] (y := .own 192 0) (l2 := ([x1.f1] : List S29))) (fun x3 => ?_)
      refine se (mkE [(1, I p1), (2, .ba 16 0), (5, .own 40 1), (9, LL a31 p0.f3), (10, I (lenL p0.f3)), (11, I z0.2)] [(16, .box [S p0.f0, I p0.f1, I p0.f2, LL a31 p0.f3] false), (40, RR 30 4 a29 x3 1 false)] 36) ?_
      refine pB ?_
      refine pN ?_
      refine pS ?_
      refine gR 7 (rg Try.f27 7) ?_
      refine se (mkE [(1, I p1), (2, .ba 16 0), (5, .own 40 1), (9, LL a31 p0.f3), (10, I (lenL p0.f3)), (11, I (addI .i64 z0.2 1))] [(16, .box [S p0.f0, I p0.f1, I p0.f2, LL a31 p0.f3] false), (40, RR 30 4 a29 x3 1 false)] 36) ?_
      exact pL
    · refine gK ?_
      refine pB ?_
      refine pN ?_
      refine pS ?_
      refine gR 7 (rg Try.f27 7) ?_
      refine se (mkE [(1, I p1), (2, .ba 16 0), (5, .own 40 0), (9, LL a31 p0.f3), (10, I (lenL p0.f3)), (11, I (addI .i64 z0.2 1))] [(16, .box [S p0.f0, I p0.f1, I p0.f2, LL a31 p0.f3] false), (40, RR 30 4 a29 z0.1 0 false)] 36) ?_
      exact pL
  · refine gX 0 ?_
    exact pL
noncomputable def T27 (p0 : S23) (p1 : Int) : Option (List S29) := ((iter (L27_3 p0 p1) ([], 0)).bind fun y4 => ((listAt p0.f3 p1).bind fun x5 => ((T44 ([x5.f1] : List S29) y4.2.2).bind fun x6 => (some x6))))
theorem B27 (C : Callee) (h25 : ∀ (p0 : (List S31)) (p1 : Int) (p2 : Int), C 25 [LL a31 p0, I p1, I p2] = (T25 p0 p1 p2).map B) (h44 : ∀ (p0 : (List S29)) (p1 : (List S29)), C 44 [LL a29 p0, LL a29 p1] = (T44 p0 p1).map (fun l => AV.fr 30 4 (List.map a29 l))) (p0 : S23) (p1 : Int) : runs Try.prog C (cfg.fn 27) (finFn Try.prog (cfg.fn 27).byval Try.f27) [] (execA Try.prog C (cfg.fn 27) (nr Try.f27 []) (frame0 [a23 p0, I p1] 36 false)) = (T27 p0 p1).map (fun l => AV.fr 30 4 (List.map a29 l)) := by
  unfold T27
  refine gS 1 ?_
  refine gR 0 (rg Try.f27 0) ?_
  refine se (mkE [(1, I p1), (2, .ba 16 0)] [(16, .box [S p0.f0, I p0.f1, I p0.f2, LL a31 p0.f3] false)] 36) ?_
  refine pN ?_
  refine pS ?_
  refine gS 2 ?_
  refine gR 1 (rg Try.f27 1) ?_
  refine se (mkE [(1, I p1), (2, .ba 16 0), (5, .nils)] [(16, .box [S p0.f0, I p0.f1, I p0.f2, LL a31 p0.f3] false)] 36) ?_
  refine pN ?_
  refine pS ?_
  refine gS 8 ?_
  refine gS 3 ?_
  refine gR 2 (rg Try.f27 2) ?_
  refine sg 2 (mkE [(9, LL a31 p0.f3), (8, .ba 16 3), (1, I p1), (2, .ba 16 0), (5, .nils)] [(16, .box [S p0.f0, I p0.f1, I p0.f2, LL a31 p0.f3] false)] 36) ?_
  refine eo 10 (I (lenL p0.f3)) (lenE 22 a31 p0.f3) ?_
  refine se (mkE [(1, I p1), (2, .ba 16 0), (5, .nils), (9, LL a31 p0.f3), (10, I (lenL p0.f3)), (11, I 0)] [(16, .box [S p0.f0, I p0.f1, I p0.f2, LL a31 p0.f3] false)] 36) ?_
  refine pN ?_
  refine pS ?_
  refine gB 0 ?_
  refine lo [(1, none), (2, none), (5, some (30, 4)), (9, none), (10, none), (11, none)] [] (L27_3 p0 p1) (fun z0 : ((List S29) × Int) => (mkE [(1, I p1), (2, .ba 16 0), (5, .own 40 0), (9, LL a31 p0.f3), (10, I (lenL p0.f3)), (11, I z0.2)] [(16, .box [S p0.f0, I p0.f1, I p0.f2, LL a31 p0.f3] false), (40, RR 30 4 a29 z0.1 0 false)] 36)) (fun (x : (Int × Bool × (List S29))) => (.exit 0, (mkE [(1, I p1), (2, .ba 16 0), (5, .own 40 0), (9, LL a31 p0.f3), (10, I (lenL p0.f3)), (11, I x.1), (12, B x.2.1)] [(16, .box [S p0.f0, I p0.f1, I p0.f2, LL a31 p0.f3] false), (40, RR 30 4 a29 x.2.2 0 false)] 36))) ([], 0) (fun z => L27_3_ok C h25 p0 p1 z) ?_
  intro y4
  refine pH ?_
  refine pN ?_
  refine pS ?_
  refine gS 0 ?_
  refine gR 8 (rg Try.f27 8) ?_
  refine sg 3 (mkE [(29, I p1), (28, LL a31 p0.f3), (27, .ba 16 3), (1, I p1), (2, .ba 16 0), (5, .own 40 0), (9, LL a31 p0.f3), (10, I (lenL p0.f3)), (11, I y4.1), (12, B y4.2.1)] [(16, .box [S p0.f0, I p0.f1, I p0.f2, LL a31 p0.f3] false), (40, RR 30 4 a29 y4.2.2 0 false)] 36) ?_
  refine vo 30 (addrE 22 32 6 a31 .i64 p0.f3 p1) (fun x5 => ?_)
  refine sg 8 (mkE [(34, .own 40 0), (33, .own 264 0), (32, a29 x5.f1), (31, .ia [S x5.f0, I x5.f1.f0, I x5.f1.f1, I x5.f1.f2, I x5.f1.f3, I x5.f2] 1), (30, .ia [S x5.f0, I x5.f1.f0, I x5.f1.f1, I x5.f1.f2, I x5.f1.f3, I x5.f2] 0), (29, I p1), (28, LL a31 p0.f3), (27, .ba 16 3), (1, I p1), (2, .ba 16 0), (5, .own 40 0), (9, LL a31 p0.f3), (10, I (lenL p0.f3)), (11, I y4.1), (12, B y4.2.1)] [(264, RR 30 4 a29 ([x5.f1] : List S29) 0 false), (16, .box [S p0.f0, I p0.f1, I p0.f2, LL a31 p0.f3] false), (40, RR 30 4 a29 y4.2.2 0 false)] 36) ?_
  refine co 35 [264, 40] (h44 ([x5.f1] : List S29) y4.2.2) (fun x6 => ?_)
  refine se (mkE [(4, .own 280 0)] [(280, RR 30 4 a29 x6 0 false)] 36) ?_
  refine pN ?_
  refine pS ?_
  refine gE ?_
  exact pL
theorem F27 (m : Nat) (hm : 5 ≤ m) (p0 : S23) (p1 : Int) : callA Try.prog cfg m 27 [a23 p0, I p1] = (T27 p0 p1).map (fun l => AV.fr 30 4 (List.map a29 l)) := by
  obtain ⟨q, rfl⟩ : ∃ q, m = q + 1 := ⟨m - 1, by omega⟩
  exact (callA_body (fn := Try.f27) (c := body_ Try.f27) q _ (by kernel_rfl) (by kernel_rfl) (by kernel_rfl)).trans (B27 _ (fun p0 p1 p2 => F25 q (by omega) p0 p1 p2) (fun p0 p1 => F44 q (by omega) p0 p1) p0 p1)

noncomputable def L26_6 (p0 : S23) (z0 : ((List S49) × Int)) (x1 : S31) (x2 : (List S29)) (z1 : ((List S49) × (List S29) × Int)) : Option (((List S49) × (List S29) × Int) ⊕ (Int × Bool × (List S49) × (List S29))) := (bif (ltI z1.2.2 (lenL x2)) then ((idxO (List.length z1.2.1) z1.2.2).bind fun x3 => ((getN z1.2.1 x3).bind fun x4 => ((appO 48 z1.1 ([(S49.mk x1.f0 x4)] : List S49)).bind fun x5 => (some (.inl (x5, z1.2.1, (addI .i64 z1.2.2 1))))))) else (some (.inr (z1.2.2, (ltI z1.2.2 (lenL x2)), z1.1, z1.2.1))))
theorem L26_6_ok (C : Callee) (p0 : S23) (z0 : ((List S49) × Int)) (x1 : S31) (x2 : (List S29)) (z1 : ((List S49) × (List S29) × Int)) : runs Try.prog C (cfg.fn 26) (finLoop ((cfg.fn 26).keep 6) ((cfg.fn 26).al 6)) [] (execA Try.prog C (cfg.fn 26) (nr Try.f26 [false, false, true, true, false, false, true, true, false, false, true, false, true, true]) ((fun z1 : ((List S49) × (List S29) × Int) => (mkE [(1, .ba 8 0), (4, .own 32 0), (6, .ba 48 0), (10, LL a31 p0.f3), (11, I (lenL p0.f3)), (12, I z0.2), (19, .own 152 0), (20, I (lenL x2)), (21, I z1.2.2)] [(8, .box [S p0.f0, I p0.f1, I p0.f2, LL a31 p0.f3] false), (32, RR 50 5 a49 z1.1 0 false), (48, .box [S x1.f0, I x1.f1.f0, I x1.f1.f1, I x1.f1.f2, I x1.f1.f3, I x1.f2] false), (152, RR 30 4 a29 z1.2.1 0 false)] 38)) z1)) = (L26_6 p0 z0 x1 x2 z1).map (Sum.elim (fun z => .inl ((fun z1 : ((List S49) × (List S29) × Int) => (mkE [(1, .ba 8 0), (4, .own 32 0), (6, .ba 48 0), (10, LL a31 p0.f3), (11, I (lenL p0.f3)), (12, I z0.2), (19, .own 152 0), (20, I (lenL x2)), (21, I z1.2.2)] [(8, .box [S p0.f0, I p0.f1, I p0.f2, LL a31 p0.f3] false), (32, RR 50 5 a49 z1.1 0 false), (48, .box [S x1.f0, I x1.f1.f0, I x1.f1.f1, I x1.f1.f2, I x1.f1.f3, I x1.f2] false), (152, RR 30 4 a29 z1.2.1 0 false)] 38)) z)) (fun x => .inr ((fun (x : (Int × Bool × (List S49) × (List S29))) => (.exit 2, (mkE [(1, .ba 8 0), (4, .own 32 0), (6, .ba 48 0), (10, LL a31 p0.f3), (11, I (lenL p0.f3)), (12, I z0.2), (19, .own 152 0), (20, I (lenL x2)), (21, I x.1), (22, B x.2.1)] [(8, .box [S p0.f0, I p0.f1, I p0.f2, LL a31 p0.f3] false), (32, RR 50 5 a49 x.2.2.1 0 false), (48, .box [S x1.f0, I x1.f1.f0, I x1.f1.f1, I x1.f1.f2, I x1.f1.f3, I x1.f2] false), (152, RR 30 4 a29 x.2.2.2 0 false)] 38))) x))) := by
  unfold L26_6
  refine gS 0 ?_
  refine gR 6 (rg Try.f26 6) ?_
  refine se (mkE [(1, .ba 8 0), (4, .own 32 0), (6, .ba 48 0), (10, LL a31 p0.f3), (11, I (lenL p0.f3)), (12, I z0.2), (19, .own 152 0), (20, I (lenL x2)), (21, I z1.2.2), (22, B (ltI z1.2.2 (lenL x2)))] [(8, .box [S p0.f0, I p0.f1, I p0.f2, LL a31 p0.f3] false), (32, RR 50 5 a49 z1.1 0 false), (48, .box [S x1.f0, I x1.f1.f0, I x1.f1.f1, I x1.f1.f2, I x1.f1.f3, I x1.f2] false), (152, RR 30 4 a29 z1.2.1 0 false)] 38) ?_
  refine pN ?_
  refine pS ?_
  refine gS 7 ?_
  refine gC 22 (ltI z1.2.2 (lenL x2)) ?_ ?_
  · refine gK ?_
    refine pN ?_
    refine pS ?_
    refine gS 9 ?_
    refine gB 3 ?_
    refine gS 8 ?_
    refine gR 7 (rg Try.f26 7) ?_
    refine vo 23 (addrOE 59 30 4 152 0 false a29 .i64 z1.2.1 z1.2.2) (fun x3 => ?_)
    refine vo 24 (loadOE 30 152 0 x3 0 30 4 4 true false a29 (fun q : S29 => a29 q) z1.2.1) (fun x4 => ?_)
    refine se (mkE [(1, .ba 8 0), (4, .own 32 0), (6, .ba 48 0), (8, .ba 64 0), (10, LL a31 p0.f3), (11, I (lenL p0.f3)), (12, I z0.2), (19, .own 152 0), (20, I (lenL x2)), (21, I z1.2.2)] [(8, .box [S p0.f0, I p0.f1, I p0.f2, LL a31 p0.f3] false), (32, RR 50 5 a49 z1.1 0 false), (48, .box [S x1.f0, I x1.f1.f0, I x1.f1.f1, I x1.f1.f2, I x1.f1.f3, I x1.f2] false), (64, .box [I x4.f0, I x4.f1, I x4.f2, I x4.f3] false), (152, RR 30 4 a29 z1.2.1 0 false)] 38) ?_
    refine pN ?_
    refine pS ?_
    refine gR 8 (rg Try.f26 8) ?_
    refine sg 6 (mkE [(30, .own 240 0), (29, .agg [S x1.f0, I x4.f0, I x4.f1, I x4.f2, I x4.f3]), (28, a29 x4), (27, S x1.f0), (26, .ba 48 0), (25, .own 32 0), (1, .ba 8 0), (4, .own 32 0), (6, .ba 48 0), (8, .ba 64 0), (10, LL a31 p0.f3), (11, I (lenL p0.f3)), (12, I z0.2), (19, .own 152 0), (20, I (lenL x2)), (21, I z1.2.2)] [(240, RR 50 5 a49 ([(S49.mk x1.f0 x4)] : List S49) 0 false), (8, .box [S p0.f0, I p0.f1, I p0.f2, LL a31 p0.f3] false), (32, RR 50 5 a49 z1.1 0 false), (48, .box [S x1.f0, I x1.f1.f0, I x1.f1.f1, I x1.f1.f2, I x1.f1.f3, I x1.f2] false), (64, .box [I x4.f0, I x4.f1, I x4.f2, I x4.f3] false), (152, RR 30 4 a29 z1.2.1 0 false)] 38) ?_
    refine mo (some 31) (apO 36 50 5 48 32 a49 0 [240] (y := .own 240 0) (l2 := ([(S49.mk x1.f0 x4)] : List S49))) (fun x5 => ?_)
    refine se (mkE [(1, .ba 8 0), (4, .own 32 1), (6, .ba 48 0), (10, LL a31 p0.f3), (11, I (lenL p0.f3)), (12, I z0.2), (19, .own 152 0), (20, I (lenL x2)), (21, I z1.2.2)] [(8, .box [S p0.f0, I p0.f1, I p0.f2, LL a31 p0.f3] false), (32, RR 50 5 a49 x5 1 false), (48, .box [S x1.f0, I x1.f1.f0, I x1.f1.f1, I x1.f1.f2, I x1.f1.f3, I x1.f2] false), (152, RR 30 4 a29 z1.2.1 0 false)] 38) ?_
    refine pB ?_
    refine pN ?_
    refine pS ?_
    refine gR 9 (rg Try.f26 9) ?_
    refine se (mkE [(1, .ba 8 0), (4, .own 32 1), (6, .ba 48 0), (10, LL a31 p0.f3), (11, I (lenL p0.f3)), (12, I z0.2), (19, .own 152 0), (20, I (lenL x2)), (21, I (addI .i64 z1.2.2 1))] [(8, .box [S p0.f0, I p0.f1, I p0.f2, LL a31 p0.f3] false), (32, RR 50 5 a49 x5 1 false), (48, .box [S x1.f0, I x1.f1.f0, I x1.f1.f1, I x1.f1.f2, I x1.f1.f3, I x1.f2] false), (152, RR 30 4 a29 z1.2.1 0 false)] 38) ?_
    exact pL
  · refine gX 2 ?_
    exact pL
noncomputable def L26_3 (p0 : S23) (z0 : ((List S49) × Int)) : Option (((List S49) × Int) ⊕ (Int × Bool × (List S49))) := (bif (ltI z0.2 (lenL p0.f3)) then ((listAt p0.f3 z0.2).bind fun x1 => ((T27 p0 z0.2).bind fun x2 => ((iter (L26_6 p0 z0 x1 x2) (z0.1, x2, 0)).bind fun y6 => (some (.inl (y6.2.2.1, (addI .i64 z0.2 1))))))) else (some (.inr (z0.2, (ltI z0.2 (lenL p0.f3)), z0.1))))
theorem L26_3_ok (C : Callee) (h27 : ∀ (p0 : S23) (p1 : Int), C 27 [a23 p0, I p1] = (T27 p0 p1).map (fun l => AV.fr 30 4 (List.map a29 l))) (p0 : S23) (z0 : ((List S49) × Int)) : runs Try.prog C (cfg.fn 26) (finLoop ((cfg.fn 26).keep 3) ((cfg.fn 26).al 3)) [] (execA Try.prog C (cfg.fn 26) (nr Try.f26 [false, false, true, false, true, true]) ((fun z0 : ((List S49) × Int) => (mkE [(1, .ba 8 0), (4, .own 32 0), (10, LL a31 p0.f3), (11, I (lenL p0.f3)), (12, I z0.2)] [(8, .box [S p0.f0, I p0.f1, I p0.f2, LL a31 p0.f3] false), (32, RR 50 5 a49 z0.1 0 false)] 38)) z0)) = (L26_3 p0 z0).map (Sum.elim (fun z => .inl ((fun z0 : ((List S49) × Int) => (mkE [(1, .ba 8 0), (4, .own 32 0), (10, LL a31 p0.f3), (11, I (lenL p0.f3)), (12, I z0.2)] [(8, .box [S p0.f0, I p0.f1, I p0.f2, LL a31 p0.f3] false), (32, RR 50 5 a49 z0.1 0 false)] 38)) z)) (fun x => .inr ((fun (x : (Int × Bool × (List S49))) => (.exit 0, (mkE [(1, .ba 8 0), (4, .own 32 0), (10, LL a31 p0.f3), (11, I (lenL p0.f3)), (12, I x.1), (13, B x.2.1)] [(8, .box [S p0.f0, I p0.f1, I p0.f2, LL a31 p0.f3] false), (32, RR 50 5 a49 x.2.2 0 false)] 38))) x))) := by
  unfold L26_3
  refine gS 0 ?_
  refine gR 3 (rg Try.f26 3) ?_
  refine se (mkE [(1, .ba 8 0), (4, .own 32 0), (10, LL a31 p0.f3), (11, I (lenL p0.f3)), (12, I z0.2), (13, B (ltI z0.2 (lenL p0.f3)))] [(8, .box [S p0.f0, I p0.f1, I p0.f2, LL a31 p0.f3] false), (32, RR 50 5 a49 z0.1 0 false)] 38) ?_
  refine pN ?_
  refine pS ?_
  refine gS 4 ?_
  refine gC 13 (ltI z0.2 (lenL p0.f3)) ?_ ?_
  · refine gK ?_
    refine pN ?_
    refine pS ?_
    refine gS 10 ?_
    refine gB 1 ?_
    refine gS 5 ?_
    refine gR 4 (rg Try.f26 4) ?_
    refine sg 1 (mkE [(14, I z0.2), (1, .ba 8 0), (4, .own 32 0), (10, LL a31 p0.f3), (11, I (lenL p0.f3)), (12, I z0.2), (13, B (ltI z0.2 (lenL p0.f3)))] [(8, .box [S p0.f0, I p0.f1, I p0.f2, LL a31 p0.f3] false), (32, RR 50 5 a49 z0.1 0 false)] 38) ?_
    refine vo 15 (addrE 22 32 6 a31 .i64 p0.f3 z0.2) (fun x1 => ?_)
    refine se (mkE [(1, .ba 8 0), (4, .own 32 0), (5, I z0.2), (6, .ba 48 0), (10, LL a31 p0.f3), (11, I (lenL p0.f3)), (12, I z0.2)] [(8, .box [S p0.f0, I p0.f1, I p0.f2, LL a31 p0.f3] false), (32, RR 50 5 a49 z0.1 0 false), (48, .box [S x1.f0, I x1.f1.f0, I x1.f1.f1, I x1.f1.f2, I x1.f1.f3, I x1.f2] false)] 38) ?_
    refine pN ?_
    refine pS ?_
    refine gS 6 ?_
    refine gR 5 (rg Try.f26 5) ?_
    refine sg 2 (mkE [(18, I z0.2), (17, a23 p0), (1, .ba 8 0), (4, .own 32 0), (5, I z0.2), (6, .ba 48 0), (10, LL a31 p0.f3), (11, I (lenL p0.f3)), (12, I z0.2)] [(8, .box [S p0.f0, I p0.f1, I p0.f2, LL a31 p0.f3] false), (32, RR 50 5 a49 z0.1 0 false), (48, .box [S x1.f0, I x1.f1.f0, I x1.f1.f1, I x1.f1.f2, I x1.f1.f3, I x1.f2] false)] 38) ?_
    refine co 19 [] (h27 p0 z0.2) (fun x2 => ?_)
    refine eo 20 (I (lenL x2)) (lenOE 59 30 4 a29 x2) ?_
    refine se (mkE [(1, .ba 8 0), (4, .own 32 0), (6, .ba 48 0), (10, LL a31 p0.f3), (11, I (lenL p0.f3)), (12, I z0.2), (19, .own 152 0), (20, I (lenL x2)), (21, I 0)] [(8, .box [S p0.f0, I p0.f1, I p0.f2, LL a31 p0.f3] false), (32, RR 50 5 a49 z0.1 0 false), (48, .box [S x1.f0, I x1.f1.f0, I x1.f1.f1, I x1.f1.f2, I x1.f1.f3, I x1.f2] false), (152, RR 30 4 a29 x2 0 false)] 38) ?_
    refine pN ?_
    refine pS ?_
    refine gB 2 ?_
    refine lo [(1, none), (4, some (50, 5)), (6, none), (10, none), (11, none), (12, none), (19, some (30, 4)), (20, none), (21, none)] [] (L26_6 p0 z0 x1 x2) (fun z1 : ((List S49) × (List S29) × Int) => (mkE [(1, .ba 8 0), (4, .own 32 0), (6, .ba 48 0), (10, LL a31 p0.f3), (11, I (lenL p0.f3)), (12, I z0.2), (19, .own 152 0), (20, I (lenL x2)), (21, I z1.2.2)] [(8, .box [S p0.f0, I p0.f1, I p0.f2, LL a31 p0.f3] false), (32, RR 50 5 a49 z1.1 0 false), (48, .box [S x1.f0, I x1.f1.f0, I x1.f1.f1, I x1.f1.f2, I x1.f1.f3, I x1.f2] false), (152, RR 30 4 a29 z1.2.1 0 false)] 38)) (fun (x : (Int × Bool × (List S49) × (List S29))) => (.exit 2, (mkE [(1, .ba 8 0), (4, .own 32 0), (6, .ba 48 0), (10, LL a31 p0.f3), (11, I (lenL p0.f3)), (12, I z0.2), (19, .own 152 0), (20, I (lenL x2)), (21, I x.1), (22, B x.2.1)] [(8, .box [S p0.f0, I p0.f1, I p0.f2, LL a31 p0.f3] false), (32, RR 50 5 a49 x.2.2.1 0 false), (48, .box [S x1.f0, I x1.f1.f0, I x1.f1.f1, I x1.f1.f2, I x1.f1.f3, I x1.f2] false), (152, RR 30 4 a29 x.2.2.2 0 false)] 38))) (z0.1, x2, 0) (fun z => L26_6_ok C p0 z0 x1 x2 z) ?_
    intro y6
    refine pH ?_
    refine pB ?_
    refine pN ?_
    refine pS ?_
    refine gR 10 (rg Try.f26 10) ?_
    refine se (mkE [(1, .ba 8 0), (4, .own 32 0), (10, LL a31 p0.f3), (11, I (lenL p0.f3)), (12, I (addI .i64 z0.2 1))] [(8, .box [S p0.f0, I p0.f1, I p0.f2, LL a31 p0.f3] false), (32, RR 50 5 a49 y6.2.2.1 0 false)] 38) ?_
    exact pL
  · refine gX 0 ?_
    exact pL
noncomputable def T26 (p0 : S23) : Option ((List S49) × Int) := ((iter (L26_3 p0) ([], 0)).bind fun y7 => (bif (ltI 2000 (lenL y7.2.2)) then (some ([], 2)) else (some (y7.2.2, 0))))
theorem B26 (C : Callee) (h27 : ∀ (p0 : S23) (p1 : Int), C 27 [a23 p0, I p1] = (T27 p0 p1).map (fun l => AV.fr 30 4 (List.map a29 l))) (p0 : S23) : runs Try.prog C (cfg.fn 26) (finFn Try.prog (cfg.fn 26).byval Try.f26) [] (execA Try.prog C (cfg.fn 26) (nr Try.f26 []) (frame0 [a23 p0] 38 false)) = (T26 p0).map (fun r => AV.tup [(fun l => AV.fr 50 5 (List.map a49 l)) r.1, I r.2]) := by
  unfold T26
  refine gS 1 ?_
  refine gR 0 (rg Try.f26 0) ?_
  refine se (mkE [(1, .ba 8 0)] [(8, .box [S p0.f0, I p0.f1, I p0.f2, LL a31 p0.f3] false)] 38) ?_
  refine pN ?_
  refine pS ?_
  refine gS 2 ?_
  refine gR 1 (rg Try.f26 1) ?_
  refine se (mkE [(1, .ba 8 0), (4, .nils)] [(8, .box [S p0.f0, I p0.f1, I p0.f2, LL a31 p0.f3] false)] 38) ?_
  refine pN ?_
  refine pS ?_
  refine gS 11 ?_
  refine gS 3 ?_
  refine gR 2 (rg Try.f26 2) ?_
  refine sg 2 (mkE [(10, LL a31 p0.f3), (9, .ba 8 3), (1, .ba 8 0), (4, .nils)] [(8, .box [S p0.f0, I p0.f1, I p0.f2, LL a31 p0.f3] false)] 38) ?_
  refine eo 11 (I (lenL p0.f3)) (lenE 22 a31 p0.f3) ?_
  refine se (mkE [(1, .ba 8 0), (4, .nils), (10, LL a31 p0.f3), (11, I (lenL p0.f3)), (12, I 0)] [(8, .box [S p0.f0, I p0.f1, I p0.f2, LL a31 p0.f3] false)] 38) ?_
  refine pN ?_
  refine pS ?_
  refine gB 0 ?_
  refine lo [(1, none), (4, some (50, 5)), (10, none), (11, none), (12, none)] [] (L26_3 p0) (fun z0 : ((List S49) × Int) => (mkE [(1, .ba 8 0), (4, .own 32 0), (10, LL a31 p0.f3), (11, I (lenL p0.f3)), (12, I z0.2)] [(8, .box [S p0.f0, I p0.f1, I p0.f2, LL a31 p0.f3] false), (32, RR 50 5 a49 z0.1 0 false)] 38)) (fun (x : (Int × Bool × (List S49))) => (.exit 0, (mkE [(1, .ba 8 0), (4, .own 32 0), (10, LL a31 p0.f3), (11, I (lenL p0.f3)), (12, I x.1), (13, B x.2.1)] [(8, .box [S p0.f0, I p0.f1, I p0.f2, LL a31 p0.f3] false), (32, RR 50 5 a49 x.2.2 0 false)] 38))) ([], 0) (fun z => L26_3_ok C h27 p0 z) ?_
  intro y7
  refine pH ?_
  refine pN ?_
  refine pS ?_
  refine gS 13 ?_
  refine gS 0 ?_
  refine gR 11 (rg Try.f26 11) ?_
  refine sg 1 (mkE [(34, .own 32 0), (1, .ba 8 0), (4, .own 32 0), (10, LL a31 p0.f3), (11, I (lenL p0.f3)), (12, I y7.1), (13, B y7.2.1)] [(8, .box [S p0.f0, I p0.f1, I p0.f2, LL a31 p0.f3] false), (32, RR 50 5 a49 y7.2.2 0 false)] 38) ?_
  refine eo 35 (I (lenL y7.2.2)) (lenOE 36 50 5 a49 y7.2.2) ?_
  refine se (mkE [(4, .own 32 0), (36, B (ltI 2000 (lenL y7.2.2)))] [(32, RR 50 5 a49 y7.2.2 0 false)] 38) ?_
  refine pN ?_
  refine pS ?_
  refine gC 36 (ltI 2000 (lenL y7.2.2)) ?_ ?_
  · refine gS 0 ?_
    refine gR 12 (rg Try.f26 12) ?_
    refine se (mkE [(2, .nils), (3, I 2)] [] 38) ?_
    refine pN ?_
    refine pS ?_
    refine gE ?_
    exact pL
  · refine gK ?_
    refine pN ?_
    refine pS ?_
    refine gS 0 ?_
    refine gR 13 (rg Try.f26 13) ?_
    refine se (mkE [(2, .own 32 0), (3, I 0)] [(32, RR 50 5 a49 y7.2.2 0 false)] 38) ?_
    refine pN ?_
    refine pS ?_
    refine gE ?_
    exact pL
theorem F26 (m : Nat) (hm : 6 ≤ m) (p0 : S23) : callA Try.prog cfg m 26 [a23 p0] = (T26 p0).map (fun r => AV.tup [(fun l => AV.fr 50 5 (List.map a49 l)) r.1, I r.2]) := by
  obtain ⟨q, rfl⟩ : ∃ q, m = q + 1 := ⟨m - 1, by omega⟩
  exact (callA_body (fn := Try.f26) (c := body_ Try.f26) q _ (by kernel_rfl) (by kernel_rfl) (by kernel_rfl)).trans (B26 _ (fun p0 p1 => F27 q (by omega) p0 p1) p0)

noncomputable def T9 (p0 : S23) : Option ((List S49) × Int) := ((T12 p0).bind fun x1 => (bif (neI x1 0) then (some ([], x1)) else ((T26 p0).bind fun x2 => (some (x2.1, x2.2)))))
theorem B9 (C : Callee) (h12 : ∀ (p0 : S23), C 12 [a23 p0] = (T12 p0).map I) (h26 : ∀ (p0 : S23), C 26 [a23 p0] = (T26 p0).map (fun r => AV.tup [(fun l => AV.fr 50 5 (List.map a49 l)) r.1, I r.2])) (p0 : S23) : runs Try.prog C (cfg.fn 9) (finFn Try.prog (cfg.fn 9).byval Try.f9) [] (execA Try.prog C (cfg.fn 9) (nr Try.f9 []) (frame0 [a23 p0] 14 false)) = (T9 p0).map (fun r => AV.tup [(fun l => AV.fr 50 5 (List.map a49 l)) r.1, I r.2]) := by
  unfold T9
  refine gS 1 ?_
  refine gR 0 (rg Try.f9 0) ?_
  refine se (mkE [(1, .ba 8 0)] [(8, .box [S p0.f0, I p0.f1, I p0.f2, LL a31 p0.f3] false)] 14) ?_
  refine pN ?_
  refine pS ?_
  refine gS 4 ?_
  refine gS 2 ?_
  refine gR 1 (rg Try.f9 1) ?_
  refine sg 1 (mkE [(5, a23 p0), (1, .ba 8 0)] [(8, .box [S p0.f0, I p0.f1, I p0.f2, LL a31 p0.f3] false)] 14) ?_
  refine co 6 [] (h12 p0) (fun x1 => ?_)
  refine se (mkE [(1, .ba 8 0), (4, I x1)] [(8, .box [S p0.f0, I p0.f1, I p0.f2, LL a31 p0.f3] false)] 14) ?_
  refine pN ?_
  refine pS ?_
  refine gS 0 ?_
  refine gR 2 (rg Try.f9 2) ?_
  refine se (mkE [(1, .ba 8 0), (4, I x1), (8, B (neI x1 0))] [(8, .box [S p0.f0, I p0.f1, I p0.f2, LL a31 p0.f3] false)] 14) ?_
  refine pN ?_
  refine pS ?_
  refine gC 8 (neI x1 0) ?_ ?_
  · refine gS 0 ?_
    refine gR 3 (rg Try.f9 3) ?_
    refine se (mkE [(2, .nils), (3, I x1)] [] 14) ?_
    refine pN ?_
    refine pS ?_
    refine gE ?_
    exact pL
  · refine gK ?_
    refine pN ?_
    refine pS ?_
    refine gS 0 ?_
    refine gR 4 (rg Try.f9 4) ?_
    refine sg 1 (mkE [(10, a23 p0), (1, .ba 8 0), (4, I x1), (8, B (neI x1 0))] [(8, .box [S p0.f0, I p0.f1, I p0.f2, LL a31 p0.f3] false)] 14) ?_
    refine co 11 [] (h26 p0) (fun x2 => ?_)
    refine se (mkE [(2, .own 88 0), (3, I x2.2)] [(88, RR 50 5 a49 x2.1 0 false)] 14) ?_
    refine pN ?_
    refine pS ?_
    refine gE ?_
    exact pL
theorem F9 (m : Nat) (hm : 7 ≤ m) (p0 : S23) : callA Try.prog cfg m 9 [a23 p0] = (T9 p0).map (fun r => AV.tup [(fun l => AV.fr 50 5 (List.map a49 l)) r.1, I r.2]) := by
  obtain ⟨q, rfl⟩ : ∃ q, m = q + 1 := ⟨m - 1, by omega⟩
  exact (callA_body (fn := Try.f9) (c := body_ Try.f9) q _ (by kernel_rfl) (by kernel_rfl) (by kernel_rfl)).trans (B9 _ (fun p0 => F12 q (by omega) p0) (fun p0 => F26 q (by omega) p0) p0)

noncomputable def L10_6 (p0 : S23) (z0 : ((List ByteArray) × Int)) : Option (((List ByteArray) × Int) ⊕ (Int × Bool × (List ByteArray))) := (bif (ltI z0.2 (lenL p0.f3)) then ((listAt p0.f3 z0.2).bind fun x2 => ((T27 p0 z0.2).bind fun x3 => (bif (eqI (lenL x3) 0) then ((appO 16 z0.1 ([x2.f0] : List ByteArray)).bind fun x4 => (some (.inl (x4, (addI .i64 z0.2 1))))) else (some (.inl (z0.1, (addI .i64 z0.2 1))))))) else (some (.inr (z0.2, (ltI z0.2 (lenL p0.f3)), z0.1))))
theorem L10_6_ok (C : Callee) (h27 : ∀ (p0 : S23) (p1 : Int), C 27 [a23 p0, I p1] = (T27 p0 p1).map (fun l => AV.fr 30 4 (List.map a29 l))) (p0 : S23) (z0 : ((List ByteArray) × Int)) : runs Try.prog C (cfg.fn 10) (finLoop ((cfg.fn 10).keep 6) ((cfg.fn 10).al 6)) [] (execA Try.prog C (cfg.fn 10) (nr Try.f10 [false, false, true, false, true, true, true]) ((fun z0 : ((List ByteArray) × Int) => (mkE [(1, .ba 8 0), (5, .own 40 0), (14, LL a31 p0.f3), (15, I (lenL p0.f3)), (16, I z0.2)] [(8, .box [S p0.f0, I p0.f1, I p0.f2, LL a31 p0.f3] false), (40, RR 9 1 S z0.1 0 false)] 33)) z0)) = (L10_6 p0 z0).map (Sum.elim (fun z => .inl ((fun z0 : ((List ByteArray) × Int) => (mkE [(1, .ba 8 0), (5, .own 40 0), (14, LL a31 p0.f3), (15, I (lenL p0.f3)), (16, I z0.2)] [(8, .box [S p0.f0, I p0.f1, I p0.f2, LL a31 p0.f3] false), (40, RR 9 1 S z0.1 0 false)] 33)) z)) (fun x => .inr ((fun (x : (Int × Bool × (List ByteArray))) => (.exit 0, (mkE [(1, .ba 8 0), (5, .own 40 0), (14, LL a31 p0.f3), (15, I (lenL p0.f3)), (16, I x.1), (17, B x.2.1)] [(8, .box [S p0.f0, I p0.f1, I p0.f2, LL a31 p0.f3] false), (40, RR 9 1 S x.2.2 0 false)] 33))) x))) := by
  unfold L10_6
  refine gS 0 ?_
  refine gR 6 (rg Try.f10 6) ?_
  refine se (mkE [(1, .ba 8 0), (5, .own 40 0), (14, LL a31 p0.f3), (15, I (lenL p0.f3)), (16, I z0.2), (17, B (ltI z0.2 (lenL p0.f3)))] [(8, .box [S p0.f0, I p0.f1, I p0.f2, LL a31 p0.f3] false), (40, RR 9 1 S z0.1 0 false)] 33) ?_
  refine pN ?_
  refine pS ?_
  refine gS 7 ?_
  refine gC 17 (ltI z0.2 (lenL p0.f3)) ?_ ?_
  · refine gK ?_
    refine pN ?_
    refine pS ?_
    refine gS 10 ?_
    refine gB 1 ?_
    refine gS 8 ?_
    refine gR 7 (rg Try.f10 7) ?_
    refine sg 1 (mkE [(18, I z0.2), (1, .ba 8 0), (5, .own 40 0), (14, LL a31 p0.f3), (15, I (lenL p0.f3)), (16, I z0.2), (17, B (ltI z0.2 (lenL p0.f3)))] [(8, .box [S p0.f0, I p0.f1, I p0.f2, LL a31 p0.f3] false), (40, RR 9 1 S z0.1 0 false)] 33) ?_
    refine vo 19 (addrE 22 32 6 a31 .i64 p0.f3 z0.2) (fun x2 => ?_)
    refine se (mkE [(1, .ba 8 0), (5, .own 40 0), (6, I z0.2), (7, .ba 56 0), (14, LL a31 p0.f3), (15, I (lenL p0.f3)), (16, I z0.2)] [(8, .box [S p0.f0, I p0.f1, I p0.f2, LL a31 p0.f3] false), (40, RR 9 1 S z0.1 0 false), (56, .box [S x2.f0, I x2.f1.f0, I x2.f1.f1, I x2.f1.f2, I x2.f1.f3, I x2.f2] false)] 33) ?_
    refine pN ?_
    refine pS ?_
    refine gS 0 ?_
    refine gR 8 (rg Try.f10 8) ?_
    refine sg 2 (mkE [(22, I z0.2), (21, a23 p0), (1, .ba 8 0), (5, .own 40 0), (6, I z0.2), (7, .ba 56 0), (14, LL a31 p0.f3), (15, I (lenL p0.f3)), (16, I z0.2)] [(8, .box [S p0.f0, I p0.f1, I p0.f2, LL a31 p0.f3] false), (40, RR 9 1 S z0.1 0 false), (56, .box [S x2.f0, I x2.f1.f0, I x2.f1.f1, I x2.f1.f2, I x2.f1.f3, I x2.f2] false)] 33) ?_
    refine co 23 [] (h27 p0 z0.2) (fun x3 => ?_)
    refine eo 24 (I (lenL x3)) (lenOE 59 30 4 a29 x3) ?_
    refine se (mkE [(1, .ba 8 0), (5, .own 40 0), (7, .ba 56 0), (14, LL a31 p0.f3), (15, I (lenL p0.f3)), (16, I z0.2), (25, B (eqI (lenL x3) 0))] [(8, .box [S p0.f0, I p0.f1, I p0.f2, LL a31 p0.f3] false), (40, RR 9 1 S z0.1 0 false), (56, .box [S x2.f0, I x2.f1.f0, I x2.f1.f1, I x2.f1.f2, I x2.f1.f3, I x2.f2] false)] 33) ?_
    refine pN ?_
    refine pS ?_
    refine gC 25 (eqI (lenL x3) 0) ?_ ?_
    · refine gR 9 (rg Try.f10 9) ?_
      refine sg 4 (mkE [(29, .own 232 0), (28, S x2.f0), (27, .ba 56 0), (26, .own 40 0), (1, .ba 8 0), (5, .own 40 0), (7, .ba 56 0), (14, LL a31 p0.f3), (15, I (lenL p0.f3)), (16, I z0.2), (25, B (eqI (lenL x3) 0))] [(232, RR 9 1 S ([x2.f0] : List ByteArray) 0 false), (8, .box [S p0.f0, I p0.f1, I p0.f2, LL a31 p0.f3] false), (40, RR 9 1 S z0.1 0 false), (56, .box [S x2.f0, I x2.f1.f0, I x2.f1.f1, I x2.f1.f2, I x2.f1.f3, I x2.f2] false)] 33) ?_
      refine mo (some 30) (apO 39 9 1 16 40 S 0 [232] (y := .own 232 0) (l2 := ([x2.f0] : List ByteArray))) (fun x4 => ?_)
      refine se (mkE [(1, .ba 8 0), (5, .own 40 1), (14, LL a31 p0.f3), (15, I (lenL p0.f3)), (16, I z0.2)] [(8, .box [S p0.f0, I p0.f1, I p0.f2, LL a31 p0.f3] false), (40, RR 9 1 S x4 1 false)] 33) ?_
      refine pB ?_
      refine pN ?_
      refine pS ?_
      refine gR 10 (rg Try.f10 10) ?_
      refine se (mkE [(1, .ba 8 0), (5, .own 40 1), (14, LL a31 p0.f3), (15, I (lenL p0.f3)), (16, I (addI .i64 z0.2 1))] [(8, .box [S p0.f0, I p0.f1, I p0.f2, LL a31 p0.f3] false), (40, RR 9 1 S x4 1 false)] 33) ?_
      exact pL
    · refine gK ?_
      refine pB ?_
      refine pN ?_
      refine pS ?_
      refine gR 10 (rg Try.f10 10) ?_
      refine se (mkE [(1, .ba 8 0), (5, .own 40 0), (14, LL a31 p0.f3), (15, I (lenL p0.f3)), (16, I (addI .i64 z0.2 1))] [(8, .box [S p0.f0, I p0.f1, I p0.f2, LL a31 p0.f3] false), (40, RR 9 1 S z0.1 0 false)] 33) ?_
      exact pL
  · refine gX 0 ?_
    exact pL
noncomputable def T10 (p0 : S23) : Option ((List ByteArray) × Int) := ((T12 p0).bind fun x1 => (bif (neI x1 0) then (some ([], x1)) else ((iter (L10_6 p0) ([], 0)).bind fun y5 => (some (y5.2.2, 0)))))
theorem B10 (C : Callee) (h12 : ∀ (p0 : S23), C 12 [a23 p0] = (T12 p0).map I) (h27 : ∀ (p0 : S23) (p1 : Int), C 27 [a23 p0, I p1] = (T27 p0 p1).map (fun l => AV.fr 30 4 (List.map a29 l))) (p0 : S23) : runs Try.prog C (cfg.fn 10) (finFn Try.prog (cfg.fn 10).byval Try.f10) [] (execA Try.prog C (cfg.fn 10) (nr Try.f10 []) (frame0 [a23 p0] 33 false)) = (T10 p0).map (fun r => AV.tup [(fun l => AV.fr 9 1 (List.map S l)) r.1, I r.2]) := by
  unfold T10
  refine gS 1 ?_
  refine gR 0 (rg Try.f10 0) ?_
  refine se (mkE [(1, .ba 8 0)] [(8, .box [S p0.f0, I p0.f1, I p0.f2, LL a31 p0.f3] false)] 33) ?_
  refine pN ?_
  refine pS ?_
  refine gS 4 ?_
  refine gS 2 ?_
  refine gR 1 (rg Try.f10 1) ?_
  refine sg 1 (mkE [(8, a23 p0), (1, .ba 8 0)] [(8, .box [S p0.f0, I p0.f1, I p0.f2, LL a31 p0.f3] false)] 33) ?_
  refine co 9 [] (h12 p0) (fun x1 => ?_)
  refine se (mkE [(1, .ba 8 0), (4, I x1)] [(8, .box [S p0.f0, I p0.f1, I p0.f2, LL a31 p0.f3] false)] 33) ?_
  refine pN ?_
  refine pS ?_
  refine gS 0 ?_
  refine gR 2 (rg Try.f10 2) ?_
  refine se (mkE [(1, .ba 8 0), (4, I x1), (11, B (neI x1 0))] [(8, .box [S p0.f0, I p0.f1, I p0.f2, LL a31 p0.f3] false)] 33) ?_
  refine pN ?_
  refine pS ?_
  refine gC 11 (neI x1 0) ?_ ?_
  · refine gS 0 ?_
    refine gR 3 (rg Try.f10 3) ?_
    refine se (mkE [(2, .nils), (3, I x1)] [] 33) ?_
    refine pN ?_
    refine pS ?_
    refine gE ?_
    exact pL
  · refine gK ?_
    refine pN ?_
    refine pS ?_
    refine gS 5 ?_
    refine gR 4 (rg Try.f10 4) ?_
    refine se (mkE [(1, .ba 8 0), (5, .nils)] [(8, .box [S p0.f0, I p0.f1, I p0.f2, LL a31 p0.f3] false)] 33) ?_
    refine pN ?_
    refine pS ?_
    refine gS 11 ?_
    refine gS 6 ?_
    refine gR 5 (rg Try.f10 5) ?_
    refine sg 2 (mkE [(14, LL a31 p0.f3), (13, .ba 8 3), (1, .ba 8 0), (5, .nils)] [(8, .box [S p0.f0, I p0.f1, I p0.f2, LL a31 p0.f3] false)] 33) ?_
    refine eo 15 (I (lenL p0.f3)) (lenE 22 a31 p0.f3) ?_
    refine se (mkE [(1, .ba 8 0), (5, .nils), (14, LL a31 p0.f3), (15, I (lenL p0.f3)), (16, I 0)] [(8, .box [S p0.f0, I p0.f1, I p0.f2, LL a31 p0.f3] false)] 33) ?_
    refine pN ?_
    refine pS ?_
    refine gB 0 ?_
    refine lo [(1, none), (5, some (9, 1)), (14, none), (15, none), (16, none)] [] (L10_6 p0) (fun z0 : ((List ByteArray) × Int) => (mkE [(1, .ba 8 0), (5, .own 40 0), (14, LL a31 p0.f3), (15, I (lenL p0.f3)), (16, I z0.2)] [(8, .box [S p0.f0, I p0.f1, I p0.f2, LL a31 p0.f3] false), (40, RR 9 1 S z0.1 0 false)] 33)) (fun (x : (Int × Bool × (List ByteArray))) => (.exit 0, (mkE [(1, .ba 8 0), (5, .own 40 0), (14, LL a31 p0.f3), (15, I (lenL p0.f3)), (16, I x.1), (17, B x.2.1)] [(8, .box [S p0.f0, I p0.f1, I p0.f2, LL a31 p0.f3] false), (40, RR 9 1 S x.2.2 0 false)] 33))) ([], 0) (fun z => L10_6_ok C h27 p0 z) ?_
    intro y5
    refine pH ?_
    refine pN ?_
    refine pS ?_
    refine gS 0 ?_
    refine gR 11 (rg Try.f10 11) ?_
    refine se (mkE [(2, .own 40 0), (3, I 0)] [(40, RR 9 1 S y5.2.2 0 false)] 33) ?_
    refine pN ?_
    refine pS ?_
    refine gE ?_
    exact pL
theorem F10 (m : Nat) (hm : 6 ≤ m) (p0 : S23) : callA Try.prog cfg m 10 [a23 p0] = (T10 p0).map (fun r => AV.tup [(fun l => AV.fr 9 1 (List.map S l)) r.1, I r.2]) := by
  obtain ⟨q, rfl⟩ : ∃ q, m = q + 1 := ⟨m - 1, by omega⟩
  exact (callA_body (fn := Try.f10) (c := body_ Try.f10) q _ (by kernel_rfl) (by kernel_rfl) (by kernel_rfl)).trans (B10 _ (fun p0 => F12 q (by omega) p0) (fun p0 p1 => F27 q (by omega) p0 p1) p0)

noncomputable def T32 (p0 : Int) (p1 : Int) (p2 : Int) : Option Bool := (bif (leI p1 p0) then (some (leI p0 p2)) else (some false))
theorem B32 (C : Callee) (p0 : Int) (p1 : Int) (p2 : Int) : runs Try.prog C (cfg.fn 32) (finFn Try.prog (cfg.fn 32).byval Try.f32) [] (execA Try.prog C (cfg.fn 32) (nr Try.f32 []) (frame0 [I p0, I p1, I p2] 15 false)) = (T32 p0 p1 p2).map B := by
  unfold T32
  refine gS 1 ?_
  refine gR 0 (rg Try.f32 0) ?_
  refine se (mkE [(0, I p0), (1, I p1), (2, I p2)] [] 15) ?_
  refine pN ?_
  refine pS ?_
  refine gS 0 ?_
  refine gR 1 (rg Try.f32 1) ?_
  refine sg 4 (mkE [(10, B (leI p1 p0)), (9, B (leI p1 p0)), (8, I p0), (7, I p1), (0, I p0), (1, I p1), (2, I p2)] [] 15) ?_
  refine sb 10 (leI p1 p0) ?_ ?_
  · refine se (mkE [(6, B (leI p0 p2))] [] 15) ?_
    refine pN ?_
    refine pS ?_
    refine gE ?_
    exact pL
  · refine se (mkE [(6, B false)] [] 15) ?_
    refine pN ?_
    refine pS ?_
    refine gE ?_
    exact pL
theorem F32 (m : Nat) (hm : 1 ≤ m) (p0 : Int) (p1 : Int) (p2 : Int) : callA Try.prog cfg m 32 [I p0, I p1, I p2] = (T32 p0 p1 p2).map B := by
  obtain ⟨q, rfl⟩ : ∃ q, m = q + 1 := ⟨m - 1, by omega⟩
  exact (callA_body (fn := Try.f32) (c := body_ Try.f32) q _ (by kernel_rfl) (by kernel_rfl) (by kernel_rfl)).trans (B32 _ p0 p1 p2)

theorem F67 (m : Nat) (hm : 1 ≤ m) (p0 : ByteArray) (p1 : Int) : callA Try.prog cfg m 67 [S p0, U p1] = (some (idxB p0 p1)).map I := by
  obtain ⟨q, rfl⟩ : ∃ q, m = q + 1 := ⟨m - 1, by omega⟩
  exact (callA_leaf (L := leafIdx) _ _ (by kernel_rfl)).trans (rfl)

noncomputable def T61 (p0 : ByteArray) (p1 : Int) : Option Int := ((some (idxB p0 p1)).bind fun x1 => (some x1))
theorem B61 (C : Callee) (h67 : ∀ (p0 : ByteArray) (p1 : Int), C 67 [S p0, U p1] = (some (idxB p0 p1)).map I) (p0 : ByteArray) (p1 : Int) : runs Try.prog C (cfg.fn 61) (finFn Try.prog (cfg.fn 61).byval Try.f61) [] (execA Try.prog C (cfg.fn 61) (nr Try.f61 []) (frame0 [S p0, U p1] 8 false)) = (T61 p0 p1).map I := by
  unfold T61
  refine gS 1 ?_
  refine gR 0 (rg Try.f61 0) ?_
  refine se (mkE [(0, S p0), (1, U p1)] [] 8) ?_
  refine pN ?_
  refine pS ?_
  refine gS 0 ?_
  refine gR 1 (rg Try.f61 1) ?_
  refine sg 2 (mkE [(6, U p1), (5, S p0), (0, S p0), (1, U p1)] [] 8) ?_
  refine co 7 [] (h67 p0 p1) (fun x1 => ?_)
  refine se (mkE [(4, I x1)] [] 8) ?_
  refine pN ?_
  refine pS ?_
  refine gE ?_
  exact pL
theorem F61 (m : Nat) (hm : 2 ≤ m) (p0 : ByteArray) (p1 : Int) : callA Try.prog cfg m 61 [S p0, U p1] = (T61 p0 p1).map I := by
  obtain ⟨q, rfl⟩ : ∃ q, m = q + 1 := ⟨m - 1, by omega⟩
  exact (callA_body (fn := Try.f61) (c := body_ Try.f61) q _ (by kernel_rfl) (by kernel_rfl) (by kernel_rfl)).trans (B61 _ (fun p0 p1 => F67 q (by omega) p0 p1) p0 p1)

noncomputable def L45_2 (p0 : ByteArray) (p1 : ByteArray) (z0 : Int) : Option (Int ⊕ ((Int × Bool) ⊕ Unit)) := (bif (ltI z0 (lenS p0)) then ((byteAt p0 z0).bind fun x1 => ((T61 p1 x1).bind fun x2 => (bif (ltI x2 0) then (some (.inr (.inr ()))) else (some (.inl (addI .i64 z0 1)))))) else (some (.inr (.inl (z0, (ltI z0 (lenS p0)))))))
theorem L45_2_ok (C : Callee) (h61 : ∀ (p0 : ByteArray) (p1 : Int), C 61 [S p0, U p1] = (T61 p0 p1).map I) (p0 : ByteArray) (p1 : ByteArray) (z0 : Int) : runs Try.prog C (cfg.fn 45) (finLoop ((cfg.fn 45).keep 2) ((cfg.fn 45).al 2)) [] (execA Try.prog C (cfg.fn 45) (nr Try.f45 [false, false, true, false, true]) ((fun z0 : Int => (mkE [(0, S p0), (1, S p1), (7, I (lenS p0)), (8, I z0)] [] 18)) z0)) = (L45_2 p0 p1 z0).map (Sum.elim (fun z => .inl ((fun z0 : Int => (mkE [(0, S p0), (1, S p1), (7, I (lenS p0)), (8, I z0)] [] 18)) z)) (fun x => .inr ((Sum.elim (fun (x : (Int × Bool)) => (.exit 0, (mkE [(0, S p0), (1, S p1), (7, I (lenS p0)), (8, I x.1), (9, B x.2)] [] 18))) (fun (x : Unit) => (.ret, (mkE [(4, B false)] [] 18)))) x))) := by
  unfold L45_2
  refine gS 0 ?_
  refine gR 2 (rg Try.f45 2) ?_
  refine se (mkE [(0, S p0), (1, S p1), (7, I (lenS p0)), (8, I z0), (9, B (ltI z0 (lenS p0)))] [] 18) ?_
  refine pN ?_
  refine pS ?_
  refine gS 3 ?_
  refine gC 9 (ltI z0 (lenS p0)) ?_ ?_
  · refine gK ?_
    refine pN ?_
    refine pS ?_
    refine gS 6 ?_
    refine gB 1 ?_
    refine gS 4 ?_
    refine gR 3 (rg Try.f45 3) ?_
    refine se (mkE [(0, S p0), (1, S p1), (5, I z0), (7, I (lenS p0)), (8, I z0)] [] 18) ?_
    refine pN ?_
    refine pS ?_
    refine gS 0 ?_
    refine gR 4 (rg Try.f45 4) ?_
    refine sg 3 (mkE [(13, I z0), (12, S p0), (11, S p1), (0, S p0), (1, S p1), (5, I z0), (7, I (lenS p0)), (8, I z0)] [] 18) ?_
    refine vo 14 (byteE 9 .i64 p0 z0) (fun x1 => ?_)
    refine co 15 [] (h61 p1 x1) (fun x2 => ?_)
    refine se (mkE [(0, S p0), (1, S p1), (7, I (lenS p0)), (8, I z0), (16, B (ltI x2 0))] [] 18) ?_
    refine pN ?_
    refine pS ?_
    refine gC 16 (ltI x2 0) ?_ ?_
    · refine gS 0 ?_
      refine gR 5 (rg Try.f45 5) ?_
      refine se (mkE [(4, B false)] [] 18) ?_
      refine pN ?_
      refine pS ?_
      refine gE ?_
      exact pL
    · refine gK ?_
      refine pB ?_
      refine pN ?_
      refine pS ?_
      refine gR 6 (rg Try.f45 6) ?_
      refine se (mkE [(0, S p0), (1, S p1), (7, I (lenS p0)), (8, I (addI .i64 z0 1))] [] 18) ?_
      exact pL
  · refine gX 0 ?_
    exact pL
noncomputable def T45 (p0 : ByteArray) (p1 : ByteArray) : Option Bool := ((iter (L45_2 p0 p1) 0).bind fun y3 => (Sum.elim (fun y3a => (some true)) (fun y3b => (some false)) y3))
theorem B45 (C : Callee) (h61 : ∀ (p0 : ByteArray) (p1 : Int), C 61 [S p0, U p1] = (T61 p0 p1).map I) (p0 : ByteArray) (p1 : ByteArray) : runs Try.prog C (cfg.fn 45) (finFn Try.prog (cfg.fn 45).byval Try.f45) [] (execA Try.prog C (cfg.fn 45) (nr Try.f45 []) (frame0 [S p0, S p1] 18 false)) = (T45 p0 p1).map B := by
  unfold T45
  refine gS 1 ?_
  refine gR 0 (rg Try.f45 0) ?_
  refine se (mkE [(0, S p0), (1, S p1)] [] 18) ?_
  refine pN ?_
  refine pS ?_
  refine gS 7 ?_
  refine gS 2 ?_
  refine gR 1 (rg Try.f45 1) ?_
  refine se (mkE [(0, S p0), (1, S p1), (7, I (lenS p0)), (8, I 0)] [] 18) ?_
  refine pN ?_
  refine pS ?_
  refine gB 0 ?_
  refine lo [(0, none), (1, none), (7, none), (8, none)] [] (L45_2 p0 p1) (fun z0 : Int => (mkE [(0, S p0), (1, S p1), (7, I (lenS p0)), (8, I z0)] [] 18)) (Sum.elim (fun (x : (Int × Bool)) => (.exit 0, (mkE [(0, S p0), (1, S p1), (7, I (lenS p0)), (8, I x.1), (9, B x.2)] [] 18))) (fun (x : Unit) => (.ret, (mkE [(4, B false)] [] 18)))) 0 (fun z => L45_2_ok C h61 p0 p1 z) ?_
  intro y3
  refine ss y3 (Z := (Sum.elim (fun (x : (Int × Bool)) => (.exit 0, (mkE [(0, S p0), (1, S p1), (7, I (lenS p0)), (8, I x.1), (9, B x.2)] [] 18))) (fun (x : Unit) => (.ret, (mkE [(4, B false)] [] 18))))) (fun y3a => ?_) (fun y3b => ?_)
  · refine pH ?_
    refine pN ?_
    refine pS ?_
    refine gS 0 ?_
    refine gR 7 (rg Try.f45 7) ?_
    refine se (mkE [(4, B true)] [] 18) ?_
    refine pN ?_
    refine pS ?_
    refine gE ?_
    exact pL
  · exact pL
theorem F45 (m : Nat) (hm : 3 ≤ m) (p0 : ByteArray) (p1 : ByteArray) : callA Try.prog cfg m 45 [S p0, S p1] = (T45 p0 p1).map B := by
  obtain ⟨q, rfl⟩ : ∃ q, m = q + 1 := ⟨m - 1, by omega⟩
  exact (callA_body (fn := Try.f45) (c := body_ Try.f45) q _ (by kernel_rfl) (by kernel_rfl) (by kernel_rfl)).trans (B45 _ (fun p0 p1 => F61 q (by omega) p0 p1) p0 p1)

noncomputable def T28 (p0 : ByteArray) : Option Bool := ((T32 (lenS p0) 1 40).bind fun x1 => (bif x1 then ((cutS p0 none (some 1)).bind fun x2 => ((T45 x2 (ByteArray.mk #[97, 98, 99, 100, 101, 102, 103, 104, 105, 106, 107, 108, 109, 110, 111, 112, 113, 114, 115, 116, 117, 118, 119, 120, 121, 122])).bind fun x3 => (bif x3 then ((T45 p0 (ByteArray.mk #[97, 98, 99, 100, 101, 102, 103, 104, 105, 106, 107, 108, 109, 110, 111, 112, 113, 114, 115, 116, 117, 118, 119, 120, 121, 122, 48, 49, 50, 51, 52, 53, 54, 55, 56, 57, 45, 95])).bind fun x4 => (some x4)) else (some false)))) else (some false)))
theorem B28 (C : Callee) (h32 : ∀ (p0 : Int) (p1 : Int) (p2 : Int), C 32 [I p0, I p1, I p2] = (T32 p0 p1 p2).map B) (h45 : ∀ (p0 : ByteArray) (p1 : ByteArray), C 45 [S p0, S p1] = (T45 p0 p1).map B) (p0 : ByteArray) : runs Try.prog C (cfg.fn 28) (finFn Try.prog (cfg.fn 28).byval Try.f28) [] (execA Try.prog C (cfg.fn 28) (nr Try.f28 []) (frame0 [S p0] 15 false)) = (T28 p0).map B := by
  unfold T28
  refine gS 1 ?_
  refine gR 0 (rg Try.f28 0) ?_
  refine se (mkE [(0, S p0)] [] 15) ?_
  refine pN ?_
  refine pS ?_
  refine gS 0 ?_
  refine gR 1 (rg Try.f28 1) ?_
  refine sg 2 (mkE [(4, I (lenS p0)), (3, S p0), (0, S p0)] [] 15) ?_
  refine co 5 [] (h32 (lenS p0) 1 40) (fun x1 => ?_)
  refine sg 4 (mkE [(6, B x1), (5, B x1), (4, I (lenS p0)), (3, S p0), (0, S p0)] [] 15) ?_
  refine sb 6 x1 ?_ ?_
  · refine sg 5 (mkE [(7, S p0), (6, B true), (6, B x1), (5, B x1), (4, I (lenS p0)), (3, S p0), (0, S p0)] [] 15) ?_
    refine vo 8 (cutSE 9 .i64 .i64 p0 none (some 1)) (fun x2 => ?_)
    refine co 9 [] (h45 x2 (ByteArray.mk #[97, 98, 99, 100, 101, 102, 103, 104, 105, 106, 107, 108, 109, 110, 111, 112, 113, 114, 115, 116, 117, 118, 119, 120, 121, 122])) (fun x3 => ?_)
    refine sg 9 (mkE [(11, B x3), (10, B x3), (9, B x3), (8, S x2), (7, S p0), (6, B true), (6, B x1), (5, B x1), (4, I (lenS p0)), (3, S p0), (0, S p0)] [] 15) ?_
    refine sb 11 x3 ?_ ?_
    · refine sg 10 (mkE [(12, S p0), (11, B true), (11, B x3), (10, B x3), (9, B x3), (8, S x2), (7, S p0), (6, B true), (6, B x1), (5, B x1), (4, I (lenS p0)), (3, S p0), (0, S p0)] [] 15) ?_
      refine co 13 [] (h45 p0 (ByteArray.mk #[97, 98, 99, 100, 101, 102, 103, 104, 105, 106, 107, 108, 109, 110, 111, 112, 113, 114, 115, 116, 117, 118, 119, 120, 121, 122, 48, 49, 50, 51, 52, 53, 54, 55, 56, 57, 45, 95])) (fun x4 => ?_)
      refine se (mkE [(2, B x4)] [] 15) ?_
      refine pN ?_
      refine pS ?_
      refine gE ?_
      exact pL
    · refine se (mkE [(2, B false)] [] 15) ?_
      refine pN ?_
      refine pS ?_
      refine gE ?_
      exact pL
  · refine se (mkE [(2, B false)] [] 15) ?_
    refine pN ?_
    refine pS ?_
    refine gE ?_
    exact pL
theorem F28 (m : Nat) (hm : 4 ≤ m) (p0 : ByteArray) : callA Try.prog cfg m 28 [S p0] = (T28 p0).map B := by
  obtain ⟨q, rfl⟩ : ∃ q, m = q + 1 := ⟨m - 1, by omega⟩
  exact (callA_body (fn := Try.f28) (c := body_ Try.f28) q _ (by kernel_rfl) (by kernel_rfl) (by kernel_rfl)).trans (B28 _ (fun p0 p1 p2 => F32 q (by omega) p0 p1 p2) (fun p0 p1 => F45 q (by omega) p0 p1) p0)

noncomputable def T29 (p0 : Int) : Option Bool := ((T32 p0 1 20000).bind fun x1 => (some x1))
theorem B29 (C : Callee) (h32 : ∀ (p0 : Int) (p1 : Int) (p2 : Int), C 32 [I p0, I p1, I p2] = (T32 p0 p1 p2).map B) (p0 : Int) : runs Try.prog C (cfg.fn 29) (finFn Try.prog (cfg.fn 29).byval Try.f29) [] (execA Try.prog C (cfg.fn 29) (nr Try.f29 []) (frame0 [I p0] 5 false)) = (T29 p0).map B := by
  unfold T29
  refine gS 1 ?_
  refine gR 0 (rg Try.f29 0) ?_
  refine se (mkE [(0, I p0)] [] 5) ?_
  refine pN ?_
  refine pS ?_
  refine gS 0 ?_
  refine gR 1 (rg Try.f29 1) ?_
  refine sg 1 (mkE [(3, I p0), (0, I p0)] [] 5) ?_
  refine co 4 [] (h32 p0 1 20000) (fun x1 => ?_)
  refine se (mkE [(2, B x1)] [] 5) ?_
  refine pN ?_
  refine pS ?_
  refine gE ?_
  exact pL
theorem F29 (m : Nat) (hm : 2 ≤ m) (p0 : Int) : callA Try.prog cfg m 29 [I p0] = (T29 p0).map B := by
  obtain ⟨q, rfl⟩ : ∃ q, m = q + 1 := ⟨m - 1, by omega⟩
  exact (callA_body (fn := Try.f29) (c := body_ Try.f29) q _ (by kernel_rfl) (by kernel_rfl) (by kernel_rfl)).trans (B29 _ (fun p0 p1 p2 => F32 q (by omega) p0 p1 p2) p0)

noncomputable def T30 (p0 : S29) : Option Int := ((T32 p0.f0 (-100000) 100000).bind fun x1 => (bif (!x1) then (some 1) else ((T32 p0.f1 (-100000) 100000).bind fun x2 => (bif (!x2) then (some 1) else ((T32 p0.f2 1 (subI .i64 100000 p0.f0)).bind fun x3 => (bif (!x3) then (some 1) else ((T32 p0.f3 1 (subI .i64 100000 p0.f1)).bind fun x4 => (bif (!x4) then (some 1) else (some 0)))))))))
theorem B30 (C : Callee) (h32 : ∀ (p0 : Int) (p1 : Int) (p2 : Int), C 32 [I p0, I p1, I p2] = (T32 p0 p1 p2).map B) (p0 : S29) : runs Try.prog C (cfg.fn 30) (finFn Try.prog (cfg.fn 30).byval Try.f30) [] (execA Try.prog C (cfg.fn 30) (nr Try.f30 []) (frame0 [a29 p0] 31 false)) = (T30 p0).map I := by
  unfold T30
  refine gS 1 ?_
  refine gR 0 (rg Try.f30 0) ?_
  refine se (mkE [(1, .ba 8 0)] [(8, .box [I p0.f0, I p0.f1, I p0.f2, I p0.f3] false)] 31) ?_
  refine pN ?_
  refine pS ?_
  refine gS 3 ?_
  refine gS 0 ?_
  refine gR 1 (rg Try.f30 1) ?_
  refine sg 2 (mkE [(4, I p0.f0), (3, .ba 8 0), (1, .ba 8 0)] [(8, .box [I p0.f0, I p0.f1, I p0.f2, I p0.f3] false)] 31) ?_
  refine co 5 [] (h32 p0.f0 (-100000) 100000) (fun x1 => ?_)
  refine sg 5 (mkE [(7, B (!x1)), (6, B (!x1)), (5, B x1), (4, I p0.f0), (3, .ba 8 0), (1, .ba 8 0)] [(8, .box [I p0.f0, I p0.f1, I p0.f2, I p0.f3] false)] 31) ?_
  refine sb 7 (!x1) ?_ ?_
  · refine se (mkE [(30, B true)] [] 31) ?_
    refine pN ?_
    refine pS ?_
    refine gT (.tmp 30) ?_
    refine gS 0 ?_
    refine gR 2 (rg Try.f30 2) ?_
    refine se (mkE [(2, I 1)] [] 31) ?_
    refine pN ?_
    refine pS ?_
    refine gE ?_
    exact pL
  · refine sg 7 (mkE [(9, I p0.f1), (8, .ba 8 1), (7, B false), (7, B (!x1)), (6, B (!x1)), (5, B x1), (4, I p0.f0), (3, .ba 8 0), (1, .ba 8 0)] [(8, .box [I p0.f0, I p0.f1, I p0.f2, I p0.f3] false)] 31) ?_
    refine co 10 [] (h32 p0.f1 (-100000) 100000) (fun x2 => ?_)
    refine sg 11 (mkE [(13, B (!x2)), (12, B (!x2)), (11, B (!x2)), (10, B x2), (9, I p0.f1), (8, .ba 8 1), (7, B false), (7, B (!x1)), (6, B (!x1)), (5, B x1), (4, I p0.f0), (3, .ba 8 0), (1, .ba 8 0)] [(8, .box [I p0.f0, I p0.f1, I p0.f2, I p0.f3] false)] 31) ?_
    refine sb 13 (!x2) ?_ ?_
    · refine se (mkE [(30, B true)] [] 31) ?_
      refine pN ?_
      refine pS ?_
      refine gT (.tmp 30) ?_
      refine gS 0 ?_
      refine gR 2 (rg Try.f30 2) ?_
      refine se (mkE [(2, I 1)] [] 31) ?_
      refine pN ?_
      refine pS ?_
      refine gE ?_
      exact pL
    · refine sg 16 (mkE [(18, I (subI .i64 100000 p0.f0)), (17, I p0.f0), (16, .ba 8 0), (15, I p0.f2), (14, .ba 8 2), (13, B false), (13, B (!x2)), (12, B (!x2)), (11, B (!x2)), (10, B x2), (9, I p0.f1), (8, .ba 8 1), (7, B false), (7, B (!x1)), (6, B (!x1)), (5, B x1), (4, I p0.f0), (3, .ba 8 0), (1, .ba 8 0)] [(8, .box [I p0.f0, I p0.f1, I p0.f2, I p0.f3] false)] 31) ?_
      refine co 19 [] (h32 p0.f2 1 (subI .i64 100000 p0.f0)) (fun x3 => ?_)
      refine sg 20 (mkE [(22, B (!x3)), (21, B (!x3)), (20, B (!x3)), (19, B x3), (18, I (subI .i64 100000 p0.f0)), (17, I p0.f0), (16, .ba 8 0), (15, I p0.f2), (14, .ba 8 2), (13, B false), (13, B (!x2)), (12, B (!x2)), (11, B (!x2)), (10, B x2), (9, I p0.f1), (8, .ba 8 1), (7, B false), (7, B (!x1)), (6, B (!x1)), (5, B x1), (4, I p0.f0), (3, .ba 8 0), (1, .ba 8 0)] [(8, .box [I p0.f0, I p0.f1, I p0.f2, I p0.f3] false)] 31) ?_
      refine sb 22 (!x3) ?_ ?_
      · refine se (mkE [(30, B true)] [] 31) ?_
        refine pN ?_
        refine pS ?_
        refine gT (.tmp 30) ?_
        refine gS 0 ?_
        refine gR 2 (rg Try.f30 2) ?_
        refine se (mkE [(2, I 1)] [] 31) ?_
        refine pN ?_
        refine pS ?_
        refine gE ?_
        exact pL
      · refine sg 25 (mkE [(27, I (subI .i64 100000 p0.f1)), (26, I p0.f1), (25, .ba 8 1), (24, I p0.f3), (23, .ba 8 3), (22, B false), (22, B (!x3)), (21, B (!x3)), (20, B (!x3)), (19, B x3), (18, I (subI .i64 100000 p0.f0)), (17, I p0.f0), (16, .ba 8 0), (15, I p0.f2), (14, .ba 8 2), (13, B false), (13, B (!x2)), (12, B (!x2)), (11, B (!x2)), (10, B x2), (9, I p0.f1), (8, .ba 8 1), (7, B false), (7, B (!x1)), (6, B (!x1)), (5, B x1), (4, I p0.f0), (3, .ba 8 0), (1, .ba 8 0)] [(8, .box [I p0.f0, I p0.f1, I p0.f2, I p0.f3] false)] 31) ?_
        refine co 28 [] (h32 p0.f3 1 (subI .i64 100000 p0.f1)) (fun x4 => ?_)
        refine se (mkE [(30, B (!x4))] [] 31) ?_
        refine pN ?_
        refine pS ?_
        refine gC 30 (!x4) ?_ ?_
        · refine gS 0 ?_
          refine gR 2 (rg Try.f30 2) ?_
          refine se (mkE [(2, I 1)] [] 31) ?_
          refine pN ?_
          refine pS ?_
          refine gE ?_
          exact pL
        · refine gK ?_
          refine pN ?_
          refine pS ?_
          refine gS 0 ?_
          refine gR 3 (rg Try.f30 3) ?_
          refine se (mkE [(2, I 0)] [] 31) ?_
          refine pN ?_
          refine pS ?_
          refine gE ?_
          exact pL
theorem F30 (m : Nat) (hm : 2 ≤ m) (p0 : S29) : callA Try.prog cfg m 30 [a29 p0] = (T30 p0).map I := by
  obtain ⟨q, rfl⟩ : ∃ q, m = q + 1 := ⟨m - 1, by omega⟩
  exact (callA_body (fn := Try.f30) (c := body_ Try.f30) q _ (by kernel_rfl) (by kernel_rfl) (by kernel_rfl)).trans (B30 _ (fun p0 p1 p2 => F32 q (by omega) p0 p1 p2) p0)

noncomputable def T31 (p0 : S29) (p1 : Int) (p2 : Int) : Option Bool := (bif (leI 0 p0.f0) then (bif (leI 0 p0.f1) then (bif (leI (addI .i64 p0.f0 p0.f2) p1) then (some (leI (addI .i64 p0.f1 p0.f3) p2)) else (some false)) else (some false)) else (some false))
theorem B31 (C : Callee) (p0 : S29) (p1 : Int) (p2 : Int) : runs Try.prog C (cfg.fn 31) (finFn Try.prog (cfg.fn 31).byval Try.f31) [] (execA Try.prog C (cfg.fn 31) (nr Try.f31 []) (frame0 [a29 p0, I p1, I p2] 33 false)) = (T31 p0 p1 p2).map B := by
  unfold T31
  refine gS 1 ?_
  refine gR 0 (rg Try.f31 0) ?_
  refine se (mkE [(1, I p1), (2, I p2), (3, .ba 24 0)] [(24, .box [I p0.f0, I p0.f1, I p0.f2, I p0.f3] false)] 33) ?_
  refine pN ?_
  refine pS ?_
  refine gS 0 ?_
  refine gR 1 (rg Try.f31 1) ?_
  refine sg 4 (mkE [(10, B (leI 0 p0.f0)), (9, B (leI 0 p0.f0)), (8, I p0.f0), (7, .ba 24 0), (1, I p1), (2, I p2), (3, .ba 24 0)] [(24, .box [I p0.f0, I p0.f1, I p0.f2, I p0.f3] false)] 33) ?_
  refine sb 10 (leI 0 p0.f0) ?_ ?_
  · refine sg 9 (mkE [(15, B (leI 0 p0.f1)), (14, B (leI 0 p0.f1)), (13, B (leI 0 p0.f1)), (12, I p0.f1), (11, .ba 24 1), (10, B true), (10, B (leI 0 p0.f0)), (9, B (leI 0 p0.f0)), (8, I p0.f0), (7, .ba 24 0), (1, I p1), (2, I p2), (3, .ba 24 0)] [(24, .box [I p0.f0, I p0.f1, I p0.f2, I p0.f3] false)] 33) ?_
    refine sb 15 (leI 0 p0.f1) ?_ ?_
    · refine sg 18 (mkE [(24, B (leI (addI .i64 p0.f0 p0.f2) p1)), (23, B (leI (addI .i64 p0.f0 p0.f2) p1)), (22, B (leI (addI .i64 p0.f0 p0.f2) p1)), (21, I p1), (20, I (addI .i64 p0.f0 p0.f2)), (19, I p0.f2), (18, .ba 24 2), (17, I p0.f0), (16, .ba 24 0), (15, B true), (15, B (leI 0 p0.f1)), (14, B (leI 0 p0.f1)), (13, B (leI 0 p0.f1)), (12, I p0.f1), (11, .ba 24 1), (10, B true), (10, B (leI 0 p0.f0)), (9, B (leI 0 p0.f0)), (8, I p0.f0), (7, .ba 24 0), (1, I p1), (2, I p2), (3, .ba 24 0)] [(24, .box [I p0.f0, I p0.f1, I p0.f2, I p0.f3] false)] 33) ?_
      refine sb 24 (leI (addI .i64 p0.f0 p0.f2) p1) ?_ ?_
      · refine se (mkE [(6, B (leI (addI .i64 p0.f1 p0.f3) p2))] [] 33) ?_
        refine pN ?_
        refine pS ?_
        refine gE ?_
        exact pL
      · refine se (mkE [(6, B false)] [] 33) ?_
        refine pN ?_
        refine pS ?_
        refine gE ?_
        exact pL
    · refine se (mkE [(6, B false)] [] 33) ?_
      refine pN ?_
      refine pS ?_
      refine gE ?_
      exact pL
  · refine se (mkE [(6, B false)] [] 33) ?_
    refine pN ?_
    refine pS ?_
    refine gE ?_
    exact pL
theorem F31 (m : Nat) (hm : 1 ≤ m) (p0 : S29) (p1 : Int) (p2 : Int) : callA Try.prog cfg m 31 [a29 p0, I p1, I p2] = (T31 p0 p1 p2).map B := by
  obtain ⟨q, rfl⟩ : ∃ q, m = q + 1 := ⟨m - 1, by omega⟩
  exact (callA_body (fn := Try.f31) (c := body_ Try.f31) q _ (by kernel_rfl) (by kernel_rfl) (by kernel_rfl)).trans (B31 _ p0 p1 p2)

end Go.Abs.TS
