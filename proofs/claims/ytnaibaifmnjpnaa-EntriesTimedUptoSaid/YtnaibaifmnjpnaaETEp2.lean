import Derived.Test.YtnaibaifmnjpnaaETEp1
set_option maxRecDepth 100000
set_option linter.unusedVariables false
namespace Go.Abs.TE
open Go.RowKit Go.Proofs Go.Abs
noncomputable def L77_3 (p0 : S105) (p1 : Int) (p2 : S38) (z0 : ((List S38) × Int)) : Option (((List S38) × Int) ⊕ (Int × Bool × (List S38))) := (bif (leI z0.2 p0.f4) then ((T163 p0 p1 z0.2).bind fun x1 => (bif (!p0.f12) then ((T164 p0 z0.2).bind fun x2 => (bif x2 then (bif (ltI (maxI x1.f0 p2.f0) (minI x1.f1 p2.f1)) then ((appO 16 z0.1 ([(S38.mk (maxI x1.f0 p2.f0) (minI x1.f1 p2.f1))] : List S38)).bind fun x3 => (some (.inl (x3, (addI .i64 z0.2 1))))) else (some (.inl (z0.1, (addI .i64 z0.2 1))))) else (some (.inl (z0.1, (addI .i64 z0.2 1)))))) else (some (.inl (z0.1, (addI .i64 z0.2 1)))))) else (some (.inr (z0.2, (leI z0.2 p0.f4), z0.1))))
theorem L77_3_ok (C : Callee) (h163 : ∀ (p0 : S105) (p1 : Int) (p2 : Int), C 163 [a105 p0, I p1, I p2] = (T163 p0 p1 p2).map a38) (h164 : ∀ (p0 : S105) (p1 : Int), C 164 [a105 p0, I p1] = (T164 p0 p1).map B) (p0 : S105) (p1 : Int) (p2 : S38) (z0 : ((List S38) × Int)) : runs Try.prog C (cfg.fn 77) (finLoop ((cfg.fn 77).keep 3) ((cfg.fn 77).al 3)) [] (execA Try.prog C (cfg.fn 77) (nr Try.f77 [false, false, true, false, true, true]) ((fun z0 : ((List S38) × Int) => (mkE [(1, I p1), (3, .ba 24 0), (5, .ba 40 0), (7, .own 56 0), (8, I z0.2)] [(24, .box [S p0.f0, S p0.f1, I p0.f2, I p0.f3, I p0.f4, I p0.f5, I p0.f6, LL I p0.f7, I p0.f8, I p0.f9, I p0.f10, LL S p0.f11, B p0.f12] false), (40, .box [I p2.f0, I p2.f1] false), (56, RR 39 2 a38 z0.1 0 false)] 54)) z0)) = (L77_3 p0 p1 p2 z0).map (Sum.elim (fun z => .inl ((fun z0 : ((List S38) × Int) => (mkE [(1, I p1), (3, .ba 24 0), (5, .ba 40 0), (7, .own 56 0), (8, I z0.2)] [(24, .box [S p0.f0, S p0.f1, I p0.f2, I p0.f3, I p0.f4, I p0.f5, I p0.f6, LL I p0.f7, I p0.f8, I p0.f9, I p0.f10, LL S p0.f11, B p0.f12] false), (40, .box [I p2.f0, I p2.f1] false), (56, RR 39 2 a38 z0.1 0 false)] 54)) z)) (fun x => .inr ((fun (x : (Int × Bool × (List S38))) => (.exit 0, (mkE [(1, I p1), (3, .ba 24 0), (5, .ba 40 0), (7, .own 56 0), (8, I x.1), (15, B x.2.1)] [(24, .box [S p0.f0, S p0.f1, I p0.f2, I p0.f3, I p0.f4, I p0.f5, I p0.f6, LL I p0.f7, I p0.f8, I p0.f9, I p0.f10, LL S p0.f11, B p0.f12] false), (40, .box [I p2.f0, I p2.f1] false), (56, RR 39 2 a38 x.2.2 0 false)] 54))) x))) := by
  unfold L77_3
  refine gS 5 ?_
  refine gS 0 ?_
  refine gR 3 (rg Try.f77 3) ?_
  refine se (mkE [(1, I p1), (3, .ba 24 0), (5, .ba 40 0), (7, .own 56 0), (8, I z0.2), (15, B (leI z0.2 p0.f4))] [(24, .box [S p0.f0, S p0.f1, I p0.f2, I p0.f3, I p0.f4, I p0.f5, I p0.f6, LL I p0.f7, I p0.f8, I p0.f9, I p0.f10, LL S p0.f11, B p0.f12] false), (40, .box [I p2.f0, I p2.f1] false), (56, RR 39 2 a38 z0.1 0 false)] 54) ?_
  refine pN ?_
  refine pS ?_
  refine gC 15 (leI z0.2 p0.f4) ?_ ?_
  · refine gK ?_
    refine pN ?_
    refine pS ?_
    refine gS 4 ?_
    refine gB 1 ?_
    refine gS 6 ?_
    refine gR 5 (rg Try.f77 5) ?_
    refine sg 3 (mkE [(20, I z0.2), (19, I p1), (18, a105 p0), (1, I p1), (3, .ba 24 0), (5, .ba 40 0), (7, .own 56 0), (8, I z0.2), (15, B (leI z0.2 p0.f4))] [(24, .box [S p0.f0, S p0.f1, I p0.f2, I p0.f3, I p0.f4, I p0.f5, I p0.f6, LL I p0.f7, I p0.f8, I p0.f9, I p0.f10, LL S p0.f11, B p0.f12] false), (40, .box [I p2.f0, I p2.f1] false), (56, RR 39 2 a38 z0.1 0 false)] 54) ?_
    refine co 21 [] (h163 p0 p1 z0.2) (fun x1 => ?_)
    refine se (mkE [(1, I p1), (3, .ba 24 0), (5, .ba 40 0), (7, .own 56 0), (8, I z0.2), (9, .ba 72 0)] [(24, .box [S p0.f0, S p0.f1, I p0.f2, I p0.f3, I p0.f4, I p0.f5, I p0.f6, LL I p0.f7, I p0.f8, I p0.f9, I p0.f10, LL S p0.f11, B p0.f12] false), (40, .box [I p2.f0, I p2.f1] false), (56, RR 39 2 a38 z0.1 0 false), (72, .box [I x1.f0, I x1.f1] false)] 54) ?_
    refine pN ?_
    refine pS ?_
    refine gS 7 ?_
    refine gD 6 12 (rg Try.f77 6) [0, 1, 2, 3, 4, 5, 6, 7, 8, 9, 10, 11, 12, 13] ?_
    refine dg 12 [(some 22, qe (.ba 72 0)), (some 23, qe (I x1.f0)), (some 24, qe (.ba 40 0)), (some 25, qe (I p2.f0)), (some 26, qe (I (maxI x1.f0 p2.f0))), (some 27, qe (.ba 72 1)), (some 28, qe (I x1.f1)), (some 29, qe (.ba 40 1)), (some 30, qe (I p2.f1)), (some 31, qe (I (minI x1.f1 p2.f1))), (some 32, qe (.ba 72 0)), (none, { e := { val := .und }, st := some (72, .box [I (maxI x1.f0 p2.f0), I x1.f1] false, 0, 1) })] ?_
    refine de (mkE [(32, .ba 72 0), (31, I (minI x1.f1 p2.f1)), (30, I p2.f1), (29, .ba 40 1), (28, I x1.f1), (27, .ba 72 1), (26, I (maxI x1.f0 p2.f0)), (25, I p2.f0), (24, .ba 40 0), (23, I x1.f0), (22, .ba 72 0), (1, I p1), (3, .ba 24 0), (5, .ba 40 0), (7, .own 56 0), (8, I z0.2), (9, .ba 72 0)] [(72, .box [I (maxI x1.f0 p2.f0), I x1.f1] false), (24, .box [S p0.f0, S p0.f1, I p0.f2, I p0.f3, I p0.f4, I p0.f5, I p0.f6, LL I p0.f7, I p0.f8, I p0.f9, I p0.f10, LL S p0.f11, B p0.f12] false), (40, .box [I p2.f0, I p2.f1] false), (56, RR 39 2 a38 z0.1 0 false), (72, .box [I x1.f0, I x1.f1] false)] 54) ?_
    refine se (mkE [(1, I p1), (3, .ba 24 0), (5, .ba 40 0), (7, .own 56 0), (8, I z0.2), (9, .ba 72 0)] [(24, .box [S p0.f0, S p0.f1, I p0.f2, I p0.f3, I p0.f4, I p0.f5, I p0.f6, LL I p0.f7, I p0.f8, I p0.f9, I p0.f10, LL S p0.f11, B p0.f12] false), (40, .box [I p2.f0, I p2.f1] false), (56, RR 39 2 a38 z0.1 0 false), (72, .box [I (maxI x1.f0 p2.f0), I (minI x1.f1 p2.f1)] false)] 54) ?_
    refine pN ?_
    refine pS ?_
    refine gS 0 ?_
    refine gR 7 (rg Try.f77 7) ?_
    refine sg 4 (mkE [(37, B (!p0.f12)), (36, B (!p0.f12)), (35, B p0.f12), (34, .ba 24 12), (1, I p1), (3, .ba 24 0), (5, .ba 40 0), (7, .own 56 0), (8, I z0.2), (9, .ba 72 0)] [(24, .box [S p0.f0, S p0.f1, I p0.f2, I p0.f3, I p0.f4, I p0.f5, I p0.f6, LL I p0.f7, I p0.f8, I p0.f9, I p0.f10, LL S p0.f11, B p0.f12] false), (40, .box [I p2.f0, I p2.f1] false), (56, RR 39 2 a38 z0.1 0 false), (72, .box [I (maxI x1.f0 p2.f0), I (minI x1.f1 p2.f1)] false)] 54) ?_
    refine sb 37 (!p0.f12) ?_ ?_
    · refine sg 6 (mkE [(39, I z0.2), (38, a105 p0), (37, B true), (37, B (!p0.f12)), (36, B (!p0.f12)), (35, B p0.f12), (34, .ba 24 12), (1, I p1), (3, .ba 24 0), (5, .ba 40 0), (7, .own 56 0), (8, I z0.2), (9, .ba 72 0)] [(24, .box [S p0.f0, S p0.f1, I p0.f2, I p0.f3, I p0.f4, I p0.f5, I p0.f6, LL I p0.f7, I p0.f8, I p0.f9, I p0.f10, LL S p0.f11, B p0.f12] false), (40, .box [I p2.f0, I p2.f1] false), (56, RR 39 2 a38 z0.1 0 false), (72, .box [I (maxI x1.f0 p2.f0), I (minI x1.f1 p2.f1)] false)] 54) ?_
      refine co 40 [] (h164 p0 z0.2) (fun x2 => ?_)
      refine sg 9 (mkE [(42, B x2), (41, B x2), (40, B x2), (39, I z0.2), (38, a105 p0), (37, B true), (37, B (!p0.f12)), (36, B (!p0.f12)), (35, B p0.f12), (34, .ba 24 12), (1, I p1), (3, .ba 24 0), (5, .ba 40 0), (7, .own 56 0), (8, I z0.2), (9, .ba 72 0)] [(24, .box [S p0.f0, S p0.f1, I p0.f2, I p0.f3, I p0.f4, I p0.f5, I p0.f6, LL I p0.f7, I p0.f8, I p0.f9, I p0.f10, LL S p0.f11, B p0.f12] false), (40, .box [I p2.f0, I p2.f1] false), (56, RR 39 2 a38 z0.1 0 false), (72, .box [I (maxI x1.f0 p2.f0), I (minI x1.f1 p2.f1)] false)] 54) ?_
      refine sb 42 x2 ?_ ?_
      · refine se (mkE [(1, I p1), (3, .ba 24 0), (5, .ba 40 0), (7, .own 56 0), (8, I z0.2), (9, .ba 72 0), (48, B (ltI (maxI x1.f0 p2.f0) (minI x1.f1 p2.f1)))] [(24, .box [S p0.f0, S p0.f1, I p0.f2, I p0.f3, I p0.f4, I p0.f5, I p0.f6, LL I p0.f7, I p0.f8, I p0.f9, I p0.f10, LL S p0.f11, B p0.f12] false), (40, .box [I p2.f0, I p2.f1] false), (56, RR 39 2 a38 z0.1 0 false), (72, .box [I (maxI x1.f0 p2.f0), I (minI x1.f1 p2.f1)] false)] 54) ?_
        refine pN ?_
        refine pS ?_
        refine gC 48 (ltI (maxI x1.f0 p2.f0) (minI x1.f1 p2.f1)) ?_ ?_
        · refine gR 8 (rg Try.f77 8) ?_
          refine sg 3 (mkE [(51, .own 408 0), (50, .agg [I (maxI x1.f0 p2.f0), I (minI x1.f1 p2.f1)]), (49, .own 56 0), (1, I p1), (3, .ba 24 0), (5, .ba 40 0), (7, .own 56 0), (8, I z0.2), (9, .ba 72 0), (48, B (ltI (maxI x1.f0 p2.f0) (minI x1.f1 p2.f1)))] [(408, RR 39 2 a38 ([(S38.mk (maxI x1.f0 p2.f0) (minI x1.f1 p2.f1))] : List S38) 0 false), (24, .box [S p0.f0, S p0.f1, I p0.f2, I p0.f3, I p0.f4, I p0.f5, I p0.f6, LL I p0.f7, I p0.f8, I p0.f9, I p0.f10, LL S p0.f11, B p0.f12] false), (40, .box [I p2.f0, I p2.f1] false), (56, RR 39 2 a38 z0.1 0 false), (72, .box [I (maxI x1.f0 p2.f0), I (minI x1.f1 p2.f1)] false)] 54) ?_
          refine mo (some 52) (apO 108 39 2 16 56 a38 0 [408] (y := .own 408 0) (l2 := ([(S38.mk (maxI x1.f0 p2.f0) (minI x1.f1 p2.f1))] : List S38))) (fun x3 => ?_)
          refine se (mkE [(1, I p1), (3, .ba 24 0), (5, .ba 40 0), (7, .own 56 1), (8, I z0.2)] [(24, .box [S p0.f0, S p0.f1, I p0.f2, I p0.f3, I p0.f4, I p0.f5, I p0.f6, LL I p0.f7, I p0.f8, I p0.f9, I p0.f10, LL S p0.f11, B p0.f12] false), (40, .box [I p2.f0, I p2.f1] false), (56, RR 39 2 a38 x3 1 false)] 54) ?_
          refine pB ?_
          refine pN ?_
          refine pS ?_
          refine gR 4 (rg Try.f77 4) ?_
          refine se (mkE [(1, I p1), (3, .ba 24 0), (5, .ba 40 0), (7, .own 56 1), (8, I (addI .i64 z0.2 1))] [(24, .box [S p0.f0, S p0.f1, I p0.f2, I p0.f3, I p0.f4, I p0.f5, I p0.f6, LL I p0.f7, I p0.f8, I p0.f9, I p0.f10, LL S p0.f11, B p0.f12] false), (40, .box [I p2.f0, I p2.f1] false), (56, RR 39 2 a38 x3 1 false)] 54) ?_
          exact pL
        · refine gK ?_
          refine pB ?_
          refine pN ?_
          refine pS ?_
          refine gR 4 (rg Try.f77 4) ?_
          refine se (mkE [(1, I p1), (3, .ba 24 0), (5, .ba 40 0), (7, .own 56 0), (8, I (addI .i64 z0.2 1))] [(24, .box [S p0.f0, S p0.f1, I p0.f2, I p0.f3, I p0.f4, I p0.f5, I p0.f6, LL I p0.f7, I p0.f8, I p0.f9, I p0.f10, LL S p0.f11, B p0.f12] false), (40, .box [I p2.f0, I p2.f1] false), (56, RR 39 2 a38 z0.1 0 false)] 54) ?_
          exact pL
      · refine se (mkE [(1, I p1), (3, .ba 24 0), (5, .ba 40 0), (7, .own 56 0), (8, I z0.2), (9, .ba 72 0), (48, B false)] [(24, .box [S p0.f0, S p0.f1, I p0.f2, I p0.f3, I p0.f4, I p0.f5, I p0.f6, LL I p0.f7, I p0.f8, I p0.f9, I p0.f10, LL S p0.f11, B p0.f12] false), (40, .box [I p2.f0, I p2.f1] false), (56, RR 39 2 a38 z0.1 0 false), (72, .box [I (maxI x1.f0 p2.f0), I (minI x1.f1 p2.f1)] false)] 54) ?_
        refine pN ?_
        refine pS ?_
        refine gF (.tmp 48) ?_
        refine gK ?_
        refine pB ?_
        refine pN ?_
        refine pS ?_
        refine gR 4 (rg Try.f77 4) ?_
        refine se (mkE [(1, I p1), (3, .ba 24 0), (5, .ba 40 0), (7, .own 56 0), (8, I (addI .i64 z0.2 1))] [(24, .box [S p0.f0, S p0.f1, I p0.f2, I p0.f3, I p0.f4, I p0.f5, I p0.f6, LL I p0.f7, I p0.f8, I p0.f9, I p0.f10, LL S p0.f11, B p0.f12] false), (40, .box [I p2.f0, I p2.f1] false), (56, RR 39 2 a38 z0.1 0 false)] 54) ?_
        exact pL
    · refine se (mkE [(1, I p1), (3, .ba 24 0), (5, .ba 40 0), (7, .own 56 0), (8, I z0.2), (9, .ba 72 0), (48, B false)] [(24, .box [S p0.f0, S p0.f1, I p0.f2, I p0.f3, I p0.f4, I p0.f5, I p0.f6, LL I p0.f7, I p0.f8, I p0.f9, I p0.f10, LL S p0.f11, B p0.f12] false), (40, .box [I p2.f0, I p2.f1] false), (56, RR 39 2 a38 z0.1 0 false), (72, .box [I (maxI x1.f0 p2.f0), I (minI x1.f1 p2.f1)] false)] 54) ?_
      refine pN ?_
      refine pS ?_
      refine gF (.tmp 48) ?_
      refine gK ?_
      refine pB ?_
      refine pN ?_
      refine pS ?_
      refine gR 4 (rg Try.f77 4) ?_
      refine se (mkE [(1, I p1), (3, .ba 24 0), (5, .ba 40 0), (7, .own 56 0), (8, I (addI .i64 z0.2 1))] [(24, .box [S p0.f0, S p0.f1, I p0.f2, I p0.f3, I p0.f4, I p0.f5, I p0.f6, LL I p0.f7, I p0.f8, I p0.f9, I p0.f10, LL S p0.f11, B p0.f12] false), (40, .box [I p2.f0, I p2.f1] false), (56, RR 39 2 a38 z0.1 0 false)] 54) ?_
      exact pL
  · refine gX 0 ?_
    exact pL
noncomputable def T77 (p0 : S105) (p1 : Int) (p2 : S38) : Option (List S38) := ((iter (L77_3 p0 p1 p2) ([], p0.f3)).bind fun y4 => (some y4.2.2))
theorem B77 (C : Callee) (h163 : ∀ (p0 : S105) (p1 : Int) (p2 : Int), C 163 [a105 p0, I p1, I p2] = (T163 p0 p1 p2).map a38) (h164 : ∀ (p0 : S105) (p1 : Int), C 164 [a105 p0, I p1] = (T164 p0 p1).map B) (p0 : S105) (p1 : Int) (p2 : S38) : runs Try.prog C (cfg.fn 77) (finFn Try.prog (cfg.fn 77).byval Try.f77) [] (execA Try.prog C (cfg.fn 77) (nr Try.f77 []) (frame0 [a105 p0, I p1, a38 p2] 54)) = (T77 p0 p1 p2).map (fun l => AV.fr 39 2 (List.map a38 l)) := by
  unfold T77
  refine gS 1 ?_
  refine gR 0 (rg Try.f77 0) ?_
  refine se (mkE [(1, I p1), (3, .ba 24 0), (5, .ba 40 0)] [(24, .box [S p0.f0, S p0.f1, I p0.f2, I p0.f3, I p0.f4, I p0.f5, I p0.f6, LL I p0.f7, I p0.f8, I p0.f9, I p0.f10, LL S p0.f11, B p0.f12] false), (40, .box [I p2.f0, I p2.f1] false)] 54) ?_
  refine pN ?_
  refine pS ?_
  refine gS 2 ?_
  refine gR 1 (rg Try.f77 1) ?_
  refine se (mkE [(1, I p1), (3, .ba 24 0), (5, .ba 40 0), (7, .nils)] [(24, .box [S p0.f0, S p0.f1, I p0.f2, I p0.f3, I p0.f4, I p0.f5, I p0.f6, LL I p0.f7, I p0.f8, I p0.f9, I p0.f10, LL S p0.f11, B p0.f12] false), (40, .box [I p2.f0, I p2.f1] false)] 54) ?_
  refine pN ?_
  refine pS ?_
  refine gS 9 ?_
  refine gS 3 ?_
  refine gR 2 (rg Try.f77 2) ?_
  refine se (mkE [(1, I p1), (3, .ba 24 0), (5, .ba 40 0), (7, .nils), (8, I p0.f3)] [(24, .box [S p0.f0, S p0.f1, I p0.f2, I p0.f3, I p0.f4, I p0.f5, I p0.f6, LL I p0.f7, I p0.f8, I p0.f9, I p0.f10, LL S p0.f11, B p0.f12] false), (40, .box [I p2.f0, I p2.f1] false)] 54) ?_
  refine pN ?_
  refine pS ?_
  refine gB 0 ?_
  refine lo [(1, none), (3, none), (5, none), (7, some (39, 2)), (8, none)] [] (L77_3 p0 p1 p2) (fun z0 : ((List S38) × Int) => (mkE [(1, I p1), (3, .ba 24 0), (5, .ba 40 0), (7, .own 56 0), (8, I z0.2)] [(24, .box [S p0.f0, S p0.f1, I p0.f2, I p0.f3, I p0.f4, I p0.f5, I p0.f6, LL I p0.f7, I p0.f8, I p0.f9, I p0.f10, LL S p0.f11, B p0.f12] false), (40, .box [I p2.f0, I p2.f1] false), (56, RR 39 2 a38 z0.1 0 false)] 54)) (fun (x : (Int × Bool × (List S38))) => (.exit 0, (mkE [(1, I p1), (3, .ba 24 0), (5, .ba 40 0), (7, .own 56 0), (8, I x.1), (15, B x.2.1)] [(24, .box [S p0.f0, S p0.f1, I p0.f2, I p0.f3, I p0.f4, I p0.f5, I p0.f6, LL I p0.f7, I p0.f8, I p0.f9, I p0.f10, LL S p0.f11, B p0.f12] false), (40, .box [I p2.f0, I p2.f1] false), (56, RR 39 2 a38 x.2.2 0 false)] 54))) ([], p0.f3) (fun z => L77_3_ok C h163 h164 p0 p1 p2 z) ?_
  intro y4
  refine pH ?_
  refine pN ?_
  refine pS ?_
  refine gS 0 ?_
  refine gR 9 (rg Try.f77 9) ?_
  refine se (mkE [(6, .own 56 0)] [(56, RR 39 2 a38 y4.2.2 0 false)] 54) ?_
  refine pN ?_
  refine pS ?_
  refine gE ?_
  exact pL
theorem F77 (m : Nat) (hm : 4 ≤ m) (p0 : S105) (p1 : Int) (p2 : S38) : callA Try.prog cfg m 77 [a105 p0, I p1, a38 p2] = (T77 p0 p1 p2).map (fun l => AV.fr 39 2 (List.map a38 l)) := by
  obtain ⟨q, rfl⟩ : ∃ q, m = q + 1 := ⟨m - 1, by omega⟩
  exact (callA_body (fn := Try.f77) (c := body_ Try.f77) q _ (by kernel_rfl) (by kernel_rfl) (by kernel_rfl)).trans (B77 _ (fun p0 p1 p2 => F163 q (by omega) p0 p1 p2) (fun p0 p1 => F164 q (by omega) p0 p1) p0 p1 p2)

noncomputable def L78_4 (p0 : (List S38)) (p1 : (List S38)) (z0 : Int) : Option (Int ⊕ ((Int × Bool) ⊕ Unit)) := (bif (ltI z0 (lenL p0)) then ((listAt p0 z0).bind fun x1 => ((listAt p1 z0).bind fun x2 => (bif (!allB [eqI x1.f0 x2.f0, eqI x1.f1 x2.f1]) then (some (.inr (.inr ()))) else (some (.inl (addI .i64 z0 1)))))) else (some (.inr (.inl (z0, (ltI z0 (lenL p0)))))))
theorem L78_4_ok (C : Callee) (p0 : (List S38)) (p1 : (List S38)) (z0 : Int) : runs Try.prog C (cfg.fn 78) (finLoop ((cfg.fn 78).keep 4) ((cfg.fn 78).al 4)) [] (execA Try.prog C (cfg.fn 78) (nr Try.f78 [false, false, true, false, true, true]) ((fun z0 : Int => (mkE [(0, LL a38 p0), (1, LL a38 p1), (12, I (lenL p0)), (13, I z0)] [] 26)) z0)) = (L78_4 p0 p1 z0).map (Sum.elim (fun z => .inl ((fun z0 : Int => (mkE [(0, LL a38 p0), (1, LL a38 p1), (12, I (lenL p0)), (13, I z0)] [] 26)) z)) (fun x => .inr ((Sum.elim (fun (x : (Int × Bool)) => (.exit 0, (mkE [(0, LL a38 p0), (1, LL a38 p1), (12, I (lenL p0)), (13, I x.1), (14, B x.2)] [] 26))) (fun (x : Unit) => (.ret, (mkE [(4, B false)] [] 26)))) x))) := by
  unfold L78_4
  refine gS 0 ?_
  refine gR 4 (rg Try.f78 4) ?_
  refine se (mkE [(0, LL a38 p0), (1, LL a38 p1), (12, I (lenL p0)), (13, I z0), (14, B (ltI z0 (lenL p0)))] [] 26) ?_
  refine pN ?_
  refine pS ?_
  refine gS 5 ?_
  refine gC 14 (ltI z0 (lenL p0)) ?_ ?_
  · refine gK ?_
    refine pN ?_
    refine pS ?_
    refine gS 8 ?_
    refine gB 1 ?_
    refine gS 6 ?_
    refine gR 5 (rg Try.f78 5) ?_
    refine se (mkE [(0, LL a38 p0), (1, LL a38 p1), (5, I z0), (12, I (lenL p0)), (13, I z0)] [] 26) ?_
    refine pN ?_
    refine pS ?_
    refine gS 0 ?_
    refine gD 6 9 (rg Try.f78 6) [0, 1, 2, 3, 4, 5, 6, 7, 8] ?_
    refine dg 2 [(some 16, qe (LL a38 p0)), (some 17, qe (I z0))] ?_
    refine dv 18 (mkE [(17, I z0), (16, LL a38 p0), (0, LL a38 p0), (1, LL a38 p1), (5, I z0), (12, I (lenL p0)), (13, I z0)] [] 26) (addrE 108 39 2 a38 .i64 p0 z0) (fun x1 => ?_)
    refine dg 6 [(some 16, qe (LL a38 p0)), (some 17, qe (I z0)), (some 18, qe (.ia [I x1.f0, I x1.f1] 0)), (some 19, qe (a38 x1)), (some 20, qe (LL a38 p1)), (some 21, qe (I z0))] ?_
    refine dv 22 (mkE [(21, I z0), (20, LL a38 p1), (0, LL a38 p0), (1, LL a38 p1), (5, I z0), (12, I (lenL p0)), (13, I z0)] [] 26) (addrE 108 39 2 a38 .i64 p1 z0) (fun x2 => ?_)
    refine dg 8 [(some 16, qe (LL a38 p0)), (some 17, qe (I z0)), (some 18, qe (.ia [I x1.f0, I x1.f1] 0)), (some 19, qe (a38 x1)), (some 20, qe (LL a38 p1)), (some 21, qe (I z0)), (some 22, qe (.ia [I x2.f0, I x2.f1] 0)), (some 23, qe (a38 x2))] ?_
    refine df 24 (B (!allB [eqI x1.f0 x2.f0, eqI x1.f1 x2.f1])) (mkE [(23, a38 x2), (22, .ia [I x2.f0, I x2.f1] 0), (21, I z0), (20, LL a38 p1), (19, a38 x1), (18, .ia [I x1.f0, I x1.f1] 0), (17, I z0), (16, LL a38 p0), (0, LL a38 p0), (1, LL a38 p1), (5, I z0), (12, I (lenL p0)), (13, I z0)] [] 26) (neqE 39 (.tmp 19) (.tmp 23) [I x1.f0, I x1.f1] [I x2.f0, I x2.f1] [.int .i64 x1.f0, .int .i64 x1.f1] [.int .i64 x2.f0, .int .i64 x2.f1] [eqI x1.f0 x2.f0, eqI x1.f1 x2.f1]) ?_
    refine de (mkE [(24, B (!allB [eqI x1.f0 x2.f0, eqI x1.f1 x2.f1])), (23, a38 x2), (22, .ia [I x2.f0, I x2.f1] 0), (21, I z0), (20, LL a38 p1), (19, a38 x1), (18, .ia [I x1.f0, I x1.f1] 0), (17, I z0), (16, LL a38 p0), (0, LL a38 p0), (1, LL a38 p1), (5, I z0), (12, I (lenL p0)), (13, I z0)] [] 26) ?_
    refine se (mkE [(0, LL a38 p0), (1, LL a38 p1), (12, I (lenL p0)), (13, I z0), (24, B (!allB [eqI x1.f0 x2.f0, eqI x1.f1 x2.f1]))] [] 26) ?_
    refine pN ?_
    refine pS ?_
    refine gC 24 (!allB [eqI x1.f0 x2.f0, eqI x1.f1 x2.f1]) ?_ ?_
    · refine gS 0 ?_
      refine gR 7 (rg Try.f78 7) ?_
      refine se (mkE [(4, B false)] [] 26) ?_
      refine pN ?_
      refine pS ?_
      refine gE ?_
      exact pL
    · refine gK ?_
      refine pB ?_
      refine pN ?_
      refine pS ?_
      refine gR 8 (rg Try.f78 8) ?_
      refine se (mkE [(0, LL a38 p0), (1, LL a38 p1), (12, I (lenL p0)), (13, I (addI .i64 z0 1))] [] 26) ?_
      exact pL
  · refine gX 0 ?_
    exact pL
noncomputable def T78 (p0 : (List S38)) (p1 : (List S38)) : Option Bool := (bif (neI (lenL p0) (lenL p1)) then (some false) else ((iter (L78_4 p0 p1) 0).bind fun y3 => (Sum.elim (fun y3a => (some true)) (fun y3b => (some false)) y3)))
theorem B78 (C : Callee) (p0 : (List S38)) (p1 : (List S38)) : runs Try.prog C (cfg.fn 78) (finFn Try.prog (cfg.fn 78).byval Try.f78) [] (execA Try.prog C (cfg.fn 78) (nr Try.f78 []) (frame0 [LL a38 p0, LL a38 p1] 26)) = (T78 p0 p1).map B := by
  unfold T78
  refine gS 1 ?_
  refine gR 0 (rg Try.f78 0) ?_
  refine se (mkE [(0, LL a38 p0), (1, LL a38 p1)] [] 26) ?_
  refine pN ?_
  refine pS ?_
  refine gS 3 ?_
  refine gS 0 ?_
  refine gR 1 (rg Try.f78 1) ?_
  refine sg 1 (mkE [(6, LL a38 p0), (0, LL a38 p0), (1, LL a38 p1)] [] 26) ?_
  refine eo 7 (I (lenL p0)) (lenE 108 a38 p0) ?_
  refine sg 3 (mkE [(8, LL a38 p1), (7, I (lenL p0)), (6, LL a38 p0), (0, LL a38 p0), (1, LL a38 p1)] [] 26) ?_
  refine eo 9 (I (lenL p1)) (lenE 108 a38 p1) ?_
  refine se (mkE [(0, LL a38 p0), (1, LL a38 p1), (10, B (neI (lenL p0) (lenL p1)))] [] 26) ?_
  refine pN ?_
  refine pS ?_
  refine gC 10 (neI (lenL p0) (lenL p1)) ?_ ?_
  · refine gS 0 ?_
    refine gR 2 (rg Try.f78 2) ?_
    refine se (mkE [(4, B false)] [] 26) ?_
    refine pN ?_
    refine pS ?_
    refine gE ?_
    exact pL
  · refine gK ?_
    refine pN ?_
    refine pS ?_
    refine gS 9 ?_
    refine gS 4 ?_
    refine gR 3 (rg Try.f78 3) ?_
    refine sg 1 (mkE [(11, LL a38 p0), (0, LL a38 p0), (1, LL a38 p1), (10, B (neI (lenL p0) (lenL p1)))] [] 26) ?_
    refine eo 12 (I (lenL p0)) (lenE 108 a38 p0) ?_
    refine se (mkE [(0, LL a38 p0), (1, LL a38 p1), (12, I (lenL p0)), (13, I 0)] [] 26) ?_
    refine pN ?_
    refine pS ?_
    refine gB 0 ?_
    refine lo [(0, none), (1, none), (12, none), (13, none)] [] (L78_4 p0 p1) (fun z0 : Int => (mkE [(0, LL a38 p0), (1, LL a38 p1), (12, I (lenL p0)), (13, I z0)] [] 26)) (Sum.elim (fun (x : (Int × Bool)) => (.exit 0, (mkE [(0, LL a38 p0), (1, LL a38 p1), (12, I (lenL p0)), (13, I x.1), (14, B x.2)] [] 26))) (fun (x : Unit) => (.ret, (mkE [(4, B false)] [] 26)))) 0 (fun z => L78_4_ok C p0 p1 z) ?_
    intro y3
    refine ss y3 (Z := (Sum.elim (fun (x : (Int × Bool)) => (.exit 0, (mkE [(0, LL a38 p0), (1, LL a38 p1), (12, I (lenL p0)), (13, I x.1), (14, B x.2)] [] 26))) (fun (x : Unit) => (.ret, (mkE [(4, B false)] [] 26))))) (fun y3a => ?_) (fun y3b => ?_)
    · refine pH ?_
      refine pN ?_
      refine pS ?_
      refine gS 0 ?_
      refine gR 9 (rg Try.f78 9) ?_
      refine se (mkE [(4, B true)] [] 26) ?_
      refine pN ?_
      refine pS ?_
      refine gE ?_
      exact pL
    · exact pL
theorem F78 (m : Nat) (hm : 1 ≤ m) (p0 : (List S38)) (p1 : (List S38)) : callA Try.prog cfg m 78 [LL a38 p0, LL a38 p1] = (T78 p0 p1).map B := by
  obtain ⟨q, rfl⟩ : ∃ q, m = q + 1 := ⟨m - 1, by omega⟩
  exact (callA_body (fn := Try.f78) (c := body_ Try.f78) q _ (by kernel_rfl) (by kernel_rfl) (by kernel_rfl)).trans (B78 _ p0 p1)

noncomputable def L229_2 (p0 : (List ByteArray)) (p1 : ByteArray) (z0 : Int) : Option (Int ⊕ ((Int × Bool) ⊕ Int)) := (bif (ltI z0 (lenL p0)) then ((listAt p0 z0).bind fun x1 => (bif (eqS p1 x1) then (some (.inr (.inr z0))) else (some (.inl (addI .i64 z0 1))))) else (some (.inr (.inl (z0, (ltI z0 (lenL p0)))))))
theorem L229_2_ok (C : Callee) (p0 : (List ByteArray)) (p1 : ByteArray) (z0 : Int) : runs Try.prog C (cfg.fn 229) (finLoop ((cfg.fn 229).keep 2) ((cfg.fn 229).al 2)) [] (execA Try.prog C (cfg.fn 229) (nr Try.f229 [false, false, true, false, true]) ((fun z0 : Int => (mkE [(0, LL S p0), (1, S p1), (7, I (lenL p0)), (8, I z0)] [] 19)) z0)) = (L229_2 p0 p1 z0).map (Sum.elim (fun z => .inl ((fun z0 : Int => (mkE [(0, LL S p0), (1, S p1), (7, I (lenL p0)), (8, I z0)] [] 19)) z)) (fun x => .inr ((Sum.elim (fun (x : (Int × Bool)) => (.exit 0, (mkE [(0, LL S p0), (1, S p1), (7, I (lenL p0)), (8, I x.1), (9, B x.2)] [] 19))) (fun (x : Int) => (.ret, (mkE [(4, I x)] [] 19)))) x))) := by
  unfold L229_2
  refine gS 0 ?_
  refine gR 2 (rg Try.f229 2) ?_
  refine se (mkE [(0, LL S p0), (1, S p1), (7, I (lenL p0)), (8, I z0), (9, B (ltI z0 (lenL p0)))] [] 19) ?_
  refine pN ?_
  refine pS ?_
  refine gS 3 ?_
  refine gC 9 (ltI z0 (lenL p0)) ?_ ?_
  · refine gK ?_
    refine pN ?_
    refine pS ?_
    refine gS 6 ?_
    refine gB 1 ?_
    refine gS 4 ?_
    refine gR 3 (rg Try.f229 3) ?_
    refine se (mkE [(0, LL S p0), (1, S p1), (5, I z0), (7, I (lenL p0)), (8, I z0)] [] 19) ?_
    refine pN ?_
    refine pS ?_
    refine gS 0 ?_
    refine gR 4 (rg Try.f229 4) ?_
    refine sg 3 (mkE [(13, I z0), (12, LL S p0), (11, S p1), (0, LL S p0), (1, S p1), (5, I z0), (7, I (lenL p0)), (8, I z0)] [] 19) ?_
    refine vo 14 (addrE 35 9 1 S .i64 p0 z0) (fun x1 => ?_)
    refine se (mkE [(0, LL S p0), (1, S p1), (5, I z0), (7, I (lenL p0)), (8, I z0), (16, B (eqS p1 x1))] [] 19) ?_
    refine pN ?_
    refine pS ?_
    refine gC 16 (eqS p1 x1) ?_ ?_
    · refine gS 0 ?_
      refine gR 5 (rg Try.f229 5) ?_
      refine se (mkE [(4, I z0)] [] 19) ?_
      refine pN ?_
      refine pS ?_
      refine gE ?_
      exact pL
    · refine gK ?_
      refine pB ?_
      refine pN ?_
      refine pS ?_
      refine gR 6 (rg Try.f229 6) ?_
      refine se (mkE [(0, LL S p0), (1, S p1), (7, I (lenL p0)), (8, I (addI .i64 z0 1))] [] 19) ?_
      exact pL
  · refine gX 0 ?_
    exact pL
noncomputable def T229 (p0 : (List ByteArray)) (p1 : ByteArray) : Option Int := ((iter (L229_2 p0 p1) 0).bind fun y2 => (Sum.elim (fun y2a => (some (-1))) (fun y2b => (some y2b)) y2))
theorem B229 (C : Callee) (p0 : (List ByteArray)) (p1 : ByteArray) : runs Try.prog C (cfg.fn 229) (finFn Try.prog (cfg.fn 229).byval Try.f229) [] (execA Try.prog C (cfg.fn 229) (nr Try.f229 []) (frame0 [LL S p0, S p1] 19)) = (T229 p0 p1).map I := by
  unfold T229
  refine gS 1 ?_
  refine gR 0 (rg Try.f229 0) ?_
  refine se (mkE [(0, LL S p0), (1, S p1)] [] 19) ?_
  refine pN ?_
  refine pS ?_
  refine gS 7 ?_
  refine gS 2 ?_
  refine gR 1 (rg Try.f229 1) ?_
  refine sg 1 (mkE [(6, LL S p0), (0, LL S p0), (1, S p1)] [] 19) ?_
  refine eo 7 (I (lenL p0)) (lenE 35 S p0) ?_
  refine se (mkE [(0, LL S p0), (1, S p1), (7, I (lenL p0)), (8, I 0)] [] 19) ?_
  refine pN ?_
  refine pS ?_
  refine gB 0 ?_
  refine lo [(0, none), (1, none), (7, none), (8, none)] [] (L229_2 p0 p1) (fun z0 : Int => (mkE [(0, LL S p0), (1, S p1), (7, I (lenL p0)), (8, I z0)] [] 19)) (Sum.elim (fun (x : (Int × Bool)) => (.exit 0, (mkE [(0, LL S p0), (1, S p1), (7, I (lenL p0)), (8, I x.1), (9, B x.2)] [] 19))) (fun (x : Int) => (.ret, (mkE [(4, I x)] [] 19)))) 0 (fun z => L229_2_ok C p0 p1 z) ?_
  intro y2
  refine ss y2 (Z := (Sum.elim (fun (x : (Int × Bool)) => (.exit 0, (mkE [(0, LL S p0), (1, S p1), (7, I (lenL p0)), (8, I x.1), (9, B x.2)] [] 19))) (fun (x : Int) => (.ret, (mkE [(4, I x)] [] 19))))) (fun y2a => ?_) (fun y2b => ?_)
  · refine pH ?_
    refine pN ?_
    refine pS ?_
    refine gS 0 ?_
    refine gR 7 (rg Try.f229 7) ?_
    refine se (mkE [(4, I (-1))] [] 19) ?_
    refine pN ?_
    refine pS ?_
    refine gE ?_
    exact pL
  · exact pL
theorem F229 (m : Nat) (hm : 1 ≤ m) (p0 : (List ByteArray)) (p1 : ByteArray) : callA Try.prog cfg m 229 [LL S p0, S p1] = (T229 p0 p1).map I := by
  obtain ⟨q, rfl⟩ : ∃ q, m = q + 1 := ⟨m - 1, by omega⟩
  exact (callA_body (fn := Try.f229) (c := body_ Try.f229) q _ (by kernel_rfl) (by kernel_rfl) (by kernel_rfl)).trans (B229 _ p0 p1)

noncomputable def T154 (p0 : (List ByteArray)) (p1 : ByteArray) : Option Bool := ((T229 p0 p1).bind fun x1 => (some (leI 0 x1)))
theorem B154 (C : Callee) (h229 : ∀ (p0 : (List ByteArray)) (p1 : ByteArray), C 229 [LL S p0, S p1] = (T229 p0 p1).map I) (p0 : (List ByteArray)) (p1 : ByteArray) : runs Try.prog C (cfg.fn 154) (finFn Try.prog (cfg.fn 154).byval Try.f154) [] (execA Try.prog C (cfg.fn 154) (nr Try.f154 []) (frame0 [LL S p0, S p1] 9)) = (T154 p0 p1).map B := by
  unfold T154
  refine gS 1 ?_
  refine gR 0 (rg Try.f154 0) ?_
  refine se (mkE [(0, LL S p0), (1, S p1)] [] 9) ?_
  refine pN ?_
  refine pS ?_
  refine gS 0 ?_
  refine gR 1 (rg Try.f154 1) ?_
  refine sg 2 (mkE [(6, S p1), (5, LL S p0), (0, LL S p0), (1, S p1)] [] 9) ?_
  refine co 7 [] (h229 p0 p1) (fun x1 => ?_)
  refine se (mkE [(4, B (leI 0 x1))] [] 9) ?_
  refine pN ?_
  refine pS ?_
  refine gE ?_
  exact pL
theorem F154 (m : Nat) (hm : 2 ≤ m) (p0 : (List ByteArray)) (p1 : ByteArray) : callA Try.prog cfg m 154 [LL S p0, S p1] = (T154 p0 p1).map B := by
  obtain ⟨q, rfl⟩ : ∃ q, m = q + 1 := ⟨m - 1, by omega⟩
  exact (callA_body (fn := Try.f154) (c := body_ Try.f154) q _ (by kernel_rfl) (by kernel_rfl) (by kernel_rfl)).trans (B154 _ (fun p0 p1 => F229 q (by omega) p0 p1) p0 p1)

noncomputable def T165 (p0 : ByteArray) (p1_c0 : ByteArray) (p1_c1 : ByteArray) (p1_c2 : Int) (p1_c3 : (List ByteArray)) : Option Bool := ((T154 p1_c3 p0).bind fun x1 => (some (!x1)))
theorem B165 (C : Callee) (h154 : ∀ (p0 : (List ByteArray)) (p1 : ByteArray), C 154 [LL S p0, S p1] = (T154 p0 p1).map B) (p0 : ByteArray) (p1_c0 : ByteArray) (p1_c1 : ByteArray) (p1_c2 : Int) (p1_c3 : (List ByteArray)) : runs Try.prog C (cfg.fn 165) (finFn Try.prog (cfg.fn 165).byval Try.f165) [] (execA Try.prog C (cfg.fn 165) (nr Try.f165 []) (frame0 [S p0, .ia [S p1_c0, S p1_c1, I p1_c2, LL S p1_c3] 0] 9)) = (T165 p0 p1_c0 p1_c1 p1_c2 p1_c3).map B := by
  unfold T165
  refine gS 1 ?_
  refine gR 0 (rg Try.f165 0) ?_
  refine se (mkE [(0, S p0), (1, .ia [S p1_c0, S p1_c1, I p1_c2, LL S p1_c3] 0)] [] 9) ?_
  refine pN ?_
  refine pS ?_
  refine gS 0 ?_
  refine gR 1 (rg Try.f165 1) ?_
  refine sg 3 (mkE [(6, S p0), (5, LL S p1_c3), (4, .ia [S p1_c0, S p1_c1, I p1_c2, LL S p1_c3] 3), (0, S p0), (1, .ia [S p1_c0, S p1_c1, I p1_c2, LL S p1_c3] 0)] [] 9) ?_
  refine co 7 [] (h154 p1_c3 p0) (fun x1 => ?_)
  refine se (mkE [(3, B (!x1))] [] 9) ?_
  refine pN ?_
  refine pS ?_
  refine gE ?_
  exact pL
theorem F165 (m : Nat) (hm : 3 ≤ m) (p0 : ByteArray) (p1_c0 : ByteArray) (p1_c1 : ByteArray) (p1_c2 : Int) (p1_c3 : (List ByteArray)) : callA Try.prog cfg m 165 [S p0, .ia [S p1_c0, S p1_c1, I p1_c2, LL S p1_c3] 0] = (T165 p0 p1_c0 p1_c1 p1_c2 p1_c3).map B := by
  obtain ⟨q, rfl⟩ : ∃ q, m = q + 1 := ⟨m - 1, by omega⟩
  exact (callA_body (fn := Try.f165) (c := body_ Try.f165) q _ (by kernel_rfl) (by kernel_rfl) (by kernel_rfl)).trans (B165 _ (fun p0 p1 => F154 q (by omega) p0 p1) p0 p1_c0 p1_c1 p1_c2 p1_c3)

noncomputable def L228_2 (p0 : (List ByteArray)) (p1_c0 : ByteArray) (p1_c1 : ByteArray) (p1_c2 : Int) (p1_c3 : (List ByteArray)) (z0 : Int) : Option (Int ⊕ ((Int × Bool) ⊕ Int)) := (bif (ltI z0 (lenL p0)) then ((listAt p0 z0).bind fun x1 => ((T165 x1 p1_c0 p1_c1 p1_c2 p1_c3).bind fun x2 => (bif x2 then (some (.inr (.inr z0))) else (some (.inl (addI .i64 z0 1)))))) else (some (.inr (.inl (z0, (ltI z0 (lenL p0)))))))
theorem L228_2_ok (C : Callee) (h165 : ∀ (p0 : ByteArray) (p1_c0 : ByteArray) (p1_c1 : ByteArray) (p1_c2 : Int) (p1_c3 : (List ByteArray)), C 165 [S p0, .ia [S p1_c0, S p1_c1, I p1_c2, LL S p1_c3] 0] = (T165 p0 p1_c0 p1_c1 p1_c2 p1_c3).map B) (p0 : (List ByteArray)) (p1_c0 : ByteArray) (p1_c1 : ByteArray) (p1_c2 : Int) (p1_c3 : (List ByteArray)) (z0 : Int) : runs Try.prog C (cfg.fn 228) (finLoop ((cfg.fn 228).keep 2) ((cfg.fn 228).al 2)) [] (execA Try.prog C (cfg.fn 228) (nr Try.f228 [false, false, true, false, true]) ((fun z0 : Int => (mkE [(0, LL S p0), (1, .fn 165 [.ia [S p1_c0, S p1_c1, I p1_c2, LL S p1_c3] 0]), (7, I (lenL p0)), (8, I z0)] [] 19)) z0)) = (L228_2 p0 p1_c0 p1_c1 p1_c2 p1_c3 z0).map (Sum.elim (fun z => .inl ((fun z0 : Int => (mkE [(0, LL S p0), (1, .fn 165 [.ia [S p1_c0, S p1_c1, I p1_c2, LL S p1_c3] 0]), (7, I (lenL p0)), (8, I z0)] [] 19)) z)) (fun x => .inr ((Sum.elim (fun (x : (Int × Bool)) => (.exit 0, (mkE [(0, LL S p0), (1, .fn 165 [.ia [S p1_c0, S p1_c1, I p1_c2, LL S p1_c3] 0]), (7, I (lenL p0)), (8, I x.1), (9, B x.2)] [] 19))) (fun (x : Int) => (.ret, (mkE [(4, I x)] [] 19)))) x))) := by
  unfold L228_2
  refine gS 0 ?_
  refine gR 2 (rg Try.f228 2) ?_
  refine se (mkE [(0, LL S p0), (1, .fn 165 [.ia [S p1_c0, S p1_c1, I p1_c2, LL S p1_c3] 0]), (7, I (lenL p0)), (8, I z0), (9, B (ltI z0 (lenL p0)))] [] 19) ?_
  refine pN ?_
  refine pS ?_
  refine gS 3 ?_
  refine gC 9 (ltI z0 (lenL p0)) ?_ ?_
  · refine gK ?_
    refine pN ?_
    refine pS ?_
    refine gS 6 ?_
    refine gB 1 ?_
    refine gS 4 ?_
    refine gR 3 (rg Try.f228 3) ?_
    refine se (mkE [(0, LL S p0), (1, .fn 165 [.ia [S p1_c0, S p1_c1, I p1_c2, LL S p1_c3] 0]), (5, I z0), (7, I (lenL p0)), (8, I z0)] [] 19) ?_
    refine pN ?_
    refine pS ?_
    refine gS 0 ?_
    refine gR 4 (rg Try.f228 4) ?_
    refine sg 3 (mkE [(13, I z0), (12, LL S p0), (11, .fn 165 [.ia [S p1_c0, S p1_c1, I p1_c2, LL S p1_c3] 0]), (0, LL S p0), (1, .fn 165 [.ia [S p1_c0, S p1_c1, I p1_c2, LL S p1_c3] 0]), (5, I z0), (7, I (lenL p0)), (8, I z0)] [] 19) ?_
    refine vo 14 (addrE 35 9 1 S .i64 p0 z0) (fun x1 => ?_)
    refine sg 5 (mkE [(15, S x1), (14, .ia [S x1] 0), (13, I z0), (12, LL S p0), (11, .fn 165 [.ia [S p1_c0, S p1_c1, I p1_c2, LL S p1_c3] 0]), (0, LL S p0), (1, .fn 165 [.ia [S p1_c0, S p1_c1, I p1_c2, LL S p1_c3] 0]), (5, I z0), (7, I (lenL p0)), (8, I z0)] [] 19) ?_
    refine co 16 [] (h165 x1 p1_c0 p1_c1 p1_c2 p1_c3) (fun x2 => ?_)
    refine se (mkE [(0, LL S p0), (1, .fn 165 [.ia [S p1_c0, S p1_c1, I p1_c2, LL S p1_c3] 0]), (5, I z0), (7, I (lenL p0)), (8, I z0), (16, B x2)] [] 19) ?_
    refine pN ?_
    refine pS ?_
    refine gC 16 x2 ?_ ?_
    · refine gS 0 ?_
      refine gR 5 (rg Try.f228 5) ?_
      refine se (mkE [(4, I z0)] [] 19) ?_
      refine pN ?_
      refine pS ?_
      refine gE ?_
      exact pL
    · refine gK ?_
      refine pB ?_
      refine pN ?_
      refine pS ?_
      refine gR 6 (rg Try.f228 6) ?_
      refine se (mkE [(0, LL S p0), (1, .fn 165 [.ia [S p1_c0, S p1_c1, I p1_c2, LL S p1_c3] 0]), (7, I (lenL p0)), (8, I (addI .i64 z0 1))] [] 19) ?_
      exact pL
  · refine gX 0 ?_
    exact pL
noncomputable def T228 (p0 : (List ByteArray)) (p1_c0 : ByteArray) (p1_c1 : ByteArray) (p1_c2 : Int) (p1_c3 : (List ByteArray)) : Option Int := ((iter (L228_2 p0 p1_c0 p1_c1 p1_c2 p1_c3) 0).bind fun y3 => (Sum.elim (fun y3a => (some (-1))) (fun y3b => (some y3b)) y3))
theorem B228 (C : Callee) (h165 : ∀ (p0 : ByteArray) (p1_c0 : ByteArray) (p1_c1 : ByteArray) (p1_c2 : Int) (p1_c3 : (List ByteArray)), C 165 [S p0, .ia [S p1_c0, S p1_c1, I p1_c2, LL S p1_c3] 0] = (T165 p0 p1_c0 p1_c1 p1_c2 p1_c3).map B) (p0 : (List ByteArray)) (p1_c0 : ByteArray) (p1_c1 : ByteArray) (p1_c2 : Int) (p1_c3 : (List ByteArray)) : runs Try.prog C (cfg.fn 228) (finFn Try.prog (cfg.fn 228).byval Try.f228) [] (execA Try.prog C (cfg.fn 228) (nr Try.f228 []) (frame0 [LL S p0, .fn 165 [.ia [S p1_c0, S p1_c1, I p1_c2, LL S p1_c3] 0]] 19)) = (T228 p0 p1_c0 p1_c1 p1_c2 p1_c3).map I := by
  unfold T228
  refine gS 1 ?_
  refine gR 0 (rg Try.f228 0) ?_
  refine se (mkE [(0, LL S p0), (1, .fn 165 [.ia [S p1_c0, S p1_c1, I p1_c2, LL S p1_c3] 0])] [] 19) ?_
  refine pN ?_
  refine pS ?_
  refine gS 7 ?_
  refine gS 2 ?_
  refine gR 1 (rg Try.f228 1) ?_
  refine sg 1 (mkE [(6, LL S p0), (0, LL S p0), (1, .fn 165 [.ia [S p1_c0, S p1_c1, I p1_c2, LL S p1_c3] 0])] [] 19) ?_
  refine eo 7 (I (lenL p0)) (lenE 35 S p0) ?_
  refine se (mkE [(0, LL S p0), (1, .fn 165 [.ia [S p1_c0, S p1_c1, I p1_c2, LL S p1_c3] 0]), (7, I (lenL p0)), (8, I 0)] [] 19) ?_
  refine pN ?_
  refine pS ?_
  refine gB 0 ?_
  refine lo [(0, none), (1, none), (7, none), (8, none)] [] (L228_2 p0 p1_c0 p1_c1 p1_c2 p1_c3) (fun z0 : Int => (mkE [(0, LL S p0), (1, .fn 165 [.ia [S p1_c0, S p1_c1, I p1_c2, LL S p1_c3] 0]), (7, I (lenL p0)), (8, I z0)] [] 19)) (Sum.elim (fun (x : (Int × Bool)) => (.exit 0, (mkE [(0, LL S p0), (1, .fn 165 [.ia [S p1_c0, S p1_c1, I p1_c2, LL S p1_c3] 0]), (7, I (lenL p0)), (8, I x.1), (9, B x.2)] [] 19))) (fun (x : Int) => (.ret, (mkE [(4, I x)] [] 19)))) 0 (fun z => L228_2_ok C h165 p0 p1_c0 p1_c1 p1_c2 p1_c3 z) ?_
  intro y3
  refine ss y3 (Z := (Sum.elim (fun (x : (Int × Bool)) => (.exit 0, (mkE [(0, LL S p0), (1, .fn 165 [.ia [S p1_c0, S p1_c1, I p1_c2, LL S p1_c3] 0]), (7, I (lenL p0)), (8, I x.1), (9, B x.2)] [] 19))) (fun (x : Int) => (.ret, (mkE [(4, I x)] [] 19))))) (fun y3a => ?_) (fun y3b => ?_)
  · refine pH ?_
    refine pN ?_
    refine pS ?_
    refine gS 0 ?_
    refine gR 7 (rg Try.f228 7) ?_
    refine se (mkE [(4, I (-1))] [] 19) ?_
    refine pN ?_
    refine pS ?_
    refine gE ?_
    exact pL
  · exact pL
theorem F228 (m : Nat) (hm : 4 ≤ m) (p0 : (List ByteArray)) (p1_c0 : ByteArray) (p1_c1 : ByteArray) (p1_c2 : Int) (p1_c3 : (List ByteArray)) : callA Try.prog cfg m 228 [LL S p0, .fn 165 [.ia [S p1_c0, S p1_c1, I p1_c2, LL S p1_c3] 0]] = (T228 p0 p1_c0 p1_c1 p1_c2 p1_c3).map I := by
  obtain ⟨q, rfl⟩ : ∃ q, m = q + 1 := ⟨m - 1, by omega⟩
  exact (callA_body (fn := Try.f228) (c := body_ Try.f228) q _ (by kernel_rfl) (by kernel_rfl) (by kernel_rfl)).trans (B228 _ (fun p0 p1_c0 p1_c1 p1_c2 p1_c3 => F165 q (by omega) p0 p1_c0 p1_c1 p1_c2 p1_c3) p0 p1_c0 p1_c1 p1_c2 p1_c3)

noncomputable def T152 (p0 : (List ByteArray)) (p1_c0 : ByteArray) (p1_c1 : ByteArray) (p1_c2 : Int) (p1_c3 : (List ByteArray)) : Option Bool := ((T228 p0 p1_c0 p1_c1 p1_c2 p1_c3).bind fun x1 => (some (leI 0 x1)))
theorem B152 (C : Callee) (h228 : ∀ (p0 : (List ByteArray)) (p1_c0 : ByteArray) (p1_c1 : ByteArray) (p1_c2 : Int) (p1_c3 : (List ByteArray)), C 228 [LL S p0, .fn 165 [.ia [S p1_c0, S p1_c1, I p1_c2, LL S p1_c3] 0]] = (T228 p0 p1_c0 p1_c1 p1_c2 p1_c3).map I) (p0 : (List ByteArray)) (p1_c0 : ByteArray) (p1_c1 : ByteArray) (p1_c2 : Int) (p1_c3 : (List ByteArray)) : runs Try.prog C (cfg.fn 152) (finFn Try.prog (cfg.fn 152).byval Try.f152) [] (execA Try.prog C (cfg.fn 152) (nr Try.f152 []) (frame0 [LL S p0, .fn 165 [.ia [S p1_c0, S p1_c1, I p1_c2, LL S p1_c3] 0]] 9)) = (T152 p0 p1_c0 p1_c1 p1_c2 p1_c3).map B := by
  unfold T152
  refine gS 1 ?_
  refine gR 0 (rg Try.f152 0) ?_
  refine se (mkE [(0, LL S p0), (1, .fn 165 [.ia [S p1_c0, S p1_c1, I p1_c2, LL S p1_c3] 0])] [] 9) ?_
  refine pN ?_
  refine pS ?_
  refine gS 0 ?_
  refine gR 1 (rg Try.f152 1) ?_
  refine sg 2 (mkE [(6, .fn 165 [.ia [S p1_c0, S p1_c1, I p1_c2, LL S p1_c3] 0]), (5, LL S p0), (0, LL S p0), (1, .fn 165 [.ia [S p1_c0, S p1_c1, I p1_c2, LL S p1_c3] 0])] [] 9) ?_
  refine co 7 [] (h228 p0 p1_c0 p1_c1 p1_c2 p1_c3) (fun x1 => ?_)
  refine se (mkE [(4, B (leI 0 x1))] [] 9) ?_
  refine pN ?_
  refine pS ?_
  refine gE ?_
  exact pL
theorem F152 (m : Nat) (hm : 5 ≤ m) (p0 : (List ByteArray)) (p1_c0 : ByteArray) (p1_c1 : ByteArray) (p1_c2 : Int) (p1_c3 : (List ByteArray)) : callA Try.prog cfg m 152 [LL S p0, .fn 165 [.ia [S p1_c0, S p1_c1, I p1_c2, LL S p1_c3] 0]] = (T152 p0 p1_c0 p1_c1 p1_c2 p1_c3).map B := by
  obtain ⟨q, rfl⟩ : ∃ q, m = q + 1 := ⟨m - 1, by omega⟩
  exact (callA_body (fn := Try.f152) (c := body_ Try.f152) q _ (by kernel_rfl) (by kernel_rfl) (by kernel_rfl)).trans (B152 _ (fun p0 p1_c0 p1_c1 p1_c2 p1_c3 => F228 q (by omega) p0 p1_c0 p1_c1 p1_c2 p1_c3) p0 p1_c0 p1_c1 p1_c2 p1_c3)

noncomputable def T79 (p0 : S105) (p1 : S36) : Option Bool := ((T152 p0.f11 p1.f0 p1.f1 p1.f2 p1.f3).bind fun x1 => (some (!x1)))
theorem B79 (C : Callee) (h152 : ∀ (p0 : (List ByteArray)) (p1_c0 : ByteArray) (p1_c1 : ByteArray) (p1_c2 : Int) (p1_c3 : (List ByteArray)), C 152 [LL S p0, .fn 165 [.ia [S p1_c0, S p1_c1, I p1_c2, LL S p1_c3] 0]] = (T152 p0 p1_c0 p1_c1 p1_c2 p1_c3).map B) (p0 : S105) (p1 : S36) : runs Try.prog C (cfg.fn 79) (finFn Try.prog (cfg.fn 79).byval Try.f79) [] (execA Try.prog C (cfg.fn 79) (nr Try.f79 []) (frame0 [a105 p0, a36 p1] 10)) = (T79 p0 p1).map B := by
  unfold T79
  refine gS 1 ?_
  refine gR 0 (rg Try.f79 0) ?_
  refine se (mkE [(2, .ba 16 0), (3, .ba 24 0)] [(16, .box [S p0.f0, S p0.f1, I p0.f2, I p0.f3, I p0.f4, I p0.f5, I p0.f6, LL I p0.f7, I p0.f8, I p0.f9, I p0.f10, LL S p0.f11, B p0.f12] false), (24, .box [S p1.f0, S p1.f1, I p1.f2, LL S p1.f3] false)] 10) ?_
  refine pN ?_
  refine pS ?_
  refine gS 0 ?_
  refine gR 1 (rg Try.f79 1) ?_
  refine sg 3 (mkE [(7, .fn 165 [.ba 24 0]), (6, LL S p0.f11), (5, .ba 16 11), (2, .ba 16 0), (3, .ba 24 0)] [(16, .box [S p0.f0, S p0.f1, I p0.f2, I p0.f3, I p0.f4, I p0.f5, I p0.f6, LL I p0.f7, I p0.f8, I p0.f9, I p0.f10, LL S p0.f11, B p0.f12] false), (24, .box [S p1.f0, S p1.f1, I p1.f2, LL S p1.f3] false)] 10) ?_
  refine co 8 [24] (h152 p0.f11 p1.f0 p1.f1 p1.f2 p1.f3) (fun x1 => ?_)
  refine se (mkE [(4, B (!x1))] [] 10) ?_
  refine pN ?_
  refine pS ?_
  refine gE ?_
  exact pL
theorem F79 (m : Nat) (hm : 6 ≤ m) (p0 : S105) (p1 : S36) : callA Try.prog cfg m 79 [a105 p0, a36 p1] = (T79 p0 p1).map B := by
  obtain ⟨q, rfl⟩ : ∃ q, m = q + 1 := ⟨m - 1, by omega⟩
  exact (callA_body (fn := Try.f79) (c := body_ Try.f79) q _ (by kernel_rfl) (by kernel_rfl) (by kernel_rfl)).trans (B79 _ (fun p0 p1_c0 p1_c1 p1_c2 p1_c3 => F152 q (by omega) p0 p1_c0 p1_c1 p1_c2 p1_c3) p0 p1)

noncomputable def T80 : Option Bool := ((T72 (S105.mk (ByteArray.mk #[97]) (ByteArray.mk #[98]) 0 0 0 1 127 [] 1 2 0 [] false) 0 (S38.mk 0 86400000)).bind fun x1 => (bif (eqI x1.2 0) then (bif (eqI (lenL x1.1) 1) then ((idxO (List.length x1.1) 0).bind fun x2 => ((getN x1.1 x2).bind fun x3 => (some (eqI x3.f0 60000)))) else (some false)) else (some false)))
theorem B80 (C : Callee) (h72 : ∀ (p0 : S105) (p1 : Int) (p2 : S38), C 72 [a105 p0, I p1, a38 p2] = (T72 p0 p1 p2).map (fun r => AV.tup [(fun l => AV.fr 39 2 (List.map a38 l)) r.1, I r.2])) : runs Try.prog C (cfg.fn 80) (finFn Try.prog (cfg.fn 80).byval Try.f80) [] (execA Try.prog C (cfg.fn 80) (nr Try.f80 []) (frame0 [] 23)) = (T80).map B := by
  unfold T80
  refine gS 1 ?_
  refine gR 0 (rg Try.f80 0) ?_
  refine se (mkE [] [] 23) ?_
  refine pN ?_
  refine pS ?_
  refine gS 2 ?_
  refine gR 1 (rg Try.f80 1) ?_
  refine sg 2 (mkE [(5, .agg [I 0, I 86400000]), (4, .agg [S (ByteArray.mk #[97]), S (ByteArray.mk #[98]), I 0, I 0, I 0, I 1, I 127, .nils, I 1, I 2, I 0, .nils, B false])] [] 23) ?_
  refine co 6 [] (h72 (S105.mk (ByteArray.mk #[97]) (ByteArray.mk #[98]) 0 0 0 1 127 [] 1 2 0 [] false) 0 (S38.mk 0 86400000)) (fun x1 => ?_)
  refine se (mkE [(1, .own 48 0), (2, I x1.2)] [(48, RR 39 2 a38 x1.1 0 false)] 23) ?_
  refine pN ?_
  refine pS ?_
  refine gS 0 ?_
  refine gR 2 (rg Try.f80 2) ?_
  refine sg 3 (mkE [(11, B (eqI x1.2 0)), (10, B (eqI x1.2 0)), (9, I x1.2), (1, .own 48 0), (2, I x1.2)] [(48, RR 39 2 a38 x1.1 0 false)] 23) ?_
  refine sb 11 (eqI x1.2 0) ?_ ?_
  · refine sg 4 (mkE [(12, .own 48 0), (11, B true), (11, B (eqI x1.2 0)), (10, B (eqI x1.2 0)), (9, I x1.2), (1, .own 48 0), (2, I x1.2)] [(48, RR 39 2 a38 x1.1 0 false)] 23) ?_
    refine eo 13 (I (lenL x1.1)) (lenOE 108 39 2 a38 x1.1) ?_
    refine sg 8 (mkE [(16, B (eqI (lenL x1.1) 1)), (15, B (eqI (lenL x1.1) 1)), (14, B (eqI (lenL x1.1) 1)), (13, I (lenL x1.1)), (12, .own 48 0), (11, B true), (11, B (eqI x1.2 0)), (10, B (eqI x1.2 0)), (9, I x1.2), (1, .own 48 0), (2, I x1.2)] [(48, RR 39 2 a38 x1.1 0 false)] 23) ?_
    refine sb 16 (eqI (lenL x1.1) 1) ?_ ?_
    · refine sg 9 (mkE [(17, .own 48 0), (16, B true), (16, B (eqI (lenL x1.1) 1)), (15, B (eqI (lenL x1.1) 1)), (14, B (eqI (lenL x1.1) 1)), (13, I (lenL x1.1)), (12, .own 48 0), (11, B true), (11, B (eqI x1.2 0)), (10, B (eqI x1.2 0)), (9, I x1.2), (1, .own 48 0), (2, I x1.2)] [(48, RR 39 2 a38 x1.1 0 false)] 23) ?_
      refine vo 18 (addrOE 108 39 2 48 0 false a38 .i64 x1.1 0) (fun x2 => ?_)
      refine sg 11 (mkE [(19, .oa 48 0 x2 0), (18, .oa 48 0 x2 0), (17, .own 48 0), (16, B true), (16, B (eqI (lenL x1.1) 1)), (15, B (eqI (lenL x1.1) 1)), (14, B (eqI (lenL x1.1) 1)), (13, I (lenL x1.1)), (12, .own 48 0), (11, B true), (11, B (eqI x1.2 0)), (10, B (eqI x1.2 0)), (9, I x1.2), (1, .own 48 0), (2, I x1.2)] [(48, RR 39 2 a38 x1.1 0 false)] 23) ?_
      refine vo 20 (loadOE 3 48 0 x2 0 39 2 1 false false a38 (fun q : S38 => I q.f0) x1.1) (fun x3 => ?_)
      refine se (mkE [(0, B (eqI x3.f0 60000))] [] 23) ?_
      refine pN ?_
      refine pS ?_
      refine gE ?_
      exact pL
    · refine se (mkE [(0, B false)] [] 23) ?_
      refine pN ?_
      refine pS ?_
      refine gE ?_
      exact pL
  · refine se (mkE [(0, B false)] [] 23) ?_
    refine pN ?_
    refine pS ?_
    refine gE ?_
    exact pL
theorem F80 (m : Nat) (hm : 7 ≤ m) : callA Try.prog cfg m 80 [] = (T80).map B := by
  obtain ⟨q, rfl⟩ : ∃ q, m = q + 1 := ⟨m - 1, by omega⟩
  exact (callA_body (fn := Try.f80) (c := body_ Try.f80) q _ (by kernel_rfl) (by kernel_rfl) (by kernel_rfl)).trans (B80 _ (fun p0 p1 p2 => F72 q (by omega) p0 p1 p2))

noncomputable def L22_2 (p0 : S36) (p1 : S38) (p2 : Int) (p3 : (List S105)) (z0 : Int) : Option (Int ⊕ ((Int × Bool) ⊕ Unit)) := (bif (ltI z0 (lenL p3)) then ((listAt p3 z0).bind fun x1 => ((T72 x1 p2 p1).bind fun x2 => ((T73 x1 p0).bind fun x3 => ((T74 ([x1] : List S105)).bind fun x4 => (((bif (ltI p2 (-1440)) then ((T50 true 1).bind fun x5 => ((T75 p1).bind fun x6 => ((T49 ([x4, x5, x6] : List Int)).bind fun x7 => ((T76 p0).bind fun x8 => ((T49 ([x4, x8] : List Int)).bind fun x9 => (some (x7, x9))))))) else ((T50 (ltI 1440 p2) 1).bind fun x10 => ((T75 p1).bind fun x11 => ((T49 ([x4, x10, x11] : List Int)).bind fun x12 => ((T76 p0).bind fun x13 => ((T49 ([x4, x13] : List Int)).bind fun x14 => (some (x12, x14)))))))) : Option (Int × Int)).bind fun y15 => (bif (eqI y15.1 0) then ((T77 x1 p2 p1).bind fun x16 => (bif (neI x2.2 y15.1) then (some (.inr (.inr ()))) else ((T78 x2.1 x16).bind fun x17 => (bif (!x17) then (some (.inr (.inr ()))) else (bif (neI x3.2 y15.2) then (some (.inr (.inr ()))) else (bif (eqI y15.2 0) then ((T79 x1 p0).bind fun x18 => (bif (x3.1 != x18) then (some (.inr (.inr ()))) else (some (.inl (addI .i64 z0 1))))) else (bif (x3.1 != false) then (some (.inr (.inr ()))) else (some (.inl (addI .i64 z0 1)))))))))) else (bif (neI x2.2 y15.1) then (some (.inr (.inr ()))) else ((T78 x2.1 []).bind fun x19 => (bif (!x19) then (some (.inr (.inr ()))) else (bif (neI x3.2 y15.2) then (some (.inr (.inr ()))) else (bif (eqI y15.2 0) then ((T79 x1 p0).bind fun x20 => (bif (x3.1 != x20) then (some (.inr (.inr ()))) else (some (.inl (addI .i64 z0 1))))) else (bif (x3.1 != false) then (some (.inr (.inr ()))) else (some (.inl (addI .i64 z0 1))))))))))))))) else (some (.inr (.inl (z0, (ltI z0 (lenL p3)))))))
theorem L22_2_ok (C : Callee) (h49 : ∀ (p0 : (List Int)), C 49 [LL I p0] = (T49 p0).map I) (h50 : ∀ (p0 : Bool) (p1 : Int), C 50 [B p0, I p1] = (T50 p0 p1).map I) (h72 : ∀ (p0 : S105) (p1 : Int) (p2 : S38), C 72 [a105 p0, I p1, a38 p2] = (T72 p0 p1 p2).map (fun r => AV.tup [(fun l => AV.fr 39 2 (List.map a38 l)) r.1, I r.2])) (h73 : ∀ (p0 : S105) (p1 : S36), C 73 [a105 p0, a36 p1] = (T73 p0 p1).map (fun r => AV.tup [B r.1, I r.2])) (h74 : ∀ (p0 : (List S105)), C 74 [LL a105 p0] = (T74 p0).map I) (h75 : ∀ (p0 : S38), C 75 [a38 p0] = (T75 p0).map I) (h76 : ∀ (p0 : S36), C 76 [a36 p0] = (T76 p0).map I) (h77 : ∀ (p0 : S105) (p1 : Int) (p2 : S38), C 77 [a105 p0, I p1, a38 p2] = (T77 p0 p1 p2).map (fun l => AV.fr 39 2 (List.map a38 l))) (h78 : ∀ (p0 : (List S38)) (p1 : (List S38)), C 78 [LL a38 p0, LL a38 p1] = (T78 p0 p1).map B) (h79 : ∀ (p0 : S105) (p1 : S36), C 79 [a105 p0, a36 p1] = (T79 p0 p1).map B) (p0 : S36) (p1 : S38) (p2 : Int) (p3 : (List S105)) (z0 : Int) : runs Try.prog C (cfg.fn 22) (finLoop ((cfg.fn 22).keep 2) ((cfg.fn 22).al 2)) [] (execA Try.prog C (cfg.fn 22) (nr Try.f22 [false, false, true, false, true]) ((fun z0 : Int => (mkE [(2, I p2), (4, .ba 32 0), (5, .ba 40 0), (19, LL a105 p3), (20, I (lenL p3)), (21, I z0)] [(32, .box [S p0.f0, S p0.f1, I p0.f2, LL S p0.f3] false), (40, .box [I p1.f0, I p1.f1] false)] 91)) z0)) = (L22_2 p0 p1 p2 p3 z0).map (Sum.elim (fun z => .inl ((fun z0 : Int => (mkE [(2, I p2), (4, .ba 32 0), (5, .ba 40 0), (19, LL a105 p3), (20, I (lenL p3)), (21, I z0)] [(32, .box [S p0.f0, S p0.f1, I p0.f2, LL S p0.f3] false), (40, .box [I p1.f0, I p1.f1] false)] 91)) z)) (fun x => .inr ((Sum.elim (fun (x : (Int × Bool)) => (.exit 0, (mkE [(2, I p2), (4, .ba 32 0), (5, .ba 40 0), (19, LL a105 p3), (20, I (lenL p3)), (21, I x.1), (22, B x.2)] [(32, .box [S p0.f0, S p0.f1, I p0.f2, LL S p0.f3] false), (40, .box [I p1.f0, I p1.f1] false)] 91))) (fun (x : Unit) => (.ret, (mkE [(8, B false)] [] 91)))) x))) := by
  unfold L22_2
  refine gS 0 ?_
  refine gR 2 (rg Try.f22 2) ?_
  refine se (mkE [(2, I p2), (4, .ba 32 0), (5, .ba 40 0), (19, LL a105 p3), (20, I (lenL p3)), (21, I z0), (22, B (ltI z0 (lenL p3)))] [(32, .box [S p0.f0, S p0.f1, I p0.f2, LL S p0.f3] false), (40, .box [I p1.f0, I p1.f1] false)] 91) ?_
  refine pN ?_
  refine pS ?_
  refine gS 3 ?_
  refine gC 22 (ltI z0 (lenL p3)) ?_ ?_
  · refine gK ?_
    refine pN ?_
    refine pS ?_
    refine gS 13 ?_
    refine gB 1 ?_
    refine gS 4 ?_
    refine gR 3 (rg Try.f22 3) ?_
    refine vo 23 (addrE 40 106 13 a105 .i64 p3 z0) (fun x1 => ?_)
    refine se (mkE [(2, I p2), (4, .ba 32 0), (5, .ba 40 0), (10, .ba 80 0), (19, LL a105 p3), (20, I (lenL p3)), (21, I z0)] [(32, .box [S p0.f0, S p0.f1, I p0.f2, LL S p0.f3] false), (40, .box [I p1.f0, I p1.f1] false), (80, .box [S x1.f0, S x1.f1, I x1.f2, I x1.f3, I x1.f4, I x1.f5, I x1.f6, LL I x1.f7, I x1.f8, I x1.f9, I x1.f10, LL S x1.f11, B x1.f12] false)] 91) ?_
    refine pN ?_
    refine pS ?_
    refine gS 5 ?_
    refine gR 4 (rg Try.f22 4) ?_
    refine sg 3 (mkE [(28, a38 p1), (27, I p2), (26, a105 x1), (2, I p2), (4, .ba 32 0), (5, .ba 40 0), (10, .ba 80 0), (19, LL a105 p3), (20, I (lenL p3)), (21, I z0)] [(32, .box [S p0.f0, S p0.f1, I p0.f2, LL S p0.f3] false), (40, .box [I p1.f0, I p1.f1] false), (80, .box [S x1.f0, S x1.f1, I x1.f2, I x1.f3, I x1.f4, I x1.f5, I x1.f6, LL I x1.f7, I x1.f8, I x1.f9, I x1.f10, LL S x1.f11, B x1.f12] false)] 91) ?_
    refine co 29 [] (h72 x1 p2 p1) (fun x2 => ?_)
    refine se (mkE [(2, I p2), (4, .ba 32 0), (5, .ba 40 0), (10, .ba 80 0), (11, .own 232 0), (12, I x2.2), (19, LL a105 p3), (20, I (lenL p3)), (21, I z0)] [(32, .box [S p0.f0, S p0.f1, I p0.f2, LL S p0.f3] false), (40, .box [I p1.f0, I p1.f1] false), (80, .box [S x1.f0, S x1.f1, I x1.f2, I x1.f3, I x1.f4, I x1.f5, I x1.f6, LL I x1.f7, I x1.f8, I x1.f9, I x1.f10, LL S x1.f11, B x1.f12] false), (232, RR 39 2 a38 x2.1 0 false)] 91) ?_
    refine pN ?_
    refine pS ?_
    refine gS 6 ?_
    refine gR 5 (rg Try.f22 5) ?_
    refine sg 2 (mkE [(34, a36 p0), (33, a105 x1), (2, I p2), (4, .ba 32 0), (5, .ba 40 0), (10, .ba 80 0), (11, .own 232 0), (12, I x2.2), (19, LL a105 p3), (20, I (lenL p3)), (21, I z0)] [(32, .box [S p0.f0, S p0.f1, I p0.f2, LL S p0.f3] false), (40, .box [I p1.f0, I p1.f1] false), (80, .box [S x1.f0, S x1.f1, I x1.f2, I x1.f3, I x1.f4, I x1.f5, I x1.f6, LL I x1.f7, I x1.f8, I x1.f9, I x1.f10, LL S x1.f11, B x1.f12] false), (232, RR 39 2 a38 x2.1 0 false)] 91) ?_
    refine co 35 [] (h73 x1 p0) (fun x3 => ?_)
    refine se (mkE [(2, I p2), (4, .ba 32 0), (5, .ba 40 0), (10, .ba 80 0), (11, .own 232 0), (12, I x2.2), (13, B x3.1), (14, I x3.2), (19, LL a105 p3), (20, I (lenL p3)), (21, I z0)] [(32, .box [S p0.f0, S p0.f1, I p0.f2, LL S p0.f3] false), (40, .box [I p1.f0, I p1.f1] false), (80, .box [S x1.f0, S x1.f1, I x1.f2, I x1.f3, I x1.f4, I x1.f5, I x1.f6, LL I x1.f7, I x1.f8, I x1.f9, I x1.f10, LL S x1.f11, B x1.f12] false), (232, RR 39 2 a38 x2.1 0 false)] 91) ?_
    refine pN ?_
    refine pS ?_
    refine gS 7 ?_
    refine gR 6 (rg Try.f22 6) ?_
    refine sg 2 (mkE [(39, .own 312 0), (38, a105 x1), (2, I p2), (4, .ba 32 0), (5, .ba 40 0), (10, .ba 80 0), (11, .own 232 0), (12, I x2.2), (13, B x3.1), (14, I x3.2), (19, LL a105 p3), (20, I (lenL p3)), (21, I z0)] [(312, RR 106 13 a105 ([x1] : List S105) 0 false), (32, .box [S p0.f0, S p0.f1, I p0.f2, LL S p0.f3] false), (40, .box [I p1.f0, I p1.f1] false), (80, .box [S x1.f0, S x1.f1, I x1.f2, I x1.f3, I x1.f4, I x1.f5, I x1.f6, LL I x1.f7, I x1.f8, I x1.f9, I x1.f10, LL S x1.f11, B x1.f12] false), (232, RR 39 2 a38 x2.1 0 false)] 91) ?_
    refine co 40 [312] (h74 ([x1] : List S105)) (fun x4 => ?_)
    refine se (mkE [(2, I p2), (4, .ba 32 0), (5, .ba 40 0), (10, .ba 80 0), (11, .own 232 0), (12, I x2.2), (13, B x3.1), (14, I x3.2), (15, I x4), (19, LL a105 p3), (20, I (lenL p3)), (21, I z0)] [(32, .box [S p0.f0, S p0.f1, I p0.f2, LL S p0.f3] false), (40, .box [I p1.f0, I p1.f1] false), (80, .box [S x1.f0, S x1.f1, I x1.f2, I x1.f3, I x1.f4, I x1.f5, I x1.f6, LL I x1.f7, I x1.f8, I x1.f9, I x1.f10, LL S x1.f11, B x1.f12] false), (232, RR 39 2 a38 x2.1 0 false)] 91) ?_
    refine pN ?_
    refine pS ?_
    refine jS 8 ((bif (ltI p2 (-1440)) then ((T50 true 1).bind fun x5 => ((T75 p1).bind fun x6 => ((T49 ([x4, x5, x6] : List Int)).bind fun x7 => ((T76 p0).bind fun x8 => ((T49 ([x4, x8] : List Int)).bind fun x9 => (some (x7, x9))))))) else ((T50 (ltI 1440 p2) 1).bind fun x10 => ((T75 p1).bind fun x11 => ((T49 ([x4, x10, x11] : List Int)).bind fun x12 => ((T76 p0).bind fun x13 => ((T49 ([x4, x13] : List Int)).bind fun x14 => (some (x12, x14)))))))) : Option (Int × Int)) (fun (x : (Int × Int)) => (.normal, (mkE [(2, I p2), (4, .ba 32 0), (5, .ba 40 0), (10, .ba 80 0), (11, .own 232 0), (12, I x2.2), (13, B x3.1), (14, I x3.2), (16, I x.1), (17, I x.2), (19, LL a105 p3), (20, I (lenL p3)), (21, I z0)] [(32, .box [S p0.f0, S p0.f1, I p0.f2, LL S p0.f3] false), (40, .box [I p1.f0, I p1.f1] false), (80, .box [S x1.f0, S x1.f1, I x1.f2, I x1.f3, I x1.f4, I x1.f5, I x1.f6, LL I x1.f7, I x1.f8, I x1.f9, I x1.f10, LL S x1.f11, B x1.f12] false), (232, RR 39 2 a38 x2.1 0 false)] 91))) ?_ (fun y15 => ?_)
    · refine gD 7 19 (rg Try.f22 7) [0, 1, 2, 3, 4, 5, 6, 7, 8, 9, 10, 11, 12, 13, 14, 15, 16, 17, 18] ?_
      refine dg 4 [(some 41, qe (I x4)), (some 42, qe (I p2)), (some 43, qe (B (ltI p2 (-1440)))), (some 44, qe (B (ltI p2 (-1440))))] ?_
      refine db 3 44 (ltI p2 (-1440)) ?_ ?_
      · refine dg 7 [(some 41, qe (I x4)), (some 42, qe (I p2)), (some 43, qe (B (ltI p2 (-1440)))), (some 44, qe (B true)), (some 45, qe (.und)), (some 46, qe (.und)), (some 47, qe (B true))] ?_
        refine dc 48 [] (mkE [(47, B true), (46, .und), (45, .und), (44, B true), (43, B (ltI p2 (-1440))), (42, I p2), (2, I p2), (4, .ba 32 0), (5, .ba 40 0), (10, .ba 80 0), (11, .own 232 0), (12, I x2.2), (13, B x3.1), (14, I x3.2), (15, I x4), (19, LL a105 p3), (20, I (lenL p3)), (21, I z0)] [(32, .box [S p0.f0, S p0.f1, I p0.f2, LL S p0.f3] false), (40, .box [I p1.f0, I p1.f1] false), (80, .box [S x1.f0, S x1.f1, I x1.f2, I x1.f3, I x1.f4, I x1.f5, I x1.f6, LL I x1.f7, I x1.f8, I x1.f9, I x1.f10, LL S x1.f11, B x1.f12] false), (232, RR 39 2 a38 x2.1 0 false)] 91) (h50 true 1) (fun x5 => ?_)
        refine dg 9 [(some 41, qe (I x4)), (some 42, qe (I p2)), (some 43, qe (B (ltI p2 (-1440)))), (some 44, qe (B true)), (some 45, qe (.und)), (some 46, qe (.und)), (some 47, qe (B true)), (some 48, qe (I x5)), (some 49, qe (a38 p1))] ?_
        refine dc 50 [] (mkE [(49, a38 p1), (48, I x5), (47, B true), (46, .und), (45, .und), (44, B true), (43, B (ltI p2 (-1440))), (42, I p2), (2, I p2), (4, .ba 32 0), (5, .ba 40 0), (10, .ba 80 0), (11, .own 232 0), (12, I x2.2), (13, B x3.1), (14, I x3.2), (15, I x4), (19, LL a105 p3), (20, I (lenL p3)), (21, I z0)] [(32, .box [S p0.f0, S p0.f1, I p0.f2, LL S p0.f3] false), (40, .box [I p1.f0, I p1.f1] false), (80, .box [S x1.f0, S x1.f1, I x1.f2, I x1.f3, I x1.f4, I x1.f5, I x1.f6, LL I x1.f7, I x1.f8, I x1.f9, I x1.f10, LL S x1.f11, B x1.f12] false), (232, RR 39 2 a38 x2.1 0 false)] 91) (h75 p1) (fun x6 => ?_)
        refine dg 11 [(some 41, qe (I x4)), (some 42, qe (I p2)), (some 43, qe (B (ltI p2 (-1440)))), (some 44, qe (B true)), (some 45, qe (.und)), (some 46, qe (.und)), (some 47, qe (B true)), (some 48, qe (I x5)), (some 49, qe (a38 p1)), (some 50, qe (I x6)), (some 51, { e := { val := .own 408 0, news := [(408, RR 69 1 I ([x4, x5, x6] : List Int) 0 false)] } })] ?_
        refine dc 52 [408] (mkE [(51, .own 408 0), (50, I x6), (49, a38 p1), (48, I x5), (47, B true), (46, .und), (45, .und), (44, B true), (43, B (ltI p2 (-1440))), (42, I p2), (41, I x4), (2, I p2), (4, .ba 32 0), (5, .ba 40 0), (10, .ba 80 0), (11, .own 232 0), (12, I x2.2), (13, B x3.1), (14, I x3.2), (15, I x4), (19, LL a105 p3), (20, I (lenL p3)), (21, I z0)] [(408, RR 69 1 I ([x4, x5, x6] : List Int) 0 false), (32, .box [S p0.f0, S p0.f1, I p0.f2, LL S p0.f3] false), (40, .box [I p1.f0, I p1.f1] false), (80, .box [S x1.f0, S x1.f1, I x1.f2, I x1.f3, I x1.f4, I x1.f5, I x1.f6, LL I x1.f7, I x1.f8, I x1.f9, I x1.f10, LL S x1.f11, B x1.f12] false), (232, RR 39 2 a38 x2.1 0 false)] 91) (h49 ([x4, x5, x6] : List Int)) (fun x7 => ?_)
        refine dg 14 [(some 41, qe (I x4)), (some 42, qe (I p2)), (some 43, qe (B (ltI p2 (-1440)))), (some 44, qe (B true)), (some 45, qe (.und)), (some 46, qe (.und)), (some 47, qe (B true)), (some 48, qe (I x5)), (some 49, qe (a38 p1)), (some 50, qe (I x6)), (some 51, { e := { val := .own 408 0, news := [(408, RR 69 1 I ([x4, x5, x6] : List Int) 0 false)] } }), (some 52, qe (I x7)), (some 53, qe (I x4)), (some 54, qe (a36 p0))] ?_
        refine dc 55 [] (mkE [(54, a36 p0), (52, I x7), (51, .own 408 0), (50, I x6), (49, a38 p1), (48, I x5), (47, B true), (46, .und), (45, .und), (44, B true), (43, B (ltI p2 (-1440))), (42, I p2), (41, I x4), (2, I p2), (4, .ba 32 0), (5, .ba 40 0), (10, .ba 80 0), (11, .own 232 0), (12, I x2.2), (13, B x3.1), (14, I x3.2), (15, I x4), (19, LL a105 p3), (20, I (lenL p3)), (21, I z0)] [(408, RR 69 1 I ([x4, x5, x6] : List Int) 0 false), (32, .box [S p0.f0, S p0.f1, I p0.f2, LL S p0.f3] false), (40, .box [I p1.f0, I p1.f1] false), (80, .box [S x1.f0, S x1.f1, I x1.f2, I x1.f3, I x1.f4, I x1.f5, I x1.f6, LL I x1.f7, I x1.f8, I x1.f9, I x1.f10, LL S x1.f11, B x1.f12] false), (232, RR 39 2 a38 x2.1 0 false)] 91) (h76 p0) (fun x8 => ?_)
        refine dg 16 [(some 41, qe (I x4)), (some 42, qe (I p2)), (some 43, qe (B (ltI p2 (-1440)))), (some 44, qe (B true)), (some 45, qe (.und)), (some 46, qe (.und)), (some 47, qe (B true)), (some 48, qe (I x5)), (some 49, qe (a38 p1)), (some 50, qe (I x6)), (some 51, { e := { val := .own 408 0, news := [(408, RR 69 1 I ([x4, x5, x6] : List Int) 0 false)] } }), (some 52, qe (I x7)), (some 53, qe (I x4)), (some 54, qe (a36 p0)), (some 55, qe (I x8)), (some 56, { e := { val := .own 448 0, news := [(448, RR 69 1 I ([x4, x8] : List Int) 0 false)] } })] ?_
        refine dc 57 [448] (mkE [(56, .own 448 0), (55, I x8), (54, a36 p0), (53, I x4), (52, I x7), (51, .own 408 0), (50, I x6), (49, a38 p1), (48, I x5), (47, B true), (46, .und), (45, .und), (44, B true), (43, B (ltI p2 (-1440))), (42, I p2), (41, I x4), (2, I p2), (4, .ba 32 0), (5, .ba 40 0), (10, .ba 80 0), (11, .own 232 0), (12, I x2.2), (13, B x3.1), (14, I x3.2), (15, I x4), (19, LL a105 p3), (20, I (lenL p3)), (21, I z0)] [(448, RR 69 1 I ([x4, x8] : List Int) 0 false), (408, RR 69 1 I ([x4, x5, x6] : List Int) 0 false), (32, .box [S p0.f0, S p0.f1, I p0.f2, LL S p0.f3] false), (40, .box [I p1.f0, I p1.f1] false), (80, .box [S x1.f0, S x1.f1, I x1.f2, I x1.f3, I x1.f4, I x1.f5, I x1.f6, LL I x1.f7, I x1.f8, I x1.f9, I x1.f10, LL S x1.f11, B x1.f12] false), (232, RR 39 2 a38 x2.1 0 false)] 91) (h49 ([x4, x8] : List Int)) (fun x9 => ?_)
        refine dg 19 [(some 41, qe (I x4)), (some 42, qe (I p2)), (some 43, qe (B (ltI p2 (-1440)))), (some 44, qe (B true)), (some 45, qe (.und)), (some 46, qe (.und)), (some 47, qe (B true)), (some 48, qe (I x5)), (some 49, qe (a38 p1)), (some 50, qe (I x6)), (some 51, { e := { val := .own 408 0, news := [(408, RR 69 1 I ([x4, x5, x6] : List Int) 0 false)] } }), (some 52, qe (I x7)), (some 53, qe (I x4)), (some 54, qe (a36 p0)), (some 55, qe (I x8)), (some 56, { e := { val := .own 448 0, news := [(448, RR 69 1 I ([x4, x8] : List Int) 0 false)] } }), (some 57, qe (I x9)), (some 16, qe (I x7)), (some 17, qe (I x9))] ?_
        refine de (mkE [(17, I x9), (16, I x7), (57, I x9), (56, .own 448 0), (55, I x8), (54, a36 p0), (53, I x4), (52, I x7), (51, .own 408 0), (50, I x6), (49, a38 p1), (48, I x5), (47, B true), (46, .und), (45, .und), (44, B true), (43, B (ltI p2 (-1440))), (42, I p2), (41, I x4), (2, I p2), (4, .ba 32 0), (5, .ba 40 0), (10, .ba 80 0), (11, .own 232 0), (12, I x2.2), (13, B x3.1), (14, I x3.2), (15, I x4), (19, LL a105 p3), (20, I (lenL p3)), (21, I z0)] [(448, RR 69 1 I ([x4, x8] : List Int) 0 false), (408, RR 69 1 I ([x4, x5, x6] : List Int) 0 false), (32, .box [S p0.f0, S p0.f1, I p0.f2, LL S p0.f3] false), (40, .box [I p1.f0, I p1.f1] false), (80, .box [S x1.f0, S x1.f1, I x1.f2, I x1.f3, I x1.f4, I x1.f5, I x1.f6, LL I x1.f7, I x1.f8, I x1.f9, I x1.f10, LL S x1.f11, B x1.f12] false), (232, RR 39 2 a38 x2.1 0 false)] 91) ?_
        refine se (mkE [(2, I p2), (4, .ba 32 0), (5, .ba 40 0), (10, .ba 80 0), (11, .own 232 0), (12, I x2.2), (13, B x3.1), (14, I x3.2), (16, I x7), (17, I x9), (19, LL a105 p3), (20, I (lenL p3)), (21, I z0)] [(32, .box [S p0.f0, S p0.f1, I p0.f2, LL S p0.f3] false), (40, .box [I p1.f0, I p1.f1] false), (80, .box [S x1.f0, S x1.f1, I x1.f2, I x1.f3, I x1.f4, I x1.f5, I x1.f6, LL I x1.f7, I x1.f8, I x1.f9, I x1.f10, LL S x1.f11, B x1.f12] false), (232, RR 39 2 a38 x2.1 0 false)] 91) ?_
        refine pG (mkE [(2, I p2), (4, .ba 32 0), (5, .ba 40 0), (10, .ba 80 0), (11, .own 232 0), (12, I x2.2), (13, B x3.1), (14, I x3.2), (16, I x7), (17, I x9), (19, LL a105 p3), (20, I (lenL p3)), (21, I z0)] [(32, .box [S p0.f0, S p0.f1, I p0.f2, LL S p0.f3] false), (40, .box [I p1.f0, I p1.f1] false), (80, .box [S x1.f0, S x1.f1, I x1.f2, I x1.f3, I x1.f4, I x1.f5, I x1.f6, LL I x1.f7, I x1.f8, I x1.f9, I x1.f10, LL S x1.f11, B x1.f12] false), (232, RR 39 2 a38 x2.1 0 false)] 91) ?_
        exact pL
      · refine dg 7 [(some 41, qe (I x4)), (some 42, qe (I p2)), (some 43, qe (B (ltI p2 (-1440)))), (some 44, qe (B false)), (some 45, qe (I p2)), (some 46, qe (B (ltI 1440 p2))), (some 47, qe (B (ltI 1440 p2)))] ?_
        refine dc 48 [] (mkE [(47, B (ltI 1440 p2)), (46, B (ltI 1440 p2)), (45, I p2), (44, B false), (43, B (ltI p2 (-1440))), (42, I p2), (2, I p2), (4, .ba 32 0), (5, .ba 40 0), (10, .ba 80 0), (11, .own 232 0), (12, I x2.2), (13, B x3.1), (14, I x3.2), (15, I x4), (19, LL a105 p3), (20, I (lenL p3)), (21, I z0)] [(32, .box [S p0.f0, S p0.f1, I p0.f2, LL S p0.f3] false), (40, .box [I p1.f0, I p1.f1] false), (80, .box [S x1.f0, S x1.f1, I x1.f2, I x1.f3, I x1.f4, I x1.f5, I x1.f6, LL I x1.f7, I x1.f8, I x1.f9, I x1.f10, LL S x1.f11, B x1.f12] false), (232, RR 39 2 a38 x2.1 0 false)] 91) (h50 (ltI 1440 p2) 1) (fun x10 => ?_)
        refine dg 9 [(some 41, qe (I x4)), (some 42, qe (I p2)), (some 43, qe (B (ltI p2 (-1440)))), (some 44, qe (B false)), (some 45, qe (I p2)), (some 46, qe (B (ltI 1440 p2))), (some 47, qe (B (ltI 1440 p2))), (some 48, qe (I x10)), (some 49, qe (a38 p1))] ?_
        refine dc 50 [] (mkE [(49, a38 p1), (48, I x10), (47, B (ltI 1440 p2)), (46, B (ltI 1440 p2)), (45, I p2), (44, B false), (43, B (ltI p2 (-1440))), (42, I p2), (2, I p2), (4, .ba 32 0), (5, .ba 40 0), (10, .ba 80 0), (11, .own 232 0), (12, I x2.2), (13, B x3.1), (14, I x3.2), (15, I x4), (19, LL a105 p3), (20, I (lenL p3)), (21, I z0)] [(32, .box [S p0.f0, S p0.f1, I p0.f2, LL S p0.f3] false), (40, .box [I p1.f0, I p1.f1] false), (80, .box [S x1.f0, S x1.f1, I x1.f2, I x1.f3, I x1.f4, I x1.f5, I x1.f6, LL I x1.f7, I x1.f8, I x1.f9, I x1.f10, LL S x1.f11, B x1.f12] false), (232, RR 39 2 a38 x2.1 0 false)] 91) (h75 p1) (fun x11 => ?_)
        refine dg 11 [(some 41, qe (I x4)), (some 42, qe (I p2)), (some 43, qe (B (ltI p2 (-1440)))), (some 44, qe (B false)), (some 45, qe (I p2)), (some 46, qe (B (ltI 1440 p2))), (some 47, qe (B (ltI 1440 p2))), (some 48, qe (I x10)), (some 49, qe (a38 p1)), (some 50, qe (I x11)), (some 51, { e := { val := .own 408 0, news := [(408, RR 69 1 I ([x4, x10, x11] : List Int) 0 false)] } })] ?_
        refine dc 52 [408] (mkE [(51, .own 408 0), (50, I x11), (49, a38 p1), (48, I x10), (47, B (ltI 1440 p2)), (46, B (ltI 1440 p2)), (45, I p2), (44, B false), (43, B (ltI p2 (-1440))), (42, I p2), (41, I x4), (2, I p2), (4, .ba 32 0), (5, .ba 40 0), (10, .ba 80 0), (11, .own 232 0), (12, I x2.2), (13, B x3.1), (14, I x3.2), (15, I x4), (19, LL a105 p3), (20, I (lenL p3)), (21, I z0)] [(408, RR 69 1 I ([x4, x10, x11] : List Int) 0 false), (32, .box [S p0.f0, S p0.f1, I p0.f2, LL S p0.f3] false), (40, .box [I p1.f0, I p1.f1] false), (80, .box [S x1.f0, S x1.f1, I x1.f2, I x1.f3, I x1.f4, I x1.f5, I x1.f6, LL I x1.f7, I x1.f8, I x1.f9, I x1.f10, LL S x1.f11, B x1.f12] false), (232, RR 39 2 a38 x2.1 0 false)] 91) (h49 ([x4, x10, x11] : List Int)) (fun x12 => ?_)
        refine dg 14 [(some 41, qe (I x4)), (some 42, qe (I p2)), (some 43, qe (B (ltI p2 (-1440)))), (some 44, qe (B false)), (some 45, qe (I p2)), (some 46, qe (B (ltI 1440 p2))), (some 47, qe (B (ltI 1440 p2))), (some 48, qe (I x10)), (some 49, qe (a38 p1)), (some 50, qe (I x11)), (some 51, { e := { val := .own 408 0, news := [(408, RR 69 1 I ([x4, x10, x11] : List Int) 0 false)] } }), (some 52, qe (I x12)), (some 53, qe (I x4)), (some 54, qe (a36 p0))] ?_
        refine dc 55 [] (mkE [(54, a36 p0), (52, I x12), (51, .own 408 0), (50, I x11), (49, a38 p1), (48, I x10), (47, B (ltI 1440 p2)), (46, B (ltI 1440 p2)), (45, I p2), (44, B false), (43, B (ltI p2 (-1440))), (42, I p2), (41, I x4), (2, I p2), (4, .ba 32 0), (5, .ba 40 0), (10, .ba 80 0), (11, .own 232 0), (12, I x2.2), (13, B x3.1), (14, I x3.2), (15, I x4), (19, LL a105 p3), (20, I (lenL p3)), (21, I z0)] [(408, RR 69 1 I ([x4, x10, x11] : List Int) 0 false), (32, .box [S p0.f0, S p0.f1, I p0.f2, LL S p0.f3] false), (40, .box [I p1.f0, I p1.f1] false), (80, .box [S x1.f0, S x1.f1, I x1.f2, I x1.f3, I x1.f4, I x1.f5, I x1.f6, LL I x1.f7, I x1.f8, I x1.f9, I x1.f10, LL S x1.f11, B x1.f12] false), (232, RR 39 2 a38 x2.1 0 false)] 91) (h76 p0) (fun x13 => ?_)
        refine dg 16 [(some 41, qe (I x4)), (some 42, qe (I p2)), (some 43, qe (B (ltI p2 (-1440)))), (some 44, qe (B false)), (some 45, qe (I p2)), (some 46, qe (B (ltI 1440 p2))), (some 47, qe (B (ltI 1440 p2))), (some 48, qe (I x10)), (some 49, qe (a38 p1)), (some 50, qe (I x11)), (some 51, { e := { val := .own 408 0, news := [(408, RR 69 1 I ([x4, x10, x11] : List Int) 0 false)] } }), (some 52, qe (I x12)), (some 53, qe (I x4)), (some 54, qe (a36 p0)), (some 55, qe (I x13)), (some 56, { e := { val := .own 448 0, news := [(448, RR 69 1 I ([x4, x13] : List Int) 0 false)] } })] ?_
        refine dc 57 [448] (mkE [(56, .own 448 0), (55, I x13), (54, a36 p0), (53, I x4), (52, I x12), (51, .own 408 0), (50, I x11), (49, a38 p1), (48, I x10), (47, B (ltI 1440 p2)), (46, B (ltI 1440 p2)), (45, I p2), (44, B false), (43, B (ltI p2 (-1440))), (42, I p2), (41, I x4), (2, I p2), (4, .ba 32 0), (5, .ba 40 0), (10, .ba 80 0), (11, .own 232 0), (12, I x2.2), (13, B x3.1), (14, I x3.2), (15, I x4), (19, LL a105 p3), (20, I (lenL p3)), (21, I z0)] [(448, RR 69 1 I ([x4, x13] : List Int) 0 false), (408, RR 69 1 I ([x4, x10, x11] : List Int) 0 false), (32, .box [S p0.f0, S p0.f1, I p0.f2, LL S p0.f3] false), (40, .box [I p1.f0, I p1.f1] false), (80, .box [S x1.f0, S x1.f1, I x1.f2, I x1.f3, I x1.f4, I x1.f5, I x1.f6, LL I x1.f7, I x1.f8, I x1.f9, I x1.f10, LL S x1.f11, B x1.f12] false), (232, RR 39 2 a38 x2.1 0 false)] 91) (h49 ([x4, x13] : List Int)) (fun x14 => ?_)
        refine dg 19 [(some 41, qe (I x4)), (some 42, qe (I p2)), (some 43, qe (B (ltI p2 (-1440)))), (some 44, qe (B false)), (some 45, qe (I p2)), (some 46, qe (B (ltI 1440 p2))), (some 47, qe (B (ltI 1440 p2))), (some 48, qe (I x10)), (some 49, qe (a38 p1)), (some 50, qe (I x11)), (some 51, { e := { val := .own 408 0, news := [(408, RR 69 1 I ([x4, x10, x11] : List Int) 0 false)] } }), (some 52, qe (I x12)), (some 53, qe (I x4)), (some 54, qe (a36 p0)), (some 55, qe (I x13)), (some 56, { e := { val := .own 448 0, news := [(448, RR 69 1 I ([x4, x13] : List Int) 0 false)] } }), (some 57, qe (I x14)), (some 16, qe (I x12)), (some 17, qe (I x14))] ?_
        refine de (mkE [(17, I x14), (16, I x12), (57, I x14), (56, .own 448 0), (55, I x13), (54, a36 p0), (53, I x4), (52, I x12), (51, .own 408 0), (50, I x11), (49, a38 p1), (48, I x10), (47, B (ltI 1440 p2)), (46, B (ltI 1440 p2)), (45, I p2), (44, B false), (43, B (ltI p2 (-1440))), (42, I p2), (41, I x4), (2, I p2), (4, .ba 32 0), (5, .ba 40 0), (10, .ba 80 0), (11, .own 232 0), (12, I x2.2), (13, B x3.1), (14, I x3.2), (15, I x4), (19, LL a105 p3), (20, I (lenL p3)), (21, I z0)] [(448, RR 69 1 I ([x4, x13] : List Int) 0 false), (408, RR 69 1 I ([x4, x10, x11] : List Int) 0 false), (32, .box [S p0.f0, S p0.f1, I p0.f2, LL S p0.f3] false), (40, .box [I p1.f0, I p1.f1] false), (80, .box [S x1.f0, S x1.f1, I x1.f2, I x1.f3, I x1.f4, I x1.f5, I x1.f6, LL I x1.f7, I x1.f8, I x1.f9, I x1.f10, LL S x1.f11, B x1.f12] false), (232, RR 39 2 a38 x2.1 0 false)] 91) ?_
        refine se (mkE [(2, I p2), (4, .ba 32 0), (5, .ba 40 0), (10, .ba 80 0), (11, .own 232 0), (12, I x2.2), (13, B x3.1), (14, I x3.2), (16, I x12), (17, I x14), (19, LL a105 p3), (20, I (lenL p3)), (21, I z0)] [(32, .box [S p0.f0, S p0.f1, I p0.f2, LL S p0.f3] false), (40, .box [I p1.f0, I p1.f1] false), (80, .box [S x1.f0, S x1.f1, I x1.f2, I x1.f3, I x1.f4, I x1.f5, I x1.f6, LL I x1.f7, I x1.f8, I x1.f9, I x1.f10, LL S x1.f11, B x1.f12] false), (232, RR 39 2 a38 x2.1 0 false)] 91) ?_
        refine pG (mkE [(2, I p2), (4, .ba 32 0), (5, .ba 40 0), (10, .ba 80 0), (11, .own 232 0), (12, I x2.2), (13, B x3.1), (14, I x3.2), (16, I x12), (17, I x14), (19, LL a105 p3), (20, I (lenL p3)), (21, I z0)] [(32, .box [S p0.f0, S p0.f1, I p0.f2, LL S p0.f3] false), (40, .box [I p1.f0, I p1.f1] false), (80, .box [S x1.f0, S x1.f1, I x1.f2, I x1.f3, I x1.f4, I x1.f5, I x1.f6, LL I x1.f7, I x1.f8, I x1.f9, I x1.f10, LL S x1.f11, B x1.f12] false), (232, RR 39 2 a38 x2.1 0 false)] 91) ?_
        exact pL
    refine pS ?_
    refine gS 9 ?_
    refine gR 8 (rg Try.f22 8) ?_
    refine se (mkE [(2, I p2), (4, .ba 32 0), (5, .ba 40 0), (10, .ba 80 0), (11, .own 232 0), (12, I x2.2), (13, B x3.1), (14, I x3.2), (16, I y15.1), (17, I y15.2), (18, .nils), (19, LL a105 p3), (20, I (lenL p3)), (21, I z0)] [(32, .box [S p0.f0, S p0.f1, I p0.f2, LL S p0.f3] false), (40, .box [I p1.f0, I p1.f1] false), (80, .box [S x1.f0, S x1.f1, I x1.f2, I x1.f3, I x1.f4, I x1.f5, I x1.f6, LL I x1.f7, I x1.f8, I x1.f9, I x1.f10, LL S x1.f11, B x1.f12] false), (232, RR 39 2 a38 x2.1 0 false)] 91) ?_
    refine pN ?_
    refine pS ?_
    refine gS 11 ?_
    refine gS 0 ?_
    refine gR 9 (rg Try.f22 9) ?_
    refine se (mkE [(2, I p2), (4, .ba 32 0), (5, .ba 40 0), (10, .ba 80 0), (11, .own 232 0), (12, I x2.2), (13, B x3.1), (14, I x3.2), (16, I y15.1), (17, I y15.2), (18, .nils), (19, LL a105 p3), (20, I (lenL p3)), (21, I z0), (59, B (eqI y15.1 0))] [(32, .box [S p0.f0, S p0.f1, I p0.f2, LL S p0.f3] false), (40, .box [I p1.f0, I p1.f1] false), (80, .box [S x1.f0, S x1.f1, I x1.f2, I x1.f3, I x1.f4, I x1.f5, I x1.f6, LL I x1.f7, I x1.f8, I x1.f9, I x1.f10, LL S x1.f11, B x1.f12] false), (232, RR 39 2 a38 x2.1 0 false)] 91) ?_
    refine pN ?_
    refine pS ?_
    refine gC 59 (eqI y15.1 0) ?_ ?_
    · refine gR 10 (rg Try.f22 10) ?_
      refine sg 3 (mkE [(62, a38 p1), (61, I p2), (60, a105 x1), (2, I p2), (4, .ba 32 0), (5, .ba 40 0), (10, .ba 80 0), (11, .own 232 0), (12, I x2.2), (13, B x3.1), (14, I x3.2), (16, I y15.1), (17, I y15.2), (18, .nils), (19, LL a105 p3), (20, I (lenL p3)), (21, I z0), (59, B (eqI y15.1 0))] [(32, .box [S p0.f0, S p0.f1, I p0.f2, LL S p0.f3] false), (40, .box [I p1.f0, I p1.f1] false), (80, .box [S x1.f0, S x1.f1, I x1.f2, I x1.f3, I x1.f4, I x1.f5, I x1.f6, LL I x1.f7, I x1.f8, I x1.f9, I x1.f10, LL S x1.f11, B x1.f12] false), (232, RR 39 2 a38 x2.1 0 false)] 91) ?_
      refine co 63 [] (h77 x1 p2 p1) (fun x16 => ?_)
      refine se (mkE [(2, I p2), (4, .ba 32 0), (5, .ba 40 0), (10, .ba 80 0), (11, .own 232 0), (12, I x2.2), (13, B x3.1), (14, I x3.2), (16, I y15.1), (17, I y15.2), (18, .own 504 0), (19, LL a105 p3), (20, I (lenL p3)), (21, I z0)] [(32, .box [S p0.f0, S p0.f1, I p0.f2, LL S p0.f3] false), (40, .box [I p1.f0, I p1.f1] false), (80, .box [S x1.f0, S x1.f1, I x1.f2, I x1.f3, I x1.f4, I x1.f5, I x1.f6, LL I x1.f7, I x1.f8, I x1.f9, I x1.f10, LL S x1.f11, B x1.f12] false), (232, RR 39 2 a38 x2.1 0 false), (504, RR 39 2 a38 x16 0 false)] 91) ?_
      refine pN ?_
      refine pS ?_
      refine gS 0 ?_
      refine gR 11 (rg Try.f22 11) ?_
      refine sg 4 (mkE [(67, B (neI x2.2 y15.1)), (66, B (neI x2.2 y15.1)), (65, I y15.1), (64, I x2.2), (2, I p2), (4, .ba 32 0), (5, .ba 40 0), (10, .ba 80 0), (11, .own 232 0), (12, I x2.2), (13, B x3.1), (14, I x3.2), (16, I y15.1), (17, I y15.2), (18, .own 504 0), (19, LL a105 p3), (20, I (lenL p3)), (21, I z0)] [(32, .box [S p0.f0, S p0.f1, I p0.f2, LL S p0.f3] false), (40, .box [I p1.f0, I p1.f1] false), (80, .box [S x1.f0, S x1.f1, I x1.f2, I x1.f3, I x1.f4, I x1.f5, I x1.f6, LL I x1.f7, I x1.f8, I x1.f9, I x1.f10, LL S x1.f11, B x1.f12] false), (232, RR 39 2 a38 x2.1 0 false), (504, RR 39 2 a38 x16 0 false)] 91) ?_
      refine sb 67 (neI x2.2 y15.1) ?_ ?_
      · refine se (mkE [(2, I p2), (4, .ba 32 0), (5, .ba 40 0), (19, LL a105 p3), (20, I (lenL p3)), (21, I z0), (88, B true)] [(32, .box [S p0.f0, S p0.f1, I p0.f2, LL S p0.f3] false), (40, .box [I p1.f0, I p1.f1] false)] 91) ?_
        refine pN ?_
        refine pS ?_
        refine gT (.tmp 88) ?_
        refine gS 0 ?_
        refine gR 12 (rg Try.f22 12) ?_
        refine se (mkE [(8, B false)] [] 91) ?_
        refine pN ?_
        refine pS ?_
        refine gE ?_
        exact pL
      · refine sg 6 (mkE [(69, .own 504 0), (68, .own 232 0), (67, B false), (67, B (neI x2.2 y15.1)), (66, B (neI x2.2 y15.1)), (65, I y15.1), (64, I x2.2), (2, I p2), (4, .ba 32 0), (5, .ba 40 0), (10, .ba 80 0), (11, .own 232 0), (12, I x2.2), (13, B x3.1), (14, I x3.2), (16, I y15.1), (17, I y15.2), (18, .own 504 0), (19, LL a105 p3), (20, I (lenL p3)), (21, I z0)] [(32, .box [S p0.f0, S p0.f1, I p0.f2, LL S p0.f3] false), (40, .box [I p1.f0, I p1.f1] false), (80, .box [S x1.f0, S x1.f1, I x1.f2, I x1.f3, I x1.f4, I x1.f5, I x1.f6, LL I x1.f7, I x1.f8, I x1.f9, I x1.f10, LL S x1.f11, B x1.f12] false), (232, RR 39 2 a38 x2.1 0 false), (504, RR 39 2 a38 x16 0 false)] 91) ?_
        refine co 70 [232, 504] (h78 x2.1 x16) (fun x17 => ?_)
        refine sg 10 (mkE [(73, B (!x17)), (72, B (!x17)), (71, B (!x17)), (70, B x17), (69, .own 504 0), (68, .own 232 0), (67, B false), (67, B (neI x2.2 y15.1)), (66, B (neI x2.2 y15.1)), (65, I y15.1), (64, I x2.2), (2, I p2), (4, .ba 32 0), (5, .ba 40 0), (10, .ba 80 0), (11, .own 232 0), (12, I x2.2), (13, B x3.1), (14, I x3.2), (16, I y15.1), (17, I y15.2), (18, .own 504 0), (19, LL a105 p3), (20, I (lenL p3)), (21, I z0)] [(32, .box [S p0.f0, S p0.f1, I p0.f2, LL S p0.f3] false), (40, .box [I p1.f0, I p1.f1] false), (80, .box [S x1.f0, S x1.f1, I x1.f2, I x1.f3, I x1.f4, I x1.f5, I x1.f6, LL I x1.f7, I x1.f8, I x1.f9, I x1.f10, LL S x1.f11, B x1.f12] false), (232, RR 39 2 a38 x2.1 0 false), (504, RR 39 2 a38 x16 0 false)] 91) ?_
        refine sb 73 (!x17) ?_ ?_
        · refine se (mkE [(2, I p2), (4, .ba 32 0), (5, .ba 40 0), (19, LL a105 p3), (20, I (lenL p3)), (21, I z0), (88, B true)] [(32, .box [S p0.f0, S p0.f1, I p0.f2, LL S p0.f3] false), (40, .box [I p1.f0, I p1.f1] false)] 91) ?_
          refine pN ?_
          refine pS ?_
          refine gT (.tmp 88) ?_
          refine gS 0 ?_
          refine gR 12 (rg Try.f22 12) ?_
          refine se (mkE [(8, B false)] [] 91) ?_
          refine pN ?_
          refine pS ?_
          refine gE ?_
          exact pL
        · refine sg 15 (mkE [(78, B (neI x3.2 y15.2)), (77, B (neI x3.2 y15.2)), (76, B (neI x3.2 y15.2)), (75, I y15.2), (74, I x3.2), (73, B false), (73, B (!x17)), (72, B (!x17)), (71, B (!x17)), (70, B x17), (69, .own 504 0), (68, .own 232 0), (67, B false), (67, B (neI x2.2 y15.1)), (66, B (neI x2.2 y15.1)), (65, I y15.1), (64, I x2.2), (2, I p2), (4, .ba 32 0), (5, .ba 40 0), (10, .ba 80 0), (11, .own 232 0), (12, I x2.2), (13, B x3.1), (14, I x3.2), (16, I y15.1), (17, I y15.2), (18, .own 504 0), (19, LL a105 p3), (20, I (lenL p3)), (21, I z0)] [(32, .box [S p0.f0, S p0.f1, I p0.f2, LL S p0.f3] false), (40, .box [I p1.f0, I p1.f1] false), (80, .box [S x1.f0, S x1.f1, I x1.f2, I x1.f3, I x1.f4, I x1.f5, I x1.f6, LL I x1.f7, I x1.f8, I x1.f9, I x1.f10, LL S x1.f11, B x1.f12] false), (232, RR 39 2 a38 x2.1 0 false), (504, RR 39 2 a38 x16 0 false)] 91) ?_
          refine sb 78 (neI x3.2 y15.2) ?_ ?_
          · refine se (mkE [(2, I p2), (4, .ba 32 0), (5, .ba 40 0), (19, LL a105 p3), (20, I (lenL p3)), (21, I z0), (88, B true)] [(32, .box [S p0.f0, S p0.f1, I p0.f2, LL S p0.f3] false), (40, .box [I p1.f0, I p1.f1] false)] 91) ?_
            refine pN ?_
            refine pS ?_
            refine gT (.tmp 88) ?_
            refine gS 0 ?_
            refine gR 12 (rg Try.f22 12) ?_
            refine se (mkE [(8, B false)] [] 91) ?_
            refine pN ?_
            refine pS ?_
            refine gE ?_
            exact pL
          · refine sg 19 (mkE [(82, B (eqI y15.2 0)), (81, B (eqI y15.2 0)), (80, I y15.2), (79, B x3.1), (78, B false), (78, B (neI x3.2 y15.2)), (77, B (neI x3.2 y15.2)), (76, B (neI x3.2 y15.2)), (75, I y15.2), (74, I x3.2), (73, B false), (73, B (!x17)), (72, B (!x17)), (71, B (!x17)), (70, B x17), (69, .own 504 0), (68, .own 232 0), (67, B false), (67, B (neI x2.2 y15.1)), (66, B (neI x2.2 y15.1)), (65, I y15.1), (64, I x2.2), (2, I p2), (4, .ba 32 0), (5, .ba 40 0), (10, .ba 80 0), (11, .own 232 0), (12, I x2.2), (13, B x3.1), (14, I x3.2), (16, I y15.1), (17, I y15.2), (18, .own 504 0), (19, LL a105 p3), (20, I (lenL p3)), (21, I z0)] [(32, .box [S p0.f0, S p0.f1, I p0.f2, LL S p0.f3] false), (40, .box [I p1.f0, I p1.f1] false), (80, .box [S x1.f0, S x1.f1, I x1.f2, I x1.f3, I x1.f4, I x1.f5, I x1.f6, LL I x1.f7, I x1.f8, I x1.f9, I x1.f10, LL S x1.f11, B x1.f12] false), (232, RR 39 2 a38 x2.1 0 false), (504, RR 39 2 a38 x16 0 false)] 91) ?_
            refine sb 82 (eqI y15.2 0) ?_ ?_
            · refine sg 21 (mkE [(84, a36 p0), (83, a105 x1), (82, B true), (82, B (eqI y15.2 0)), (81, B (eqI y15.2 0)), (80, I y15.2), (79, B x3.1), (78, B false), (78, B (neI x3.2 y15.2)), (77, B (neI x3.2 y15.2)), (76, B (neI x3.2 y15.2)), (75, I y15.2), (74, I x3.2), (73, B false), (73, B (!x17)), (72, B (!x17)), (71, B (!x17)), (70, B x17), (69, .own 504 0), (68, .own 232 0), (67, B false), (67, B (neI x2.2 y15.1)), (66, B (neI x2.2 y15.1)), (65, I y15.1), (64, I x2.2), (2, I p2), (4, .ba 32 0), (5, .ba 40 0), (10, .ba 80 0), (11, .own 232 0), (12, I x2.2), (13, B x3.1), (14, I x3.2), (16, I y15.1), (17, I y15.2), (18, .own 504 0), (19, LL a105 p3), (20, I (lenL p3)), (21, I z0)] [(32, .box [S p0.f0, S p0.f1, I p0.f2, LL S p0.f3] false), (40, .box [I p1.f0, I p1.f1] false), (80, .box [S x1.f0, S x1.f1, I x1.f2, I x1.f3, I x1.f4, I x1.f5, I x1.f6, LL I x1.f7, I x1.f8, I x1.f9, I x1.f10, LL S x1.f11, B x1.f12] false), (232, RR 39 2 a38 x2.1 0 false), (504, RR 39 2 a38 x16 0 false)] 91) ?_
              refine co 85 [] (h79 x1 p0) (fun x18 => ?_)
              refine se (mkE [(2, I p2), (4, .ba 32 0), (5, .ba 40 0), (19, LL a105 p3), (20, I (lenL p3)), (21, I z0), (88, B (x3.1 != x18))] [(32, .box [S p0.f0, S p0.f1, I p0.f2, LL S p0.f3] false), (40, .box [I p1.f0, I p1.f1] false)] 91) ?_
              refine pN ?_
              refine pS ?_
              refine gC 88 (x3.1 != x18) ?_ ?_
              · refine gS 0 ?_
                refine gR 12 (rg Try.f22 12) ?_
                refine se (mkE [(8, B false)] [] 91) ?_
                refine pN ?_
                refine pS ?_
                refine gE ?_
                exact pL
              · refine gK ?_
                refine pB ?_
                refine pN ?_
                refine pS ?_
                refine gR 13 (rg Try.f22 13) ?_
                refine se (mkE [(2, I p2), (4, .ba 32 0), (5, .ba 40 0), (19, LL a105 p3), (20, I (lenL p3)), (21, I (addI .i64 z0 1))] [(32, .box [S p0.f0, S p0.f1, I p0.f2, LL S p0.f3] false), (40, .box [I p1.f0, I p1.f1] false)] 91) ?_
                exact pL
            · refine se (mkE [(2, I p2), (4, .ba 32 0), (5, .ba 40 0), (19, LL a105 p3), (20, I (lenL p3)), (21, I z0), (88, B (x3.1 != false))] [(32, .box [S p0.f0, S p0.f1, I p0.f2, LL S p0.f3] false), (40, .box [I p1.f0, I p1.f1] false)] 91) ?_
              refine pN ?_
              refine pS ?_
              refine gC 88 (x3.1 != false) ?_ ?_
              · refine gS 0 ?_
                refine gR 12 (rg Try.f22 12) ?_
                refine se (mkE [(8, B false)] [] 91) ?_
                refine pN ?_
                refine pS ?_
                refine gE ?_
                exact pL
              · refine gK ?_
                refine pB ?_
                refine pN ?_
                refine pS ?_
                refine gR 13 (rg Try.f22 13) ?_
                refine se (mkE [(2, I p2), (4, .ba 32 0), (5, .ba 40 0), (19, LL a105 p3), (20, I (lenL p3)), (21, I (addI .i64 z0 1))] [(32, .box [S p0.f0, S p0.f1, I p0.f2, LL S p0.f3] false), (40, .box [I p1.f0, I p1.f1] false)] 91) ?_
                exact pL
    · refine gK ?_
      refine pN ?_
      refine pS ?_
      refine gS 0 ?_
      refine gR 11 (rg Try.f22 11) ?_
      refine sg 4 (mkE [(67, B (neI x2.2 y15.1)), (66, B (neI x2.2 y15.1)), (65, I y15.1), (64, I x2.2), (2, I p2), (4, .ba 32 0), (5, .ba 40 0), (10, .ba 80 0), (11, .own 232 0), (12, I x2.2), (13, B x3.1), (14, I x3.2), (16, I y15.1), (17, I y15.2), (18, .nils), (19, LL a105 p3), (20, I (lenL p3)), (21, I z0), (59, B (eqI y15.1 0))] [(32, .box [S p0.f0, S p0.f1, I p0.f2, LL S p0.f3] false), (40, .box [I p1.f0, I p1.f1] false), (80, .box [S x1.f0, S x1.f1, I x1.f2, I x1.f3, I x1.f4, I x1.f5, I x1.f6, LL I x1.f7, I x1.f8, I x1.f9, I x1.f10, LL S x1.f11, B x1.f12] false), (232, RR 39 2 a38 x2.1 0 false)] 91) ?_
      refine sb 67 (neI x2.2 y15.1) ?_ ?_
      · refine se (mkE [(2, I p2), (4, .ba 32 0), (5, .ba 40 0), (19, LL a105 p3), (20, I (lenL p3)), (21, I z0), (88, B true)] [(32, .box [S p0.f0, S p0.f1, I p0.f2, LL S p0.f3] false), (40, .box [I p1.f0, I p1.f1] false)] 91) ?_
        refine pN ?_
        refine pS ?_
        refine gT (.tmp 88) ?_
        refine gS 0 ?_
        refine gR 12 (rg Try.f22 12) ?_
        refine se (mkE [(8, B false)] [] 91) ?_
        refine pN ?_
        refine pS ?_
        refine gE ?_
        exact pL
      · refine sg 6 (mkE [(69, .nils), (68, .own 232 0), (67, B false), (67, B (neI x2.2 y15.1)), (66, B (neI x2.2 y15.1)), (65, I y15.1), (64, I x2.2), (2, I p2), (4, .ba 32 0), (5, .ba 40 0), (10, .ba 80 0), (11, .own 232 0), (12, I x2.2), (13, B x3.1), (14, I x3.2), (16, I y15.1), (17, I y15.2), (18, .nils), (19, LL a105 p3), (20, I (lenL p3)), (21, I z0), (59, B (eqI y15.1 0))] [(32, .box [S p0.f0, S p0.f1, I p0.f2, LL S p0.f3] false), (40, .box [I p1.f0, I p1.f1] false), (80, .box [S x1.f0, S x1.f1, I x1.f2, I x1.f3, I x1.f4, I x1.f5, I x1.f6, LL I x1.f7, I x1.f8, I x1.f9, I x1.f10, LL S x1.f11, B x1.f12] false), (232, RR 39 2 a38 x2.1 0 false)] 91) ?_
        refine co 70 [232] (h78 x2.1 []) (fun x19 => ?_)
        refine sg 10 (mkE [(73, B (!x19)), (72, B (!x19)), (71, B (!x19)), (70, B x19), (69, .nils), (68, .own 232 0), (67, B false), (67, B (neI x2.2 y15.1)), (66, B (neI x2.2 y15.1)), (65, I y15.1), (64, I x2.2), (2, I p2), (4, .ba 32 0), (5, .ba 40 0), (10, .ba 80 0), (11, .own 232 0), (12, I x2.2), (13, B x3.1), (14, I x3.2), (16, I y15.1), (17, I y15.2), (18, .nils), (19, LL a105 p3), (20, I (lenL p3)), (21, I z0), (59, B (eqI y15.1 0))] [(32, .box [S p0.f0, S p0.f1, I p0.f2, LL S p0.f3] false), (40, .box [I p1.f0, I p1.f1] false), (80, .box [S x1.f0, S x1.f1, I x1.f2, I x1.f3, I x1.f4, I x1.f5, I x1.f6, LL I x1.f7, I x1.f8, I x1.f9, I x1.f10, LL S x1.f11, B x1.f12] false), (232, RR 39 2 a38 x2.1 0 false)] 91) ?_
        refine sb 73 (!x19) ?_ ?_
        · refine se (mkE [(2, I p2), (4, .ba 32 0), (5, .ba 40 0), (19, LL a105 p3), (20, I (lenL p3)), (21, I z0), (88, B true)] [(32, .box [S p0.f0, S p0.f1, I p0.f2, LL S p0.f3] false), (40, .box [I p1.f0, I p1.f1] false)] 91) ?_
          refine pN ?_
          refine pS ?_
          refine gT (.tmp 88) ?_
          refine gS 0 ?_
          refine gR 12 (rg Try.f22 12) ?_
          refine se (mkE [(8, B false)] [] 91) ?_
          refine pN ?_
          refine pS ?_
          refine gE ?_
          exact pL
        · refine sg 15 (mkE [(78, B (neI x3.2 y15.2)), (77, B (neI x3.2 y15.2)), (76, B (neI x3.2 y15.2)), (75, I y15.2), (74, I x3.2), (73, B false), (73, B (!x19)), (72, B (!x19)), (71, B (!x19)), (70, B x19), (69, .nils), (68, .own 232 0), (67, B false), (67, B (neI x2.2 y15.1)), (66, B (neI x2.2 y15.1)), (65, I y15.1), (64, I x2.2), (2, I p2), (4, .ba 32 0), (5, .ba 40 0), (10, .ba 80 0), (11, .own 232 0), (12, I x2.2), (13, B x3.1), (14, I x3.2), (16, I y15.1), (17, I y15.2), (18, .nils), (19, LL a105 p3), (20, I (lenL p3)), (21, I z0), (59, B (eqI y15.1 0))] [(32, .box [S p0.f0, S p0.f1, I p0.f2, LL S p0.f3] false), (40, .box [I p1.f0, I p1.f1] false), (80, .box [S x1.f0, S x1.f1, I x1.f2, I x1.f3, I x1.f4, I x1.f5, I x1.f6, LL I x1.f7, I x1.f8, I x1.f9, I x1.f10, LL S x1.f11, B x1.f12] false), (232, RR 39 2 a38 x2.1 0 false)] 91) ?_
          refine sb 78 (neI x3.2 y15.2) ?_ ?_
          · refine se (mkE [(2, I p2), (4, .ba 32 0), (5, .ba 40 0), (19, LL a105 p3), (20, I (lenL p3)), (21, I z0), (88, B true)] [(32, .box [S p0.f0, S p0.f1, I p0.f2, LL S p0.f3] false), (40, .box [I p1.f0, I p1.f1] false)] 91) ?_
            refine pN ?_
            refine pS ?_
            refine gT (.tmp 88) ?_
            refine gS 0 ?_
            refine gR 12 (rg Try.f22 12) ?_
            refine se (mkE [(8, B false)] [] 91) ?_
            refine pN ?_
            refine pS ?_
            refine gE ?_
            exact pL
          · refine sg 19 (mkE [(82, B (eqI y15.2 0)), (81, B (eqI y15.2 0)), (80, I y15.2), (79, B x3.1), (78, B false), (78, B (neI x3.2 y15.2)), (77, B (neI x3.2 y15.2)), (76, B (neI x3.2 y15.2)), (75, I y15.2), (74, I x3.2), (73, B false), (73, B (!x19)), (72, B (!x19)), (71, B (!x19)), (70, B x19), (69, .nils), (68, .own 232 0), (67, B false), (67, B (neI x2.2 y15.1)), (66, B (neI x2.2 y15.1)), (65, I y15.1), (64, I x2.2), (2, I p2), (4, .ba 32 0), (5, .ba 40 0), (10, .ba 80 0), (11, .own 232 0), (12, I x2.2), (13, B x3.1), (14, I x3.2), (16, I y15.1), (17, I y15.2), (18, .nils), (19, LL a105 p3), (20, I (lenL p3)), (21, I z0), (59, B (eqI y15.1 0))] [(32, .box [S p0.f0, S p0.f1, I p0.f2, LL S p0.f3] false), (40, .box [I p1.f0, I p1.f1] false), (80, .box [S x1.f0, S x1.f1, I x1.f2, I x1.f3, I x1.f4, I x1.f5, I x1.f6, LL I x1.f7, I x1.f8, I x1.f9, I x1.f10, LL S x1.f11, B x1.f12] false), (232, RR 39 2 a38 x2.1 0 false)] 91) ?_
            refine sb 82 (eqI y15.2 0) ?_ ?_
            · refine sg 21 (mkE [(84, a36 p0), (83, a105 x1), (82, B true), (82, B (eqI y15.2 0)), (81, B (eqI y15.2 0)), (80, I y15.2), (79, B x3.1), (78, B false), (78, B (neI x3.2 y15.2)), (77, B (neI x3.2 y15.2)), (76, B (neI x3.2 y15.2)), (75, I y15.2), (74, I x3.2), (73, B false), (73, B (!x19)), (72, B (!x19)), (71, B (!x19)), (70, B x19), (69, .nils), (68, .own 232 0), (67, B false), (67, B (neI x2.2 y15.1)), (66, B (neI x2.2 y15.1)), (65, I y15.1), (64, I x2.2), (2, I p2), (4, .ba 32 0), (5, .ba 40 0), (10, .ba 80 0), (11, .own 232 0), (12, I x2.2), (13, B x3.1), (14, I x3.2), (16, I y15.1), (17, I y15.2), (18, .nils), (19, LL a105 p3), (20, I (lenL p3)), (21, I z0), (59, B (eqI y15.1 0))] [(32, .box [S p0.f0, S p0.f1, I p0.f2, LL S p0.f3] false), (40, .box [I p1.f0, I p1.f1] false), (80, .box [S x1.f0, S x1.f1, I x1.f2, I x1.f3, I x1.f4, I x1.f5, I x1.f6, LL I x1.f7, I x1.f8, I x1.f9, I x1.f10, LL S x1.f11, B x1.f12] false), (232, RR 39 2 a38 x2.1 0 false)] 91) ?_
              refine co 85 [] (h79 x1 p0) (fun x20 => ?_)
              refine se (mkE [(2, I p2), (4, .ba 32 0), (5, .ba 40 0), (19, LL a105 p3), (20, I (lenL p3)), (21, I z0), (88, B (x3.1 != x20))] [(32, .box [S p0.f0, S p0.f1, I p0.f2, LL S p0.f3] false), (40, .box [I p1.f0, I p1.f1] false)] 91) ?_
              refine pN ?_
              refine pS ?_
              refine gC 88 (x3.1 != x20) ?_ ?_
              · refine gS 0 ?_
                refine gR 12 (rg Try.f22 12) ?_
                refine se (mkE [(8, B false)] [] 91) ?_
                refine pN ?_
                refine pS ?_
                refine gE ?_
                exact pL
              · refine gK ?_
                refine pB ?_
                refine pN ?_
                refine pS ?_
                refine gR 13 (rg Try.f22 13) ?_
                refine se (mkE [(2, I p2), (4, .ba 32 0), (5, .ba 40 0), (19, LL a105 p3), (20, I (lenL p3)), (21, I (addI .i64 z0 1))] [(32, .box [S p0.f0, S p0.f1, I p0.f2, LL S p0.f3] false), (40, .box [I p1.f0, I p1.f1] false)] 91) ?_
                exact pL
            · refine se (mkE [(2, I p2), (4, .ba 32 0), (5, .ba 40 0), (19, LL a105 p3), (20, I (lenL p3)), (21, I z0), (88, B (x3.1 != false))] [(32, .box [S p0.f0, S p0.f1, I p0.f2, LL S p0.f3] false), (40, .box [I p1.f0, I p1.f1] false)] 91) ?_
              refine pN ?_
              refine pS ?_
              refine gC 88 (x3.1 != false) ?_ ?_
              · refine gS 0 ?_
                refine gR 12 (rg Try.f22 12) ?_
                refine se (mkE [(8, B false)] [] 91) ?_
                refine pN ?_
                refine pS ?_
                refine gE ?_
                exact pL
              · refine gK ?_
                refine pB ?_
                refine pN ?_
                refine pS ?_
                refine gR 13 (rg Try.f22 13) ?_
                refine se (mkE [(2, I p2), (4, .ba 32 0), (5, .ba 40 0), (19, LL a105 p3), (20, I (lenL p3)), (21, I (addI .i64 z0 1))] [(32, .box [S p0.f0, S p0.f1, I p0.f2, LL S p0.f3] false), (40, .box [I p1.f0, I p1.f1] false)] 91) ?_
                exact pL
  · refine gX 0 ?_
    exact pL
noncomputable def T22 (p0 : S36) (p1 : S38) (p2 : Int) (p3 : (List S105)) : Option Bool := ((iter (L22_2 p0 p1 p2 p3) 0).bind fun y21 => (Sum.elim (fun y21a => ((T80).bind fun x22 => (some x22))) (fun y21b => (some false)) y21))
theorem B22 (C : Callee) (h49 : ∀ (p0 : (List Int)), C 49 [LL I p0] = (T49 p0).map I) (h50 : ∀ (p0 : Bool) (p1 : Int), C 50 [B p0, I p1] = (T50 p0 p1).map I) (h72 : ∀ (p0 : S105) (p1 : Int) (p2 : S38), C 72 [a105 p0, I p1, a38 p2] = (T72 p0 p1 p2).map (fun r => AV.tup [(fun l => AV.fr 39 2 (List.map a38 l)) r.1, I r.2])) (h73 : ∀ (p0 : S105) (p1 : S36), C 73 [a105 p0, a36 p1] = (T73 p0 p1).map (fun r => AV.tup [B r.1, I r.2])) (h74 : ∀ (p0 : (List S105)), C 74 [LL a105 p0] = (T74 p0).map I) (h75 : ∀ (p0 : S38), C 75 [a38 p0] = (T75 p0).map I) (h76 : ∀ (p0 : S36), C 76 [a36 p0] = (T76 p0).map I) (h77 : ∀ (p0 : S105) (p1 : Int) (p2 : S38), C 77 [a105 p0, I p1, a38 p2] = (T77 p0 p1 p2).map (fun l => AV.fr 39 2 (List.map a38 l))) (h78 : ∀ (p0 : (List S38)) (p1 : (List S38)), C 78 [LL a38 p0, LL a38 p1] = (T78 p0 p1).map B) (h79 : ∀ (p0 : S105) (p1 : S36), C 79 [a105 p0, a36 p1] = (T79 p0 p1).map B) (h80 : C 80 [] = (T80).map B) (p0 : S36) (p1 : S38) (p2 : Int) (p3 : (List S105)) : runs Try.prog C (cfg.fn 22) (finFn Try.prog (cfg.fn 22).byval Try.f22) [] (execA Try.prog C (cfg.fn 22) (nr Try.f22 []) (frame0 [a36 p0, a38 p1, I p2, LL a105 p3] 91)) = (T22 p0 p1 p2 p3).map B := by
  unfold T22
  refine gS 1 ?_
  refine gR 0 (rg Try.f22 0) ?_
  refine se (mkE [(2, I p2), (3, LL a105 p3), (4, .ba 32 0), (5, .ba 40 0)] [(32, .box [S p0.f0, S p0.f1, I p0.f2, LL S p0.f3] false), (40, .box [I p1.f0, I p1.f1] false)] 91) ?_
  refine pN ?_
  refine pS ?_
  refine gS 14 ?_
  refine gS 2 ?_
  refine gR 1 (rg Try.f22 1) ?_
  refine sg 1 (mkE [(19, LL a105 p3), (2, I p2), (3, LL a105 p3), (4, .ba 32 0), (5, .ba 40 0)] [(32, .box [S p0.f0, S p0.f1, I p0.f2, LL S p0.f3] false), (40, .box [I p1.f0, I p1.f1] false)] 91) ?_
  refine eo 20 (I (lenL p3)) (lenE 40 a105 p3) ?_
  refine se (mkE [(2, I p2), (4, .ba 32 0), (5, .ba 40 0), (19, LL a105 p3), (20, I (lenL p3)), (21, I 0)] [(32, .box [S p0.f0, S p0.f1, I p0.f2, LL S p0.f3] false), (40, .box [I p1.f0, I p1.f1] false)] 91) ?_
  refine pN ?_
  refine pS ?_
  refine gB 0 ?_
  refine lo [(2, none), (4, none), (5, none), (19, none), (20, none), (21, none)] [] (L22_2 p0 p1 p2 p3) (fun z0 : Int => (mkE [(2, I p2), (4, .ba 32 0), (5, .ba 40 0), (19, LL a105 p3), (20, I (lenL p3)), (21, I z0)] [(32, .box [S p0.f0, S p0.f1, I p0.f2, LL S p0.f3] false), (40, .box [I p1.f0, I p1.f1] false)] 91)) (Sum.elim (fun (x : (Int × Bool)) => (.exit 0, (mkE [(2, I p2), (4, .ba 32 0), (5, .ba 40 0), (19, LL a105 p3), (20, I (lenL p3)), (21, I x.1), (22, B x.2)] [(32, .box [S p0.f0, S p0.f1, I p0.f2, LL S p0.f3] false), (40, .box [I p1.f0, I p1.f1] false)] 91))) (fun (x : Unit) => (.ret, (mkE [(8, B false)] [] 91)))) 0 (fun z => L22_2_ok C h49 h50 h72 h73 h74 h75 h76 h77 h78 h79 p0 p1 p2 p3 z) ?_
  intro y21
  refine ss y21 (Z := (Sum.elim (fun (x : (Int × Bool)) => (.exit 0, (mkE [(2, I p2), (4, .ba 32 0), (5, .ba 40 0), (19, LL a105 p3), (20, I (lenL p3)), (21, I x.1), (22, B x.2)] [(32, .box [S p0.f0, S p0.f1, I p0.f2, LL S p0.f3] false), (40, .box [I p1.f0, I p1.f1] false)] 91))) (fun (x : Unit) => (.ret, (mkE [(8, B false)] [] 91))))) (fun y21a => ?_) (fun y21b => ?_)
  · refine pH ?_
    refine pN ?_
    refine pS ?_
    refine gS 0 ?_
    refine gR 14 (rg Try.f22 14) ?_
    refine co 90 [] (h80) (fun x22 => ?_)
    refine se (mkE [(8, B x22)] [] 91) ?_
    refine pN ?_
    refine pS ?_
    refine gE ?_
    exact pL
  · exact pL
theorem F22 (m : Nat) (hm : 9 ≤ m) (p0 : S36) (p1 : S38) (p2 : Int) (p3 : (List S105)) : callA Try.prog cfg m 22 [a36 p0, a38 p1, I p2, LL a105 p3] = (T22 p0 p1 p2 p3).map B := by
  obtain ⟨q, rfl⟩ : ∃ q, m = q + 1 := ⟨m - 1, by omega⟩
  exact (callA_body (fn := Try.f22) (c := body_ Try.f22) q _ (by kernel_rfl) (by kernel_rfl) (by kernel_rfl)).trans (B22 _ (fun p0 => F49 q (by omega) p0) (fun p0 p1 => F50 q (by omega) p0 p1) (fun p0 p1 p2 => F72 q (by omega) p0 p1 p2) (fun p0 p1 => F73 q (by omega) p0 p1) (fun p0 => F74 q (by omega) p0) (fun p0 => F75 q (by omega) p0) (fun p0 => F76 q (by omega) p0) (fun p0 p1 p2 => F77 q (by omega) p0 p1 p2) (fun p0 p1 => F78 q (by omega) p0 p1) (fun p0 p1 => F79 q (by omega) p0 p1) (F80 q (by omega)) p0 p1 p2 p3)

noncomputable def L69_4 (p0 : (List ByteArray)) (p1 : (List ByteArray)) (z0 : Int) : Option (Int ⊕ ((Int × Bool) ⊕ Unit)) := (bif (ltI z0 (lenL p0)) then ((listAt p0 z0).bind fun x1 => ((listAt p1 z0).bind fun x2 => (bif (!eqS x1 x2) then (some (.inr (.inr ()))) else (some (.inl (addI .i64 z0 1)))))) else (some (.inr (.inl (z0, (ltI z0 (lenL p0)))))))
theorem L69_4_ok (C : Callee) (p0 : (List ByteArray)) (p1 : (List ByteArray)) (z0 : Int) : runs Try.prog C (cfg.fn 69) (finLoop ((cfg.fn 69).keep 4) ((cfg.fn 69).al 4)) [] (execA Try.prog C (cfg.fn 69) (nr Try.f69 [false, false, true, false, true, true]) ((fun z0 : Int => (mkE [(0, LL S p0), (1, LL S p1), (12, I (lenL p0)), (13, I z0)] [] 26)) z0)) = (L69_4 p0 p1 z0).map (Sum.elim (fun z => .inl ((fun z0 : Int => (mkE [(0, LL S p0), (1, LL S p1), (12, I (lenL p0)), (13, I z0)] [] 26)) z)) (fun x => .inr ((Sum.elim (fun (x : (Int × Bool)) => (.exit 0, (mkE [(0, LL S p0), (1, LL S p1), (12, I (lenL p0)), (13, I x.1), (14, B x.2)] [] 26))) (fun (x : Unit) => (.ret, (mkE [(4, B false)] [] 26)))) x))) := by
  unfold L69_4
  refine gS 0 ?_
  refine gR 4 (rg Try.f69 4) ?_
  refine se (mkE [(0, LL S p0), (1, LL S p1), (12, I (lenL p0)), (13, I z0), (14, B (ltI z0 (lenL p0)))] [] 26) ?_
  refine pN ?_
  refine pS ?_
  refine gS 5 ?_
  refine gC 14 (ltI z0 (lenL p0)) ?_ ?_
  · refine gK ?_
    refine pN ?_
    refine pS ?_
    refine gS 8 ?_
    refine gB 1 ?_
    refine gS 6 ?_
    refine gR 5 (rg Try.f69 5) ?_
    refine se (mkE [(0, LL S p0), (1, LL S p1), (5, I z0), (12, I (lenL p0)), (13, I z0)] [] 26) ?_
    refine pN ?_
    refine pS ?_
    refine gS 0 ?_
    refine gD 6 9 (rg Try.f69 6) [0, 1, 2, 3, 4, 5, 6, 7, 8] ?_
    refine dg 2 [(some 16, qe (LL S p0)), (some 17, qe (I z0))] ?_
    refine dv 18 (mkE [(17, I z0), (16, LL S p0), (0, LL S p0), (1, LL S p1), (5, I z0), (12, I (lenL p0)), (13, I z0)] [] 26) (addrE 35 9 1 S .i64 p0 z0) (fun x1 => ?_)
    refine dg 6 [(some 16, qe (LL S p0)), (some 17, qe (I z0)), (some 18, qe (.ia [S x1] 0)), (some 19, qe (S x1)), (some 20, qe (LL S p1)), (some 21, qe (I z0))] ?_
    refine dv 22 (mkE [(21, I z0), (20, LL S p1), (0, LL S p0), (1, LL S p1), (5, I z0), (12, I (lenL p0)), (13, I z0)] [] 26) (addrE 35 9 1 S .i64 p1 z0) (fun x2 => ?_)
    refine dg 9 [(some 16, qe (LL S p0)), (some 17, qe (I z0)), (some 18, qe (.ia [S x1] 0)), (some 19, qe (S x1)), (some 20, qe (LL S p1)), (some 21, qe (I z0)), (some 22, qe (.ia [S x2] 0)), (some 23, qe (S x2)), (some 24, qe (B (!eqS x1 x2)))] ?_
    refine de (mkE [(24, B (!eqS x1 x2)), (23, S x2), (22, .ia [S x2] 0), (21, I z0), (20, LL S p1), (19, S x1), (18, .ia [S x1] 0), (17, I z0), (16, LL S p0), (0, LL S p0), (1, LL S p1), (5, I z0), (12, I (lenL p0)), (13, I z0)] [] 26) ?_
    refine se (mkE [(0, LL S p0), (1, LL S p1), (12, I (lenL p0)), (13, I z0), (24, B (!eqS x1 x2))] [] 26) ?_
    refine pN ?_
    refine pS ?_
    refine gC 24 (!eqS x1 x2) ?_ ?_
    · refine gS 0 ?_
      refine gR 7 (rg Try.f69 7) ?_
      refine se (mkE [(4, B false)] [] 26) ?_
      refine pN ?_
      refine pS ?_
      refine gE ?_
      exact pL
    · refine gK ?_
      refine pB ?_
      refine pN ?_
      refine pS ?_
      refine gR 8 (rg Try.f69 8) ?_
      refine se (mkE [(0, LL S p0), (1, LL S p1), (12, I (lenL p0)), (13, I (addI .i64 z0 1))] [] 26) ?_
      exact pL
  · refine gX 0 ?_
    exact pL
noncomputable def T69 (p0 : (List ByteArray)) (p1 : (List ByteArray)) : Option Bool := (bif (neI (lenL p0) (lenL p1)) then (some false) else ((iter (L69_4 p0 p1) 0).bind fun y3 => (Sum.elim (fun y3a => (some true)) (fun y3b => (some false)) y3)))
theorem B69 (C : Callee) (p0 : (List ByteArray)) (p1 : (List ByteArray)) : runs Try.prog C (cfg.fn 69) (finFn Try.prog (cfg.fn 69).byval Try.f69) [] (execA Try.prog C (cfg.fn 69) (nr Try.f69 []) (frame0 [LL S p0, LL S p1] 26)) = (T69 p0 p1).map B := by
  unfold T69
  refine gS 1 ?_
  refine gR 0 (rg Try.f69 0) ?_
  refine se (mkE [(0, LL S p0), (1, LL S p1)] [] 26) ?_
  refine pN ?_
  refine pS ?_
  refine gS 3 ?_
  refine gS 0 ?_
  refine gR 1 (rg Try.f69 1) ?_
  refine sg 1 (mkE [(6, LL S p0), (0, LL S p0), (1, LL S p1)] [] 26) ?_
  refine eo 7 (I (lenL p0)) (lenE 35 S p0) ?_
  refine sg 3 (mkE [(8, LL S p1), (7, I (lenL p0)), (6, LL S p0), (0, LL S p0), (1, LL S p1)] [] 26) ?_
  refine eo 9 (I (lenL p1)) (lenE 35 S p1) ?_
  refine se (mkE [(0, LL S p0), (1, LL S p1), (10, B (neI (lenL p0) (lenL p1)))] [] 26) ?_
  refine pN ?_
  refine pS ?_
  refine gC 10 (neI (lenL p0) (lenL p1)) ?_ ?_
  · refine gS 0 ?_
    refine gR 2 (rg Try.f69 2) ?_
    refine se (mkE [(4, B false)] [] 26) ?_
    refine pN ?_
    refine pS ?_
    refine gE ?_
    exact pL
  · refine gK ?_
    refine pN ?_
    refine pS ?_
    refine gS 9 ?_
    refine gS 4 ?_
    refine gR 3 (rg Try.f69 3) ?_
    refine sg 1 (mkE [(11, LL S p0), (0, LL S p0), (1, LL S p1), (10, B (neI (lenL p0) (lenL p1)))] [] 26) ?_
    refine eo 12 (I (lenL p0)) (lenE 35 S p0) ?_
    refine se (mkE [(0, LL S p0), (1, LL S p1), (12, I (lenL p0)), (13, I 0)] [] 26) ?_
    refine pN ?_
    refine pS ?_
    refine gB 0 ?_
    refine lo [(0, none), (1, none), (12, none), (13, none)] [] (L69_4 p0 p1) (fun z0 : Int => (mkE [(0, LL S p0), (1, LL S p1), (12, I (lenL p0)), (13, I z0)] [] 26)) (Sum.elim (fun (x : (Int × Bool)) => (.exit 0, (mkE [(0, LL S p0), (1, LL S p1), (12, I (lenL p0)), (13, I x.1), (14, B x.2)] [] 26))) (fun (x : Unit) => (.ret, (mkE [(4, B false)] [] 26)))) 0 (fun z => L69_4_ok C p0 p1 z) ?_
    intro y3
    refine ss y3 (Z := (Sum.elim (fun (x : (Int × Bool)) => (.exit 0, (mkE [(0, LL S p0), (1, LL S p1), (12, I (lenL p0)), (13, I x.1), (14, B x.2)] [] 26))) (fun (x : Unit) => (.ret, (mkE [(4, B false)] [] 26))))) (fun y3a => ?_) (fun y3b => ?_)
    · refine pH ?_
      refine pN ?_
      refine pS ?_
      refine gS 0 ?_
      refine gR 9 (rg Try.f69 9) ?_
      refine se (mkE [(4, B true)] [] 26) ?_
      refine pN ?_
      refine pS ?_
      refine gE ?_
      exact pL
    · exact pL
theorem F69 (m : Nat) (hm : 1 ≤ m) (p0 : (List ByteArray)) (p1 : (List ByteArray)) : callA Try.prog cfg m 69 [LL S p0, LL S p1] = (T69 p0 p1).map B := by
  obtain ⟨q, rfl⟩ : ∃ q, m = q + 1 := ⟨m - 1, by omega⟩
  exact (callA_body (fn := Try.f69) (c := body_ Try.f69) q _ (by kernel_rfl) (by kernel_rfl) (by kernel_rfl)).trans (B69 _ p0 p1)

noncomputable def T82 (p0 : S36) (p1 : S36) : Option Bool := (bif (eqS p0.f0 p1.f0) then (bif (eqS p0.f1 p1.f1) then (bif (eqI p0.f2 p1.f2) then ((T69 p0.f3 p1.f3).bind fun x1 => (some x1)) else (some false)) else (some false)) else (some false))
theorem B82 (C : Callee) (h69 : ∀ (p0 : (List ByteArray)) (p1 : (List ByteArray)), C 69 [LL S p0, LL S p1] = (T69 p0 p1).map B) (p0 : S36) (p1 : S36) : runs Try.prog C (cfg.fn 82) (finFn Try.prog (cfg.fn 82).byval Try.f82) [] (execA Try.prog C (cfg.fn 82) (nr Try.f82 []) (frame0 [a36 p0, a36 p1] 31)) = (T82 p0 p1).map B := by
  unfold T82
  refine gS 1 ?_
  refine gR 0 (rg Try.f82 0) ?_
  refine se (mkE [(2, .ba 16 0), (3, .ba 24 0)] [(16, .box [S p0.f0, S p0.f1, I p0.f2, LL S p0.f3] false), (24, .box [S p1.f0, S p1.f1, I p1.f2, LL S p1.f3] false)] 31) ?_
  refine pN ?_
  refine pS ?_
  refine gS 0 ?_
  refine gR 1 (rg Try.f82 1) ?_
  refine sg 6 (mkE [(10, B (eqS p0.f0 p1.f0)), (9, B (eqS p0.f0 p1.f0)), (8, S p1.f0), (7, .ba 24 0), (6, S p0.f0), (5, .ba 16 0), (2, .ba 16 0), (3, .ba 24 0)] [(16, .box [S p0.f0, S p0.f1, I p0.f2, LL S p0.f3] false), (24, .box [S p1.f0, S p1.f1, I p1.f2, LL S p1.f3] false)] 31) ?_
  refine sb 10 (eqS p0.f0 p1.f0) ?_ ?_
  · refine sg 13 (mkE [(17, B (eqS p0.f1 p1.f1)), (16, B (eqS p0.f1 p1.f1)), (15, B (eqS p0.f1 p1.f1)), (14, S p1.f1), (13, .ba 24 1), (12, S p0.f1), (11, .ba 16 1), (10, B true), (10, B (eqS p0.f0 p1.f0)), (9, B (eqS p0.f0 p1.f0)), (8, S p1.f0), (7, .ba 24 0), (6, S p0.f0), (5, .ba 16 0), (2, .ba 16 0), (3, .ba 24 0)] [(16, .box [S p0.f0, S p0.f1, I p0.f2, LL S p0.f3] false), (24, .box [S p1.f0, S p1.f1, I p1.f2, LL S p1.f3] false)] 31) ?_
    refine sb 17 (eqS p0.f1 p1.f1) ?_ ?_
    · refine sg 20 (mkE [(24, B (eqI p0.f2 p1.f2)), (23, B (eqI p0.f2 p1.f2)), (22, B (eqI p0.f2 p1.f2)), (21, I p1.f2), (20, .ba 24 2), (19, I p0.f2), (18, .ba 16 2), (17, B true), (17, B (eqS p0.f1 p1.f1)), (16, B (eqS p0.f1 p1.f1)), (15, B (eqS p0.f1 p1.f1)), (14, S p1.f1), (13, .ba 24 1), (12, S p0.f1), (11, .ba 16 1), (10, B true), (10, B (eqS p0.f0 p1.f0)), (9, B (eqS p0.f0 p1.f0)), (8, S p1.f0), (7, .ba 24 0), (6, S p0.f0), (5, .ba 16 0), (2, .ba 16 0), (3, .ba 24 0)] [(16, .box [S p0.f0, S p0.f1, I p0.f2, LL S p0.f3] false), (24, .box [S p1.f0, S p1.f1, I p1.f2, LL S p1.f3] false)] 31) ?_
      refine sb 24 (eqI p0.f2 p1.f2) ?_ ?_
      · refine sg 24 (mkE [(28, LL S p1.f3), (27, .ba 24 3), (26, LL S p0.f3), (25, .ba 16 3), (24, B true), (24, B (eqI p0.f2 p1.f2)), (23, B (eqI p0.f2 p1.f2)), (22, B (eqI p0.f2 p1.f2)), (21, I p1.f2), (20, .ba 24 2), (19, I p0.f2), (18, .ba 16 2), (17, B true), (17, B (eqS p0.f1 p1.f1)), (16, B (eqS p0.f1 p1.f1)), (15, B (eqS p0.f1 p1.f1)), (14, S p1.f1), (13, .ba 24 1), (12, S p0.f1), (11, .ba 16 1), (10, B true), (10, B (eqS p0.f0 p1.f0)), (9, B (eqS p0.f0 p1.f0)), (8, S p1.f0), (7, .ba 24 0), (6, S p0.f0), (5, .ba 16 0), (2, .ba 16 0), (3, .ba 24 0)] [(16, .box [S p0.f0, S p0.f1, I p0.f2, LL S p0.f3] false), (24, .box [S p1.f0, S p1.f1, I p1.f2, LL S p1.f3] false)] 31) ?_
        refine co 29 [] (h69 p0.f3 p1.f3) (fun x1 => ?_)
        refine se (mkE [(4, B x1)] [] 31) ?_
        refine pN ?_
        refine pS ?_
        refine gE ?_
        exact pL
      · refine se (mkE [(4, B false)] [] 31) ?_
        refine pN ?_
        refine pS ?_
        refine gE ?_
        exact pL
    · refine se (mkE [(4, B false)] [] 31) ?_
      refine pN ?_
      refine pS ?_
      refine gE ?_
      exact pL
  · refine se (mkE [(4, B false)] [] 31) ?_
    refine pN ?_
    refine pS ?_
    refine gE ?_
    exact pL
theorem F82 (m : Nat) (hm : 2 ≤ m) (p0 : S36) (p1 : S36) : callA Try.prog cfg m 82 [a36 p0, a36 p1] = (T82 p0 p1).map B := by
  obtain ⟨q, rfl⟩ : ∃ q, m = q + 1 := ⟨m - 1, by omega⟩
  exact (callA_body (fn := Try.f82) (c := body_ Try.f82) q _ (by kernel_rfl) (by kernel_rfl) (by kernel_rfl)).trans (B82 _ (fun p0 p1 => F69 q (by omega) p0 p1) p0 p1)

noncomputable def L81_4 (p0 : (List S36)) (p1 : (List S36)) (z0 : Int) : Option (Int ⊕ ((Int × Bool) ⊕ Unit)) := (bif (ltI z0 (lenL p0)) then ((listAt p0 z0).bind fun x1 => ((listAt p1 z0).bind fun x2 => ((T82 x1 x2).bind fun x3 => (bif (!x3) then (some (.inr (.inr ()))) else (some (.inl (addI .i64 z0 1))))))) else (some (.inr (.inl (z0, (ltI z0 (lenL p0)))))))
theorem L81_4_ok (C : Callee) (h82 : ∀ (p0 : S36) (p1 : S36), C 82 [a36 p0, a36 p1] = (T82 p0 p1).map B) (p0 : (List S36)) (p1 : (List S36)) (z0 : Int) : runs Try.prog C (cfg.fn 81) (finLoop ((cfg.fn 81).keep 4) ((cfg.fn 81).al 4)) [] (execA Try.prog C (cfg.fn 81) (nr Try.f81 [false, false, true, false, true, true]) ((fun z0 : Int => (mkE [(1, LL a36 p1), (2, .fn 82 []), (15, LL a36 p0), (16, I (lenL p0)), (17, I z0)] [] 32)) z0)) = (L81_4 p0 p1 z0).map (Sum.elim (fun z => .inl ((fun z0 : Int => (mkE [(1, LL a36 p1), (2, .fn 82 []), (15, LL a36 p0), (16, I (lenL p0)), (17, I z0)] [] 32)) z)) (fun x => .inr ((Sum.elim (fun (x : (Int × Bool)) => (.exit 0, (mkE [(1, LL a36 p1), (2, .fn 82 []), (15, LL a36 p0), (16, I (lenL p0)), (17, I x.1), (18, B x.2)] [] 32))) (fun (x : Unit) => (.ret, (mkE [(6, B false)] [] 32)))) x))) := by
  unfold L81_4
  refine gS 0 ?_
  refine gR 4 (rg Try.f81 4) ?_
  refine se (mkE [(1, LL a36 p1), (2, .fn 82 []), (15, LL a36 p0), (16, I (lenL p0)), (17, I z0), (18, B (ltI z0 (lenL p0)))] [] 32) ?_
  refine pN ?_
  refine pS ?_
  refine gS 5 ?_
  refine gC 18 (ltI z0 (lenL p0)) ?_ ?_
  · refine gK ?_
    refine pN ?_
    refine pS ?_
    refine gS 9 ?_
    refine gB 1 ?_
    refine gS 6 ?_
    refine gR 5 (rg Try.f81 5) ?_
    refine sg 1 (mkE [(19, I z0), (1, LL a36 p1), (2, .fn 82 []), (15, LL a36 p0), (16, I (lenL p0)), (17, I z0), (18, B (ltI z0 (lenL p0)))] [] 32) ?_
    refine vo 20 (addrE 41 37 4 a36 .i64 p0 z0) (fun x1 => ?_)
    refine se (mkE [(1, LL a36 p1), (2, .fn 82 []), (7, I z0), (8, .ba 64 0), (15, LL a36 p0), (16, I (lenL p0)), (17, I z0)] [(64, .box [S x1.f0, S x1.f1, I x1.f2, LL S x1.f3] false)] 32) ?_
    refine pN ?_
    refine pS ?_
    refine gS 7 ?_
    refine gR 6 (rg Try.f81 6) ?_
    refine sg 2 (mkE [(23, I z0), (22, LL a36 p1), (1, LL a36 p1), (2, .fn 82 []), (7, I z0), (8, .ba 64 0), (15, LL a36 p0), (16, I (lenL p0)), (17, I z0)] [(64, .box [S x1.f0, S x1.f1, I x1.f2, LL S x1.f3] false)] 32) ?_
    refine vo 24 (addrE 41 37 4 a36 .i64 p1 z0) (fun x2 => ?_)
    refine se (mkE [(1, LL a36 p1), (2, .fn 82 []), (8, .ba 64 0), (9, .ba 72 0), (15, LL a36 p0), (16, I (lenL p0)), (17, I z0)] [(64, .box [S x1.f0, S x1.f1, I x1.f2, LL S x1.f3] false), (72, .box [S x2.f0, S x2.f1, I x2.f2, LL S x2.f3] false)] 32) ?_
    refine pN ?_
    refine pS ?_
    refine gS 0 ?_
    refine gR 7 (rg Try.f81 7) ?_
    refine sg 3 (mkE [(28, a36 x2), (27, a36 x1), (26, .fn 82 []), (1, LL a36 p1), (2, .fn 82 []), (8, .ba 64 0), (9, .ba 72 0), (15, LL a36 p0), (16, I (lenL p0)), (17, I z0)] [(64, .box [S x1.f0, S x1.f1, I x1.f2, LL S x1.f3] false), (72, .box [S x2.f0, S x2.f1, I x2.f2, LL S x2.f3] false)] 32) ?_
    refine co 29 [] (h82 x1 x2) (fun x3 => ?_)
    refine se (mkE [(1, LL a36 p1), (2, .fn 82 []), (15, LL a36 p0), (16, I (lenL p0)), (17, I z0), (30, B (!x3))] [] 32) ?_
    refine pN ?_
    refine pS ?_
    refine gC 30 (!x3) ?_ ?_
    · refine gS 0 ?_
      refine gR 8 (rg Try.f81 8) ?_
      refine se (mkE [(6, B false)] [] 32) ?_
      refine pN ?_
      refine pS ?_
      refine gE ?_
      exact pL
    · refine gK ?_
      refine pB ?_
      refine pN ?_
      refine pS ?_
      refine gR 9 (rg Try.f81 9) ?_
      refine se (mkE [(1, LL a36 p1), (2, .fn 82 []), (15, LL a36 p0), (16, I (lenL p0)), (17, I (addI .i64 z0 1))] [] 32) ?_
      exact pL
  · refine gX 0 ?_
    exact pL
noncomputable def T81 (p0 : (List S36)) (p1 : (List S36)) : Option Bool := (bif (neI (lenL p0) (lenL p1)) then (some false) else ((iter (L81_4 p0 p1) 0).bind fun y4 => (Sum.elim (fun y4a => (some true)) (fun y4b => (some false)) y4)))
theorem B81 (C : Callee) (h82 : ∀ (p0 : S36) (p1 : S36), C 82 [a36 p0, a36 p1] = (T82 p0 p1).map B) (p0 : (List S36)) (p1 : (List S36)) : runs Try.prog C (cfg.fn 81) (finFn Try.prog (cfg.fn 81).byval Try.f81) [] (execA Try.prog C (cfg.fn 81) (nr Try.f81 []) (frame0 [LL a36 p0, LL a36 p1, .fn 82 []] 32)) = (T81 p0 p1).map B := by
  unfold T81
  refine gS 1 ?_
  refine gR 0 (rg Try.f81 0) ?_
  refine se (mkE [(0, LL a36 p0), (1, LL a36 p1), (2, .fn 82 [])] [] 32) ?_
  refine pN ?_
  refine pS ?_
  refine gS 3 ?_
  refine gS 0 ?_
  refine gR 1 (rg Try.f81 1) ?_
  refine sg 1 (mkE [(10, LL a36 p0), (0, LL a36 p0), (1, LL a36 p1), (2, .fn 82 [])] [] 32) ?_
  refine eo 11 (I (lenL p0)) (lenE 41 a36 p0) ?_
  refine sg 3 (mkE [(12, LL a36 p1), (11, I (lenL p0)), (10, LL a36 p0), (0, LL a36 p0), (1, LL a36 p1), (2, .fn 82 [])] [] 32) ?_
  refine eo 13 (I (lenL p1)) (lenE 41 a36 p1) ?_
  refine se (mkE [(0, LL a36 p0), (1, LL a36 p1), (2, .fn 82 []), (14, B (neI (lenL p0) (lenL p1)))] [] 32) ?_
  refine pN ?_
  refine pS ?_
  refine gC 14 (neI (lenL p0) (lenL p1)) ?_ ?_
  · refine gS 0 ?_
    refine gR 2 (rg Try.f81 2) ?_
    refine se (mkE [(6, B false)] [] 32) ?_
    refine pN ?_
    refine pS ?_
    refine gE ?_
    exact pL
  · refine gK ?_
    refine pN ?_
    refine pS ?_
    refine gS 10 ?_
    refine gS 4 ?_
    refine gR 3 (rg Try.f81 3) ?_
    refine sg 1 (mkE [(15, LL a36 p0), (0, LL a36 p0), (1, LL a36 p1), (2, .fn 82 []), (14, B (neI (lenL p0) (lenL p1)))] [] 32) ?_
    refine eo 16 (I (lenL p0)) (lenE 41 a36 p0) ?_
    refine se (mkE [(1, LL a36 p1), (2, .fn 82 []), (15, LL a36 p0), (16, I (lenL p0)), (17, I 0)] [] 32) ?_
    refine pN ?_
    refine pS ?_
    refine gB 0 ?_
    refine lo [(1, none), (2, none), (15, none), (16, none), (17, none)] [] (L81_4 p0 p1) (fun z0 : Int => (mkE [(1, LL a36 p1), (2, .fn 82 []), (15, LL a36 p0), (16, I (lenL p0)), (17, I z0)] [] 32)) (Sum.elim (fun (x : (Int × Bool)) => (.exit 0, (mkE [(1, LL a36 p1), (2, .fn 82 []), (15, LL a36 p0), (16, I (lenL p0)), (17, I x.1), (18, B x.2)] [] 32))) (fun (x : Unit) => (.ret, (mkE [(6, B false)] [] 32)))) 0 (fun z => L81_4_ok C h82 p0 p1 z) ?_
    intro y4
    refine ss y4 (Z := (Sum.elim (fun (x : (Int × Bool)) => (.exit 0, (mkE [(1, LL a36 p1), (2, .fn 82 []), (15, LL a36 p0), (16, I (lenL p0)), (17, I x.1), (18, B x.2)] [] 32))) (fun (x : Unit) => (.ret, (mkE [(6, B false)] [] 32))))) (fun y4a => ?_) (fun y4b => ?_)
    · refine pH ?_
      refine pN ?_
      refine pS ?_
      refine gS 0 ?_
      refine gR 10 (rg Try.f81 10) ?_
      refine se (mkE [(6, B true)] [] 32) ?_
      refine pN ?_
      refine pS ?_
      refine gE ?_
      exact pL
    · exact pL
theorem F81 (m : Nat) (hm : 3 ≤ m) (p0 : (List S36)) (p1 : (List S36)) : callA Try.prog cfg m 81 [LL a36 p0, LL a36 p1, .fn 82 []] = (T81 p0 p1).map B := by
  obtain ⟨q, rfl⟩ : ∃ q, m = q + 1 := ⟨m - 1, by omega⟩
  exact (callA_body (fn := Try.f81) (c := body_ Try.f81) q _ (by kernel_rfl) (by kernel_rfl) (by kernel_rfl)).trans (B81 _ (fun p0 p1 => F82 q (by omega) p0 p1) p0 p1)

noncomputable def T23 (p0 : (List S36)) (p1 : (List S36)) : Option Bool := ((T81 p0 p1).bind fun x1 => (some x1))
theorem B23 (C : Callee) (h81 : ∀ (p0 : (List S36)) (p1 : (List S36)), C 81 [LL a36 p0, LL a36 p1, .fn 82 []] = (T81 p0 p1).map B) (p0 : (List S36)) (p1 : (List S36)) : runs Try.prog C (cfg.fn 23) (finFn Try.prog (cfg.fn 23).byval Try.f23) [] (execA Try.prog C (cfg.fn 23) (nr Try.f23 []) (frame0 [LL a36 p0, LL a36 p1] 8)) = (T23 p0 p1).map B := by
  unfold T23
  refine gS 1 ?_
  refine gR 0 (rg Try.f23 0) ?_
  refine se (mkE [(0, LL a36 p0), (1, LL a36 p1)] [] 8) ?_
  refine pN ?_
  refine pS ?_
  refine gS 0 ?_
  refine gR 1 (rg Try.f23 1) ?_
  refine sg 2 (mkE [(6, LL a36 p1), (5, LL a36 p0), (0, LL a36 p0), (1, LL a36 p1)] [] 8) ?_
  refine co 7 [] (h81 p0 p1) (fun x1 => ?_)
  refine se (mkE [(4, B x1)] [] 8) ?_
  refine pN ?_
  refine pS ?_
  refine gE ?_
  exact pL
theorem F23 (m : Nat) (hm : 4 ≤ m) (p0 : (List S36)) (p1 : (List S36)) : callA Try.prog cfg m 23 [LL a36 p0, LL a36 p1] = (T23 p0 p1).map B := by
  obtain ⟨q, rfl⟩ : ∃ q, m = q + 1 := ⟨m - 1, by omega⟩
  exact (callA_body (fn := Try.f23) (c := body_ Try.f23) q _ (by kernel_rfl) (by kernel_rfl) (by kernel_rfl)).trans (B23 _ (fun p0 p1 => F81 q (by omega) p0 p1) p0 p1)

noncomputable def L112_4 (p0 : (List Int)) (p1 : (List Int)) (z0 : Int) : Option (Int ⊕ ((Int × Bool) ⊕ Unit)) := (bif (ltI z0 (lenL p0)) then ((listAt p0 z0).bind fun x1 => ((listAt p1 z0).bind fun x2 => (bif (neI x1 x2) then (some (.inr (.inr ()))) else (some (.inl (addI .i64 z0 1)))))) else (some (.inr (.inl (z0, (ltI z0 (lenL p0)))))))
theorem L112_4_ok (C : Callee) (p0 : (List Int)) (p1 : (List Int)) (z0 : Int) : runs Try.prog C (cfg.fn 112) (finLoop ((cfg.fn 112).keep 4) ((cfg.fn 112).al 4)) [] (execA Try.prog C (cfg.fn 112) (nr Try.f112 [false, false, true, false, true, true]) ((fun z0 : Int => (mkE [(0, LL I p0), (1, LL I p1), (12, I (lenL p0)), (13, I z0)] [] 26)) z0)) = (L112_4 p0 p1 z0).map (Sum.elim (fun z => .inl ((fun z0 : Int => (mkE [(0, LL I p0), (1, LL I p1), (12, I (lenL p0)), (13, I z0)] [] 26)) z)) (fun x => .inr ((Sum.elim (fun (x : (Int × Bool)) => (.exit 0, (mkE [(0, LL I p0), (1, LL I p1), (12, I (lenL p0)), (13, I x.1), (14, B x.2)] [] 26))) (fun (x : Unit) => (.ret, (mkE [(4, B false)] [] 26)))) x))) := by
  unfold L112_4
  refine gS 0 ?_
  refine gR 4 (rg Try.f112 4) ?_
  refine se (mkE [(0, LL I p0), (1, LL I p1), (12, I (lenL p0)), (13, I z0), (14, B (ltI z0 (lenL p0)))] [] 26) ?_
  refine pN ?_
  refine pS ?_
  refine gS 5 ?_
  refine gC 14 (ltI z0 (lenL p0)) ?_ ?_
  · refine gK ?_
    refine pN ?_
    refine pS ?_
    refine gS 8 ?_
    refine gB 1 ?_
    refine gS 6 ?_
    refine gR 5 (rg Try.f112 5) ?_
    refine se (mkE [(0, LL I p0), (1, LL I p1), (5, I z0), (12, I (lenL p0)), (13, I z0)] [] 26) ?_
    refine pN ?_
    refine pS ?_
    refine gS 0 ?_
    refine gD 6 9 (rg Try.f112 6) [0, 1, 2, 3, 4, 5, 6, 7, 8] ?_
    refine dg 2 [(some 16, qe (LL I p0)), (some 17, qe (I z0))] ?_
    refine dv 18 (mkE [(17, I z0), (16, LL I p0), (0, LL I p0), (1, LL I p1), (5, I z0), (12, I (lenL p0)), (13, I z0)] [] 26) (addrE 104 3 1 I .i64 p0 z0) (fun x1 => ?_)
    refine dg 6 [(some 16, qe (LL I p0)), (some 17, qe (I z0)), (some 18, qe (.ia [I x1] 0)), (some 19, qe (I x1)), (some 20, qe (LL I p1)), (some 21, qe (I z0))] ?_
    refine dv 22 (mkE [(21, I z0), (20, LL I p1), (0, LL I p0), (1, LL I p1), (5, I z0), (12, I (lenL p0)), (13, I z0)] [] 26) (addrE 104 3 1 I .i64 p1 z0) (fun x2 => ?_)
    refine dg 9 [(some 16, qe (LL I p0)), (some 17, qe (I z0)), (some 18, qe (.ia [I x1] 0)), (some 19, qe (I x1)), (some 20, qe (LL I p1)), (some 21, qe (I z0)), (some 22, qe (.ia [I x2] 0)), (some 23, qe (I x2)), (some 24, qe (B (neI x1 x2)))] ?_
    refine de (mkE [(24, B (neI x1 x2)), (23, I x2), (22, .ia [I x2] 0), (21, I z0), (20, LL I p1), (19, I x1), (18, .ia [I x1] 0), (17, I z0), (16, LL I p0), (0, LL I p0), (1, LL I p1), (5, I z0), (12, I (lenL p0)), (13, I z0)] [] 26) ?_
    refine se (mkE [(0, LL I p0), (1, LL I p1), (12, I (lenL p0)), (13, I z0), (24, B (neI x1 x2))] [] 26) ?_
    refine pN ?_
    refine pS ?_
    refine gC 24 (neI x1 x2) ?_ ?_
    · refine gS 0 ?_
      refine gR 7 (rg Try.f112 7) ?_
      refine se (mkE [(4, B false)] [] 26) ?_
      refine pN ?_
      refine pS ?_
      refine gE ?_
      exact pL
    · refine gK ?_
      refine pB ?_
      refine pN ?_
      refine pS ?_
      refine gR 8 (rg Try.f112 8) ?_
      refine se (mkE [(0, LL I p0), (1, LL I p1), (12, I (lenL p0)), (13, I (addI .i64 z0 1))] [] 26) ?_
      exact pL
  · refine gX 0 ?_
    exact pL
noncomputable def T112 (p0 : (List Int)) (p1 : (List Int)) : Option Bool := (bif (neI (lenL p0) (lenL p1)) then (some false) else ((iter (L112_4 p0 p1) 0).bind fun y3 => (Sum.elim (fun y3a => (some true)) (fun y3b => (some false)) y3)))
theorem B112 (C : Callee) (p0 : (List Int)) (p1 : (List Int)) : runs Try.prog C (cfg.fn 112) (finFn Try.prog (cfg.fn 112).byval Try.f112) [] (execA Try.prog C (cfg.fn 112) (nr Try.f112 []) (frame0 [LL I p0, LL I p1] 26)) = (T112 p0 p1).map B := by
  unfold T112
  refine gS 1 ?_
  refine gR 0 (rg Try.f112 0) ?_
  refine se (mkE [(0, LL I p0), (1, LL I p1)] [] 26) ?_
  refine pN ?_
  refine pS ?_
  refine gS 3 ?_
  refine gS 0 ?_
  refine gR 1 (rg Try.f112 1) ?_
  refine sg 1 (mkE [(6, LL I p0), (0, LL I p0), (1, LL I p1)] [] 26) ?_
  refine eo 7 (I (lenL p0)) (lenE 104 I p0) ?_
  refine sg 3 (mkE [(8, LL I p1), (7, I (lenL p0)), (6, LL I p0), (0, LL I p0), (1, LL I p1)] [] 26) ?_
  refine eo 9 (I (lenL p1)) (lenE 104 I p1) ?_
  refine se (mkE [(0, LL I p0), (1, LL I p1), (10, B (neI (lenL p0) (lenL p1)))] [] 26) ?_
  refine pN ?_
  refine pS ?_
  refine gC 10 (neI (lenL p0) (lenL p1)) ?_ ?_
  · refine gS 0 ?_
    refine gR 2 (rg Try.f112 2) ?_
    refine se (mkE [(4, B false)] [] 26) ?_
    refine pN ?_
    refine pS ?_
    refine gE ?_
    exact pL
  · refine gK ?_
    refine pN ?_
    refine pS ?_
    refine gS 9 ?_
    refine gS 4 ?_
    refine gR 3 (rg Try.f112 3) ?_
    refine sg 1 (mkE [(11, LL I p0), (0, LL I p0), (1, LL I p1), (10, B (neI (lenL p0) (lenL p1)))] [] 26) ?_
    refine eo 12 (I (lenL p0)) (lenE 104 I p0) ?_
    refine se (mkE [(0, LL I p0), (1, LL I p1), (12, I (lenL p0)), (13, I 0)] [] 26) ?_
    refine pN ?_
    refine pS ?_
    refine gB 0 ?_
    refine lo [(0, none), (1, none), (12, none), (13, none)] [] (L112_4 p0 p1) (fun z0 : Int => (mkE [(0, LL I p0), (1, LL I p1), (12, I (lenL p0)), (13, I z0)] [] 26)) (Sum.elim (fun (x : (Int × Bool)) => (.exit 0, (mkE [(0, LL I p0), (1, LL I p1), (12, I (lenL p0)), (13, I x.1), (14, B x.2)] [] 26))) (fun (x : Unit) => (.ret, (mkE [(4, B false)] [] 26)))) 0 (fun z => L112_4_ok C p0 p1 z) ?_
    intro y3
    refine ss y3 (Z := (Sum.elim (fun (x : (Int × Bool)) => (.exit 0, (mkE [(0, LL I p0), (1, LL I p1), (12, I (lenL p0)), (13, I x.1), (14, B x.2)] [] 26))) (fun (x : Unit) => (.ret, (mkE [(4, B false)] [] 26))))) (fun y3a => ?_) (fun y3b => ?_)
    · refine pH ?_
      refine pN ?_
      refine pS ?_
      refine gS 0 ?_
      refine gR 9 (rg Try.f112 9) ?_
      refine se (mkE [(4, B true)] [] 26) ?_
      refine pN ?_
      refine pS ?_
      refine gE ?_
      exact pL
    · exact pL
theorem F112 (m : Nat) (hm : 1 ≤ m) (p0 : (List Int)) (p1 : (List Int)) : callA Try.prog cfg m 112 [LL I p0, LL I p1] = (T112 p0 p1).map B := by
  obtain ⟨q, rfl⟩ : ∃ q, m = q + 1 := ⟨m - 1, by omega⟩
  exact (callA_body (fn := Try.f112) (c := body_ Try.f112) q _ (by kernel_rfl) (by kernel_rfl) (by kernel_rfl)).trans (B112 _ p0 p1)

noncomputable def T84 (p0 : S105) (p1 : S105) : Option Bool := (bif (eqS p0.f0 p1.f0) then (bif (eqS p0.f1 p1.f1) then (bif (eqI p0.f2 p1.f2) then (bif (eqI p0.f3 p1.f3) then (bif (eqI p0.f4 p1.f4) then (bif (eqI p0.f5 p1.f5) then (bif (eqI p0.f6 p1.f6) then (bif (eqI p0.f8 p1.f8) then (bif (eqI p0.f9 p1.f9) then (bif (eqI p0.f10 p1.f10) then (bif (p0.f12 == p1.f12) then ((T112 p0.f7 p1.f7).bind fun x1 => (bif x1 then ((T69 p0.f11 p1.f11).bind fun x2 => (some x2)) else (some false))) else (some false)) else (some false)) else (some false)) else (some false)) else (some false)) else (some false)) else (some false)) else (some false)) else (some false)) else (some false)) else (some false))
theorem B84 (C : Callee) (h112 : ∀ (p0 : (List Int)) (p1 : (List Int)), C 112 [LL I p0, LL I p1] = (T112 p0 p1).map B) (h69 : ∀ (p0 : (List ByteArray)) (p1 : (List ByteArray)), C 69 [LL S p0, LL S p1] = (T69 p0 p1).map B) (p0 : S105) (p1 : S105) : runs Try.prog C (cfg.fn 84) (finFn Try.prog (cfg.fn 84).byval Try.f84) [] (execA Try.prog C (cfg.fn 84) (nr Try.f84 []) (frame0 [a105 p0, a105 p1] 94)) = (T84 p0 p1).map B := by
  unfold T84
  refine gS 1 ?_
  refine gR 0 (rg Try.f84 0) ?_
  refine se (mkE [(2, .ba 16 0), (3, .ba 24 0)] [(16, .box [S p0.f0, S p0.f1, I p0.f2, I p0.f3, I p0.f4, I p0.f5, I p0.f6, LL I p0.f7, I p0.f8, I p0.f9, I p0.f10, LL S p0.f11, B p0.f12] false), (24, .box [S p1.f0, S p1.f1, I p1.f2, I p1.f3, I p1.f4, I p1.f5, I p1.f6, LL I p1.f7, I p1.f8, I p1.f9, I p1.f10, LL S p1.f11, B p1.f12] false)] 94) ?_
  refine pN ?_
  refine pS ?_
  refine gS 0 ?_
  refine gR 1 (rg Try.f84 1) ?_
  refine sg 6 (mkE [(10, B (eqS p0.f0 p1.f0)), (9, B (eqS p0.f0 p1.f0)), (8, S p1.f0), (7, .ba 24 0), (6, S p0.f0), (5, .ba 16 0), (2, .ba 16 0), (3, .ba 24 0)] [(16, .box [S p0.f0, S p0.f1, I p0.f2, I p0.f3, I p0.f4, I p0.f5, I p0.f6, LL I p0.f7, I p0.f8, I p0.f9, I p0.f10, LL S p0.f11, B p0.f12] false), (24, .box [S p1.f0, S p1.f1, I p1.f2, I p1.f3, I p1.f4, I p1.f5, I p1.f6, LL I p1.f7, I p1.f8, I p1.f9, I p1.f10, LL S p1.f11, B p1.f12] false)] 94) ?_
  refine sb 10 (eqS p0.f0 p1.f0) ?_ ?_
  · refine sg 13 (mkE [(17, B (eqS p0.f1 p1.f1)), (16, B (eqS p0.f1 p1.f1)), (15, B (eqS p0.f1 p1.f1)), (14, S p1.f1), (13, .ba 24 1), (12, S p0.f1), (11, .ba 16 1), (10, B true), (10, B (eqS p0.f0 p1.f0)), (9, B (eqS p0.f0 p1.f0)), (8, S p1.f0), (7, .ba 24 0), (6, S p0.f0), (5, .ba 16 0), (2, .ba 16 0), (3, .ba 24 0)] [(16, .box [S p0.f0, S p0.f1, I p0.f2, I p0.f3, I p0.f4, I p0.f5, I p0.f6, LL I p0.f7, I p0.f8, I p0.f9, I p0.f10, LL S p0.f11, B p0.f12] false), (24, .box [S p1.f0, S p1.f1, I p1.f2, I p1.f3, I p1.f4, I p1.f5, I p1.f6, LL I p1.f7, I p1.f8, I p1.f9, I p1.f10, LL S p1.f11, B p1.f12] false)] 94) ?_
    refine sb 17 (eqS p0.f1 p1.f1) ?_ ?_
    · refine sg 20 (mkE [(24, B (eqI p0.f2 p1.f2)), (23, B (eqI p0.f2 p1.f2)), (22, B (eqI p0.f2 p1.f2)), (21, I p1.f2), (20, .ba 24 2), (19, I p0.f2), (18, .ba 16 2), (17, B true), (17, B (eqS p0.f1 p1.f1)), (16, B (eqS p0.f1 p1.f1)), (15, B (eqS p0.f1 p1.f1)), (14, S p1.f1), (13, .ba 24 1), (12, S p0.f1), (11, .ba 16 1), (10, B true), (10, B (eqS p0.f0 p1.f0)), (9, B (eqS p0.f0 p1.f0)), (8, S p1.f0), (7, .ba 24 0), (6, S p0.f0), (5, .ba 16 0), (2, .ba 16 0), (3, .ba 24 0)] [(16, .box [S p0.f0, S p0.f1, I p0.f2, I p0.f3, I p0.f4, I p0.f5, I p0.f6, LL I p0.f7, I p0.f8, I p0.f9, I p0.f10, LL S p0.f11, B p0.f12] false), (24, .box [S p1.f0, S p1.f1, I p1.f2, I p1.f3, I p1.f4, I p1.f5, I p1.f6, LL I p1.f7, I p1.f8, I p1.f9, I p1.f10, LL S p1.f11, B p1.f12] false)] 94) ?_
      refine sb 24 (eqI p0.f2 p1.f2) ?_ ?_
      · refine sg 27 (mkE [(31, B (eqI p0.f3 p1.f3)), (30, B (eqI p0.f3 p1.f3)), (29, B (eqI p0.f3 p1.f3)), (28, I p1.f3), (27, .ba 24 3), (26, I p0.f3), (25, .ba 16 3), (24, B true), (24, B (eqI p0.f2 p1.f2)), (23, B (eqI p0.f2 p1.f2)), (22, B (eqI p0.f2 p1.f2)), (21, I p1.f2), (20, .ba 24 2), (19, I p0.f2), (18, .ba 16 2), (17, B true), (17, B (eqS p0.f1 p1.f1)), (16, B (eqS p0.f1 p1.f1)), (15, B (eqS p0.f1 p1.f1)), (14, S p1.f1), (13, .ba 24 1), (12, S p0.f1), (11, .ba 16 1), (10, B true), (10, B (eqS p0.f0 p1.f0)), (9, B (eqS p0.f0 p1.f0)), (8, S p1.f0), (7, .ba 24 0), (6, S p0.f0), (5, .ba 16 0), (2, .ba 16 0), (3, .ba 24 0)] [(16, .box [S p0.f0, S p0.f1, I p0.f2, I p0.f3, I p0.f4, I p0.f5, I p0.f6, LL I p0.f7, I p0.f8, I p0.f9, I p0.f10, LL S p0.f11, B p0.f12] false), (24, .box [S p1.f0, S p1.f1, I p1.f2, I p1.f3, I p1.f4, I p1.f5, I p1.f6, LL I p1.f7, I p1.f8, I p1.f9, I p1.f10, LL S p1.f11, B p1.f12] false)] 94) ?_
        refine sb 31 (eqI p0.f3 p1.f3) ?_ ?_
        · refine sg 34 (mkE [(38, B (eqI p0.f4 p1.f4)), (37, B (eqI p0.f4 p1.f4)), (36, B (eqI p0.f4 p1.f4)), (35, I p1.f4), (34, .ba 24 4), (33, I p0.f4), (32, .ba 16 4), (31, B true), (31, B (eqI p0.f3 p1.f3)), (30, B (eqI p0.f3 p1.f3)), (29, B (eqI p0.f3 p1.f3)), (28, I p1.f3), (27, .ba 24 3), (26, I p0.f3), (25, .ba 16 3), (24, B true), (24, B (eqI p0.f2 p1.f2)), (23, B (eqI p0.f2 p1.f2)), (22, B (eqI p0.f2 p1.f2)), (21, I p1.f2), (20, .ba 24 2), (19, I p0.f2), (18, .ba 16 2), (17, B true), (17, B (eqS p0.f1 p1.f1)), (16, B (eqS p0.f1 p1.f1)), (15, B (eqS p0.f1 p1.f1)), (14, S p1.f1), (13, .ba 24 1), (12, S p0.f1), (11, .ba 16 1), (10, B true), (10, B (eqS p0.f0 p1.f0)), (9, B (eqS p0.f0 p1.f0)), (8, S p1.f0), (7, .ba 24 0), (6, S p0.f0), (5, .ba 16 0), (2, .ba 16 0), (3, .ba 24 0)] [(16, .box [S p0.f0, S p0.f1, I p0.f2, I p0.f3, I p0.f4, I p0.f5, I p0.f6, LL I p0.f7, I p0.f8, I p0.f9, I p0.f10, LL S p0.f11, B p0.f12] false), (24, .box [S p1.f0, S p1.f1, I p1.f2, I p1.f3, I p1.f4, I p1.f5, I p1.f6, LL I p1.f7, I p1.f8, I p1.f9, I p1.f10, LL S p1.f11, B p1.f12] false)] 94) ?_
          refine sb 38 (eqI p0.f4 p1.f4) ?_ ?_
          · refine sg 41 (mkE [(45, B (eqI p0.f5 p1.f5)), (44, B (eqI p0.f5 p1.f5)), (43, B (eqI p0.f5 p1.f5)), (42, I p1.f5), (41, .ba 24 5), (40, I p0.f5), (39, .ba 16 5), (38, B true), (38, B (eqI p0.f4 p1.f4)), (37, B (eqI p0.f4 p1.f4)), (36, B (eqI p0.f4 p1.f4)), (35, I p1.f4), (34, .ba 24 4), (33, I p0.f4), (32, .ba 16 4), (31, B true), (31, B (eqI p0.f3 p1.f3)), (30, B (eqI p0.f3 p1.f3)), (29, B (eqI p0.f3 p1.f3)), (28, I p1.f3), (27, .ba 24 3), (26, I p0.f3), (25, .ba 16 3), (24, B true), (24, B (eqI p0.f2 p1.f2)), (23, B (eqI p0.f2 p1.f2)), (22, B (eqI p0.f2 p1.f2)), (21, I p1.f2), (20, .ba 24 2), (19, I p0.f2), (18, .ba 16 2), (17, B true), (17, B (eqS p0.f1 p1.f1)), (16, B (eqS p0.f1 p1.f1)), (15, B (eqS p0.f1 p1.f1)), (14, S p1.f1), (13, .ba 24 1), (12, S p0.f1), (11, .ba 16 1), (10, B true), (10, B (eqS p0.f0 p1.f0)), (9, B (eqS p0.f0 p1.f0)), (8, S p1.f0), (7, .ba 24 0), (6, S p0.f0), (5, .ba 16 0), (2, .ba 16 0), (3, .ba 24 0)] [(16, .box [S p0.f0, S p0.f1, I p0.f2, I p0.f3, I p0.f4, I p0.f5, I p0.f6, LL I p0.f7, I p0.f8, I p0.f9, I p0.f10, LL S p0.f11, B p0.f12] false), (24, .box [S p1.f0, S p1.f1, I p1.f2, I p1.f3, I p1.f4, I p1.f5, I p1.f6, LL I p1.f7, I p1.f8, I p1.f9, I p1.f10, LL S p1.f11, B p1.f12] false)] 94) ?_
            refine sb 45 (eqI p0.f5 p1.f5) ?_ ?_
            · refine sg 48 (mkE [(52, B (eqI p0.f6 p1.f6)), (51, B (eqI p0.f6 p1.f6)), (50, B (eqI p0.f6 p1.f6)), (49, I p1.f6), (48, .ba 24 6), (47, I p0.f6), (46, .ba 16 6), (45, B true), (45, B (eqI p0.f5 p1.f5)), (44, B (eqI p0.f5 p1.f5)), (43, B (eqI p0.f5 p1.f5)), (42, I p1.f5), (41, .ba 24 5), (40, I p0.f5), (39, .ba 16 5), (38, B true), (38, B (eqI p0.f4 p1.f4)), (37, B (eqI p0.f4 p1.f4)), (36, B (eqI p0.f4 p1.f4)), (35, I p1.f4), (34, .ba 24 4), (33, I p0.f4), (32, .ba 16 4), (31, B true), (31, B (eqI p0.f3 p1.f3)), (30, B (eqI p0.f3 p1.f3)), (29, B (eqI p0.f3 p1.f3)), (28, I p1.f3), (27, .ba 24 3), (26, I p0.f3), (25, .ba 16 3), (24, B true), (24, B (eqI p0.f2 p1.f2)), (23, B (eqI p0.f2 p1.f2)), (22, B (eqI p0.f2 p1.f2)), (21, I p1.f2), (20, .ba 24 2), (19, I p0.f2), (18, .ba 16 2), (17, B true), (17, B (eqS p0.f1 p1.f1)), (16, B (eqS p0.f1 p1.f1)), (15, B (eqS p0.f1 p1.f1)), (14, S p1.f1), (13, .ba 24 1), (12, S p0.f1), (11, .ba 16 1), (10, B true), (10, B (eqS p0.f0 p1.f0)), (9, B (eqS p0.f0 p1.f0)), (8, S p1.f0), (7, .ba 24 0), (6, S p0.f0), (5, .ba 16 0), (2, .ba 16 0), (3, .ba 24 0)] [(16, .box [S p0.f0, S p0.f1, I p0.f2, I p0.f3, I p0.f4, I p0.f5, I p0.f6, LL I p0.f7, I p0.f8, I p0.f9, I p0.f10, LL S p0.f11, B p0.f12] false), (24, .box [S p1.f0, S p1.f1, I p1.f2, I p1.f3, I p1.f4, I p1.f5, I p1.f6, LL I p1.f7, I p1.f8, I p1.f9, I p1.f10, LL S p1.f11, B p1.f12] false)] 94) ?_
              refine sb 52 (eqI p0.f6 p1.f6) ?_ ?_
              · refine sg 55 (mkE [(59, B (eqI p0.f8 p1.f8)), (58, B (eqI p0.f8 p1.f8)), (57, B (eqI p0.f8 p1.f8)), (56, I p1.f8), (55, .ba 24 8), (54, I p0.f8), (53, .ba 16 8), (52, B true), (52, B (eqI p0.f6 p1.f6)), (51, B (eqI p0.f6 p1.f6)), (50, B (eqI p0.f6 p1.f6)), (49, I p1.f6), (48, .ba 24 6), (47, I p0.f6), (46, .ba 16 6), (45, B true), (45, B (eqI p0.f5 p1.f5)), (44, B (eqI p0.f5 p1.f5)), (43, B (eqI p0.f5 p1.f5)), (42, I p1.f5), (41, .ba 24 5), (40, I p0.f5), (39, .ba 16 5), (38, B true), (38, B (eqI p0.f4 p1.f4)), (37, B (eqI p0.f4 p1.f4)), (36, B (eqI p0.f4 p1.f4)), (35, I p1.f4), (34, .ba 24 4), (33, I p0.f4), (32, .ba 16 4), (31, B true), (31, B (eqI p0.f3 p1.f3)), (30, B (eqI p0.f3 p1.f3)), (29, B (eqI p0.f3 p1.f3)), (28, I p1.f3), (27, .ba 24 3), (26, I p0.f3), (25, .ba 16 3), (24, B true), (24, B (eqI p0.f2 p1.f2)), (23, B (eqI p0.f2 p1.f2)), (22, B (eqI p0.f2 p1.f2)), (21, I p1.f2), (20, .ba 24 2), (19, I p0.f2), (18, .ba 16 2), (17, B true), (17, B (eqS p0.f1 p1.f1)), (16, B (eqS p0.f1 p1.f1)), (15, B (eqS p0.f1 p1.f1)), (14, S p1.f1), (13, .ba 24 1), (12, S p0.f1), (11, .ba 16 1), (10, B true), (10, B (eqS p0.f0 p1.f0)), (9, B (eqS p0.f0 p1.f0)), (8, S p1.f0), (7, .ba 24 0), (6, S p0.f0), (5, .ba 16 0), (2, .ba 16 0), (3, .ba 24 0)] [(16, .box [S p0.f0, S p0.f1, I p0.f2, I p0.f3, I p0.f4, I p0.f5, I p0.f6, LL I p0.f7, I p0.f8, I p0.f9, I p0.f10, LL S p0.f11, B p0.f12] false), (24, .box [S p1.f0, S p1.f1, I p1.f2, I p1.f3, I p1.f4, I p1.f5, I p1.f6, LL I p1.f7, I p1.f8, I p1.f9, I p1.f10, LL S p1.f11, B p1.f12] false)] 94) ?_
                refine sb 59 (eqI p0.f8 p1.f8) ?_ ?_
                · refine sg 62 (mkE [(66, B (eqI p0.f9 p1.f9)), (65, B (eqI p0.f9 p1.f9)), (64, B (eqI p0.f9 p1.f9)), (63, I p1.f9), (62, .ba 24 9), (61, I p0.f9), (60, .ba 16 9), (59, B true), (59, B (eqI p0.f8 p1.f8)), (58, B (eqI p0.f8 p1.f8)), (57, B (eqI p0.f8 p1.f8)), (56, I p1.f8), (55, .ba 24 8), (54, I p0.f8), (53, .ba 16 8), (52, B true), (52, B (eqI p0.f6 p1.f6)), (51, B (eqI p0.f6 p1.f6)), (50, B (eqI p0.f6 p1.f6)), (49, I p1.f6), (48, .ba 24 6), (47, I p0.f6), (46, .ba 16 6), (45, B true), (45, B (eqI p0.f5 p1.f5)), (44, B (eqI p0.f5 p1.f5)), (43, B (eqI p0.f5 p1.f5)), (42, I p1.f5), (41, .ba 24 5), (40, I p0.f5), (39, .ba 16 5), (38, B true), (38, B (eqI p0.f4 p1.f4)), (37, B (eqI p0.f4 p1.f4)), (36, B (eqI p0.f4 p1.f4)), (35, I p1.f4), (34, .ba 24 4), (33, I p0.f4), (32, .ba 16 4), (31, B true), (31, B (eqI p0.f3 p1.f3)), (30, B (eqI p0.f3 p1.f3)), (29, B (eqI p0.f3 p1.f3)), (28, I p1.f3), (27, .ba 24 3), (26, I p0.f3), (25, .ba 16 3), (24, B true), (24, B (eqI p0.f2 p1.f2)), (23, B (eqI p0.f2 p1.f2)), (22, B (eqI p0.f2 p1.f2)), (21, I p1.f2), (20, .ba 24 2), (19, I p0.f2), (18, .ba 16 2), (17, B true), (17, B (eqS p0.f1 p1.f1)), (16, B (eqS p0.f1 p1.f1)), (15, B (eqS p0.f1 p1.f1)), (14, S p1.f1), (13, .ba 24 1), (12, S p0.f1), (11, .ba 16 1), (10, B true), (10, B (eqS p0.f0 p1.f0)), (9, B (eqS p0.f0 p1.f0)), (8, S p1.f0), (7, .ba 24 0), (6, S p0.f0), (5, .ba 16 0), (2, .ba 16 0), (3, .ba 24 0)] [(16, .box [S p0.f0, S p0.f1, I p0.f2, I p0.f3, I p0.f4, I p0.f5, I p0.f6, LL I p0.f7, I p0.f8, I p0.f9, I p0.f10, LL S p0.f11, B p0.f12] false), (24, .box [S p1.f0, S p1.f1, I p1.f2, I p1.f3, I p1.f4, I p1.f5, I p1.f6, LL I p1.f7, I p1.f8, I p1.f9, I p1.f10, LL S p1.f11, B p1.f12] false)] 94) ?_
                  refine sb 66 (eqI p0.f9 p1.f9) ?_ ?_
                  · refine sg 69 (mkE [(73, B (eqI p0.f10 p1.f10)), (72, B (eqI p0.f10 p1.f10)), (71, B (eqI p0.f10 p1.f10)), (70, I p1.f10), (69, .ba 24 10), (68, I p0.f10), (67, .ba 16 10), (66, B true), (66, B (eqI p0.f9 p1.f9)), (65, B (eqI p0.f9 p1.f9)), (64, B (eqI p0.f9 p1.f9)), (63, I p1.f9), (62, .ba 24 9), (61, I p0.f9), (60, .ba 16 9), (59, B true), (59, B (eqI p0.f8 p1.f8)), (58, B (eqI p0.f8 p1.f8)), (57, B (eqI p0.f8 p1.f8)), (56, I p1.f8), (55, .ba 24 8), (54, I p0.f8), (53, .ba 16 8), (52, B true), (52, B (eqI p0.f6 p1.f6)), (51, B (eqI p0.f6 p1.f6)), (50, B (eqI p0.f6 p1.f6)), (49, I p1.f6), (48, .ba 24 6), (47, I p0.f6), (46, .ba 16 6), (45, B true), (45, B (eqI p0.f5 p1.f5)), (44, B (eqI p0.f5 p1.f5)), (43, B (eqI p0.f5 p1.f5)), (42, I p1.f5), (41, .ba 24 5), (40, I p0.f5), (39, .ba 16 5), (38, B true), (38, B (eqI p0.f4 p1.f4)), (37, B (eqI p0.f4 p1.f4)), (36, B (eqI p0.f4 p1.f4)), (35, I p1.f4), (34, .ba 24 4), (33, I p0.f4), (32, .ba 16 4), (31, B true), (31, B (eqI p0.f3 p1.f3)), (30, B (eqI p0.f3 p1.f3)), (29, B (eqI p0.f3 p1.f3)), (28, I p1.f3), (27, .ba 24 3), (26, I p0.f3), (25, .ba 16 3), (24, B true), (24, B (eqI p0.f2 p1.f2)), (23, B (eqI p0.f2 p1.f2)), (22, B (eqI p0.f2 p1.f2)), (21, I p1.f2), (20, .ba 24 2), (19, I p0.f2), (18, .ba 16 2), (17, B true), (17, B (eqS p0.f1 p1.f1)), (16, B (eqS p0.f1 p1.f1)), (15, B (eqS p0.f1 p1.f1)), (14, S p1.f1), (13, .ba 24 1), (12, S p0.f1), (11, .ba 16 1), (10, B true), (10, B (eqS p0.f0 p1.f0)), (9, B (eqS p0.f0 p1.f0)), (8, S p1.f0), (7, .ba 24 0), (6, S p0.f0), (5, .ba 16 0), (2, .ba 16 0), (3, .ba 24 0)] [(16, .box [S p0.f0, S p0.f1, I p0.f2, I p0.f3, I p0.f4, I p0.f5, I p0.f6, LL I p0.f7, I p0.f8, I p0.f9, I p0.f10, LL S p0.f11, B p0.f12] false), (24, .box [S p1.f0, S p1.f1, I p1.f2, I p1.f3, I p1.f4, I p1.f5, I p1.f6, LL I p1.f7, I p1.f8, I p1.f9, I p1.f10, LL S p1.f11, B p1.f12] false)] 94) ?_
                    refine sb 73 (eqI p0.f10 p1.f10) ?_ ?_
                    · refine sg 76 (mkE [(80, B (p0.f12 == p1.f12)), (79, B (p0.f12 == p1.f12)), (78, B (p0.f12 == p1.f12)), (77, B p1.f12), (76, .ba 24 12), (75, B p0.f12), (74, .ba 16 12), (73, B true), (73, B (eqI p0.f10 p1.f10)), (72, B (eqI p0.f10 p1.f10)), (71, B (eqI p0.f10 p1.f10)), (70, I p1.f10), (69, .ba 24 10), (68, I p0.f10), (67, .ba 16 10), (66, B true), (66, B (eqI p0.f9 p1.f9)), (65, B (eqI p0.f9 p1.f9)), (64, B (eqI p0.f9 p1.f9)), (63, I p1.f9), (62, .ba 24 9), (61, I p0.f9), (60, .ba 16 9), (59, B true), (59, B (eqI p0.f8 p1.f8)), (58, B (eqI p0.f8 p1.f8)), (57, B (eqI p0.f8 p1.f8)), (56, I p1.f8), (55, .ba 24 8), (54, I p0.f8), (53, .ba 16 8), (52, B true), (52, B (eqI p0.f6 p1.f6)), (51, B (eqI p0.f6 p1.f6)), (50, B (eqI p0.f6 p1.f6)), (49, I p1.f6), (48, .ba 24 6), (47, I p0.f6), (46, .ba 16 6), (45, B true), (45, B (eqI p0.f5 p1.f5)), (44, B (eqI p0.f5 p1.f5)), (43, B (eqI p0.f5 p1.f5)), (42, I p1.f5), (41, .ba 24 5), (40, I p0.f5), (39, .ba 16 5), (38, B true), (38, B (eqI p0.f4 p1.f4)), (37, B (eqI p0.f4 p1.f4)), (36, B (eqI p0.f4 p1.f4)), (35, I p1.f4), (34, .ba 24 4), (33, I p0.f4), (32, .ba 16 4), (31, B true), (31, B (eqI p0.f3 p1.f3)), (30, B (eqI p0.f3 p1.f3)), (29, B (eqI p0.f3 p1.f3)), (28, I p1.f3), (27, .ba 24 3), (26, I p0.f3), (25, .ba 16 3), (24, B true), (24, B (eqI p0.f2 p1.f2)), (23, B (eqI p0.f2 p1.f2)), (22, B (eqI p0.f2 p1.f2)), (21, I p1.f2), (20, .ba 24 2), (19, I p0.f2), (18, .ba 16 2), (17, B true), (17, B (eqS p0.f1 p1.f1)), (16, B (eqS p0.f1 p1.f1)), (15, B (eqS p0.f1 p1.f1)), (14, S p1.f1), (13, .ba 24 1), (12, S p0.f1), (11, .ba 16 1), (10, B true), (10, B (eqS p0.f0 p1.f0)), (9, B (eqS p0.f0 p1.f0)), (8, S p1.f0), (7, .ba 24 0), (6, S p0.f0), (5, .ba 16 0), (2, .ba 16 0), (3, .ba 24 0)] [(16, .box [S p0.f0, S p0.f1, I p0.f2, I p0.f3, I p0.f4, I p0.f5, I p0.f6, LL I p0.f7, I p0.f8, I p0.f9, I p0.f10, LL S p0.f11, B p0.f12] false), (24, .box [S p1.f0, S p1.f1, I p1.f2, I p1.f3, I p1.f4, I p1.f5, I p1.f6, LL I p1.f7, I p1.f8, I p1.f9, I p1.f10, LL S p1.f11, B p1.f12] false)] 94) ?_
                      refine sb 80 (p0.f12 == p1.f12) ?_ ?_
                      · refine sg 80 (mkE [(84, LL I p1.f7), (83, .ba 24 7), (82, LL I p0.f7), (81, .ba 16 7), (80, B true), (80, B (p0.f12 == p1.f12)), (79, B (p0.f12 == p1.f12)), (78, B (p0.f12 == p1.f12)), (77, B p1.f12), (76, .ba 24 12), (75, B p0.f12), (74, .ba 16 12), (73, B true), (73, B (eqI p0.f10 p1.f10)), (72, B (eqI p0.f10 p1.f10)), (71, B (eqI p0.f10 p1.f10)), (70, I p1.f10), (69, .ba 24 10), (68, I p0.f10), (67, .ba 16 10), (66, B true), (66, B (eqI p0.f9 p1.f9)), (65, B (eqI p0.f9 p1.f9)), (64, B (eqI p0.f9 p1.f9)), (63, I p1.f9), (62, .ba 24 9), (61, I p0.f9), (60, .ba 16 9), (59, B true), (59, B (eqI p0.f8 p1.f8)), (58, B (eqI p0.f8 p1.f8)), (57, B (eqI p0.f8 p1.f8)), (56, I p1.f8), (55, .ba 24 8), (54, I p0.f8), (53, .ba 16 8), (52, B true), (52, B (eqI p0.f6 p1.f6)), (51, B (eqI p0.f6 p1.f6)), (50, B (eqI p0.f6 p1.f6)), (49, I p1.f6), (48, .ba 24 6), (47, I p0.f6), (46, .ba 16 6), (45, B true), (45, B (eqI p0.f5 p1.f5)), (44, B (eqI p0.f5 p1.f5)), (43, B (eqI p0.f5 p1.f5)), (42, I p1.f5), (41, .ba 24 5), (40, I p0.f5), (39, .ba 16 5), (38, B true), (38, B (eqI p0.f4 p1.f4)), (37, B (eqI p0.f4 p1.f4)), (36, B (eqI p0.f4 p1.f4)), (35, I p1.f4), (34, .ba 24 4), (33, I p0.f4), (32, .ba 16 4), (31, B true), (31, B (eqI p0.f3 p1.f3)), (30, B (eqI p0.f3 p1.f3)), (29, B (eqI p0.f3 p1.f3)), (28, I p1.f3), (27, .ba 24 3), (26, I p0.f3), (25, .ba 16 3), (24, B true), (24, B (eqI p0.f2 p1.f2)), (23, B (eqI p0.f2 p1.f2)), (22, B (eqI p0.f2 p1.f2)), (21, I p1.f2), (20, .ba 24 2), (19, I p0.f2), (18, .ba 16 2), (17, B true), (17, B (eqS p0.f1 p1.f1)), (16, B (eqS p0.f1 p1.f1)), (15, B (eqS p0.f1 p1.f1)), (14, S p1.f1), (13, .ba 24 1), (12, S p0.f1), (11, .ba 16 1), (10, B true), (10, B (eqS p0.f0 p1.f0)), (9, B (eqS p0.f0 p1.f0)), (8, S p1.f0), (7, .ba 24 0), (6, S p0.f0), (5, .ba 16 0), (2, .ba 16 0), (3, .ba 24 0)] [(16, .box [S p0.f0, S p0.f1, I p0.f2, I p0.f3, I p0.f4, I p0.f5, I p0.f6, LL I p0.f7, I p0.f8, I p0.f9, I p0.f10, LL S p0.f11, B p0.f12] false), (24, .box [S p1.f0, S p1.f1, I p1.f2, I p1.f3, I p1.f4, I p1.f5, I p1.f6, LL I p1.f7, I p1.f8, I p1.f9, I p1.f10, LL S p1.f11, B p1.f12] false)] 94) ?_
                        refine co 85 [] (h112 p0.f7 p1.f7) (fun x1 => ?_)
                        refine sg 83 (mkE [(87, B x1), (86, B x1), (85, B x1), (84, LL I p1.f7), (83, .ba 24 7), (82, LL I p0.f7), (81, .ba 16 7), (80, B true), (80, B (p0.f12 == p1.f12)), (79, B (p0.f12 == p1.f12)), (78, B (p0.f12 == p1.f12)), (77, B p1.f12), (76, .ba 24 12), (75, B p0.f12), (74, .ba 16 12), (73, B true), (73, B (eqI p0.f10 p1.f10)), (72, B (eqI p0.f10 p1.f10)), (71, B (eqI p0.f10 p1.f10)), (70, I p1.f10), (69, .ba 24 10), (68, I p0.f10), (67, .ba 16 10), (66, B true), (66, B (eqI p0.f9 p1.f9)), (65, B (eqI p0.f9 p1.f9)), (64, B (eqI p0.f9 p1.f9)), (63, I p1.f9), (62, .ba 24 9), (61, I p0.f9), (60, .ba 16 9), (59, B true), (59, B (eqI p0.f8 p1.f8)), (58, B (eqI p0.f8 p1.f8)), (57, B (eqI p0.f8 p1.f8)), (56, I p1.f8), (55, .ba 24 8), (54, I p0.f8), (53, .ba 16 8), (52, B true), (52, B (eqI p0.f6 p1.f6)), (51, B (eqI p0.f6 p1.f6)), (50, B (eqI p0.f6 p1.f6)), (49, I p1.f6), (48, .ba 24 6), (47, I p0.f6), (46, .ba 16 6), (45, B true), (45, B (eqI p0.f5 p1.f5)), (44, B (eqI p0.f5 p1.f5)), (43, B (eqI p0.f5 p1.f5)), (42, I p1.f5), (41, .ba 24 5), (40, I p0.f5), (39, .ba 16 5), (38, B true), (38, B (eqI p0.f4 p1.f4)), (37, B (eqI p0.f4 p1.f4)), (36, B (eqI p0.f4 p1.f4)), (35, I p1.f4), (34, .ba 24 4), (33, I p0.f4), (32, .ba 16 4), (31, B true), (31, B (eqI p0.f3 p1.f3)), (30, B (eqI p0.f3 p1.f3)), (29, B (eqI p0.f3 p1.f3)), (28, I p1.f3), (27, .ba 24 3), (26, I p0.f3), (25, .ba 16 3), (24, B true), (24, B (eqI p0.f2 p1.f2)), (23, B (eqI p0.f2 p1.f2)), (22, B (eqI p0.f2 p1.f2)), (21, I p1.f2), (20, .ba 24 2), (19, I p0.f2), (18, .ba 16 2), (17, B true), (17, B (eqS p0.f1 p1.f1)), (16, B (eqS p0.f1 p1.f1)), (15, B (eqS p0.f1 p1.f1)), (14, S p1.f1), (13, .ba 24 1), (12, S p0.f1), (11, .ba 16 1), (10, B true), (10, B (eqS p0.f0 p1.f0)), (9, B (eqS p0.f0 p1.f0)), (8, S p1.f0), (7, .ba 24 0), (6, S p0.f0), (5, .ba 16 0), (2, .ba 16 0), (3, .ba 24 0)] [(16, .box [S p0.f0, S p0.f1, I p0.f2, I p0.f3, I p0.f4, I p0.f5, I p0.f6, LL I p0.f7, I p0.f8, I p0.f9, I p0.f10, LL S p0.f11, B p0.f12] false), (24, .box [S p1.f0, S p1.f1, I p1.f2, I p1.f3, I p1.f4, I p1.f5, I p1.f6, LL I p1.f7, I p1.f8, I p1.f9, I p1.f10, LL S p1.f11, B p1.f12] false)] 94) ?_
                        refine sb 87 x1 ?_ ?_
                        · refine sg 87 (mkE [(91, LL S p1.f11), (90, .ba 24 11), (89, LL S p0.f11), (88, .ba 16 11), (87, B true), (87, B x1), (86, B x1), (85, B x1), (84, LL I p1.f7), (83, .ba 24 7), (82, LL I p0.f7), (81, .ba 16 7), (80, B true), (80, B (p0.f12 == p1.f12)), (79, B (p0.f12 == p1.f12)), (78, B (p0.f12 == p1.f12)), (77, B p1.f12), (76, .ba 24 12), (75, B p0.f12), (74, .ba 16 12), (73, B true), (73, B (eqI p0.f10 p1.f10)), (72, B (eqI p0.f10 p1.f10)), (71, B (eqI p0.f10 p1.f10)), (70, I p1.f10), (69, .ba 24 10), (68, I p0.f10), (67, .ba 16 10), (66, B true), (66, B (eqI p0.f9 p1.f9)), (65, B (eqI p0.f9 p1.f9)), (64, B (eqI p0.f9 p1.f9)), (63, I p1.f9), (62, .ba 24 9), (61, I p0.f9), (60, .ba 16 9), (59, B true), (59, B (eqI p0.f8 p1.f8)), (58, B (eqI p0.f8 p1.f8)), (57, B (eqI p0.f8 p1.f8)), (56, I p1.f8), (55, .ba 24 8), (54, I p0.f8), (53, .ba 16 8), (52, B true), (52, B (eqI p0.f6 p1.f6)), (51, B (eqI p0.f6 p1.f6)), (50, B (eqI p0.f6 p1.f6)), (49, I p1.f6), (48, .ba 24 6), (47, I p0.f6), (46, .ba 16 6), (45, B true), (45, B (eqI p0.f5 p1.f5)), (44, B (eqI p0.f5 p1.f5)), (43, B (eqI p0.f5 p1.f5)), (42, I p1.f5), (41, .ba 24 5), (40, I p0.f5), (39, .ba 16 5), (38, B true), (38, B (eqI p0.f4 p1.f4)), (37, B (eqI p0.f4 p1.f4)), (36, B (eqI p0.f4 p1.f4)), (35, I p1.f4), (34, .ba 24 4), (33, I p0.f4), (32, .ba 16 4), (31, B true), (31, B (eqI p0.f3 p1.f3)), (30, B (eqI p0.f3 p1.f3)), (29, B (eqI p0.f3 p1.f3)), (28, I p1.f3), (27, .ba 24 3), (26, I p0.f3), (25, .ba 16 3), (24, B true), (24, B (eqI p0.f2 p1.f2)), (23, B (eqI p0.f2 p1.f2)), (22, B (eqI p0.f2 p1.f2)), (21, I p1.f2), (20, .ba 24 2), (19, I p0.f2), (18, .ba 16 2), (17, B true), (17, B (eqS p0.f1 p1.f1)), (16, B (eqS p0.f1 p1.f1)), (15, B (eqS p0.f1 p1.f1)), (14, S p1.f1), (13, .ba 24 1), (12, S p0.f1), (11, .ba 16 1), (10, B true), (10, B (eqS p0.f0 p1.f0)), (9, B (eqS p0.f0 p1.f0)), (8, S p1.f0), (7, .ba 24 0), (6, S p0.f0), (5, .ba 16 0), (2, .ba 16 0), (3, .ba 24 0)] [(16, .box [S p0.f0, S p0.f1, I p0.f2, I p0.f3, I p0.f4, I p0.f5, I p0.f6, LL I p0.f7, I p0.f8, I p0.f9, I p0.f10, LL S p0.f11, B p0.f12] false), (24, .box [S p1.f0, S p1.f1, I p1.f2, I p1.f3, I p1.f4, I p1.f5, I p1.f6, LL I p1.f7, I p1.f8, I p1.f9, I p1.f10, LL S p1.f11, B p1.f12] false)] 94) ?_
                          refine co 92 [] (h69 p0.f11 p1.f11) (fun x2 => ?_)
                          refine se (mkE [(4, B x2)] [] 94) ?_
                          refine pN ?_
                          refine pS ?_
                          refine gE ?_
                          exact pL
                        · refine se (mkE [(4, B false)] [] 94) ?_
                          refine pN ?_
                          refine pS ?_
                          refine gE ?_
                          exact pL
                      · refine se (mkE [(4, B false)] [] 94) ?_
                        refine pN ?_
                        refine pS ?_
                        refine gE ?_
                        exact pL
                    · refine se (mkE [(4, B false)] [] 94) ?_
                      refine pN ?_
                      refine pS ?_
                      refine gE ?_
                      exact pL
                  · refine se (mkE [(4, B false)] [] 94) ?_
                    refine pN ?_
                    refine pS ?_
                    refine gE ?_
                    exact pL
                · refine se (mkE [(4, B false)] [] 94) ?_
                  refine pN ?_
                  refine pS ?_
                  refine gE ?_
                  exact pL
              · refine se (mkE [(4, B false)] [] 94) ?_
                refine pN ?_
                refine pS ?_
                refine gE ?_
                exact pL
            · refine se (mkE [(4, B false)] [] 94) ?_
              refine pN ?_
              refine pS ?_
              refine gE ?_
              exact pL
          · refine se (mkE [(4, B false)] [] 94) ?_
            refine pN ?_
            refine pS ?_
            refine gE ?_
            exact pL
        · refine se (mkE [(4, B false)] [] 94) ?_
          refine pN ?_
          refine pS ?_
          refine gE ?_
          exact pL
      · refine se (mkE [(4, B false)] [] 94) ?_
        refine pN ?_
        refine pS ?_
        refine gE ?_
        exact pL
    · refine se (mkE [(4, B false)] [] 94) ?_
      refine pN ?_
      refine pS ?_
      refine gE ?_
      exact pL
  · refine se (mkE [(4, B false)] [] 94) ?_
    refine pN ?_
    refine pS ?_
    refine gE ?_
    exact pL
theorem F84 (m : Nat) (hm : 2 ≤ m) (p0 : S105) (p1 : S105) : callA Try.prog cfg m 84 [a105 p0, a105 p1] = (T84 p0 p1).map B := by
  obtain ⟨q, rfl⟩ : ∃ q, m = q + 1 := ⟨m - 1, by omega⟩
  exact (callA_body (fn := Try.f84) (c := body_ Try.f84) q _ (by kernel_rfl) (by kernel_rfl) (by kernel_rfl)).trans (B84 _ (fun p0 p1 => F112 q (by omega) p0 p1) (fun p0 p1 => F69 q (by omega) p0 p1) p0 p1)

noncomputable def L83_4 (p0 : (List S105)) (p1 : (List S105)) (z0 : Int) : Option (Int ⊕ ((Int × Bool) ⊕ Unit)) := (bif (ltI z0 (lenL p0)) then ((listAt p0 z0).bind fun x1 => ((listAt p1 z0).bind fun x2 => ((T84 x1 x2).bind fun x3 => (bif (!x3) then (some (.inr (.inr ()))) else (some (.inl (addI .i64 z0 1))))))) else (some (.inr (.inl (z0, (ltI z0 (lenL p0)))))))
theorem L83_4_ok (C : Callee) (h84 : ∀ (p0 : S105) (p1 : S105), C 84 [a105 p0, a105 p1] = (T84 p0 p1).map B) (p0 : (List S105)) (p1 : (List S105)) (z0 : Int) : runs Try.prog C (cfg.fn 83) (finLoop ((cfg.fn 83).keep 4) ((cfg.fn 83).al 4)) [] (execA Try.prog C (cfg.fn 83) (nr Try.f83 [false, false, true, false, true, true]) ((fun z0 : Int => (mkE [(1, LL a105 p1), (2, .fn 84 []), (15, LL a105 p0), (16, I (lenL p0)), (17, I z0)] [] 32)) z0)) = (L83_4 p0 p1 z0).map (Sum.elim (fun z => .inl ((fun z0 : Int => (mkE [(1, LL a105 p1), (2, .fn 84 []), (15, LL a105 p0), (16, I (lenL p0)), (17, I z0)] [] 32)) z)) (fun x => .inr ((Sum.elim (fun (x : (Int × Bool)) => (.exit 0, (mkE [(1, LL a105 p1), (2, .fn 84 []), (15, LL a105 p0), (16, I (lenL p0)), (17, I x.1), (18, B x.2)] [] 32))) (fun (x : Unit) => (.ret, (mkE [(6, B false)] [] 32)))) x))) := by
  unfold L83_4
  refine gS 0 ?_
  refine gR 4 (rg Try.f83 4) ?_
  refine se (mkE [(1, LL a105 p1), (2, .fn 84 []), (15, LL a105 p0), (16, I (lenL p0)), (17, I z0), (18, B (ltI z0 (lenL p0)))] [] 32) ?_
  refine pN ?_
  refine pS ?_
  refine gS 5 ?_
  refine gC 18 (ltI z0 (lenL p0)) ?_ ?_
  · refine gK ?_
    refine pN ?_
    refine pS ?_
    refine gS 9 ?_
    refine gB 1 ?_
    refine gS 6 ?_
    refine gR 5 (rg Try.f83 5) ?_
    refine sg 1 (mkE [(19, I z0), (1, LL a105 p1), (2, .fn 84 []), (15, LL a105 p0), (16, I (lenL p0)), (17, I z0), (18, B (ltI z0 (lenL p0)))] [] 32) ?_
    refine vo 20 (addrE 40 106 13 a105 .i64 p0 z0) (fun x1 => ?_)
    refine se (mkE [(1, LL a105 p1), (2, .fn 84 []), (7, I z0), (8, .ba 64 0), (15, LL a105 p0), (16, I (lenL p0)), (17, I z0)] [(64, .box [S x1.f0, S x1.f1, I x1.f2, I x1.f3, I x1.f4, I x1.f5, I x1.f6, LL I x1.f7, I x1.f8, I x1.f9, I x1.f10, LL S x1.f11, B x1.f12] false)] 32) ?_
    refine pN ?_
    refine pS ?_
    refine gS 7 ?_
    refine gR 6 (rg Try.f83 6) ?_
    refine sg 2 (mkE [(23, I z0), (22, LL a105 p1), (1, LL a105 p1), (2, .fn 84 []), (7, I z0), (8, .ba 64 0), (15, LL a105 p0), (16, I (lenL p0)), (17, I z0)] [(64, .box [S x1.f0, S x1.f1, I x1.f2, I x1.f3, I x1.f4, I x1.f5, I x1.f6, LL I x1.f7, I x1.f8, I x1.f9, I x1.f10, LL S x1.f11, B x1.f12] false)] 32) ?_
    refine vo 24 (addrE 40 106 13 a105 .i64 p1 z0) (fun x2 => ?_)
    refine se (mkE [(1, LL a105 p1), (2, .fn 84 []), (8, .ba 64 0), (9, .ba 72 0), (15, LL a105 p0), (16, I (lenL p0)), (17, I z0)] [(64, .box [S x1.f0, S x1.f1, I x1.f2, I x1.f3, I x1.f4, I x1.f5, I x1.f6, LL I x1.f7, I x1.f8, I x1.f9, I x1.f10, LL S x1.f11, B x1.f12] false), (72, .box [S x2.f0, S x2.f1, I x2.f2, I x2.f3, I x2.f4, I x2.f5, I x2.f6, LL I x2.f7, I x2.f8, I x2.f9, I x2.f10, LL S x2.f11, B x2.f12] false)] 32) ?_
    refine pN ?_
    refine pS ?_
    refine gS 0 ?_
    refine gR 7 (rg Try.f83 7) ?_
    refine sg 3 (mkE [(28, a105 x2), (27, a105 x1), (26, .fn 84 []), (1, LL a105 p1), (2, .fn 84 []), (8, .ba 64 0), (9, .ba 72 0), (15, LL a105 p0), (16, I (lenL p0)), (17, I z0)] [(64, .box [S x1.f0, S x1.f1, I x1.f2, I x1.f3, I x1.f4, I x1.f5, I x1.f6, LL I x1.f7, I x1.f8, I x1.f9, I x1.f10, LL S x1.f11, B x1.f12] false), (72, .box [S x2.f0, S x2.f1, I x2.f2, I x2.f3, I x2.f4, I x2.f5, I x2.f6, LL I x2.f7, I x2.f8, I x2.f9, I x2.f10, LL S x2.f11, B x2.f12] false)] 32) ?_
    refine co 29 [] (h84 x1 x2) (fun x3 => ?_)
    refine se (mkE [(1, LL a105 p1), (2, .fn 84 []), (15, LL a105 p0), (16, I (lenL p0)), (17, I z0), (30, B (!x3))] [] 32) ?_
    refine pN ?_
    refine pS ?_
    refine gC 30 (!x3) ?_ ?_
    · refine gS 0 ?_
      refine gR 8 (rg Try.f83 8) ?_
      refine se (mkE [(6, B false)] [] 32) ?_
      refine pN ?_
      refine pS ?_
      refine gE ?_
      exact pL
    · refine gK ?_
      refine pB ?_
      refine pN ?_
      refine pS ?_
      refine gR 9 (rg Try.f83 9) ?_
      refine se (mkE [(1, LL a105 p1), (2, .fn 84 []), (15, LL a105 p0), (16, I (lenL p0)), (17, I (addI .i64 z0 1))] [] 32) ?_
      exact pL
  · refine gX 0 ?_
    exact pL
noncomputable def T83 (p0 : (List S105)) (p1 : (List S105)) : Option Bool := (bif (neI (lenL p0) (lenL p1)) then (some false) else ((iter (L83_4 p0 p1) 0).bind fun y4 => (Sum.elim (fun y4a => (some true)) (fun y4b => (some false)) y4)))
theorem B83 (C : Callee) (h84 : ∀ (p0 : S105) (p1 : S105), C 84 [a105 p0, a105 p1] = (T84 p0 p1).map B) (p0 : (List S105)) (p1 : (List S105)) : runs Try.prog C (cfg.fn 83) (finFn Try.prog (cfg.fn 83).byval Try.f83) [] (execA Try.prog C (cfg.fn 83) (nr Try.f83 []) (frame0 [LL a105 p0, LL a105 p1, .fn 84 []] 32)) = (T83 p0 p1).map B := by
  unfold T83
  refine gS 1 ?_
  refine gR 0 (rg Try.f83 0) ?_
  refine se (mkE [(0, LL a105 p0), (1, LL a105 p1), (2, .fn 84 [])] [] 32) ?_
  refine pN ?_
  refine pS ?_
  refine gS 3 ?_
  refine gS 0 ?_
  refine gR 1 (rg Try.f83 1) ?_
  refine sg 1 (mkE [(10, LL a105 p0), (0, LL a105 p0), (1, LL a105 p1), (2, .fn 84 [])] [] 32) ?_
  refine eo 11 (I (lenL p0)) (lenE 40 a105 p0) ?_
  refine sg 3 (mkE [(12, LL a105 p1), (11, I (lenL p0)), (10, LL a105 p0), (0, LL a105 p0), (1, LL a105 p1), (2, .fn 84 [])] [] 32) ?_
  refine eo 13 (I (lenL p1)) (lenE 40 a105 p1) ?_
  refine se (mkE [(0, LL a105 p0), (1, LL a105 p1), (2, .fn 84 []), (14, B (neI (lenL p0) (lenL p1)))] [] 32) ?_
  refine pN ?_
  refine pS ?_
  refine gC 14 (neI (lenL p0) (lenL p1)) ?_ ?_
  · refine gS 0 ?_
    refine gR 2 (rg Try.f83 2) ?_
    refine se (mkE [(6, B false)] [] 32) ?_
    refine pN ?_
    refine pS ?_
    refine gE ?_
    exact pL
  · refine gK ?_
    refine pN ?_
    refine pS ?_
    refine gS 10 ?_
    refine gS 4 ?_
    refine gR 3 (rg Try.f83 3) ?_
    refine sg 1 (mkE [(15, LL a105 p0), (0, LL a105 p0), (1, LL a105 p1), (2, .fn 84 []), (14, B (neI (lenL p0) (lenL p1)))] [] 32) ?_
    refine eo 16 (I (lenL p0)) (lenE 40 a105 p0) ?_
    refine se (mkE [(1, LL a105 p1), (2, .fn 84 []), (15, LL a105 p0), (16, I (lenL p0)), (17, I 0)] [] 32) ?_
    refine pN ?_
    refine pS ?_
    refine gB 0 ?_
    refine lo [(1, none), (2, none), (15, none), (16, none), (17, none)] [] (L83_4 p0 p1) (fun z0 : Int => (mkE [(1, LL a105 p1), (2, .fn 84 []), (15, LL a105 p0), (16, I (lenL p0)), (17, I z0)] [] 32)) (Sum.elim (fun (x : (Int × Bool)) => (.exit 0, (mkE [(1, LL a105 p1), (2, .fn 84 []), (15, LL a105 p0), (16, I (lenL p0)), (17, I x.1), (18, B x.2)] [] 32))) (fun (x : Unit) => (.ret, (mkE [(6, B false)] [] 32)))) 0 (fun z => L83_4_ok C h84 p0 p1 z) ?_
    intro y4
    refine ss y4 (Z := (Sum.elim (fun (x : (Int × Bool)) => (.exit 0, (mkE [(1, LL a105 p1), (2, .fn 84 []), (15, LL a105 p0), (16, I (lenL p0)), (17, I x.1), (18, B x.2)] [] 32))) (fun (x : Unit) => (.ret, (mkE [(6, B false)] [] 32))))) (fun y4a => ?_) (fun y4b => ?_)
    · refine pH ?_
      refine pN ?_
      refine pS ?_
      refine gS 0 ?_
      refine gR 10 (rg Try.f83 10) ?_
      refine se (mkE [(6, B true)] [] 32) ?_
      refine pN ?_
      refine pS ?_
      refine gE ?_
      exact pL
    · exact pL
theorem F83 (m : Nat) (hm : 3 ≤ m) (p0 : (List S105)) (p1 : (List S105)) : callA Try.prog cfg m 83 [LL a105 p0, LL a105 p1, .fn 84 []] = (T83 p0 p1).map B := by
  obtain ⟨q, rfl⟩ : ∃ q, m = q + 1 := ⟨m - 1, by omega⟩
  exact (callA_body (fn := Try.f83) (c := body_ Try.f83) q _ (by kernel_rfl) (by kernel_rfl) (by kernel_rfl)).trans (B83 _ (fun p0 p1 => F84 q (by omega) p0 p1) p0 p1)

noncomputable def T24 (p0 : (List S105)) (p1 : (List S105)) : Option Bool := ((T83 p0 p1).bind fun x1 => (some x1))
theorem B24 (C : Callee) (h83 : ∀ (p0 : (List S105)) (p1 : (List S105)), C 83 [LL a105 p0, LL a105 p1, .fn 84 []] = (T83 p0 p1).map B) (p0 : (List S105)) (p1 : (List S105)) : runs Try.prog C (cfg.fn 24) (finFn Try.prog (cfg.fn 24).byval Try.f24) [] (execA Try.prog C (cfg.fn 24) (nr Try.f24 []) (frame0 [LL a105 p0, LL a105 p1] 8)) = (T24 p0 p1).map B := by
  unfold T24
  refine gS 1 ?_
  refine gR 0 (rg Try.f24 0) ?_
  refine se (mkE [(0, LL a105 p0), (1, LL a105 p1)] [] 8) ?_
  refine pN ?_
  refine pS ?_
  refine gS 0 ?_
  refine gR 1 (rg Try.f24 1) ?_
  refine sg 2 (mkE [(6, LL a105 p1), (5, LL a105 p0), (0, LL a105 p0), (1, LL a105 p1)] [] 8) ?_
  refine co 7 [] (h83 p0 p1) (fun x1 => ?_)
  refine se (mkE [(4, B x1)] [] 8) ?_
  refine pN ?_
  refine pS ?_
  refine gE ?_
  exact pL
theorem F24 (m : Nat) (hm : 4 ≤ m) (p0 : (List S105)) (p1 : (List S105)) : callA Try.prog cfg m 24 [LL a105 p0, LL a105 p1] = (T24 p0 p1).map B := by
  obtain ⟨q, rfl⟩ : ∃ q, m = q + 1 := ⟨m - 1, by omega⟩
  exact (callA_body (fn := Try.f24) (c := body_ Try.f24) q _ (by kernel_rfl) (by kernel_rfl) (by kernel_rfl)).trans (B24 _ (fun p0 p1 => F83 q (by omega) p0 p1) p0 p1)

noncomputable def T5 (p0 : S36) (p1 : S38) (p2 : Int) (p3 : (List S105)) : Option Bool := ((T20 ([p0] : List S36)).bind fun x1 => ((idxO (List.length x1) 0).bind fun x2 => ((getN x1 x2).bind fun x3 => ((T21 p3).bind fun x4 => ((T22 p0 p1 p2 p3).bind fun x5 => (bif x5 then ((T23 ([p0] : List S36) ([x3] : List S36)).bind fun x6 => (bif x6 then ((T24 p3 x4).bind fun x7 => (some x7)) else (some false))) else (some false)))))))
theorem B5 (C : Callee) (h20 : ∀ (p0 : (List S36)), C 20 [LL a36 p0] = (T20 p0).map (fun l => AV.fr 37 4 (List.map a36 l))) (h21 : ∀ (p0 : (List S105)), C 21 [LL a105 p0] = (T21 p0).map (fun l => AV.fr 106 13 (List.map a105 l))) (h22 : ∀ (p0 : S36) (p1 : S38) (p2 : Int) (p3 : (List S105)), C 22 [a36 p0, a38 p1, I p2, LL a105 p3] = (T22 p0 p1 p2 p3).map B) (h23 : ∀ (p0 : (List S36)) (p1 : (List S36)), C 23 [LL a36 p0, LL a36 p1] = (T23 p0 p1).map B) (h24 : ∀ (p0 : (List S105)) (p1 : (List S105)), C 24 [LL a105 p0, LL a105 p1] = (T24 p0 p1).map B) (p0 : S36) (p1 : S38) (p2 : Int) (p3 : (List S105)) : runs Try.prog C (cfg.fn 5) (finFn Try.prog (cfg.fn 5).byval Try.f5) [] (execA Try.prog C (cfg.fn 5) (nr Try.f5 []) (frame0 [a36 p0, a38 p1, I p2, LL a105 p3] 35)) = (T5 p0 p1 p2 p3).map B := by
  unfold T5
  refine gS 1 ?_
  refine gR 0 (rg Try.f5 0) ?_
  refine se (mkE [(2, I p2), (3, LL a105 p3), (4, .ba 32 0), (5, .ba 40 0)] [(32, .box [S p0.f0, S p0.f1, I p0.f2, LL S p0.f3] false), (40, .box [I p1.f0, I p1.f1] false)] 35) ?_
  refine pN ?_
  refine pS ?_
  refine gS 2 ?_
  refine gD 1 8 (rg Try.f5 1) [0, 1, 2, 3, 4, 5, 6, 7, 8, 9] ?_
  refine dg 2 [(some 11, qe (a36 p0)), (some 12, { e := { val := .own 96 0, news := [(96, RR 37 4 a36 ([p0] : List S36) 0 false)] } })] ?_
  refine dc 13 [96] (mkE [(12, .own 96 0), (11, a36 p0), (2, I p2), (3, LL a105 p3), (4, .ba 32 0), (5, .ba 40 0)] [(96, RR 37 4 a36 ([p0] : List S36) 0 false), (32, .box [S p0.f0, S p0.f1, I p0.f2, LL S p0.f3] false), (40, .box [I p1.f0, I p1.f1] false)] 35) (h20 ([p0] : List S36)) (fun x1 => ?_)
  refine dv 14 (mkE [(13, .own 104 0), (12, .own 96 0), (11, a36 p0), (2, I p2), (3, LL a105 p3), (4, .ba 32 0), (5, .ba 40 0)] [(104, RR 37 4 a36 x1 0 false), (96, RR 37 4 a36 ([p0] : List S36) 0 true), (96, RR 37 4 a36 ([p0] : List S36) 0 false), (32, .box [S p0.f0, S p0.f1, I p0.f2, LL S p0.f3] false), (40, .box [I p1.f0, I p1.f1] false)] 35) (addrOE 41 37 4 104 0 false a36 .i64 x1 0) (fun x2 => ?_)
  refine dv 15 (mkE [(14, .oa 104 0 x2 0), (13, .own 104 0), (12, .own 96 0), (11, a36 p0), (2, I p2), (3, LL a105 p3), (4, .ba 32 0), (5, .ba 40 0)] [(104, RR 37 4 a36 x1 0 false), (96, RR 37 4 a36 ([p0] : List S36) 0 true), (96, RR 37 4 a36 ([p0] : List S36) 0 false), (32, .box [S p0.f0, S p0.f1, I p0.f2, LL S p0.f3] false), (40, .box [I p1.f0, I p1.f1] false)] 35) (loadOE 37 104 0 x2 0 37 4 4 true false a36 (fun q : S36 => a36 q) x1) (fun x3 => ?_)
  refine dg 6 [(some 11, qe (a36 p0)), (some 12, { e := { val := .own 96 0, news := [(96, RR 37 4 a36 ([p0] : List S36) 0 false)] } }), (some 13, { e := { val := .own 104 0, news := [(104, RR 37 4 a36 x1 0 false)], frz := [96] } }), (some 14, qe (.oa 104 0 x2 0)), (some 15, qe (a36 x3)), (some 16, qe (LL a105 p3))] ?_
  refine dc 17 [] (mkE [(16, LL a105 p3), (13, .own 104 0), (12, .own 96 0), (11, a36 p0), (2, I p2), (3, LL a105 p3), (4, .ba 32 0), (5, .ba 40 0)] [(104, RR 37 4 a36 x1 0 false), (96, RR 37 4 a36 ([p0] : List S36) 0 true), (96, RR 37 4 a36 ([p0] : List S36) 0 false), (32, .box [S p0.f0, S p0.f1, I p0.f2, LL S p0.f3] false), (40, .box [I p1.f0, I p1.f1] false)] 35) (h21 p3) (fun x4 => ?_)
  refine dg 8 [(some 11, qe (a36 p0)), (some 12, { e := { val := .own 96 0, news := [(96, RR 37 4 a36 ([p0] : List S36) 0 false)] } }), (some 13, { e := { val := .own 104 0, news := [(104, RR 37 4 a36 x1 0 false)], frz := [96] } }), (some 14, qe (.oa 104 0 x2 0)), (some 15, qe (a36 x3)), (some 16, qe (LL a105 p3)), (some 17, { e := { val := .own 136 0, news := [(136, RR 106 13 a105 x4 0 false)] } }), (some 9, { e := { val := .ba 72 0, news := [(72, .box [S (ByteArray.mk #[]), S (ByteArray.mk #[]), I 0, .nils] false)] } })] ?_
  refine de (mkE [(9, .ba 72 0), (17, .own 136 0), (16, LL a105 p3), (15, a36 x3), (14, .oa 104 0 x2 0), (13, .own 104 0), (12, .own 96 0), (11, a36 p0), (2, I p2), (3, LL a105 p3), (4, .ba 32 0), (5, .ba 40 0)] [(72, .box [S (ByteArray.mk #[]), S (ByteArray.mk #[]), I 0, .nils] false), (136, RR 106 13 a105 x4 0 false), (104, RR 37 4 a36 x1 0 false), (96, RR 37 4 a36 ([p0] : List S36) 0 true), (96, RR 37 4 a36 ([p0] : List S36) 0 false), (32, .box [S p0.f0, S p0.f1, I p0.f2, LL S p0.f3] false), (40, .box [I p1.f0, I p1.f1] false)] 35) ?_
  refine se (mkE [(2, I p2), (3, LL a105 p3), (4, .ba 32 0), (5, .ba 40 0), (9, .ba 72 0), (10, .own 136 0)] [(32, .box [S p0.f0, S p0.f1, I p0.f2, LL S p0.f3] false), (40, .box [I p1.f0, I p1.f1] false), (72, .box [S x3.f0, S x3.f1, I x3.f2, LL S x3.f3] false), (136, RR 106 13 a105 x4 0 false)] 35) ?_
  refine pN ?_
  refine pS ?_
  refine gS 0 ?_
  refine gR 2 (rg Try.f5 2) ?_
  refine sg 4 (mkE [(21, LL a105 p3), (20, I p2), (19, a38 p1), (18, a36 p0), (2, I p2), (3, LL a105 p3), (4, .ba 32 0), (5, .ba 40 0), (9, .ba 72 0), (10, .own 136 0)] [(32, .box [S p0.f0, S p0.f1, I p0.f2, LL S p0.f3] false), (40, .box [I p1.f0, I p1.f1] false), (72, .box [S x3.f0, S x3.f1, I x3.f2, LL S x3.f3] false), (136, RR 106 13 a105 x4 0 false)] 35) ?_
  refine co 22 [] (h22 p0 p1 p2 p3) (fun x5 => ?_)
  refine sg 6 (mkE [(23, B x5), (22, B x5), (21, LL a105 p3), (20, I p2), (19, a38 p1), (18, a36 p0), (2, I p2), (3, LL a105 p3), (4, .ba 32 0), (5, .ba 40 0), (9, .ba 72 0), (10, .own 136 0)] [(32, .box [S p0.f0, S p0.f1, I p0.f2, LL S p0.f3] false), (40, .box [I p1.f0, I p1.f1] false), (72, .box [S x3.f0, S x3.f1, I x3.f2, LL S x3.f3] false), (136, RR 106 13 a105 x4 0 false)] 35) ?_
  refine sb 23 x5 ?_ ?_
  · refine sg 10 (mkE [(27, .own 216 0), (26, a36 x3), (25, .own 200 0), (24, a36 p0), (23, B true), (23, B x5), (22, B x5), (21, LL a105 p3), (20, I p2), (19, a38 p1), (18, a36 p0), (2, I p2), (3, LL a105 p3), (4, .ba 32 0), (5, .ba 40 0), (9, .ba 72 0), (10, .own 136 0)] [(216, RR 37 4 a36 ([x3] : List S36) 0 false), (200, RR 37 4 a36 ([p0] : List S36) 0 false), (32, .box [S p0.f0, S p0.f1, I p0.f2, LL S p0.f3] false), (40, .box [I p1.f0, I p1.f1] false), (72, .box [S x3.f0, S x3.f1, I x3.f2, LL S x3.f3] false), (136, RR 106 13 a105 x4 0 false)] 35) ?_
    refine co 28 [200, 216] (h23 ([p0] : List S36) ([x3] : List S36)) (fun x6 => ?_)
    refine sg 13 (mkE [(30, B x6), (29, B x6), (28, B x6), (27, .own 216 0), (26, a36 x3), (25, .own 200 0), (24, a36 p0), (23, B true), (23, B x5), (22, B x5), (21, LL a105 p3), (20, I p2), (19, a38 p1), (18, a36 p0), (2, I p2), (3, LL a105 p3), (4, .ba 32 0), (5, .ba 40 0), (9, .ba 72 0), (10, .own 136 0)] [(216, RR 37 4 a36 ([x3] : List S36) 0 false), (200, RR 37 4 a36 ([p0] : List S36) 0 false), (32, .box [S p0.f0, S p0.f1, I p0.f2, LL S p0.f3] false), (40, .box [I p1.f0, I p1.f1] false), (72, .box [S x3.f0, S x3.f1, I x3.f2, LL S x3.f3] false), (136, RR 106 13 a105 x4 0 false)] 35) ?_
    refine sb 30 x6 ?_ ?_
    · refine sg 15 (mkE [(32, .own 136 0), (31, LL a105 p3), (30, B true), (30, B x6), (29, B x6), (28, B x6), (27, .own 216 0), (26, a36 x3), (25, .own 200 0), (24, a36 p0), (23, B true), (23, B x5), (22, B x5), (21, LL a105 p3), (20, I p2), (19, a38 p1), (18, a36 p0), (2, I p2), (3, LL a105 p3), (4, .ba 32 0), (5, .ba 40 0), (9, .ba 72 0), (10, .own 136 0)] [(216, RR 37 4 a36 ([x3] : List S36) 0 false), (200, RR 37 4 a36 ([p0] : List S36) 0 false), (32, .box [S p0.f0, S p0.f1, I p0.f2, LL S p0.f3] false), (40, .box [I p1.f0, I p1.f1] false), (72, .box [S x3.f0, S x3.f1, I x3.f2, LL S x3.f3] false), (136, RR 106 13 a105 x4 0 false)] 35) ?_
      refine co 33 [136] (h24 p3 x4) (fun x7 => ?_)
      refine se (mkE [(8, B x7)] [] 35) ?_
      refine pN ?_
      refine pS ?_
      refine gE ?_
      exact pL
    · refine se (mkE [(8, B false)] [] 35) ?_
      refine pN ?_
      refine pS ?_
      refine gE ?_
      exact pL
  · refine se (mkE [(8, B false)] [] 35) ?_
    refine pN ?_
    refine pS ?_
    refine gE ?_
    exact pL
theorem F5 (m : Nat) (hm : 10 ≤ m) (p0 : S36) (p1 : S38) (p2 : Int) (p3 : (List S105)) : callA Try.prog cfg m 5 [a36 p0, a38 p1, I p2, LL a105 p3] = (T5 p0 p1 p2 p3).map B := by
  obtain ⟨q, rfl⟩ : ∃ q, m = q + 1 := ⟨m - 1, by omega⟩
  exact (callA_body (fn := Try.f5) (c := body_ Try.f5) q _ (by kernel_rfl) (by kernel_rfl) (by kernel_rfl)).trans (B5 _ (fun p0 => F20 q (by omega) p0) (fun p0 => F21 q (by omega) p0) (fun p0 p1 p2 p3 => F22 q (by omega) p0 p1 p2 p3) (fun p0 p1 => F23 q (by omega) p0 p1) (fun p0 p1 => F24 q (by omega) p0 p1) p0 p1 p2 p3)

end Go.Abs.TE
