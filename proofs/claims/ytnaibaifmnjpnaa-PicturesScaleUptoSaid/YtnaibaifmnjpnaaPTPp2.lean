import Derived.Test.YtnaibaifmnjpnaaPTPp1
set_option maxRecDepth 100000
set_option linter.unusedVariables false
namespace Go.Abs.TP
open Go.RowKit Go.Proofs Go.Abs
noncomputable def L213_3 (p0 : (List S63)) (p1 : (List S63)) (x1 : (List S63)) (z0 : ((List Int) × (List S63) × Int)) : Option (((List Int) × (List S63) × Int) ⊕ (Int × Bool × (List Int) × (List S63))) := (bif (ltI z0.2.2 (lenL x1)) then ((idxO (List.length z0.2.1) z0.2.2).bind fun x2 => ((getN z0.2.1 x2).bind fun x3 => ((appO 8 z0.1 ([x3.f1, (addI .i64 x3.f1 x3.f3)] : List Int)).bind fun x4 => (some (.inl (x4, z0.2.1, (addI .i64 z0.2.2 1))))))) else (some (.inr (z0.2.2, (ltI z0.2.2 (lenL x1)), z0.1, z0.2.1))))
theorem L213_3_ok (C : Callee) (p0 : (List S63)) (p1 : (List S63)) (x1 : (List S63)) (z0 : ((List Int) × (List S63) × Int)) : runs Try.prog C (cfg.fn 213) (finLoop ((cfg.fn 213).keep 3) ((cfg.fn 213).al 3)) [] (execA Try.prog C (cfg.fn 213) (nr Try.f213 [false, false, true, false, true, true]) ((fun z0 : ((List Int) × (List S63) × Int) => (mkE [(0, LL a63 p0), (1, LL a63 p1), (5, .own 40 0), (19, .own 152 0), (20, I (lenL x1)), (21, I z0.2.2)] [(40, RR 3 1 I z0.1 0 false), (152, RR 64 4 a63 z0.2.1 0 false)] 88)) z0)) = (L213_3 p0 p1 x1 z0).map (Sum.elim (fun z => .inl ((fun z0 : ((List Int) × (List S63) × Int) => (mkE [(0, LL a63 p0), (1, LL a63 p1), (5, .own 40 0), (19, .own 152 0), (20, I (lenL x1)), (21, I z0.2.2)] [(40, RR 3 1 I z0.1 0 false), (152, RR 64 4 a63 z0.2.1 0 false)] 88)) z)) (fun x => .inr ((fun (x : (Int × Bool × (List Int) × (List S63))) => (.exit 0, (mkE [(0, LL a63 p0), (1, LL a63 p1), (5, .own 40 0), (19, .own 152 0), (20, I (lenL x1)), (21, I x.1), (22, B x.2.1)] [(40, RR 3 1 I x.2.2.1 0 false), (152, RR 64 4 a63 x.2.2.2 0 false)] 88))) x))) := by
  unfold L213_3
  refine gS 0 ?_
  refine gR 3 (rg Try.f213 3) ?_
  refine se (mkE [(0, LL a63 p0), (1, LL a63 p1), (5, .own 40 0), (19, .own 152 0), (20, I (lenL x1)), (21, I z0.2.2), (22, B (ltI z0.2.2 (lenL x1)))] [(40, RR 3 1 I z0.1 0 false), (152, RR 64 4 a63 z0.2.1 0 false)] 88) ?_
  refine pN ?_
  refine pS ?_
  refine gS 4 ?_
  refine gC 22 (ltI z0.2.2 (lenL x1)) ?_ ?_
  · refine gK ?_
    refine pN ?_
    refine pS ?_
    refine gS 6 ?_
    refine gB 1 ?_
    refine gS 5 ?_
    refine gR 4 (rg Try.f213 4) ?_
    refine vo 23 (addrOE 65 64 4 152 0 false a63 .i64 z0.2.1 z0.2.2) (fun x2 => ?_)
    refine vo 24 (loadOE 64 152 0 x2 0 64 4 4 true false a63 (fun q : S63 => a63 q) z0.2.1) (fun x3 => ?_)
    refine se (mkE [(0, LL a63 p0), (1, LL a63 p1), (5, .own 40 0), (7, .ba 56 0), (19, .own 152 0), (20, I (lenL x1)), (21, I z0.2.2)] [(40, RR 3 1 I z0.1 0 false), (56, .box [I x3.f0, I x3.f1, I x3.f2, I x3.f3] false), (152, RR 64 4 a63 z0.2.1 0 false)] 88) ?_
    refine pN ?_
    refine pS ?_
    refine gR 5 (rg Try.f213 5) ?_
    refine sg 9 (mkE [(33, .own 264 0), (32, I (addI .i64 x3.f1 x3.f3)), (31, I x3.f3), (30, .ba 56 3), (29, I x3.f1), (28, .ba 56 1), (27, I x3.f1), (26, .ba 56 1), (25, .own 40 0), (0, LL a63 p0), (1, LL a63 p1), (5, .own 40 0), (7, .ba 56 0), (19, .own 152 0), (20, I (lenL x1)), (21, I z0.2.2)] [(264, RR 3 1 I ([x3.f1, (addI .i64 x3.f1 x3.f3)] : List Int) 0 false), (40, RR 3 1 I z0.1 0 false), (56, .box [I x3.f0, I x3.f1, I x3.f2, I x3.f3] false), (152, RR 64 4 a63 z0.2.1 0 false)] 88) ?_
    refine mo (some 34) (apO 104 3 1 8 40 I 0 [264] (y := .own 264 0) (l2 := ([x3.f1, (addI .i64 x3.f1 x3.f3)] : List Int))) (fun x4 => ?_)
    refine se (mkE [(0, LL a63 p0), (1, LL a63 p1), (5, .own 40 1), (19, .own 152 0), (20, I (lenL x1)), (21, I z0.2.2)] [(40, RR 3 1 I x4 1 false), (152, RR 64 4 a63 z0.2.1 0 false)] 88) ?_
    refine pB ?_
    refine pN ?_
    refine pS ?_
    refine gR 6 (rg Try.f213 6) ?_
    refine se (mkE [(0, LL a63 p0), (1, LL a63 p1), (5, .own 40 1), (19, .own 152 0), (20, I (lenL x1)), (21, I (addI .i64 z0.2.2 1))] [(40, RR 3 1 I x4 1 false), (152, RR 64 4 a63 z0.2.1 0 false)] 88) ?_
    exact pL
  · refine gX 0 ?_
    exact pL
noncomputable def L213_20 (p0 : (List S63)) (p1 : (List S63)) (x7 : (List Int)) (z1 : ((List Int) × (List S63) × (List S266) × Int × Int)) (x9 : Int) (x12 : (List S266)) (z2 : ((List Int) × (List S63) × Int)) : Option (((List Int) × (List S63) × Int) ⊕ (Int × Bool × (List Int) × (List S63))) := (bif (ltI z2.2.2 (lenL z1.2.2.1)) then ((listAt z1.2.2.1 z2.2.2).bind fun x14 => ((appO 32 z2.2.1 ([(S63.mk x14.f0 z1.2.2.2.1 (subI .i64 x14.f1 x14.f0) (subI .i64 x9 z1.2.2.2.1))] : List S63)).bind fun x15 => (some (.inl (z2.1, x15, (addI .i64 z2.2.2 1)))))) else (some (.inr (z2.2.2, (ltI z2.2.2 (lenL z1.2.2.1)), z2.1, z2.2.1))))
theorem L213_20_ok (C : Callee) (p0 : (List S63)) (p1 : (List S63)) (x7 : (List Int)) (z1 : ((List Int) × (List S63) × (List S266) × Int × Int)) (x9 : Int) (x12 : (List S266)) (z2 : ((List Int) × (List S63) × Int)) : runs Try.prog C (cfg.fn 213) (finLoop ((cfg.fn 213).keep 20) ((cfg.fn 213).al 20)) [] (execA Try.prog C (cfg.fn 213) (nr Try.f213 [false, false, true, false, true, true, true, true, false, false, true, true, false, false, true, false, true, true, true, true, true, true, true, true]) ((fun z2 : ((List Int) × (List S63) × Int) => (mkE [(40, .own 40 0), (0, LL a63 p0), (1, LL a63 p1), (5, .own 40 0), (8, .own 64 0), (10, I z1.2.2.2.1), (12, I x9), (13, LL a266 x12), (41, I (lenL x7)), (42, I z1.2.2.2.2), (62, LL a266 z1.2.2.1), (63, I (lenL z1.2.2.1)), (64, I z2.2.2)] [(40, RR 3 1 I z2.1 0 false), (64, RR 64 4 a63 z2.2.1 0 false)] 88)) z2)) = (L213_20 p0 p1 x7 z1 x9 x12 z2).map (Sum.elim (fun z => .inl ((fun z2 : ((List Int) × (List S63) × Int) => (mkE [(40, .own 40 0), (0, LL a63 p0), (1, LL a63 p1), (5, .own 40 0), (8, .own 64 0), (10, I z1.2.2.2.1), (12, I x9), (13, LL a266 x12), (41, I (lenL x7)), (42, I z1.2.2.2.2), (62, LL a266 z1.2.2.1), (63, I (lenL z1.2.2.1)), (64, I z2.2.2)] [(40, RR 3 1 I z2.1 0 false), (64, RR 64 4 a63 z2.2.1 0 false)] 88)) z)) (fun x => .inr ((fun (x : (Int × Bool × (List Int) × (List S63))) => (.exit 4, (mkE [(0, LL a63 p0), (1, LL a63 p1), (5, .own 40 0), (8, .own 64 0), (10, I z1.2.2.2.1), (12, I x9), (13, LL a266 x12), (40, .own 40 0), (41, I (lenL x7)), (42, I z1.2.2.2.2), (62, LL a266 z1.2.2.1), (63, I (lenL z1.2.2.1)), (64, I x.1), (65, B x.2.1)] [(40, RR 3 1 I x.2.2.1 0 false), (64, RR 64 4 a63 x.2.2.2 0 false)] 88))) x))) := by
  unfold L213_20
  refine gS 0 ?_
  refine gR 20 (rg Try.f213 20) ?_
  refine se (mkE [(0, LL a63 p0), (1, LL a63 p1), (5, .own 40 0), (8, .own 64 0), (10, I z1.2.2.2.1), (12, I x9), (13, LL a266 x12), (40, .own 40 0), (41, I (lenL x7)), (42, I z1.2.2.2.2), (62, LL a266 z1.2.2.1), (63, I (lenL z1.2.2.1)), (64, I z2.2.2), (65, B (ltI z2.2.2 (lenL z1.2.2.1)))] [(40, RR 3 1 I z2.1 0 false), (64, RR 64 4 a63 z2.2.1 0 false)] 88) ?_
  refine pN ?_
  refine pS ?_
  refine gS 21 ?_
  refine gC 65 (ltI z2.2.2 (lenL z1.2.2.1)) ?_ ?_
  · refine gK ?_
    refine pN ?_
    refine pS ?_
    refine gS 23 ?_
    refine gB 5 ?_
    refine gS 22 ?_
    refine gR 21 (rg Try.f213 21) ?_
    refine vo 66 (addrE 262 267 2 a266 .i64 z1.2.2.1 z2.2.2) (fun x14 => ?_)
    refine se (mkE [(0, LL a63 p0), (1, LL a63 p1), (5, .own 40 0), (8, .own 64 0), (10, I z1.2.2.2.1), (12, I x9), (13, LL a266 x12), (15, .ba 120 0), (40, .own 40 0), (41, I (lenL x7)), (42, I z1.2.2.2.2), (62, LL a266 z1.2.2.1), (63, I (lenL z1.2.2.1)), (64, I z2.2.2)] [(40, RR 3 1 I z2.1 0 false), (64, RR 64 4 a63 z2.2.1 0 false), (120, .box [I x14.f0, I x14.f1] false)] 88) ?_
    refine pN ?_
    refine pS ?_
    refine gR 22 (rg Try.f213 22) ?_
    refine sg 14 (mkE [(81, .own 648 0), (80, .agg [I x14.f0, I z1.2.2.2.1, I (subI .i64 x14.f1 x14.f0), I (subI .i64 x9 z1.2.2.2.1)]), (79, I (subI .i64 x9 z1.2.2.2.1)), (78, I z1.2.2.2.1), (77, I x9), (76, I (subI .i64 x14.f1 x14.f0)), (75, I x14.f0), (74, .ba 120 0), (73, I x14.f1), (72, .ba 120 1), (71, I z1.2.2.2.1), (70, I x14.f0), (69, .ba 120 0), (68, .own 64 0), (0, LL a63 p0), (1, LL a63 p1), (5, .own 40 0), (8, .own 64 0), (10, I z1.2.2.2.1), (12, I x9), (13, LL a266 x12), (15, .ba 120 0), (40, .own 40 0), (41, I (lenL x7)), (42, I z1.2.2.2.2), (62, LL a266 z1.2.2.1), (63, I (lenL z1.2.2.1)), (64, I z2.2.2)] [(648, RR 64 4 a63 ([(S63.mk x14.f0 z1.2.2.2.1 (subI .i64 x14.f1 x14.f0) (subI .i64 x9 z1.2.2.2.1))] : List S63) 0 false), (40, RR 3 1 I z2.1 0 false), (64, RR 64 4 a63 z2.2.1 0 false), (120, .box [I x14.f0, I x14.f1] false)] 88) ?_
    refine mo (some 82) (apO 65 64 4 32 64 a63 0 [648] (y := .own 648 0) (l2 := ([(S63.mk x14.f0 z1.2.2.2.1 (subI .i64 x14.f1 x14.f0) (subI .i64 x9 z1.2.2.2.1))] : List S63))) (fun x15 => ?_)
    refine se (mkE [(0, LL a63 p0), (1, LL a63 p1), (5, .own 40 0), (8, .own 64 1), (10, I z1.2.2.2.1), (12, I x9), (13, LL a266 x12), (40, .own 40 0), (41, I (lenL x7)), (42, I z1.2.2.2.2), (62, LL a266 z1.2.2.1), (63, I (lenL z1.2.2.1)), (64, I z2.2.2)] [(40, RR 3 1 I z2.1 0 false), (64, RR 64 4 a63 x15 1 false)] 88) ?_
    refine pB ?_
    refine pN ?_
    refine pS ?_
    refine gR 23 (rg Try.f213 23) ?_
    refine se (mkE [(0, LL a63 p0), (1, LL a63 p1), (5, .own 40 0), (8, .own 64 1), (10, I z1.2.2.2.1), (12, I x9), (13, LL a266 x12), (40, .own 40 0), (41, I (lenL x7)), (42, I z1.2.2.2.2), (62, LL a266 z1.2.2.1), (63, I (lenL z1.2.2.1)), (64, I (addI .i64 z2.2.2 1))] [(40, RR 3 1 I z2.1 0 false), (64, RR 64 4 a63 x15 1 false)] 88) ?_
    exact pL
  · refine gX 4 ?_
    exact pL
noncomputable def L213_20_v1 (p0 : (List S63)) (p1 : (List S63)) (x7 : (List Int)) (z1 : ((List Int) × (List S63) × (List S266) × Int × Int)) (x9 : Int) (z2 : ((List Int) × (List S63) × Int)) : Option (((List Int) × (List S63) × Int) ⊕ (Int × Bool × (List Int) × (List S63))) := (bif (ltI z2.2.2 (lenL z1.2.2.1)) then ((listAt z1.2.2.1 z2.2.2).bind fun x18 => ((appO 32 z2.2.1 ([(S63.mk x18.f0 z1.2.2.2.1 (subI .i64 x18.f1 x18.f0) (subI .i64 x9 z1.2.2.2.1))] : List S63)).bind fun x19 => (some (.inl (z2.1, x19, (addI .i64 z2.2.2 1)))))) else (some (.inr (z2.2.2, (ltI z2.2.2 (lenL z1.2.2.1)), z2.1, z2.2.1))))
theorem L213_20_v1_ok (C : Callee) (p0 : (List S63)) (p1 : (List S63)) (x7 : (List Int)) (z1 : ((List Int) × (List S63) × (List S266) × Int × Int)) (x9 : Int) (z2 : ((List Int) × (List S63) × Int)) : runs Try.prog C (cfg.fn 213) (finLoop ((cfg.fn 213).keep 20) ((cfg.fn 213).al 20)) [] (execA Try.prog C (cfg.fn 213) (nr Try.f213 [false, false, true, false, true, true, true, true, false, false, true, true, false, false, true, false, true, true, true, true, true, true, true, true]) ((fun z2 : ((List Int) × (List S63) × Int) => (mkE [(40, .own 40 0), (0, LL a63 p0), (1, LL a63 p1), (5, .own 40 0), (8, .own 64 0), (10, I z1.2.2.2.1), (12, I x9), (13, LL a266 ([] : List S266)), (41, I (lenL x7)), (42, I z1.2.2.2.2), (62, LL a266 z1.2.2.1), (63, I (lenL z1.2.2.1)), (64, I z2.2.2)] [(40, RR 3 1 I z2.1 0 false), (64, RR 64 4 a63 z2.2.1 0 false)] 88)) z2)) = (L213_20_v1 p0 p1 x7 z1 x9 z2).map (Sum.elim (fun z => .inl ((fun z2 : ((List Int) × (List S63) × Int) => (mkE [(40, .own 40 0), (0, LL a63 p0), (1, LL a63 p1), (5, .own 40 0), (8, .own 64 0), (10, I z1.2.2.2.1), (12, I x9), (13, LL a266 ([] : List S266)), (41, I (lenL x7)), (42, I z1.2.2.2.2), (62, LL a266 z1.2.2.1), (63, I (lenL z1.2.2.1)), (64, I z2.2.2)] [(40, RR 3 1 I z2.1 0 false), (64, RR 64 4 a63 z2.2.1 0 false)] 88)) z)) (fun x => .inr ((fun (x : (Int × Bool × (List Int) × (List S63))) => (.exit 4, (mkE [(0, LL a63 p0), (1, LL a63 p1), (5, .own 40 0), (8, .own 64 0), (10, I z1.2.2.2.1), (12, I x9), (13, LL a266 ([] : List S266)), (40, .own 40 0), (41, I (lenL x7)), (42, I z1.2.2.2.2), (62, LL a266 z1.2.2.1), (63, I (lenL z1.2.2.1)), (64, I x.1), (65, B x.2.1)] [(40, RR 3 1 I x.2.2.1 0 false), (64, RR 64 4 a63 x.2.2.2 0 false)] 88))) x))) := by
  unfold L213_20_v1
  refine gS 0 ?_
  refine gR 20 (rg Try.f213 20) ?_
  refine se (mkE [(0, LL a63 p0), (1, LL a63 p1), (5, .own 40 0), (8, .own 64 0), (10, I z1.2.2.2.1), (12, I x9), (13, LL a266 ([] : List S266)), (40, .own 40 0), (41, I (lenL x7)), (42, I z1.2.2.2.2), (62, LL a266 z1.2.2.1), (63, I (lenL z1.2.2.1)), (64, I z2.2.2), (65, B (ltI z2.2.2 (lenL z1.2.2.1)))] [(40, RR 3 1 I z2.1 0 false), (64, RR 64 4 a63 z2.2.1 0 false)] 88) ?_
  refine pN ?_
  refine pS ?_
  refine gS 21 ?_
  refine gC 65 (ltI z2.2.2 (lenL z1.2.2.1)) ?_ ?_
  · refine gK ?_
    refine pN ?_
    refine pS ?_
    refine gS 23 ?_
    refine gB 5 ?_
    refine gS 22 ?_
    refine gR 21 (rg Try.f213 21) ?_
    refine vo 66 (addrE 262 267 2 a266 .i64 z1.2.2.1 z2.2.2) (fun x18 => ?_)
    refine se (mkE [(0, LL a63 p0), (1, LL a63 p1), (5, .own 40 0), (8, .own 64 0), (10, I z1.2.2.2.1), (12, I x9), (13, LL a266 ([] : List S266)), (15, .ba 120 0), (40, .own 40 0), (41, I (lenL x7)), (42, I z1.2.2.2.2), (62, LL a266 z1.2.2.1), (63, I (lenL z1.2.2.1)), (64, I z2.2.2)] [(40, RR 3 1 I z2.1 0 false), (64, RR 64 4 a63 z2.2.1 0 false), (120, .box [I x18.f0, I x18.f1] false)] 88) ?_
    refine pN ?_
    refine pS ?_
    refine gR 22 (rg Try.f213 22) ?_
    refine sg 14 (mkE [(81, .own 648 0), (80, .agg [I x18.f0, I z1.2.2.2.1, I (subI .i64 x18.f1 x18.f0), I (subI .i64 x9 z1.2.2.2.1)]), (79, I (subI .i64 x9 z1.2.2.2.1)), (78, I z1.2.2.2.1), (77, I x9), (76, I (subI .i64 x18.f1 x18.f0)), (75, I x18.f0), (74, .ba 120 0), (73, I x18.f1), (72, .ba 120 1), (71, I z1.2.2.2.1), (70, I x18.f0), (69, .ba 120 0), (68, .own 64 0), (0, LL a63 p0), (1, LL a63 p1), (5, .own 40 0), (8, .own 64 0), (10, I z1.2.2.2.1), (12, I x9), (13, LL a266 ([] : List S266)), (15, .ba 120 0), (40, .own 40 0), (41, I (lenL x7)), (42, I z1.2.2.2.2), (62, LL a266 z1.2.2.1), (63, I (lenL z1.2.2.1)), (64, I z2.2.2)] [(648, RR 64 4 a63 ([(S63.mk x18.f0 z1.2.2.2.1 (subI .i64 x18.f1 x18.f0) (subI .i64 x9 z1.2.2.2.1))] : List S63) 0 false), (40, RR 3 1 I z2.1 0 false), (64, RR 64 4 a63 z2.2.1 0 false), (120, .box [I x18.f0, I x18.f1] false)] 88) ?_
    refine mo (some 82) (apO 65 64 4 32 64 a63 0 [648] (y := .own 648 0) (l2 := ([(S63.mk x18.f0 z1.2.2.2.1 (subI .i64 x18.f1 x18.f0) (subI .i64 x9 z1.2.2.2.1))] : List S63))) (fun x19 => ?_)
    refine se (mkE [(0, LL a63 p0), (1, LL a63 p1), (5, .own 40 0), (8, .own 64 1), (10, I z1.2.2.2.1), (12, I x9), (13, LL a266 ([] : List S266)), (40, .own 40 0), (41, I (lenL x7)), (42, I z1.2.2.2.2), (62, LL a266 z1.2.2.1), (63, I (lenL z1.2.2.1)), (64, I z2.2.2)] [(40, RR 3 1 I z2.1 0 false), (64, RR 64 4 a63 x19 1 false)] 88) ?_
    refine pB ?_
    refine pN ?_
    refine pS ?_
    refine gR 23 (rg Try.f213 23) ?_
    refine se (mkE [(0, LL a63 p0), (1, LL a63 p1), (5, .own 40 0), (8, .own 64 1), (10, I z1.2.2.2.1), (12, I x9), (13, LL a266 ([] : List S266)), (40, .own 40 0), (41, I (lenL x7)), (42, I z1.2.2.2.2), (62, LL a266 z1.2.2.1), (63, I (lenL z1.2.2.1)), (64, I (addI .i64 z2.2.2 1))] [(40, RR 3 1 I z2.1 0 false), (64, RR 64 4 a63 x19 1 false)] 88) ?_
    exact pL
  · refine gX 4 ?_
    exact pL
noncomputable def L213_13 (p0 : (List S63)) (p1 : (List S63)) (x7 : (List Int)) (z1 : ((List Int) × (List S63) × (List S266) × Int × Int)) : Option (((List Int) × (List S63) × (List S266) × Int × Int) ⊕ ((List S266) × Int × Int × Bool × (List Int) × (List S63))) := (bif (ltI z1.2.2.2.2 (lenL x7)) then ((idxO (List.length z1.1) z1.2.2.2.2).bind fun x8 => ((getN z1.1 x8).bind fun x9 => (bif (ltI (addI .i64 z1.2.2.2.2 1) (lenL z1.1)) then ((T253 p0 x9).bind fun x10 => ((T253 p1 x9).bind fun x11 => ((T252 x10 x11).bind fun x12 => ((T254 z1.2.2.1 x12).bind fun x13 => (bif x13 then (some (.inl (z1.1, z1.2.1, z1.2.2.1, z1.2.2.2.1, (addI .i64 z1.2.2.2.2 1)))) else ((iter (L213_20 p0 p1 x7 z1 x9 x12) (z1.1, z1.2.1, 0)).bind fun y16 => (some (.inl (y16.2.2.1, y16.2.2.2, x12, x9, (addI .i64 z1.2.2.2.2 1)))))))))) else ((T254 z1.2.2.1 []).bind fun x17 => (bif x17 then (some (.inl (z1.1, z1.2.1, z1.2.2.1, z1.2.2.2.1, (addI .i64 z1.2.2.2.2 1)))) else ((iter (L213_20_v1 p0 p1 x7 z1 x9) (z1.1, z1.2.1, 0)).bind fun y20 => (some (.inl (y20.2.2.1, y20.2.2.2, ([] : List S266), x9, (addI .i64 z1.2.2.2.2 1)))))))))) else (some (.inr (z1.2.2.1, z1.2.2.2.1, z1.2.2.2.2, (ltI z1.2.2.2.2 (lenL x7)), z1.1, z1.2.1))))
theorem L213_13_ok (C : Callee) (h252 : ∀ (p0 : (List S266)) (p1 : (List S266)), C 252 [LL a266 p0, LL a266 p1] = (T252 p0 p1).map (fun l => AV.fr 267 2 (List.map a266 l))) (h253 : ∀ (p0 : (List S63)) (p1 : Int), C 253 [LL a63 p0, I p1] = (T253 p0 p1).map (fun l => AV.fr 267 2 (List.map a266 l))) (h254 : ∀ (p0 : (List S266)) (p1 : (List S266)), C 254 [LL a266 p0, LL a266 p1] = (T254 p0 p1).map B) (p0 : (List S63)) (p1 : (List S63)) (x7 : (List Int)) (z1 : ((List Int) × (List S63) × (List S266) × Int × Int)) : runs Try.prog C (cfg.fn 213) (finLoop ((cfg.fn 213).keep 13) ((cfg.fn 213).al 13)) [] (execA Try.prog C (cfg.fn 213) (nr Try.f213 [false, false, true, false, true, true, true, true, true, true, true, true]) ((fun z1 : ((List Int) × (List S63) × (List S266) × Int × Int) => (mkE [(40, .own 40 0), (0, LL a63 p0), (1, LL a63 p1), (5, .own 40 0), (8, .own 64 0), (9, LL a266 z1.2.2.1), (10, I z1.2.2.2.1), (41, I (lenL x7)), (42, I z1.2.2.2.2)] [(40, RR 3 1 I z1.1 0 false), (64, RR 64 4 a63 z1.2.1 0 false)] 88)) z1)) = (L213_13 p0 p1 x7 z1).map (Sum.elim (fun z => .inl ((fun z1 : ((List Int) × (List S63) × (List S266) × Int × Int) => (mkE [(40, .own 40 0), (0, LL a63 p0), (1, LL a63 p1), (5, .own 40 0), (8, .own 64 0), (9, LL a266 z1.2.2.1), (10, I z1.2.2.2.1), (41, I (lenL x7)), (42, I z1.2.2.2.2)] [(40, RR 3 1 I z1.1 0 false), (64, RR 64 4 a63 z1.2.1 0 false)] 88)) z)) (fun x => .inr ((fun (x : ((List S266) × Int × Int × Bool × (List Int) × (List S63))) => (.exit 2, (mkE [(0, LL a63 p0), (1, LL a63 p1), (5, .own 40 0), (8, .own 64 0), (9, LL a266 x.1), (10, I x.2.1), (40, .own 40 0), (41, I (lenL x7)), (42, I x.2.2.1), (43, B x.2.2.2.1)] [(40, RR 3 1 I x.2.2.2.2.1 0 false), (64, RR 64 4 a63 x.2.2.2.2.2 0 false)] 88))) x))) := by
  unfold L213_13
  refine gS 0 ?_
  refine gR 13 (rg Try.f213 13) ?_
  refine se (mkE [(0, LL a63 p0), (1, LL a63 p1), (5, .own 40 0), (8, .own 64 0), (9, LL a266 z1.2.2.1), (10, I z1.2.2.2.1), (40, .own 40 0), (41, I (lenL x7)), (42, I z1.2.2.2.2), (43, B (ltI z1.2.2.2.2 (lenL x7)))] [(40, RR 3 1 I z1.1 0 false), (64, RR 64 4 a63 z1.2.1 0 false)] 88) ?_
  refine pN ?_
  refine pS ?_
  refine gS 14 ?_
  refine gC 43 (ltI z1.2.2.2.2 (lenL x7)) ?_ ?_
  · refine gK ?_
    refine pN ?_
    refine pS ?_
    refine gS 25 ?_
    refine gB 3 ?_
    refine gS 15 ?_
    refine gR 14 (rg Try.f213 14) ?_
    refine sg 1 (mkE [(44, I z1.2.2.2.2), (0, LL a63 p0), (1, LL a63 p1), (5, .own 40 0), (8, .own 64 0), (9, LL a266 z1.2.2.1), (10, I z1.2.2.2.1), (40, .own 40 0), (41, I (lenL x7)), (42, I z1.2.2.2.2), (43, B (ltI z1.2.2.2.2 (lenL x7)))] [(40, RR 3 1 I z1.1 0 false), (64, RR 64 4 a63 z1.2.1 0 false)] 88) ?_
    refine vo 45 (addrOE 104 3 1 40 0 false I .i64 z1.1 z1.2.2.2.2) (fun x8 => ?_)
    refine vo 46 (loadOE 3 40 0 x8 0 3 1 1 false false I (fun q : Int => I q) z1.1) (fun x9 => ?_)
    refine se (mkE [(0, LL a63 p0), (1, LL a63 p1), (5, .own 40 0), (8, .own 64 0), (9, LL a266 z1.2.2.1), (10, I z1.2.2.2.1), (11, I z1.2.2.2.2), (12, I x9), (40, .own 40 0), (41, I (lenL x7)), (42, I z1.2.2.2.2)] [(40, RR 3 1 I z1.1 0 false), (64, RR 64 4 a63 z1.2.1 0 false)] 88) ?_
    refine pN ?_
    refine pS ?_
    refine gS 16 ?_
    refine gR 15 (rg Try.f213 15) ?_
    refine se (mkE [(0, LL a63 p0), (1, LL a63 p1), (5, .own 40 0), (8, .own 64 0), (9, LL a266 z1.2.2.1), (10, I z1.2.2.2.1), (11, I z1.2.2.2.2), (12, I x9), (13, .nils), (40, .own 40 0), (41, I (lenL x7)), (42, I z1.2.2.2.2)] [(40, RR 3 1 I z1.1 0 false), (64, RR 64 4 a63 z1.2.1 0 false)] 88) ?_
    refine pN ?_
    refine pS ?_
    refine gS 18 ?_
    refine gS 0 ?_
    refine gR 16 (rg Try.f213 16) ?_
    refine sg 3 (mkE [(49, .own 40 0), (48, I (addI .i64 z1.2.2.2.2 1)), (47, I z1.2.2.2.2), (0, LL a63 p0), (1, LL a63 p1), (5, .own 40 0), (8, .own 64 0), (9, LL a266 z1.2.2.1), (10, I z1.2.2.2.1), (11, I z1.2.2.2.2), (12, I x9), (13, .nils), (40, .own 40 0), (41, I (lenL x7)), (42, I z1.2.2.2.2)] [(40, RR 3 1 I z1.1 0 false), (64, RR 64 4 a63 z1.2.1 0 false)] 88) ?_
    refine eo 50 (I (lenL z1.1)) (lenOE 104 3 1 I z1.1) ?_
    refine se (mkE [(0, LL a63 p0), (1, LL a63 p1), (5, .own 40 0), (8, .own 64 0), (9, LL a266 z1.2.2.1), (10, I z1.2.2.2.1), (12, I x9), (13, .nils), (40, .own 40 0), (41, I (lenL x7)), (42, I z1.2.2.2.2), (51, B (ltI (addI .i64 z1.2.2.2.2 1) (lenL z1.1)))] [(40, RR 3 1 I z1.1 0 false), (64, RR 64 4 a63 z1.2.1 0 false)] 88) ?_
    refine pN ?_
    refine pS ?_
    refine gC 51 (ltI (addI .i64 z1.2.2.2.2 1) (lenL z1.1)) ?_ ?_
    · refine gR 17 (rg Try.f213 17) ?_
      refine sg 2 (mkE [(53, I x9), (52, LL a63 p0), (0, LL a63 p0), (1, LL a63 p1), (5, .own 40 0), (8, .own 64 0), (9, LL a266 z1.2.2.1), (10, I z1.2.2.2.1), (12, I x9), (13, .nils), (40, .own 40 0), (41, I (lenL x7)), (42, I z1.2.2.2.2), (51, B (ltI (addI .i64 z1.2.2.2.2 1) (lenL z1.1)))] [(40, RR 3 1 I z1.1 0 false), (64, RR 64 4 a63 z1.2.1 0 false)] 88) ?_
      refine co 54 [] (h253 p0 x9) (fun x10 => ?_)
      refine sg 5 (mkE [(56, I x9), (55, LL a63 p1), (54, .own 432 0), (53, I x9), (52, LL a63 p0), (0, LL a63 p0), (1, LL a63 p1), (5, .own 40 0), (8, .own 64 0), (9, LL a266 z1.2.2.1), (10, I z1.2.2.2.1), (12, I x9), (13, .nils), (40, .own 40 0), (41, I (lenL x7)), (42, I z1.2.2.2.2), (51, B (ltI (addI .i64 z1.2.2.2.2 1) (lenL z1.1)))] [(432, RR 267 2 a266 x10 0 false), (40, RR 3 1 I z1.1 0 false), (64, RR 64 4 a63 z1.2.1 0 false)] 88) ?_
      refine co 57 [] (h253 p1 x9) (fun x11 => ?_)
      refine co 58 [432, 456] (h252 x10 x11) (fun x12 => ?_)
      refine se (mkE [(0, LL a63 p0), (1, LL a63 p1), (5, .own 40 0), (8, .own 64 0), (9, LL a266 z1.2.2.1), (10, I z1.2.2.2.1), (12, I x9), (13, .own 464 0), (40, .own 40 0), (41, I (lenL x7)), (42, I z1.2.2.2.2)] [(40, RR 3 1 I z1.1 0 false), (64, RR 64 4 a63 z1.2.1 0 false), (464, RR 267 2 a266 x12 0 false)] 88) ?_
      refine pN ?_
      refine pS ?_
      refine gS 19 ?_
      refine gS 0 ?_
      refine gR 18 (rg Try.f213 18) ?_
      refine sg 2 (mkE [(60, .own 464 0), (59, LL a266 z1.2.2.1), (0, LL a63 p0), (1, LL a63 p1), (5, .own 40 0), (8, .own 64 0), (9, LL a266 z1.2.2.1), (10, I z1.2.2.2.1), (12, I x9), (13, .own 464 0), (40, .own 40 0), (41, I (lenL x7)), (42, I z1.2.2.2.2)] [(40, RR 3 1 I z1.1 0 false), (64, RR 64 4 a63 z1.2.1 0 false), (464, RR 267 2 a266 x12 0 false)] 88) ?_
      refine co 61 [464] (h254 z1.2.2.1 x12) (fun x13 => ?_)
      refine se (mkE [(0, LL a63 p0), (1, LL a63 p1), (5, .own 40 0), (8, .own 64 0), (9, LL a266 z1.2.2.1), (10, I z1.2.2.2.1), (12, I x9), (13, .own 464 0), (40, .own 40 0), (41, I (lenL x7)), (42, I z1.2.2.2.2), (61, B x13)] [(40, RR 3 1 I z1.1 0 false), (64, RR 64 4 a63 z1.2.1 0 false), (464, RR 267 2 a266 x12 0 false)] 88) ?_
      refine pN ?_
      refine pS ?_
      refine gC 61 x13 ?_ ?_
      · refine gX 3 ?_
        refine pF ?_
        refine pO ?_
        refine pH ?_
        refine pN ?_
        refine pS ?_
        refine gR 25 (rg Try.f213 25) ?_
        refine se (mkE [(0, LL a63 p0), (1, LL a63 p1), (5, .own 40 0), (8, .own 64 0), (9, LL a266 z1.2.2.1), (10, I z1.2.2.2.1), (40, .own 40 0), (41, I (lenL x7)), (42, I (addI .i64 z1.2.2.2.2 1))] [(40, RR 3 1 I z1.1 0 false), (64, RR 64 4 a63 z1.2.1 0 false)] 88) ?_
        exact pL
      · refine gK ?_
        refine pN ?_
        refine pS ?_
        refine gS 24 ?_
        refine gS 20 ?_
        refine gR 19 (rg Try.f213 19) ?_
        refine sg 1 (mkE [(62, LL a266 z1.2.2.1), (0, LL a63 p0), (1, LL a63 p1), (5, .own 40 0), (8, .own 64 0), (9, LL a266 z1.2.2.1), (10, I z1.2.2.2.1), (12, I x9), (13, .own 464 0), (40, .own 40 0), (41, I (lenL x7)), (42, I z1.2.2.2.2), (61, B x13)] [(40, RR 3 1 I z1.1 0 false), (64, RR 64 4 a63 z1.2.1 0 false), (464, RR 267 2 a266 x12 0 false)] 88) ?_
        refine eo 63 (I (lenL z1.2.2.1)) (lenE 262 a266 z1.2.2.1) ?_
        refine se (mkE [(0, LL a63 p0), (1, LL a63 p1), (5, .own 40 0), (8, .own 64 0), (10, I z1.2.2.2.1), (12, I x9), (13, .own 464 0), (40, .own 40 0), (41, I (lenL x7)), (42, I z1.2.2.2.2), (62, LL a266 z1.2.2.1), (63, I (lenL z1.2.2.1)), (64, I 0)] [(40, RR 3 1 I z1.1 0 false), (64, RR 64 4 a63 z1.2.1 0 false), (464, RR 267 2 a266 x12 0 false)] 88) ?_
        refine pN ?_
        refine pS ?_
        refine gB 4 ?_
        refine lo [(0, none), (1, none), (5, some (3, 1)), (8, some (64, 4)), (10, none), (12, none), (13, none), (41, none), (42, none), (62, none), (63, none), (64, none)] [(40, 5)] (L213_20 p0 p1 x7 z1 x9 x12) (fun z2 : ((List Int) × (List S63) × Int) => (mkE [(40, .own 40 0), (0, LL a63 p0), (1, LL a63 p1), (5, .own 40 0), (8, .own 64 0), (10, I z1.2.2.2.1), (12, I x9), (13, LL a266 x12), (41, I (lenL x7)), (42, I z1.2.2.2.2), (62, LL a266 z1.2.2.1), (63, I (lenL z1.2.2.1)), (64, I z2.2.2)] [(40, RR 3 1 I z2.1 0 false), (64, RR 64 4 a63 z2.2.1 0 false)] 88)) (fun (x : (Int × Bool × (List Int) × (List S63))) => (.exit 4, (mkE [(0, LL a63 p0), (1, LL a63 p1), (5, .own 40 0), (8, .own 64 0), (10, I z1.2.2.2.1), (12, I x9), (13, LL a266 x12), (40, .own 40 0), (41, I (lenL x7)), (42, I z1.2.2.2.2), (62, LL a266 z1.2.2.1), (63, I (lenL z1.2.2.1)), (64, I x.1), (65, B x.2.1)] [(40, RR 3 1 I x.2.2.1 0 false), (64, RR 64 4 a63 x.2.2.2 0 false)] 88))) (z1.1, z1.2.1, 0) (fun z => L213_20_ok C p0 p1 x7 z1 x9 x12 z) ?_
        intro y16
        refine pH ?_
        refine pN ?_
        refine pS ?_
        refine gR 24 (rg Try.f213 24) ?_
        refine se (mkE [(0, LL a63 p0), (1, LL a63 p1), (5, .own 40 0), (8, .own 64 0), (9, LL a266 x12), (10, I x9), (40, .own 40 0), (41, I (lenL x7)), (42, I z1.2.2.2.2)] [(40, RR 3 1 I y16.2.2.1 0 false), (64, RR 64 4 a63 y16.2.2.2 0 false)] 88) ?_
        refine pB ?_
        refine pN ?_
        refine pS ?_
        refine gR 25 (rg Try.f213 25) ?_
        refine se (mkE [(0, LL a63 p0), (1, LL a63 p1), (5, .own 40 0), (8, .own 64 0), (9, LL a266 x12), (10, I x9), (40, .own 40 0), (41, I (lenL x7)), (42, I (addI .i64 z1.2.2.2.2 1))] [(40, RR 3 1 I y16.2.2.1 0 false), (64, RR 64 4 a63 y16.2.2.2 0 false)] 88) ?_
        exact pL
    · refine gK ?_
      refine pN ?_
      refine pS ?_
      refine gS 19 ?_
      refine gS 0 ?_
      refine gR 18 (rg Try.f213 18) ?_
      refine sg 2 (mkE [(60, .nils), (59, LL a266 z1.2.2.1), (0, LL a63 p0), (1, LL a63 p1), (5, .own 40 0), (8, .own 64 0), (9, LL a266 z1.2.2.1), (10, I z1.2.2.2.1), (12, I x9), (13, .nils), (40, .own 40 0), (41, I (lenL x7)), (42, I z1.2.2.2.2), (51, B (ltI (addI .i64 z1.2.2.2.2 1) (lenL z1.1)))] [(40, RR 3 1 I z1.1 0 false), (64, RR 64 4 a63 z1.2.1 0 false)] 88) ?_
      refine co 61 [] (h254 z1.2.2.1 []) (fun x17 => ?_)
      refine se (mkE [(0, LL a63 p0), (1, LL a63 p1), (5, .own 40 0), (8, .own 64 0), (9, LL a266 z1.2.2.1), (10, I z1.2.2.2.1), (12, I x9), (13, .nils), (40, .own 40 0), (41, I (lenL x7)), (42, I z1.2.2.2.2), (61, B x17)] [(40, RR 3 1 I z1.1 0 false), (64, RR 64 4 a63 z1.2.1 0 false)] 88) ?_
      refine pN ?_
      refine pS ?_
      refine gC 61 x17 ?_ ?_
      · refine gX 3 ?_
        refine pF ?_
        refine pO ?_
        refine pH ?_
        refine pN ?_
        refine pS ?_
        refine gR 25 (rg Try.f213 25) ?_
        refine se (mkE [(0, LL a63 p0), (1, LL a63 p1), (5, .own 40 0), (8, .own 64 0), (9, LL a266 z1.2.2.1), (10, I z1.2.2.2.1), (40, .own 40 0), (41, I (lenL x7)), (42, I (addI .i64 z1.2.2.2.2 1))] [(40, RR 3 1 I z1.1 0 false), (64, RR 64 4 a63 z1.2.1 0 false)] 88) ?_
        exact pL
      · refine gK ?_
        refine pN ?_
        refine pS ?_
        refine gS 24 ?_
        refine gS 20 ?_
        refine gR 19 (rg Try.f213 19) ?_
        refine sg 1 (mkE [(62, LL a266 z1.2.2.1), (0, LL a63 p0), (1, LL a63 p1), (5, .own 40 0), (8, .own 64 0), (9, LL a266 z1.2.2.1), (10, I z1.2.2.2.1), (12, I x9), (13, .nils), (40, .own 40 0), (41, I (lenL x7)), (42, I z1.2.2.2.2), (61, B x17)] [(40, RR 3 1 I z1.1 0 false), (64, RR 64 4 a63 z1.2.1 0 false)] 88) ?_
        refine eo 63 (I (lenL z1.2.2.1)) (lenE 262 a266 z1.2.2.1) ?_
        refine se (mkE [(0, LL a63 p0), (1, LL a63 p1), (5, .own 40 0), (8, .own 64 0), (10, I z1.2.2.2.1), (12, I x9), (13, .nils), (40, .own 40 0), (41, I (lenL x7)), (42, I z1.2.2.2.2), (62, LL a266 z1.2.2.1), (63, I (lenL z1.2.2.1)), (64, I 0)] [(40, RR 3 1 I z1.1 0 false), (64, RR 64 4 a63 z1.2.1 0 false)] 88) ?_
        refine pN ?_
        refine pS ?_
        refine gB 4 ?_
        refine lo [(0, none), (1, none), (5, some (3, 1)), (8, some (64, 4)), (10, none), (12, none), (13, none), (41, none), (42, none), (62, none), (63, none), (64, none)] [(40, 5)] (L213_20_v1 p0 p1 x7 z1 x9) (fun z2 : ((List Int) × (List S63) × Int) => (mkE [(40, .own 40 0), (0, LL a63 p0), (1, LL a63 p1), (5, .own 40 0), (8, .own 64 0), (10, I z1.2.2.2.1), (12, I x9), (13, LL a266 ([] : List S266)), (41, I (lenL x7)), (42, I z1.2.2.2.2), (62, LL a266 z1.2.2.1), (63, I (lenL z1.2.2.1)), (64, I z2.2.2)] [(40, RR 3 1 I z2.1 0 false), (64, RR 64 4 a63 z2.2.1 0 false)] 88)) (fun (x : (Int × Bool × (List Int) × (List S63))) => (.exit 4, (mkE [(0, LL a63 p0), (1, LL a63 p1), (5, .own 40 0), (8, .own 64 0), (10, I z1.2.2.2.1), (12, I x9), (13, LL a266 ([] : List S266)), (40, .own 40 0), (41, I (lenL x7)), (42, I z1.2.2.2.2), (62, LL a266 z1.2.2.1), (63, I (lenL z1.2.2.1)), (64, I x.1), (65, B x.2.1)] [(40, RR 3 1 I x.2.2.1 0 false), (64, RR 64 4 a63 x.2.2.2 0 false)] 88))) (z1.1, z1.2.1, 0) (fun z => L213_20_v1_ok C p0 p1 x7 z1 x9 z) ?_
        intro y20
        refine pH ?_
        refine pN ?_
        refine pS ?_
        refine gR 24 (rg Try.f213 24) ?_
        refine se (mkE [(0, LL a63 p0), (1, LL a63 p1), (5, .own 40 0), (8, .own 64 0), (9, LL a266 ([] : List S266)), (10, I x9), (40, .own 40 0), (41, I (lenL x7)), (42, I z1.2.2.2.2)] [(40, RR 3 1 I y20.2.2.1 0 false), (64, RR 64 4 a63 y20.2.2.2 0 false)] 88) ?_
        refine pB ?_
        refine pN ?_
        refine pS ?_
        refine gR 25 (rg Try.f213 25) ?_
        refine se (mkE [(0, LL a63 p0), (1, LL a63 p1), (5, .own 40 0), (8, .own 64 0), (9, LL a266 ([] : List S266)), (10, I x9), (40, .own 40 0), (41, I (lenL x7)), (42, I (addI .i64 z1.2.2.2.2 1))] [(40, RR 3 1 I y20.2.2.1 0 false), (64, RR 64 4 a63 y20.2.2.2 0 false)] 88) ?_
        exact pL
  · refine gX 2 ?_
    exact pL
noncomputable def T213 (p0 : (List S63)) (p1 : (List S63)) : Option (List S63) := ((T218 ([p0, p1] : List (List S63))).bind fun x1 => ((iter (L213_3 p0 p1 x1) ([], x1, 0)).bind fun y5 => ((sortIO y5.2.2.1).bind fun x6 => ((compIO x6).bind fun x7 => ((iter (L213_13 p0 p1 x7) (x7, [], ([] : List S266), 0, 0)).bind fun y21 => (some y21.2.2.2.2.2))))))
theorem B213 (C : Callee) (h218 : ∀ (p0 : (List (List S63))), C 218 [LL (LL a63) p0] = (T218 p0).map (fun l => AV.fr 64 4 (List.map a63 l))) (h250 : ∀ (p0 : (List Int)), C 250 [.fr 3 1 (List.map I p0)] = (sortIO p0).map (fun (r : (List Int)) => AV.inp (.tup []) (.fr 3 1 (List.map I r)))) (h251 : ∀ (p0 : (List Int)), C 251 [.fr 3 1 (List.map I p0)] = (compIO p0).map (fun l => AV.fr 3 1 (List.map I l))) (h252 : ∀ (p0 : (List S266)) (p1 : (List S266)), C 252 [LL a266 p0, LL a266 p1] = (T252 p0 p1).map (fun l => AV.fr 267 2 (List.map a266 l))) (h253 : ∀ (p0 : (List S63)) (p1 : Int), C 253 [LL a63 p0, I p1] = (T253 p0 p1).map (fun l => AV.fr 267 2 (List.map a266 l))) (h254 : ∀ (p0 : (List S266)) (p1 : (List S266)), C 254 [LL a266 p0, LL a266 p1] = (T254 p0 p1).map B) (p0 : (List S63)) (p1 : (List S63)) : runs Try.prog C (cfg.fn 213) (finFn Try.prog (cfg.fn 213).byval Try.f213) [] (execA Try.prog C (cfg.fn 213) (nr Try.f213 []) (frame0 [LL a63 p0, LL a63 p1] 88 false)) = (T213 p0 p1).map (fun l => AV.fr 64 4 (List.map a63 l)) := by
  unfold T213
  refine gS 1 ?_
  refine gR 0 (rg Try.f213 0) ?_
  refine se (mkE [(0, LL a63 p0), (1, LL a63 p1)] [] 88) ?_
  refine pN ?_
  refine pS ?_
  refine gS 2 ?_
  refine gR 1 (rg Try.f213 1) ?_
  refine se (mkE [(0, LL a63 p0), (1, LL a63 p1), (5, .nils)] [] 88) ?_
  refine pN ?_
  refine pS ?_
  refine gS 7 ?_
  refine gS 3 ?_
  refine gR 2 (rg Try.f213 2) ?_
  refine sg 3 (mkE [(18, .own 144 0), (17, LL a63 p1), (16, LL a63 p0), (0, LL a63 p0), (1, LL a63 p1), (5, .nils)] [(144, RR 65 1 (LL a63) ([p0, p1] : List (List S63)) 0 false)] 88) ?_
  refine co 19 [144] (h218 ([p0, p1] : List (List S63))) (fun x1 => ?_)
  refine eo 20 (I (lenL x1)) (lenOE 65 64 4 a63 x1) ?_
  refine se (mkE [(0, LL a63 p0), (1, LL a63 p1), (5, .nils), (19, .own 152 0), (20, I (lenL x1)), (21, I 0)] [(152, RR 64 4 a63 x1 0 false)] 88) ?_
  refine pN ?_
  refine pS ?_
  refine gB 0 ?_
  refine lo [(0, none), (1, none), (5, some (3, 1)), (19, some (64, 4)), (20, none), (21, none)] [] (L213_3 p0 p1 x1) (fun z0 : ((List Int) × (List S63) × Int) => (mkE [(0, LL a63 p0), (1, LL a63 p1), (5, .own 40 0), (19, .own 152 0), (20, I (lenL x1)), (21, I z0.2.2)] [(40, RR 3 1 I z0.1 0 false), (152, RR 64 4 a63 z0.2.1 0 false)] 88)) (fun (x : (Int × Bool × (List Int) × (List S63))) => (.exit 0, (mkE [(0, LL a63 p0), (1, LL a63 p1), (5, .own 40 0), (19, .own 152 0), (20, I (lenL x1)), (21, I x.1), (22, B x.2.1)] [(40, RR 3 1 I x.2.2.1 0 false), (152, RR 64 4 a63 x.2.2.2 0 false)] 88))) ([], x1, 0) (fun z => L213_3_ok C p0 p1 x1 z) ?_
  intro y5
  refine pH ?_
  refine pN ?_
  refine pS ?_
  refine gS 8 ?_
  refine gR 7 (rg Try.f213 7) ?_
  refine sg 1 (mkE [(36, .own 40 0), (0, LL a63 p0), (1, LL a63 p1), (5, .own 40 0), (19, .own 152 0), (20, I (lenL x1)), (21, I y5.1), (22, B y5.2.1)] [(40, RR 3 1 I y5.2.2.1 0 false), (152, RR 64 4 a63 y5.2.2.2 0 false)] 88) ?_
  refine mo (some 37) (ipR 250 3 1 40 0 I y5.2.2.1 [] [] [] (fun x : (List Int) => .tup []) (fun x : (List Int) => x) (h250 y5.2.2.1)) (fun x6 => ?_)
  refine se (mkE [(0, LL a63 p0), (1, LL a63 p1), (5, .own 40 0)] [(40, RR 3 1 I x6 0 false)] 88) ?_
  refine pN ?_
  refine pS ?_
  refine gS 9 ?_
  refine gR 8 (rg Try.f213 8) ?_
  refine sg 1 (mkE [(38, .own 40 0), (0, LL a63 p0), (1, LL a63 p1), (5, .own 40 0)] [(40, RR 3 1 I x6 0 false)] 88) ?_
  refine mo (some 39) (gvO 251 3 1 40 0 I x6 [] [] [] (h251 x6)) (fun x7 => ?_)
  refine se (mkE [(0, LL a63 p0), (1, LL a63 p1), (5, .own 40 1)] [(40, RR 3 1 I x7 1 false)] 88) ?_
  refine pN ?_
  refine pS ?_
  refine gS 10 ?_
  refine gR 9 (rg Try.f213 9) ?_
  refine se (mkE [(0, LL a63 p0), (1, LL a63 p1), (5, .own 40 1), (8, .nils)] [(40, RR 3 1 I x7 1 false)] 88) ?_
  refine pN ?_
  refine pS ?_
  refine gS 11 ?_
  refine gR 10 (rg Try.f213 10) ?_
  refine se (mkE [(0, LL a63 p0), (1, LL a63 p1), (5, .own 40 1), (8, .nils), (9, .nils)] [(40, RR 3 1 I x7 1 false)] 88) ?_
  refine pN ?_
  refine pS ?_
  refine gS 12 ?_
  refine gR 11 (rg Try.f213 11) ?_
  refine se (mkE [(0, LL a63 p0), (1, LL a63 p1), (5, .own 40 1), (8, .nils), (9, .nils), (10, I 0)] [(40, RR 3 1 I x7 1 false)] 88) ?_
  refine pN ?_
  refine pS ?_
  refine gS 26 ?_
  refine gS 13 ?_
  refine gR 12 (rg Try.f213 12) ?_
  refine sg 1 (mkE [(40, .own 40 1), (0, LL a63 p0), (1, LL a63 p1), (5, .own 40 1), (8, .nils), (9, .nils), (10, I 0)] [(40, RR 3 1 I x7 1 false)] 88) ?_
  refine eo 41 (I (lenL x7)) (lenOE 104 3 1 I x7) ?_
  refine se (mkE [(0, LL a63 p0), (1, LL a63 p1), (5, .own 40 1), (8, .nils), (9, .nils), (10, I 0), (40, .own 40 1), (41, I (lenL x7)), (42, I 0)] [(40, RR 3 1 I x7 1 false)] 88) ?_
  refine pN ?_
  refine pS ?_
  refine gB 2 ?_
  refine lo [(0, none), (1, none), (5, some (3, 1)), (8, some (64, 4)), (9, none), (10, none), (41, none), (42, none)] [(40, 5)] (L213_13 p0 p1 x7) (fun z1 : ((List Int) × (List S63) × (List S266) × Int × Int) => (mkE [(40, .own 40 0), (0, LL a63 p0), (1, LL a63 p1), (5, .own 40 0), (8, .own 64 0), (9, LL a266 z1.2.2.1), (10, I z1.2.2.2.1), (41, I (lenL x7)), (42, I z1.2.2.2.2)] [(40, RR 3 1 I z1.1 0 false), (64, RR 64 4 a63 z1.2.1 0 false)] 88)) (fun (x : ((List S266) × Int × Int × Bool × (List Int) × (List S63))) => (.exit 2, (mkE [(0, LL a63 p0), (1, LL a63 p1), (5, .own 40 0), (8, .own 64 0), (9, LL a266 x.1), (10, I x.2.1), (40, .own 40 0), (41, I (lenL x7)), (42, I x.2.2.1), (43, B x.2.2.2.1)] [(40, RR 3 1 I x.2.2.2.2.1 0 false), (64, RR 64 4 a63 x.2.2.2.2.2 0 false)] 88))) (x7, [], ([] : List S266), 0, 0) (fun z => L213_13_ok C h252 h253 h254 p0 p1 x7 z) ?_
  intro y21
  refine pH ?_
  refine pN ?_
  refine pS ?_
  refine gS 0 ?_
  refine gR 26 (rg Try.f213 26) ?_
  refine se (mkE [(4, .own 64 0)] [(64, RR 64 4 a63 y21.2.2.2.2.2 0 false)] 88) ?_
  refine pN ?_
  refine pS ?_
  refine gE ?_
  exact pL
theorem F213 (m : Nat) (hm : 4 ≤ m) (p0 : (List S63)) (p1 : (List S63)) : callA Try.prog cfg m 213 [LL a63 p0, LL a63 p1] = (T213 p0 p1).map (fun l => AV.fr 64 4 (List.map a63 l)) := by
  obtain ⟨q, rfl⟩ : ∃ q, m = q + 1 := ⟨m - 1, by omega⟩
  exact (callA_body (fn := Try.f213) (c := body_ Try.f213) q _ (by kernel_rfl) (by kernel_rfl) (by kernel_rfl)).trans (B213 _ (fun p0 => F218 q (by omega) p0) (fun p0 => F250 q (by omega) p0) (fun p0 => F251 q (by omega) p0) (fun p0 p1 => F252 q (by omega) p0 p1) (fun p0 p1 => F253 q (by omega) p0 p1) (fun p0 p1 => F254 q (by omega) p0 p1) p0 p1)

noncomputable def L214_3 (p0 : (List S63)) (z0 : (Int × Int)) : Option ((Int × Int) ⊕ (Int × Int × Bool)) := (bif (ltI z0.2 (lenL p0)) then ((listAt p0 z0.2).bind fun x1 => (some (.inl ((addI .i64 z0.1 (mulI .i64 x1.f2 x1.f3)), (addI .i64 z0.2 1))))) else (some (.inr (z0.1, z0.2, (ltI z0.2 (lenL p0))))))
theorem L214_3_ok (C : Callee) (p0 : (List S63)) (z0 : (Int × Int)) : runs Try.prog C (cfg.fn 214) (finLoop ((cfg.fn 214).keep 3) ((cfg.fn 214).al 3)) [] (execA Try.prog C (cfg.fn 214) (nr Try.f214 [false, false, true, false, true, true]) ((fun z0 : (Int × Int) => (mkE [(3, I z0.1), (6, LL a63 p0), (7, I (lenL p0)), (8, I z0.2)] [] 21)) z0)) = (L214_3 p0 z0).map (Sum.elim (fun z => .inl ((fun z0 : (Int × Int) => (mkE [(3, I z0.1), (6, LL a63 p0), (7, I (lenL p0)), (8, I z0.2)] [] 21)) z)) (fun x => .inr ((fun (x : (Int × Int × Bool)) => (.exit 0, (mkE [(3, I x.1), (6, LL a63 p0), (7, I (lenL p0)), (8, I x.2.1), (9, B x.2.2)] [] 21))) x))) := by
  unfold L214_3
  refine gS 0 ?_
  refine gR 3 (rg Try.f214 3) ?_
  refine se (mkE [(3, I z0.1), (6, LL a63 p0), (7, I (lenL p0)), (8, I z0.2), (9, B (ltI z0.2 (lenL p0)))] [] 21) ?_
  refine pN ?_
  refine pS ?_
  refine gS 4 ?_
  refine gC 9 (ltI z0.2 (lenL p0)) ?_ ?_
  · refine gK ?_
    refine pN ?_
    refine pS ?_
    refine gS 6 ?_
    refine gB 1 ?_
    refine gS 5 ?_
    refine gR 4 (rg Try.f214 4) ?_
    refine vo 10 (addrE 65 64 4 a63 .i64 p0 z0.2) (fun x1 => ?_)
    refine se (mkE [(3, I z0.1), (5, .ba 40 0), (6, LL a63 p0), (7, I (lenL p0)), (8, I z0.2)] [(40, .box [I x1.f0, I x1.f1, I x1.f2, I x1.f3] false)] 21) ?_
    refine pN ?_
    refine pS ?_
    refine gR 5 (rg Try.f214 5) ?_
    refine se (mkE [(3, I (addI .i64 z0.1 (mulI .i64 x1.f2 x1.f3))), (6, LL a63 p0), (7, I (lenL p0)), (8, I z0.2)] [] 21) ?_
    refine pB ?_
    refine pN ?_
    refine pS ?_
    refine gR 6 (rg Try.f214 6) ?_
    refine se (mkE [(3, I (addI .i64 z0.1 (mulI .i64 x1.f2 x1.f3))), (6, LL a63 p0), (7, I (lenL p0)), (8, I (addI .i64 z0.2 1))] [] 21) ?_
    exact pL
  · refine gX 0 ?_
    exact pL
noncomputable def T214 (p0 : (List S63)) : Option Int := ((iter (L214_3 p0) (0, 0)).bind fun y2 => (some y2.1))
theorem B214 (C : Callee) (p0 : (List S63)) : runs Try.prog C (cfg.fn 214) (finFn Try.prog (cfg.fn 214).byval Try.f214) [] (execA Try.prog C (cfg.fn 214) (nr Try.f214 []) (frame0 [LL a63 p0] 21 false)) = (T214 p0).map I := by
  unfold T214
  refine gS 1 ?_
  refine gR 0 (rg Try.f214 0) ?_
  refine se (mkE [(0, LL a63 p0)] [] 21) ?_
  refine pN ?_
  refine pS ?_
  refine gS 2 ?_
  refine gR 1 (rg Try.f214 1) ?_
  refine se (mkE [(0, LL a63 p0), (3, I 0)] [] 21) ?_
  refine pN ?_
  refine pS ?_
  refine gS 7 ?_
  refine gS 3 ?_
  refine gR 2 (rg Try.f214 2) ?_
  refine sg 1 (mkE [(6, LL a63 p0), (0, LL a63 p0), (3, I 0)] [] 21) ?_
  refine eo 7 (I (lenL p0)) (lenE 65 a63 p0) ?_
  refine se (mkE [(3, I 0), (6, LL a63 p0), (7, I (lenL p0)), (8, I 0)] [] 21) ?_
  refine pN ?_
  refine pS ?_
  refine gB 0 ?_
  refine lo [(3, none), (6, none), (7, none), (8, none)] [] (L214_3 p0) (fun z0 : (Int × Int) => (mkE [(3, I z0.1), (6, LL a63 p0), (7, I (lenL p0)), (8, I z0.2)] [] 21)) (fun (x : (Int × Int × Bool)) => (.exit 0, (mkE [(3, I x.1), (6, LL a63 p0), (7, I (lenL p0)), (8, I x.2.1), (9, B x.2.2)] [] 21))) (0, 0) (fun z => L214_3_ok C p0 z) ?_
  intro y2
  refine pH ?_
  refine pN ?_
  refine pS ?_
  refine gS 0 ?_
  refine gR 7 (rg Try.f214 7) ?_
  refine se (mkE [(2, I y2.1)] [] 21) ?_
  refine pN ?_
  refine pS ?_
  refine gE ?_
  exact pL
theorem F214 (m : Nat) (hm : 1 ≤ m) (p0 : (List S63)) : callA Try.prog cfg m 214 [LL a63 p0] = (T214 p0).map I := by
  obtain ⟨q, rfl⟩ : ∃ q, m = q + 1 := ⟨m - 1, by omega⟩
  exact (callA_body (fn := Try.f214) (c := body_ Try.f214) q _ (by kernel_rfl) (by kernel_rfl) (by kernel_rfl)).trans (B214 _ p0)

noncomputable def T116 (p0 : (List S63)) : Option (Int × Int) := ((T211 p0).bind fun x1 => (bif (neI x1 0) then (some (0, x1)) else ((T213 p0 []).bind fun x2 => ((T214 x2).bind fun x3 => (some (x3, 0))))))
theorem B116 (C : Callee) (h211 : ∀ (p0 : (List S63)), C 211 [LL a63 p0] = (T211 p0).map I) (h213 : ∀ (p0 : (List S63)) (p1 : (List S63)), C 213 [LL a63 p0, LL a63 p1] = (T213 p0 p1).map (fun l => AV.fr 64 4 (List.map a63 l))) (h214 : ∀ (p0 : (List S63)), C 214 [LL a63 p0] = (T214 p0).map I) (p0 : (List S63)) : runs Try.prog C (cfg.fn 116) (finFn Try.prog (cfg.fn 116).byval Try.f116) [] (execA Try.prog C (cfg.fn 116) (nr Try.f116 []) (frame0 [LL a63 p0] 13 false)) = (T116 p0).map (fun r => AV.tup [I r.1, I r.2]) := by
  unfold T116
  refine gS 1 ?_
  refine gR 0 (rg Try.f116 0) ?_
  refine se (mkE [(0, LL a63 p0)] [] 13) ?_
  refine pN ?_
  refine pS ?_
  refine gS 4 ?_
  refine gS 2 ?_
  refine gR 1 (rg Try.f116 1) ?_
  refine sg 1 (mkE [(5, LL a63 p0), (0, LL a63 p0)] [] 13) ?_
  refine co 6 [] (h211 p0) (fun x1 => ?_)
  refine se (mkE [(0, LL a63 p0), (4, I x1)] [] 13) ?_
  refine pN ?_
  refine pS ?_
  refine gS 0 ?_
  refine gR 2 (rg Try.f116 2) ?_
  refine se (mkE [(0, LL a63 p0), (4, I x1), (8, B (neI x1 0))] [] 13) ?_
  refine pN ?_
  refine pS ?_
  refine gC 8 (neI x1 0) ?_ ?_
  · refine gS 0 ?_
    refine gR 3 (rg Try.f116 3) ?_
    refine se (mkE [(2, I 0), (3, I x1)] [] 13) ?_
    refine pN ?_
    refine pS ?_
    refine gE ?_
    exact pL
  · refine gK ?_
    refine pN ?_
    refine pS ?_
    refine gS 0 ?_
    refine gR 4 (rg Try.f116 4) ?_
    refine sg 1 (mkE [(10, LL a63 p0), (0, LL a63 p0), (4, I x1), (8, B (neI x1 0))] [] 13) ?_
    refine co 11 [] (h213 p0 []) (fun x2 => ?_)
    refine co 12 [88] (h214 x2) (fun x3 => ?_)
    refine se (mkE [(2, I x3), (3, I 0)] [] 13) ?_
    refine pN ?_
    refine pS ?_
    refine gE ?_
    exact pL
theorem F116 (m : Nat) (hm : 5 ≤ m) (p0 : (List S63)) : callA Try.prog cfg m 116 [LL a63 p0] = (T116 p0).map (fun r => AV.tup [I r.1, I r.2]) := by
  obtain ⟨q, rfl⟩ : ∃ q, m = q + 1 := ⟨m - 1, by omega⟩
  exact (callA_body (fn := Try.f116) (c := body_ Try.f116) q _ (by kernel_rfl) (by kernel_rfl) (by kernel_rfl)).trans (B116 _ (fun p0 => F211 q (by omega) p0) (fun p0 p1 => F213 q (by omega) p0 p1) (fun p0 => F214 q (by omega) p0) p0)

noncomputable def T43 : Option Bool := ((T116 ([(S63.mk 0 0 2 2), (S63.mk 1 1 2 2)] : List S63)).bind fun x1 => (bif (eqI x1.2 0) then (some (eqI x1.1 7)) else (some false)))
theorem B43 (C : Callee) (h116 : ∀ (p0 : (List S63)), C 116 [LL a63 p0] = (T116 p0).map (fun r => AV.tup [I r.1, I r.2])) : runs Try.prog C (cfg.fn 43) (finFn Try.prog (cfg.fn 43).byval Try.f43) [] (execA Try.prog C (cfg.fn 43) (nr Try.f43 []) (frame0 [] 16 false)) = (T43).map B := by
  unfold T43
  refine gS 1 ?_
  refine gR 0 (rg Try.f43 0) ?_
  refine se (mkE [] [] 16) ?_
  refine pN ?_
  refine pS ?_
  refine gS 2 ?_
  refine gR 1 (rg Try.f43 1) ?_
  refine sg 3 (mkE [(6, .own 48 0), (5, .agg [I 1, I 1, I 2, I 2]), (4, .agg [I 0, I 0, I 2, I 2])] [(48, RR 64 4 a63 ([(S63.mk 0 0 2 2), (S63.mk 1 1 2 2)] : List S63) 0 false)] 16) ?_
  refine co 7 [48] (h116 ([(S63.mk 0 0 2 2), (S63.mk 1 1 2 2)] : List S63)) (fun x1 => ?_)
  refine se (mkE [(1, I x1.1), (2, I x1.2)] [] 16) ?_
  refine pN ?_
  refine pS ?_
  refine gS 0 ?_
  refine gR 2 (rg Try.f43 2) ?_
  refine sg 3 (mkE [(12, B (eqI x1.2 0)), (11, B (eqI x1.2 0)), (10, I x1.2), (1, I x1.1), (2, I x1.2)] [] 16) ?_
  refine sb 12 (eqI x1.2 0) ?_ ?_
  · refine se (mkE [(0, B (eqI x1.1 7))] [] 16) ?_
    refine pN ?_
    refine pS ?_
    refine gE ?_
    exact pL
  · refine se (mkE [(0, B false)] [] 16) ?_
    refine pN ?_
    refine pS ?_
    refine gE ?_
    exact pL
theorem F43 (m : Nat) (hm : 6 ≤ m) : callA Try.prog cfg m 43 [] = (T43).map B := by
  obtain ⟨q, rfl⟩ : ∃ q, m = q + 1 := ⟨m - 1, by omega⟩
  exact (callA_body (fn := Try.f43) (c := body_ Try.f43) q _ (by kernel_rfl) (by kernel_rfl) (by kernel_rfl)).trans (B43 _ (fun p0 => F116 q (by omega) p0))

noncomputable def T11 (p0 : Int) (p1 : Int) (p2 : Int) (p3 : Int) (p4 : Int) (p5 : Int) (p6 : S63) : Option Bool := ((T37 p6 p0 p1 p4).bind fun x1 => ((T38 p6 p0 p1 p2 p3).bind fun x2 => ((T39 p0 p1 p2 p3 p5).bind fun x3 => ((T40 p6 p0 p1 p4).bind fun x4 => ((T41 p6 p0 p1 p2 p3).bind fun x5 => ((T42 p0 p1 p2 p3 p5).bind fun x6 => (bif (allB [eqI x1.1.f0 x4.1.f0, eqI x1.1.f1 x4.1.f1, eqI x1.1.f2 x4.1.f2, eqI x1.1.f3 x4.1.f3]) then (bif (eqI x1.2 x4.2) then (bif (allB [eqI x2.1.f0 x5.1.f0, eqI x2.1.f1 x5.1.f1, eqI x2.1.f2 x5.1.f2, eqI x2.1.f3 x5.1.f3]) then (bif (eqI x2.2 x5.2) then (bif (allB [eqI x3.1.f0 x6.1.f0, eqI x3.1.f1 x6.1.f1, eqI x3.1.f2 x6.1.f2, eqI x3.1.f3 x6.1.f3]) then (bif (allB [eqI x3.2.1.f0 x6.2.1.f0, eqI x3.2.1.f1 x6.2.1.f1, eqI x3.2.1.f2 x6.2.1.f2, eqI x3.2.1.f3 x6.2.1.f3]) then (bif (eqI x3.2.2 x6.2.2) then ((T43).bind fun x7 => (some x7)) else (some false)) else (some false)) else (some false)) else (some false)) else (some false)) else (some false)) else (some false))))))))
theorem B11 (C : Callee) (h37 : ∀ (p0 : S63) (p1 : Int) (p2 : Int) (p3 : Int), C 37 [a63 p0, I p1, I p2, I p3] = (T37 p0 p1 p2 p3).map (fun r => AV.tup [a63 r.1, I r.2])) (h38 : ∀ (p0 : S63) (p1 : Int) (p2 : Int) (p3 : Int) (p4 : Int), C 38 [a63 p0, I p1, I p2, I p3, I p4] = (T38 p0 p1 p2 p3 p4).map (fun r => AV.tup [a63 r.1, I r.2])) (h39 : ∀ (p0 : Int) (p1 : Int) (p2 : Int) (p3 : Int) (p4 : Int), C 39 [I p0, I p1, I p2, I p3, I p4] = (T39 p0 p1 p2 p3 p4).map (fun r => AV.tup [a63 r.1, a63 r.2.1, I r.2.2])) (h40 : ∀ (p0 : S63) (p1 : Int) (p2 : Int) (p3 : Int), C 40 [a63 p0, I p1, I p2, I p3] = (T40 p0 p1 p2 p3).map (fun r => AV.tup [a63 r.1, I r.2])) (h41 : ∀ (p0 : S63) (p1 : Int) (p2 : Int) (p3 : Int) (p4 : Int), C 41 [a63 p0, I p1, I p2, I p3, I p4] = (T41 p0 p1 p2 p3 p4).map (fun r => AV.tup [a63 r.1, I r.2])) (h42 : ∀ (p0 : Int) (p1 : Int) (p2 : Int) (p3 : Int) (p4 : Int), C 42 [I p0, I p1, I p2, I p3, I p4] = (T42 p0 p1 p2 p3 p4).map (fun r => AV.tup [a63 r.1, a63 r.2.1, I r.2.2])) (h43 : C 43 [] = (T43).map B) (p0 : Int) (p1 : Int) (p2 : Int) (p3 : Int) (p4 : Int) (p5 : Int) (p6 : S63) : runs Try.prog C (cfg.fn 11) (finFn Try.prog (cfg.fn 11).byval Try.f11) [] (execA Try.prog C (cfg.fn 11) (nr Try.f11 []) (frame0 [I p0, I p1, I p2, I p3, I p4, I p5, a63 p6] 119 false)) = (T11 p0 p1 p2 p3 p4 p5 p6).map B := by
  unfold T11
  refine gS 1 ?_
  refine gR 0 (rg Try.f11 0) ?_
  refine se (mkE [(0, I p0), (1, I p1), (2, I p2), (3, I p3), (4, I p4), (5, I p5), (13, .ba 104 0)] [(104, .box [I p6.f0, I p6.f1, I p6.f2, I p6.f3] false)] 119) ?_
  refine pN ?_
  refine pS ?_
  refine gS 2 ?_
  refine gR 1 (rg Try.f11 1) ?_
  refine sg 4 (mkE [(33, I p4), (32, I p1), (31, I p0), (30, a63 p6), (0, I p0), (1, I p1), (2, I p2), (3, I p3), (4, I p4), (5, I p5), (13, .ba 104 0)] [(104, .box [I p6.f0, I p6.f1, I p6.f2, I p6.f3] false)] 119) ?_
  refine co 34 [] (h37 p6 p0 p1 p4) (fun x1 => ?_)
  refine se (mkE [(0, I p0), (1, I p1), (2, I p2), (3, I p3), (4, I p4), (5, I p5), (13, .ba 104 0), (15, .ba 120 0), (16, I x1.2)] [(104, .box [I p6.f0, I p6.f1, I p6.f2, I p6.f3] false), (120, .box [I x1.1.f0, I x1.1.f1, I x1.1.f2, I x1.1.f3] false)] 119) ?_
  refine pN ?_
  refine pS ?_
  refine gS 3 ?_
  refine gR 2 (rg Try.f11 2) ?_
  refine sg 5 (mkE [(42, I p3), (41, I p2), (40, I p1), (39, I p0), (38, a63 p6), (0, I p0), (1, I p1), (2, I p2), (3, I p3), (4, I p4), (5, I p5), (13, .ba 104 0), (15, .ba 120 0), (16, I x1.2)] [(104, .box [I p6.f0, I p6.f1, I p6.f2, I p6.f3] false), (120, .box [I x1.1.f0, I x1.1.f1, I x1.1.f2, I x1.1.f3] false)] 119) ?_
  refine co 43 [] (h38 p6 p0 p1 p2 p3) (fun x2 => ?_)
  refine se (mkE [(0, I p0), (1, I p1), (2, I p2), (3, I p3), (4, I p4), (5, I p5), (13, .ba 104 0), (15, .ba 120 0), (16, I x1.2), (17, .ba 136 0), (18, I x2.2)] [(104, .box [I p6.f0, I p6.f1, I p6.f2, I p6.f3] false), (120, .box [I x1.1.f0, I x1.1.f1, I x1.1.f2, I x1.1.f3] false), (136, .box [I x2.1.f0, I x2.1.f1, I x2.1.f2, I x2.1.f3] false)] 119) ?_
  refine pN ?_
  refine pS ?_
  refine gS 4 ?_
  refine gR 3 (rg Try.f11 3) ?_
  refine sg 5 (mkE [(51, I p5), (50, I p3), (49, I p2), (48, I p1), (47, I p0), (0, I p0), (1, I p1), (2, I p2), (3, I p3), (4, I p4), (5, I p5), (13, .ba 104 0), (15, .ba 120 0), (16, I x1.2), (17, .ba 136 0), (18, I x2.2)] [(104, .box [I p6.f0, I p6.f1, I p6.f2, I p6.f3] false), (120, .box [I x1.1.f0, I x1.1.f1, I x1.1.f2, I x1.1.f3] false), (136, .box [I x2.1.f0, I x2.1.f1, I x2.1.f2, I x2.1.f3] false)] 119) ?_
  refine co 52 [] (h39 p0 p1 p2 p3 p5) (fun x3 => ?_)
  refine se (mkE [(0, I p0), (1, I p1), (2, I p2), (3, I p3), (4, I p4), (5, I p5), (13, .ba 104 0), (15, .ba 120 0), (16, I x1.2), (17, .ba 136 0), (18, I x2.2), (19, .ba 152 0), (20, .ba 160 0), (21, I x3.2.2)] [(104, .box [I p6.f0, I p6.f1, I p6.f2, I p6.f3] false), (120, .box [I x1.1.f0, I x1.1.f1, I x1.1.f2, I x1.1.f3] false), (136, .box [I x2.1.f0, I x2.1.f1, I x2.1.f2, I x2.1.f3] false), (152, .box [I x3.1.f0, I x3.1.f1, I x3.1.f2, I x3.1.f3] false), (160, .box [I x3.2.1.f0, I x3.2.1.f1, I x3.2.1.f2, I x3.2.1.f3] false)] 119) ?_
  refine pN ?_
  refine pS ?_
  refine gS 5 ?_
  refine gR 4 (rg Try.f11 4) ?_
  refine sg 4 (mkE [(60, I p4), (59, I p1), (58, I p0), (57, a63 p6), (0, I p0), (1, I p1), (2, I p2), (3, I p3), (4, I p4), (5, I p5), (13, .ba 104 0), (15, .ba 120 0), (16, I x1.2), (17, .ba 136 0), (18, I x2.2), (19, .ba 152 0), (20, .ba 160 0), (21, I x3.2.2)] [(104, .box [I p6.f0, I p6.f1, I p6.f2, I p6.f3] false), (120, .box [I x1.1.f0, I x1.1.f1, I x1.1.f2, I x1.1.f3] false), (136, .box [I x2.1.f0, I x2.1.f1, I x2.1.f2, I x2.1.f3] false), (152, .box [I x3.1.f0, I x3.1.f1, I x3.1.f2, I x3.1.f3] false), (160, .box [I x3.2.1.f0, I x3.2.1.f1, I x3.2.1.f2, I x3.2.1.f3] false)] 119) ?_
  refine co 61 [] (h40 p6 p0 p1 p4) (fun x4 => ?_)
  refine se (mkE [(0, I p0), (1, I p1), (2, I p2), (3, I p3), (5, I p5), (13, .ba 104 0), (15, .ba 120 0), (16, I x1.2), (17, .ba 136 0), (18, I x2.2), (19, .ba 152 0), (20, .ba 160 0), (21, I x3.2.2), (22, .ba 176 0), (23, I x4.2)] [(104, .box [I p6.f0, I p6.f1, I p6.f2, I p6.f3] false), (120, .box [I x1.1.f0, I x1.1.f1, I x1.1.f2, I x1.1.f3] false), (136, .box [I x2.1.f0, I x2.1.f1, I x2.1.f2, I x2.1.f3] false), (152, .box [I x3.1.f0, I x3.1.f1, I x3.1.f2, I x3.1.f3] false), (160, .box [I x3.2.1.f0, I x3.2.1.f1, I x3.2.1.f2, I x3.2.1.f3] false), (176, .box [I x4.1.f0, I x4.1.f1, I x4.1.f2, I x4.1.f3] false)] 119) ?_
  refine pN ?_
  refine pS ?_
  refine gS 6 ?_
  refine gR 5 (rg Try.f11 5) ?_
  refine sg 5 (mkE [(69, I p3), (68, I p2), (67, I p1), (66, I p0), (65, a63 p6), (0, I p0), (1, I p1), (2, I p2), (3, I p3), (5, I p5), (13, .ba 104 0), (15, .ba 120 0), (16, I x1.2), (17, .ba 136 0), (18, I x2.2), (19, .ba 152 0), (20, .ba 160 0), (21, I x3.2.2), (22, .ba 176 0), (23, I x4.2)] [(104, .box [I p6.f0, I p6.f1, I p6.f2, I p6.f3] false), (120, .box [I x1.1.f0, I x1.1.f1, I x1.1.f2, I x1.1.f3] false), (136, .box [I x2.1.f0, I x2.1.f1, I x2.1.f2, I x2.1.f3] false), (152, .box [I x3.1.f0, I x3.1.f1, I x3.1.f2, I x3.1.f3] false), (160, .box [I x3.2.1.f0, I x3.2.1.f1, I x3.2.1.f2, I x3.2.1.f3] false), (176, .box [I x4.1.f0, I x4.1.f1, I x4.1.f2, I x4.1.f3] false)] 119) ?_
  refine co 70 [] (h41 p6 p0 p1 p2 p3) (fun x5 => ?_)
  refine se (mkE [(0, I p0), (1, I p1), (2, I p2), (3, I p3), (5, I p5), (15, .ba 120 0), (16, I x1.2), (17, .ba 136 0), (18, I x2.2), (19, .ba 152 0), (20, .ba 160 0), (21, I x3.2.2), (22, .ba 176 0), (23, I x4.2), (24, .ba 192 0), (25, I x5.2)] [(120, .box [I x1.1.f0, I x1.1.f1, I x1.1.f2, I x1.1.f3] false), (136, .box [I x2.1.f0, I x2.1.f1, I x2.1.f2, I x2.1.f3] false), (152, .box [I x3.1.f0, I x3.1.f1, I x3.1.f2, I x3.1.f3] false), (160, .box [I x3.2.1.f0, I x3.2.1.f1, I x3.2.1.f2, I x3.2.1.f3] false), (176, .box [I x4.1.f0, I x4.1.f1, I x4.1.f2, I x4.1.f3] false), (192, .box [I x5.1.f0, I x5.1.f1, I x5.1.f2, I x5.1.f3] false)] 119) ?_
  refine pN ?_
  refine pS ?_
  refine gS 7 ?_
  refine gR 6 (rg Try.f11 6) ?_
  refine sg 5 (mkE [(78, I p5), (77, I p3), (76, I p2), (75, I p1), (74, I p0), (0, I p0), (1, I p1), (2, I p2), (3, I p3), (5, I p5), (15, .ba 120 0), (16, I x1.2), (17, .ba 136 0), (18, I x2.2), (19, .ba 152 0), (20, .ba 160 0), (21, I x3.2.2), (22, .ba 176 0), (23, I x4.2), (24, .ba 192 0), (25, I x5.2)] [(120, .box [I x1.1.f0, I x1.1.f1, I x1.1.f2, I x1.1.f3] false), (136, .box [I x2.1.f0, I x2.1.f1, I x2.1.f2, I x2.1.f3] false), (152, .box [I x3.1.f0, I x3.1.f1, I x3.1.f2, I x3.1.f3] false), (160, .box [I x3.2.1.f0, I x3.2.1.f1, I x3.2.1.f2, I x3.2.1.f3] false), (176, .box [I x4.1.f0, I x4.1.f1, I x4.1.f2, I x4.1.f3] false), (192, .box [I x5.1.f0, I x5.1.f1, I x5.1.f2, I x5.1.f3] false)] 119) ?_
  refine co 79 [] (h42 p0 p1 p2 p3 p5) (fun x6 => ?_)
  refine se (mkE [(15, .ba 120 0), (16, I x1.2), (17, .ba 136 0), (18, I x2.2), (19, .ba 152 0), (20, .ba 160 0), (21, I x3.2.2), (22, .ba 176 0), (23, I x4.2), (24, .ba 192 0), (25, I x5.2), (26, .ba 208 0), (27, .ba 216 0), (28, I x6.2.2)] [(120, .box [I x1.1.f0, I x1.1.f1, I x1.1.f2, I x1.1.f3] false), (136, .box [I x2.1.f0, I x2.1.f1, I x2.1.f2, I x2.1.f3] false), (152, .box [I x3.1.f0, I x3.1.f1, I x3.1.f2, I x3.1.f3] false), (160, .box [I x3.2.1.f0, I x3.2.1.f1, I x3.2.1.f2, I x3.2.1.f3] false), (176, .box [I x4.1.f0, I x4.1.f1, I x4.1.f2, I x4.1.f3] false), (192, .box [I x5.1.f0, I x5.1.f1, I x5.1.f2, I x5.1.f3] false), (208, .box [I x6.1.f0, I x6.1.f1, I x6.1.f2, I x6.1.f3] false), (216, .box [I x6.2.1.f0, I x6.2.1.f1, I x6.2.1.f2, I x6.2.1.f3] false)] 119) ?_
  refine pN ?_
  refine pS ?_
  refine gS 0 ?_
  refine gR 7 (rg Try.f11 7) ?_
  refine sg 2 (mkE [(84, a63 x4.1), (83, a63 x1.1), (15, .ba 120 0), (16, I x1.2), (17, .ba 136 0), (18, I x2.2), (19, .ba 152 0), (20, .ba 160 0), (21, I x3.2.2), (22, .ba 176 0), (23, I x4.2), (24, .ba 192 0), (25, I x5.2), (26, .ba 208 0), (27, .ba 216 0), (28, I x6.2.2)] [(120, .box [I x1.1.f0, I x1.1.f1, I x1.1.f2, I x1.1.f3] false), (136, .box [I x2.1.f0, I x2.1.f1, I x2.1.f2, I x2.1.f3] false), (152, .box [I x3.1.f0, I x3.1.f1, I x3.1.f2, I x3.1.f3] false), (160, .box [I x3.2.1.f0, I x3.2.1.f1, I x3.2.1.f2, I x3.2.1.f3] false), (176, .box [I x4.1.f0, I x4.1.f1, I x4.1.f2, I x4.1.f3] false), (192, .box [I x5.1.f0, I x5.1.f1, I x5.1.f2, I x5.1.f3] false), (208, .box [I x6.1.f0, I x6.1.f1, I x6.1.f2, I x6.1.f3] false), (216, .box [I x6.2.1.f0, I x6.2.1.f1, I x6.2.1.f2, I x6.2.1.f3] false)] 119) ?_
  refine eo 85 (B (allB [eqI x1.1.f0 x4.1.f0, eqI x1.1.f1 x4.1.f1, eqI x1.1.f2 x4.1.f2, eqI x1.1.f3 x4.1.f3])) (eqlE 64 (.tmp 83) (.tmp 84) [I x1.1.f0, I x1.1.f1, I x1.1.f2, I x1.1.f3] [I x4.1.f0, I x4.1.f1, I x4.1.f2, I x4.1.f3] [.int .i64 x1.1.f0, .int .i64 x1.1.f1, .int .i64 x1.1.f2, .int .i64 x1.1.f3] [.int .i64 x4.1.f0, .int .i64 x4.1.f1, .int .i64 x4.1.f2, .int .i64 x4.1.f3] [eqI x1.1.f0 x4.1.f0, eqI x1.1.f1 x4.1.f1, eqI x1.1.f2 x4.1.f2, eqI x1.1.f3 x4.1.f3]) ?_
  refine sg 4 (mkE [(86, B (allB [eqI x1.1.f0 x4.1.f0, eqI x1.1.f1 x4.1.f1, eqI x1.1.f2 x4.1.f2, eqI x1.1.f3 x4.1.f3])), (85, B (allB [eqI x1.1.f0 x4.1.f0, eqI x1.1.f1 x4.1.f1, eqI x1.1.f2 x4.1.f2, eqI x1.1.f3 x4.1.f3])), (84, a63 x4.1), (83, a63 x1.1), (15, .ba 120 0), (16, I x1.2), (17, .ba 136 0), (18, I x2.2), (19, .ba 152 0), (20, .ba 160 0), (21, I x3.2.2), (22, .ba 176 0), (23, I x4.2), (24, .ba 192 0), (25, I x5.2), (26, .ba 208 0), (27, .ba 216 0), (28, I x6.2.2)] [(120, .box [I x1.1.f0, I x1.1.f1, I x1.1.f2, I x1.1.f3] false), (136, .box [I x2.1.f0, I x2.1.f1, I x2.1.f2, I x2.1.f3] false), (152, .box [I x3.1.f0, I x3.1.f1, I x3.1.f2, I x3.1.f3] false), (160, .box [I x3.2.1.f0, I x3.2.1.f1, I x3.2.1.f2, I x3.2.1.f3] false), (176, .box [I x4.1.f0, I x4.1.f1, I x4.1.f2, I x4.1.f3] false), (192, .box [I x5.1.f0, I x5.1.f1, I x5.1.f2, I x5.1.f3] false), (208, .box [I x6.1.f0, I x6.1.f1, I x6.1.f2, I x6.1.f3] false), (216, .box [I x6.2.1.f0, I x6.2.1.f1, I x6.2.1.f2, I x6.2.1.f3] false)] 119) ?_
  refine sb 86 (allB [eqI x1.1.f0 x4.1.f0, eqI x1.1.f1 x4.1.f1, eqI x1.1.f2 x4.1.f2, eqI x1.1.f3 x4.1.f3]) ?_ ?_
  · refine sg 9 (mkE [(91, B (eqI x1.2 x4.2)), (90, B (eqI x1.2 x4.2)), (89, B (eqI x1.2 x4.2)), (88, I x4.2), (87, I x1.2), (86, B true), (86, B (allB [eqI x1.1.f0 x4.1.f0, eqI x1.1.f1 x4.1.f1, eqI x1.1.f2 x4.1.f2, eqI x1.1.f3 x4.1.f3])), (85, B (allB [eqI x1.1.f0 x4.1.f0, eqI x1.1.f1 x4.1.f1, eqI x1.1.f2 x4.1.f2, eqI x1.1.f3 x4.1.f3])), (84, a63 x4.1), (83, a63 x1.1), (15, .ba 120 0), (16, I x1.2), (17, .ba 136 0), (18, I x2.2), (19, .ba 152 0), (20, .ba 160 0), (21, I x3.2.2), (22, .ba 176 0), (23, I x4.2), (24, .ba 192 0), (25, I x5.2), (26, .ba 208 0), (27, .ba 216 0), (28, I x6.2.2)] [(120, .box [I x1.1.f0, I x1.1.f1, I x1.1.f2, I x1.1.f3] false), (136, .box [I x2.1.f0, I x2.1.f1, I x2.1.f2, I x2.1.f3] false), (152, .box [I x3.1.f0, I x3.1.f1, I x3.1.f2, I x3.1.f3] false), (160, .box [I x3.2.1.f0, I x3.2.1.f1, I x3.2.1.f2, I x3.2.1.f3] false), (176, .box [I x4.1.f0, I x4.1.f1, I x4.1.f2, I x4.1.f3] false), (192, .box [I x5.1.f0, I x5.1.f1, I x5.1.f2, I x5.1.f3] false), (208, .box [I x6.1.f0, I x6.1.f1, I x6.1.f2, I x6.1.f3] false), (216, .box [I x6.2.1.f0, I x6.2.1.f1, I x6.2.1.f2, I x6.2.1.f3] false)] 119) ?_
    refine sb 91 (eqI x1.2 x4.2) ?_ ?_
    · refine sg 11 (mkE [(93, a63 x5.1), (92, a63 x2.1), (91, B true), (91, B (eqI x1.2 x4.2)), (90, B (eqI x1.2 x4.2)), (89, B (eqI x1.2 x4.2)), (88, I x4.2), (87, I x1.2), (86, B true), (86, B (allB [eqI x1.1.f0 x4.1.f0, eqI x1.1.f1 x4.1.f1, eqI x1.1.f2 x4.1.f2, eqI x1.1.f3 x4.1.f3])), (85, B (allB [eqI x1.1.f0 x4.1.f0, eqI x1.1.f1 x4.1.f1, eqI x1.1.f2 x4.1.f2, eqI x1.1.f3 x4.1.f3])), (84, a63 x4.1), (83, a63 x1.1), (15, .ba 120 0), (16, I x1.2), (17, .ba 136 0), (18, I x2.2), (19, .ba 152 0), (20, .ba 160 0), (21, I x3.2.2), (22, .ba 176 0), (23, I x4.2), (24, .ba 192 0), (25, I x5.2), (26, .ba 208 0), (27, .ba 216 0), (28, I x6.2.2)] [(120, .box [I x1.1.f0, I x1.1.f1, I x1.1.f2, I x1.1.f3] false), (136, .box [I x2.1.f0, I x2.1.f1, I x2.1.f2, I x2.1.f3] false), (152, .box [I x3.1.f0, I x3.1.f1, I x3.1.f2, I x3.1.f3] false), (160, .box [I x3.2.1.f0, I x3.2.1.f1, I x3.2.1.f2, I x3.2.1.f3] false), (176, .box [I x4.1.f0, I x4.1.f1, I x4.1.f2, I x4.1.f3] false), (192, .box [I x5.1.f0, I x5.1.f1, I x5.1.f2, I x5.1.f3] false), (208, .box [I x6.1.f0, I x6.1.f1, I x6.1.f2, I x6.1.f3] false), (216, .box [I x6.2.1.f0, I x6.2.1.f1, I x6.2.1.f2, I x6.2.1.f3] false)] 119) ?_
      refine eo 94 (B (allB [eqI x2.1.f0 x5.1.f0, eqI x2.1.f1 x5.1.f1, eqI x2.1.f2 x5.1.f2, eqI x2.1.f3 x5.1.f3])) (eqlE 64 (.tmp 92) (.tmp 93) [I x2.1.f0, I x2.1.f1, I x2.1.f2, I x2.1.f3] [I x5.1.f0, I x5.1.f1, I x5.1.f2, I x5.1.f3] [.int .i64 x2.1.f0, .int .i64 x2.1.f1, .int .i64 x2.1.f2, .int .i64 x2.1.f3] [.int .i64 x5.1.f0, .int .i64 x5.1.f1, .int .i64 x5.1.f2, .int .i64 x5.1.f3] [eqI x2.1.f0 x5.1.f0, eqI x2.1.f1 x5.1.f1, eqI x2.1.f2 x5.1.f2, eqI x2.1.f3 x5.1.f3]) ?_
      refine sg 14 (mkE [(96, B (allB [eqI x2.1.f0 x5.1.f0, eqI x2.1.f1 x5.1.f1, eqI x2.1.f2 x5.1.f2, eqI x2.1.f3 x5.1.f3])), (95, B (allB [eqI x2.1.f0 x5.1.f0, eqI x2.1.f1 x5.1.f1, eqI x2.1.f2 x5.1.f2, eqI x2.1.f3 x5.1.f3])), (94, B (allB [eqI x2.1.f0 x5.1.f0, eqI x2.1.f1 x5.1.f1, eqI x2.1.f2 x5.1.f2, eqI x2.1.f3 x5.1.f3])), (93, a63 x5.1), (92, a63 x2.1), (91, B true), (91, B (eqI x1.2 x4.2)), (90, B (eqI x1.2 x4.2)), (89, B (eqI x1.2 x4.2)), (88, I x4.2), (87, I x1.2), (86, B true), (86, B (allB [eqI x1.1.f0 x4.1.f0, eqI x1.1.f1 x4.1.f1, eqI x1.1.f2 x4.1.f2, eqI x1.1.f3 x4.1.f3])), (85, B (allB [eqI x1.1.f0 x4.1.f0, eqI x1.1.f1 x4.1.f1, eqI x1.1.f2 x4.1.f2, eqI x1.1.f3 x4.1.f3])), (84, a63 x4.1), (83, a63 x1.1), (15, .ba 120 0), (16, I x1.2), (17, .ba 136 0), (18, I x2.2), (19, .ba 152 0), (20, .ba 160 0), (21, I x3.2.2), (22, .ba 176 0), (23, I x4.2), (24, .ba 192 0), (25, I x5.2), (26, .ba 208 0), (27, .ba 216 0), (28, I x6.2.2)] [(120, .box [I x1.1.f0, I x1.1.f1, I x1.1.f2, I x1.1.f3] false), (136, .box [I x2.1.f0, I x2.1.f1, I x2.1.f2, I x2.1.f3] false), (152, .box [I x3.1.f0, I x3.1.f1, I x3.1.f2, I x3.1.f3] false), (160, .box [I x3.2.1.f0, I x3.2.1.f1, I x3.2.1.f2, I x3.2.1.f3] false), (176, .box [I x4.1.f0, I x4.1.f1, I x4.1.f2, I x4.1.f3] false), (192, .box [I x5.1.f0, I x5.1.f1, I x5.1.f2, I x5.1.f3] false), (208, .box [I x6.1.f0, I x6.1.f1, I x6.1.f2, I x6.1.f3] false), (216, .box [I x6.2.1.f0, I x6.2.1.f1, I x6.2.1.f2, I x6.2.1.f3] false)] 119) ?_
      refine sb 96 (allB [eqI x2.1.f0 x5.1.f0, eqI x2.1.f1 x5.1.f1, eqI x2.1.f2 x5.1.f2, eqI x2.1.f3 x5.1.f3]) ?_ ?_
      · refine sg 19 (mkE [(101, B (eqI x2.2 x5.2)), (100, B (eqI x2.2 x5.2)), (99, B (eqI x2.2 x5.2)), (98, I x5.2), (97, I x2.2), (96, B true), (96, B (allB [eqI x2.1.f0 x5.1.f0, eqI x2.1.f1 x5.1.f1, eqI x2.1.f2 x5.1.f2, eqI x2.1.f3 x5.1.f3])), (95, B (allB [eqI x2.1.f0 x5.1.f0, eqI x2.1.f1 x5.1.f1, eqI x2.1.f2 x5.1.f2, eqI x2.1.f3 x5.1.f3])), (94, B (allB [eqI x2.1.f0 x5.1.f0, eqI x2.1.f1 x5.1.f1, eqI x2.1.f2 x5.1.f2, eqI x2.1.f3 x5.1.f3])), (93, a63 x5.1), (92, a63 x2.1), (91, B true), (91, B (eqI x1.2 x4.2)), (90, B (eqI x1.2 x4.2)), (89, B (eqI x1.2 x4.2)), (88, I x4.2), (87, I x1.2), (86, B true), (86, B (allB [eqI x1.1.f0 x4.1.f0, eqI x1.1.f1 x4.1.f1, eqI x1.1.f2 x4.1.f2, eqI x1.1.f3 x4.1.f3])), (85, B (allB [eqI x1.1.f0 x4.1.f0, eqI x1.1.f1 x4.1.f1, eqI x1.1.f2 x4.1.f2, eqI x1.1.f3 x4.1.f3])), (84, a63 x4.1), (83, a63 x1.1), (15, .ba 120 0), (16, I x1.2), (17, .ba 136 0), (18, I x2.2), (19, .ba 152 0), (20, .ba 160 0), (21, I x3.2.2), (22, .ba 176 0), (23, I x4.2), (24, .ba 192 0), (25, I x5.2), (26, .ba 208 0), (27, .ba 216 0), (28, I x6.2.2)] [(120, .box [I x1.1.f0, I x1.1.f1, I x1.1.f2, I x1.1.f3] false), (136, .box [I x2.1.f0, I x2.1.f1, I x2.1.f2, I x2.1.f3] false), (152, .box [I x3.1.f0, I x3.1.f1, I x3.1.f2, I x3.1.f3] false), (160, .box [I x3.2.1.f0, I x3.2.1.f1, I x3.2.1.f2, I x3.2.1.f3] false), (176, .box [I x4.1.f0, I x4.1.f1, I x4.1.f2, I x4.1.f3] false), (192, .box [I x5.1.f0, I x5.1.f1, I x5.1.f2, I x5.1.f3] false), (208, .box [I x6.1.f0, I x6.1.f1, I x6.1.f2, I x6.1.f3] false), (216, .box [I x6.2.1.f0, I x6.2.1.f1, I x6.2.1.f2, I x6.2.1.f3] false)] 119) ?_
        refine sb 101 (eqI x2.2 x5.2) ?_ ?_
        · refine sg 21 (mkE [(103, a63 x6.1), (102, a63 x3.1), (101, B true), (101, B (eqI x2.2 x5.2)), (100, B (eqI x2.2 x5.2)), (99, B (eqI x2.2 x5.2)), (98, I x5.2), (97, I x2.2), (96, B true), (96, B (allB [eqI x2.1.f0 x5.1.f0, eqI x2.1.f1 x5.1.f1, eqI x2.1.f2 x5.1.f2, eqI x2.1.f3 x5.1.f3])), (95, B (allB [eqI x2.1.f0 x5.1.f0, eqI x2.1.f1 x5.1.f1, eqI x2.1.f2 x5.1.f2, eqI x2.1.f3 x5.1.f3])), (94, B (allB [eqI x2.1.f0 x5.1.f0, eqI x2.1.f1 x5.1.f1, eqI x2.1.f2 x5.1.f2, eqI x2.1.f3 x5.1.f3])), (93, a63 x5.1), (92, a63 x2.1), (91, B true), (91, B (eqI x1.2 x4.2)), (90, B (eqI x1.2 x4.2)), (89, B (eqI x1.2 x4.2)), (88, I x4.2), (87, I x1.2), (86, B true), (86, B (allB [eqI x1.1.f0 x4.1.f0, eqI x1.1.f1 x4.1.f1, eqI x1.1.f2 x4.1.f2, eqI x1.1.f3 x4.1.f3])), (85, B (allB [eqI x1.1.f0 x4.1.f0, eqI x1.1.f1 x4.1.f1, eqI x1.1.f2 x4.1.f2, eqI x1.1.f3 x4.1.f3])), (84, a63 x4.1), (83, a63 x1.1), (15, .ba 120 0), (16, I x1.2), (17, .ba 136 0), (18, I x2.2), (19, .ba 152 0), (20, .ba 160 0), (21, I x3.2.2), (22, .ba 176 0), (23, I x4.2), (24, .ba 192 0), (25, I x5.2), (26, .ba 208 0), (27, .ba 216 0), (28, I x6.2.2)] [(120, .box [I x1.1.f0, I x1.1.f1, I x1.1.f2, I x1.1.f3] false), (136, .box [I x2.1.f0, I x2.1.f1, I x2.1.f2, I x2.1.f3] false), (152, .box [I x3.1.f0, I x3.1.f1, I x3.1.f2, I x3.1.f3] false), (160, .box [I x3.2.1.f0, I x3.2.1.f1, I x3.2.1.f2, I x3.2.1.f3] false), (176, .box [I x4.1.f0, I x4.1.f1, I x4.1.f2, I x4.1.f3] false), (192, .box [I x5.1.f0, I x5.1.f1, I x5.1.f2, I x5.1.f3] false), (208, .box [I x6.1.f0, I x6.1.f1, I x6.1.f2, I x6.1.f3] false), (216, .box [I x6.2.1.f0, I x6.2.1.f1, I x6.2.1.f2, I x6.2.1.f3] false)] 119) ?_
          refine eo 104 (B (allB [eqI x3.1.f0 x6.1.f0, eqI x3.1.f1 x6.1.f1, eqI x3.1.f2 x6.1.f2, eqI x3.1.f3 x6.1.f3])) (eqlE 64 (.tmp 102) (.tmp 103) [I x3.1.f0, I x3.1.f1, I x3.1.f2, I x3.1.f3] [I x6.1.f0, I x6.1.f1, I x6.1.f2, I x6.1.f3] [.int .i64 x3.1.f0, .int .i64 x3.1.f1, .int .i64 x3.1.f2, .int .i64 x3.1.f3] [.int .i64 x6.1.f0, .int .i64 x6.1.f1, .int .i64 x6.1.f2, .int .i64 x6.1.f3] [eqI x3.1.f0 x6.1.f0, eqI x3.1.f1 x6.1.f1, eqI x3.1.f2 x6.1.f2, eqI x3.1.f3 x6.1.f3]) ?_
          refine sg 24 (mkE [(106, B (allB [eqI x3.1.f0 x6.1.f0, eqI x3.1.f1 x6.1.f1, eqI x3.1.f2 x6.1.f2, eqI x3.1.f3 x6.1.f3])), (105, B (allB [eqI x3.1.f0 x6.1.f0, eqI x3.1.f1 x6.1.f1, eqI x3.1.f2 x6.1.f2, eqI x3.1.f3 x6.1.f3])), (104, B (allB [eqI x3.1.f0 x6.1.f0, eqI x3.1.f1 x6.1.f1, eqI x3.1.f2 x6.1.f2, eqI x3.1.f3 x6.1.f3])), (103, a63 x6.1), (102, a63 x3.1), (101, B true), (101, B (eqI x2.2 x5.2)), (100, B (eqI x2.2 x5.2)), (99, B (eqI x2.2 x5.2)), (98, I x5.2), (97, I x2.2), (96, B true), (96, B (allB [eqI x2.1.f0 x5.1.f0, eqI x2.1.f1 x5.1.f1, eqI x2.1.f2 x5.1.f2, eqI x2.1.f3 x5.1.f3])), (95, B (allB [eqI x2.1.f0 x5.1.f0, eqI x2.1.f1 x5.1.f1, eqI x2.1.f2 x5.1.f2, eqI x2.1.f3 x5.1.f3])), (94, B (allB [eqI x2.1.f0 x5.1.f0, eqI x2.1.f1 x5.1.f1, eqI x2.1.f2 x5.1.f2, eqI x2.1.f3 x5.1.f3])), (93, a63 x5.1), (92, a63 x2.1), (91, B true), (91, B (eqI x1.2 x4.2)), (90, B (eqI x1.2 x4.2)), (89, B (eqI x1.2 x4.2)), (88, I x4.2), (87, I x1.2), (86, B true), (86, B (allB [eqI x1.1.f0 x4.1.f0, eqI x1.1.f1 x4.1.f1, eqI x1.1.f2 x4.1.f2, eqI x1.1.f3 x4.1.f3])), (85, B (allB [eqI x1.1.f0 x4.1.f0, eqI x1.1.f1 x4.1.f1, eqI x1.1.f2 x4.1.f2, eqI x1.1.f3 x4.1.f3])), (84, a63 x4.1), (83, a63 x1.1), (15, .ba 120 0), (16, I x1.2), (17, .ba 136 0), (18, I x2.2), (19, .ba 152 0), (20, .ba 160 0), (21, I x3.2.2), (22, .ba 176 0), (23, I x4.2), (24, .ba 192 0), (25, I x5.2), (26, .ba 208 0), (27, .ba 216 0), (28, I x6.2.2)] [(120, .box [I x1.1.f0, I x1.1.f1, I x1.1.f2, I x1.1.f3] false), (136, .box [I x2.1.f0, I x2.1.f1, I x2.1.f2, I x2.1.f3] false), (152, .box [I x3.1.f0, I x3.1.f1, I x3.1.f2, I x3.1.f3] false), (160, .box [I x3.2.1.f0, I x3.2.1.f1, I x3.2.1.f2, I x3.2.1.f3] false), (176, .box [I x4.1.f0, I x4.1.f1, I x4.1.f2, I x4.1.f3] false), (192, .box [I x5.1.f0, I x5.1.f1, I x5.1.f2, I x5.1.f3] false), (208, .box [I x6.1.f0, I x6.1.f1, I x6.1.f2, I x6.1.f3] false), (216, .box [I x6.2.1.f0, I x6.2.1.f1, I x6.2.1.f2, I x6.2.1.f3] false)] 119) ?_
          refine sb 106 (allB [eqI x3.1.f0 x6.1.f0, eqI x3.1.f1 x6.1.f1, eqI x3.1.f2 x6.1.f2, eqI x3.1.f3 x6.1.f3]) ?_ ?_
          · refine sg 26 (mkE [(108, a63 x6.2.1), (107, a63 x3.2.1), (106, B true), (106, B (allB [eqI x3.1.f0 x6.1.f0, eqI x3.1.f1 x6.1.f1, eqI x3.1.f2 x6.1.f2, eqI x3.1.f3 x6.1.f3])), (105, B (allB [eqI x3.1.f0 x6.1.f0, eqI x3.1.f1 x6.1.f1, eqI x3.1.f2 x6.1.f2, eqI x3.1.f3 x6.1.f3])), (104, B (allB [eqI x3.1.f0 x6.1.f0, eqI x3.1.f1 x6.1.f1, eqI x3.1.f2 x6.1.f2, eqI x3.1.f3 x6.1.f3])), (103, a63 x6.1), (102, a63 x3.1), (101, B true), (101, B (eqI x2.2 x5.2)), (100, B (eqI x2.2 x5.2)), (99, B (eqI x2.2 x5.2)), (98, I x5.2), (97, I x2.2), (96, B true), (96, B (allB [eqI x2.1.f0 x5.1.f0, eqI x2.1.f1 x5.1.f1, eqI x2.1.f2 x5.1.f2, eqI x2.1.f3 x5.1.f3])), (95, B (allB [eqI x2.1.f0 x5.1.f0, eqI x2.1.f1 x5.1.f1, eqI x2.1.f2 x5.1.f2, eqI x2.1.f3 x5.1.f3])), (94, B (allB [eqI x2.1.f0 x5.1.f0, eqI x2.1.f1 x5.1.f1, eqI x2.1.f2 x5.1.f2, eqI x2.1.f3 x5.1.f3])), (93, a63 x5.1), (92, a63 x2.1), (91, B true), (91, B (eqI x1.2 x4.2)), (90, B (eqI x1.2 x4.2)), (89, B (eqI x1.2 x4.2)), (88, I x4.2), (87, I x1.2), (86, B true), (86, B (allB [eqI x1.1.f0 x4.1.f0, eqI x1.1.f1 x4.1.f1, eqI x1.1.f2 x4.1.f2, eqI x1.1.f3 x4.1.f3])), (85, B (allB [eqI x1.1.f0 x4.1.f0, eqI x1.1.f1 x4.1.f1, eqI x1.1.f2 x4.1.f2, eqI x1.1.f3 x4.1.f3])), (84, a63 x4.1), (83, a63 x1.1), (15, .ba 120 0), (16, I x1.2), (17, .ba 136 0), (18, I x2.2), (19, .ba 152 0), (20, .ba 160 0), (21, I x3.2.2), (22, .ba 176 0), (23, I x4.2), (24, .ba 192 0), (25, I x5.2), (26, .ba 208 0), (27, .ba 216 0), (28, I x6.2.2)] [(120, .box [I x1.1.f0, I x1.1.f1, I x1.1.f2, I x1.1.f3] false), (136, .box [I x2.1.f0, I x2.1.f1, I x2.1.f2, I x2.1.f3] false), (152, .box [I x3.1.f0, I x3.1.f1, I x3.1.f2, I x3.1.f3] false), (160, .box [I x3.2.1.f0, I x3.2.1.f1, I x3.2.1.f2, I x3.2.1.f3] false), (176, .box [I x4.1.f0, I x4.1.f1, I x4.1.f2, I x4.1.f3] false), (192, .box [I x5.1.f0, I x5.1.f1, I x5.1.f2, I x5.1.f3] false), (208, .box [I x6.1.f0, I x6.1.f1, I x6.1.f2, I x6.1.f3] false), (216, .box [I x6.2.1.f0, I x6.2.1.f1, I x6.2.1.f2, I x6.2.1.f3] false)] 119) ?_
            refine eo 109 (B (allB [eqI x3.2.1.f0 x6.2.1.f0, eqI x3.2.1.f1 x6.2.1.f1, eqI x3.2.1.f2 x6.2.1.f2, eqI x3.2.1.f3 x6.2.1.f3])) (eqlE 64 (.tmp 107) (.tmp 108) [I x3.2.1.f0, I x3.2.1.f1, I x3.2.1.f2, I x3.2.1.f3] [I x6.2.1.f0, I x6.2.1.f1, I x6.2.1.f2, I x6.2.1.f3] [.int .i64 x3.2.1.f0, .int .i64 x3.2.1.f1, .int .i64 x3.2.1.f2, .int .i64 x3.2.1.f3] [.int .i64 x6.2.1.f0, .int .i64 x6.2.1.f1, .int .i64 x6.2.1.f2, .int .i64 x6.2.1.f3] [eqI x3.2.1.f0 x6.2.1.f0, eqI x3.2.1.f1 x6.2.1.f1, eqI x3.2.1.f2 x6.2.1.f2, eqI x3.2.1.f3 x6.2.1.f3]) ?_
            refine sg 29 (mkE [(111, B (allB [eqI x3.2.1.f0 x6.2.1.f0, eqI x3.2.1.f1 x6.2.1.f1, eqI x3.2.1.f2 x6.2.1.f2, eqI x3.2.1.f3 x6.2.1.f3])), (110, B (allB [eqI x3.2.1.f0 x6.2.1.f0, eqI x3.2.1.f1 x6.2.1.f1, eqI x3.2.1.f2 x6.2.1.f2, eqI x3.2.1.f3 x6.2.1.f3])), (109, B (allB [eqI x3.2.1.f0 x6.2.1.f0, eqI x3.2.1.f1 x6.2.1.f1, eqI x3.2.1.f2 x6.2.1.f2, eqI x3.2.1.f3 x6.2.1.f3])), (108, a63 x6.2.1), (107, a63 x3.2.1), (106, B true), (106, B (allB [eqI x3.1.f0 x6.1.f0, eqI x3.1.f1 x6.1.f1, eqI x3.1.f2 x6.1.f2, eqI x3.1.f3 x6.1.f3])), (105, B (allB [eqI x3.1.f0 x6.1.f0, eqI x3.1.f1 x6.1.f1, eqI x3.1.f2 x6.1.f2, eqI x3.1.f3 x6.1.f3])), (104, B (allB [eqI x3.1.f0 x6.1.f0, eqI x3.1.f1 x6.1.f1, eqI x3.1.f2 x6.1.f2, eqI x3.1.f3 x6.1.f3])), (103, a63 x6.1), (102, a63 x3.1), (101, B true), (101, B (eqI x2.2 x5.2)), (100, B (eqI x2.2 x5.2)), (99, B (eqI x2.2 x5.2)), (98, I x5.2), (97, I x2.2), (96, B true), (96, B (allB [eqI x2.1.f0 x5.1.f0, eqI x2.1.f1 x5.1.f1, eqI x2.1.f2 x5.1.f2, eqI x2.1.f3 x5.1.f3])), (95, B (allB [eqI x2.1.f0 x5.1.f0, eqI x2.1.f1 x5.1.f1, eqI x2.1.f2 x5.1.f2, eqI x2.1.f3 x5.1.f3])), (94, B (allB [eqI x2.1.f0 x5.1.f0, eqI x2.1.f1 x5.1.f1, eqI x2.1.f2 x5.1.f2, eqI x2.1.f3 x5.1.f3])), (93, a63 x5.1), (92, a63 x2.1), (91, B true), (91, B (eqI x1.2 x4.2)), (90, B (eqI x1.2 x4.2)), (89, B (eqI x1.2 x4.2)), (88, I x4.2), (87, I x1.2), (86, B true), (86, B (allB [eqI x1.1.f0 x4.1.f0, eqI x1.1.f1 x4.1.f1, eqI x1.1.f2 x4.1.f2, eqI x1.1.f3 x4.1.f3])), (85, B (allB [eqI x1.1.f0 x4.1.f0, eqI x1.1.f1 x4.1.f1, eqI x1.1.f2 x4.1.f2, eqI x1.1.f3 x4.1.f3])), (84, a63 x4.1), (83, a63 x1.1), (15, .ba 120 0), (16, I x1.2), (17, .ba 136 0), (18, I x2.2), (19, .ba 152 0), (20, .ba 160 0), (21, I x3.2.2), (22, .ba 176 0), (23, I x4.2), (24, .ba 192 0), (25, I x5.2), (26, .ba 208 0), (27, .ba 216 0), (28, I x6.2.2)] [(120, .box [I x1.1.f0, I x1.1.f1, I x1.1.f2, I x1.1.f3] false), (136, .box [I x2.1.f0, I x2.1.f1, I x2.1.f2, I x2.1.f3] false), (152, .box [I x3.1.f0, I x3.1.f1, I x3.1.f2, I x3.1.f3] false), (160, .box [I x3.2.1.f0, I x3.2.1.f1, I x3.2.1.f2, I x3.2.1.f3] false), (176, .box [I x4.1.f0, I x4.1.f1, I x4.1.f2, I x4.1.f3] false), (192, .box [I x5.1.f0, I x5.1.f1, I x5.1.f2, I x5.1.f3] false), (208, .box [I x6.1.f0, I x6.1.f1, I x6.1.f2, I x6.1.f3] false), (216, .box [I x6.2.1.f0, I x6.2.1.f1, I x6.2.1.f2, I x6.2.1.f3] false)] 119) ?_
            refine sb 111 (allB [eqI x3.2.1.f0 x6.2.1.f0, eqI x3.2.1.f1 x6.2.1.f1, eqI x3.2.1.f2 x6.2.1.f2, eqI x3.2.1.f3 x6.2.1.f3]) ?_ ?_
            · refine sg 34 (mkE [(116, B (eqI x3.2.2 x6.2.2)), (115, B (eqI x3.2.2 x6.2.2)), (114, B (eqI x3.2.2 x6.2.2)), (113, I x6.2.2), (112, I x3.2.2), (111, B true), (111, B (allB [eqI x3.2.1.f0 x6.2.1.f0, eqI x3.2.1.f1 x6.2.1.f1, eqI x3.2.1.f2 x6.2.1.f2, eqI x3.2.1.f3 x6.2.1.f3])), (110, B (allB [eqI x3.2.1.f0 x6.2.1.f0, eqI x3.2.1.f1 x6.2.1.f1, eqI x3.2.1.f2 x6.2.1.f2, eqI x3.2.1.f3 x6.2.1.f3])), (109, B (allB [eqI x3.2.1.f0 x6.2.1.f0, eqI x3.2.1.f1 x6.2.1.f1, eqI x3.2.1.f2 x6.2.1.f2, eqI x3.2.1.f3 x6.2.1.f3])), (108, a63 x6.2.1), (107, a63 x3.2.1), (106, B true), (106, B (allB [eqI x3.1.f0 x6.1.f0, eqI x3.1.f1 x6.1.f1, eqI x3.1.f2 x6.1.f2, eqI x3.1.f3 x6.1.f3])), (105, B (allB [eqI x3.1.f0 x6.1.f0, eqI x3.1.f1 x6.1.f1, eqI x3.1.f2 x6.1.f2, eqI x3.1.f3 x6.1.f3])), (104, B (allB [eqI x3.1.f0 x6.1.f0, eqI x3.1.f1 x6.1.f1, eqI x3.1.f2 x6.1.f2, eqI x3.1.f3 x6.1.f3])), (103, a63 x6.1), (102, a63 x3.1), (101, B true), (101, B (eqI x2.2 x5.2)), (100, B (eqI x2.2 x5.2)), (99, B (eqI x2.2 x5.2)), (98, I x5.2), (97, I x2.2), (96, B true), (96, B (allB [eqI x2.1.f0 x5.1.f0, eqI x2.1.f1 x5.1.f1, eqI x2.1.f2 x5.1.f2, eqI x2.1.f3 x5.1.f3])), (95, B (allB [eqI x2.1.f0 x5.1.f0, eqI x2.1.f1 x5.1.f1, eqI x2.1.f2 x5.1.f2, eqI x2.1.f3 x5.1.f3])), (94, B (allB [eqI x2.1.f0 x5.1.f0, eqI x2.1.f1 x5.1.f1, eqI x2.1.f2 x5.1.f2, eqI x2.1.f3 x5.1.f3])), (93, a63 x5.1), (92, a63 x2.1), (91, B true), (91, B (eqI x1.2 x4.2)), (90, B (eqI x1.2 x4.2)), (89, B (eqI x1.2 x4.2)), (88, I x4.2), (87, I x1.2), (86, B true), (86, B (allB [eqI x1.1.f0 x4.1.f0, eqI x1.1.f1 x4.1.f1, eqI x1.1.f2 x4.1.f2, eqI x1.1.f3 x4.1.f3])), (85, B (allB [eqI x1.1.f0 x4.1.f0, eqI x1.1.f1 x4.1.f1, eqI x1.1.f2 x4.1.f2, eqI x1.1.f3 x4.1.f3])), (84, a63 x4.1), (83, a63 x1.1), (15, .ba 120 0), (16, I x1.2), (17, .ba 136 0), (18, I x2.2), (19, .ba 152 0), (20, .ba 160 0), (21, I x3.2.2), (22, .ba 176 0), (23, I x4.2), (24, .ba 192 0), (25, I x5.2), (26, .ba 208 0), (27, .ba 216 0), (28, I x6.2.2)] [(120, .box [I x1.1.f0, I x1.1.f1, I x1.1.f2, I x1.1.f3] false), (136, .box [I x2.1.f0, I x2.1.f1, I x2.1.f2, I x2.1.f3] false), (152, .box [I x3.1.f0, I x3.1.f1, I x3.1.f2, I x3.1.f3] false), (160, .box [I x3.2.1.f0, I x3.2.1.f1, I x3.2.1.f2, I x3.2.1.f3] false), (176, .box [I x4.1.f0, I x4.1.f1, I x4.1.f2, I x4.1.f3] false), (192, .box [I x5.1.f0, I x5.1.f1, I x5.1.f2, I x5.1.f3] false), (208, .box [I x6.1.f0, I x6.1.f1, I x6.1.f2, I x6.1.f3] false), (216, .box [I x6.2.1.f0, I x6.2.1.f1, I x6.2.1.f2, I x6.2.1.f3] false)] 119) ?_
              refine sb 116 (eqI x3.2.2 x6.2.2) ?_ ?_
              · refine co 117 [] (h43) (fun x7 => ?_)
                refine se (mkE [(14, B x7)] [] 119) ?_
                refine pN ?_
                refine pS ?_
                refine gE ?_
                exact pL
              · refine se (mkE [(14, B false)] [] 119) ?_
                refine pN ?_
                refine pS ?_
                refine gE ?_
                exact pL
            · refine se (mkE [(14, B false)] [] 119) ?_
              refine pN ?_
              refine pS ?_
              refine gE ?_
              exact pL
          · refine se (mkE [(14, B false)] [] 119) ?_
            refine pN ?_
            refine pS ?_
            refine gE ?_
            exact pL
        · refine se (mkE [(14, B false)] [] 119) ?_
          refine pN ?_
          refine pS ?_
          refine gE ?_
          exact pL
      · refine se (mkE [(14, B false)] [] 119) ?_
        refine pN ?_
        refine pS ?_
        refine gE ?_
        exact pL
    · refine se (mkE [(14, B false)] [] 119) ?_
      refine pN ?_
      refine pS ?_
      refine gE ?_
      exact pL
  · refine se (mkE [(14, B false)] [] 119) ?_
    refine pN ?_
    refine pS ?_
    refine gE ?_
    exact pL
theorem F11 (m : Nat) (hm : 7 ≤ m) (p0 : Int) (p1 : Int) (p2 : Int) (p3 : Int) (p4 : Int) (p5 : Int) (p6 : S63) : callA Try.prog cfg m 11 [I p0, I p1, I p2, I p3, I p4, I p5, a63 p6] = (T11 p0 p1 p2 p3 p4 p5 p6).map B := by
  obtain ⟨q, rfl⟩ : ∃ q, m = q + 1 := ⟨m - 1, by omega⟩
  exact (callA_body (fn := Try.f11) (c := body_ Try.f11) q _ (by kernel_rfl) (by kernel_rfl) (by kernel_rfl)).trans (B11 _ (fun p0 p1 p2 p3 => F37 q (by omega) p0 p1 p2 p3) (fun p0 p1 p2 p3 p4 => F38 q (by omega) p0 p1 p2 p3 p4) (fun p0 p1 p2 p3 p4 => F39 q (by omega) p0 p1 p2 p3 p4) (fun p0 p1 p2 p3 => F40 q (by omega) p0 p1 p2 p3) (fun p0 p1 p2 p3 p4 => F41 q (by omega) p0 p1 p2 p3 p4) (fun p0 p1 p2 p3 p4 => F42 q (by omega) p0 p1 p2 p3 p4) (F43 q (by omega)) p0 p1 p2 p3 p4 p5 p6)

end Go.Abs.TP
