import Derived.Test.YtnaibaifmnjpnaaTBp1
set_option maxRecDepth 100000
set_option linter.unusedVariables false
namespace Go.Abs.TB
open Go.RowKit Go.Proofs Go.Abs
noncomputable def L17_14 (p0 : (List S90)) (p1 : (List S53)) (z0 : Int) (x5 : S53) (z1 : Int) : Option (Int ⊕ ((Int × Bool) ⊕ Unit)) := (bif (ltI z1 (lenL p0)) then ((listAt p0 z1).bind fun x11 => ((T64 x5 x11).bind fun x12 => ((T59 ([x11] : List S90)).bind fun x13 => ((T61 ([x5] : List S53)).bind fun x14 => ((T49 ([x13, x14] : List Int)).bind fun x15 => (bif (neI x12.2 x15) then (some (.inr (.inr ()))) else (bif (eqI x15 0) then ((T65 x5 x11).bind fun x16 => (bif (x12.1 != x16) then (some (.inr (.inr ()))) else (some (.inl (addI .i64 z1 1))))) else (bif (x12.1 != false) then (some (.inr (.inr ()))) else (some (.inl (addI .i64 z1 1))))))))))) else (some (.inr (.inl (z1, (ltI z1 (lenL p0)))))))
theorem L17_14_ok (C : Callee) (h49 : ∀ (p0 : (List Int)), C 49 [LL I p0] = (T49 p0).map I) (h59 : ∀ (p0 : (List S90)), C 59 [LL a90 p0] = (T59 p0).map I) (h61 : ∀ (p0 : (List S53)), C 61 [LL a53 p0] = (T61 p0).map I) (h64 : ∀ (p0 : S53) (p1 : S90), C 64 [a53 p0, a90 p1] = (T64 p0 p1).map (fun r => AV.tup [B r.1, I r.2])) (h65 : ∀ (p0 : S53) (p1 : S90), C 65 [a53 p0, a90 p1] = (T65 p0 p1).map B) (p0 : (List S90)) (p1 : (List S53)) (z0 : Int) (x5 : S53) (z1 : Int) : runs Try.prog C (cfg.fn 17) (finLoop ((cfg.fn 17).keep 14)) [] (execA Try.prog C (cfg.fn 17) (nr Try.f17 [false, false, true, true, true, true, true, true, true, false, false, true, true, false, false, true, false, true, true]) ((fun z1 : Int => (mkE [(0, LL a90 p0), (6, .ba 48 0), (28, LL a53 p1), (29, I (lenL p1)), (30, I z0), (60, LL a90 p0), (61, I (lenL p0)), (62, I z1)] [(48, .box [S x5.f0, S x5.f1, I x5.f2.f0, I x5.f2.f1, LL S x5.f3, I x5.f4, I x5.f5, I x5.f6] false)] 97)) z1)) = (L17_14 p0 p1 z0 x5 z1).map (Sum.elim (fun z => .inl ((fun z1 : Int => (mkE [(0, LL a90 p0), (6, .ba 48 0), (28, LL a53 p1), (29, I (lenL p1)), (30, I z0), (60, LL a90 p0), (61, I (lenL p0)), (62, I z1)] [(48, .box [S x5.f0, S x5.f1, I x5.f2.f0, I x5.f2.f1, LL S x5.f3, I x5.f4, I x5.f5, I x5.f6] false)] 97)) z)) (fun x => .inr ((Sum.elim (fun (x : (Int × Bool)) => (.exit 2, (mkE [(0, LL a90 p0), (6, .ba 48 0), (28, LL a53 p1), (29, I (lenL p1)), (30, I z0), (60, LL a90 p0), (61, I (lenL p0)), (62, I x.1), (63, B x.2)] [(48, .box [S x5.f0, S x5.f1, I x5.f2.f0, I x5.f2.f1, LL S x5.f3, I x5.f4, I x5.f5, I x5.f6] false)] 97))) (fun (x : Unit) => (.ret, (mkE [(4, B false)] [] 97)))) x))) := by
  unfold L17_14
  refine gS 0 ?_
  refine gR 14 (rg Try.f17 14) ?_
  refine se (mkE [(0, LL a90 p0), (6, .ba 48 0), (28, LL a53 p1), (29, I (lenL p1)), (30, I z0), (60, LL a90 p0), (61, I (lenL p0)), (62, I z1), (63, B (ltI z1 (lenL p0)))] [(48, .box [S x5.f0, S x5.f1, I x5.f2.f0, I x5.f2.f1, LL S x5.f3, I x5.f4, I x5.f5, I x5.f6] false)] 97) ?_
  refine pN ?_
  refine pS ?_
  refine gS 15 ?_
  refine gC 63 (ltI z1 (lenL p0)) ?_ ?_
  · refine gK ?_
    refine pN ?_
    refine pS ?_
    refine gS 20 ?_
    refine gB 3 ?_
    refine gS 16 ?_
    refine gR 15 (rg Try.f17 15) ?_
    refine vo 64 (addrE 28 91 5 a90 .i64 p0 z1) (fun x11 => ?_)
    refine se (mkE [(0, LL a90 p0), (6, .ba 48 0), (12, .ba 96 0), (28, LL a53 p1), (29, I (lenL p1)), (30, I z0), (60, LL a90 p0), (61, I (lenL p0)), (62, I z1)] [(48, .box [S x5.f0, S x5.f1, I x5.f2.f0, I x5.f2.f1, LL S x5.f3, I x5.f4, I x5.f5, I x5.f6] false), (96, .box [S x11.f0, I x11.f1.f0, I x11.f1.f1, I x11.f2, LL S x11.f3] false)] 97) ?_
    refine pN ?_
    refine pS ?_
    refine gS 17 ?_
    refine gR 16 (rg Try.f17 16) ?_
    refine sg 2 (mkE [(68, a90 x11), (67, a53 x5), (0, LL a90 p0), (6, .ba 48 0), (12, .ba 96 0), (28, LL a53 p1), (29, I (lenL p1)), (30, I z0), (60, LL a90 p0), (61, I (lenL p0)), (62, I z1)] [(48, .box [S x5.f0, S x5.f1, I x5.f2.f0, I x5.f2.f1, LL S x5.f3, I x5.f4, I x5.f5, I x5.f6] false), (96, .box [S x11.f0, I x11.f1.f0, I x11.f1.f1, I x11.f2, LL S x11.f3] false)] 97) ?_
    refine co 69 [] (h64 x5 x11) (fun x12 => ?_)
    refine se (mkE [(0, LL a90 p0), (6, .ba 48 0), (12, .ba 96 0), (13, B x12.1), (14, I x12.2), (28, LL a53 p1), (29, I (lenL p1)), (30, I z0), (60, LL a90 p0), (61, I (lenL p0)), (62, I z1)] [(48, .box [S x5.f0, S x5.f1, I x5.f2.f0, I x5.f2.f1, LL S x5.f3, I x5.f4, I x5.f5, I x5.f6] false), (96, .box [S x11.f0, I x11.f1.f0, I x11.f1.f1, I x11.f2, LL S x11.f3] false)] 97) ?_
    refine pN ?_
    refine pS ?_
    refine gS 18 ?_
    refine gD 17 9 (rg Try.f17 17) [0, 1, 2, 3, 4, 5, 6, 7, 8] ?_
    refine dg 2 [(some 72, { val := a90 x11 }), (some 73, { val := .own 584 0, news := [(584, RR 91 5 a90 ([x11] : List S90) 0 false)] })] ?_
    refine dc 74 [584] (mkE [(73, .own 584 0), (72, a90 x11), (0, LL a90 p0), (6, .ba 48 0), (12, .ba 96 0), (13, B x12.1), (14, I x12.2), (28, LL a53 p1), (29, I (lenL p1)), (30, I z0), (60, LL a90 p0), (61, I (lenL p0)), (62, I z1)] [(584, RR 91 5 a90 ([x11] : List S90) 0 false), (48, .box [S x5.f0, S x5.f1, I x5.f2.f0, I x5.f2.f1, LL S x5.f3, I x5.f4, I x5.f5, I x5.f6] false), (96, .box [S x11.f0, I x11.f1.f0, I x11.f1.f1, I x11.f2, LL S x11.f3] false)] 97) (h59 ([x11] : List S90)) (fun x13 => ?_)
    refine dg 5 [(some 72, { val := a90 x11 }), (some 73, { val := .own 584 0, news := [(584, RR 91 5 a90 ([x11] : List S90) 0 false)] }), (some 74, { val := I x13 }), (some 75, { val := a53 x5 }), (some 76, { val := .own 608 0, news := [(608, RR 54 8 a53 ([x5] : List S53) 0 false)] })] ?_
    refine dc 77 [608] (mkE [(76, .own 608 0), (75, a53 x5), (74, I x13), (73, .own 584 0), (72, a90 x11), (0, LL a90 p0), (6, .ba 48 0), (12, .ba 96 0), (13, B x12.1), (14, I x12.2), (28, LL a53 p1), (29, I (lenL p1)), (30, I z0), (60, LL a90 p0), (61, I (lenL p0)), (62, I z1)] [(608, RR 54 8 a53 ([x5] : List S53) 0 false), (584, RR 91 5 a90 ([x11] : List S90) 0 false), (48, .box [S x5.f0, S x5.f1, I x5.f2.f0, I x5.f2.f1, LL S x5.f3, I x5.f4, I x5.f5, I x5.f6] false), (96, .box [S x11.f0, I x11.f1.f0, I x11.f1.f1, I x11.f2, LL S x11.f3] false)] 97) (h61 ([x5] : List S53)) (fun x14 => ?_)
    refine dg 7 [(some 72, { val := a90 x11 }), (some 73, { val := .own 584 0, news := [(584, RR 91 5 a90 ([x11] : List S90) 0 false)] }), (some 74, { val := I x13 }), (some 75, { val := a53 x5 }), (some 76, { val := .own 608 0, news := [(608, RR 54 8 a53 ([x5] : List S53) 0 false)] }), (some 77, { val := I x14 }), (some 78, { val := .own 624 0, news := [(624, RR 69 1 I ([x13, x14] : List Int) 0 false)] })] ?_
    refine dc 79 [624] (mkE [(78, .own 624 0), (77, I x14), (76, .own 608 0), (75, a53 x5), (74, I x13), (73, .own 584 0), (72, a90 x11), (0, LL a90 p0), (6, .ba 48 0), (12, .ba 96 0), (13, B x12.1), (14, I x12.2), (28, LL a53 p1), (29, I (lenL p1)), (30, I z0), (60, LL a90 p0), (61, I (lenL p0)), (62, I z1)] [(624, RR 69 1 I ([x13, x14] : List Int) 0 false), (608, RR 54 8 a53 ([x5] : List S53) 0 false), (584, RR 91 5 a90 ([x11] : List S90) 0 false), (48, .box [S x5.f0, S x5.f1, I x5.f2.f0, I x5.f2.f1, LL S x5.f3, I x5.f4, I x5.f5, I x5.f6] false), (96, .box [S x11.f0, I x11.f1.f0, I x11.f1.f1, I x11.f2, LL S x11.f3] false)] 97) (h49 ([x13, x14] : List Int)) (fun x15 => ?_)
    refine dg 9 [(some 72, { val := a90 x11 }), (some 73, { val := .own 584 0, news := [(584, RR 91 5 a90 ([x11] : List S90) 0 false)] }), (some 74, { val := I x13 }), (some 75, { val := a53 x5 }), (some 76, { val := .own 608 0, news := [(608, RR 54 8 a53 ([x5] : List S53) 0 false)] }), (some 77, { val := I x14 }), (some 78, { val := .own 624 0, news := [(624, RR 69 1 I ([x13, x14] : List Int) 0 false)] }), (some 79, { val := I x15 }), (some 15, { val := I x15 })] ?_
    refine de (mkE [(15, I x15), (79, I x15), (78, .own 624 0), (77, I x14), (76, .own 608 0), (75, a53 x5), (74, I x13), (73, .own 584 0), (72, a90 x11), (0, LL a90 p0), (6, .ba 48 0), (12, .ba 96 0), (13, B x12.1), (14, I x12.2), (28, LL a53 p1), (29, I (lenL p1)), (30, I z0), (60, LL a90 p0), (61, I (lenL p0)), (62, I z1)] [(624, RR 69 1 I ([x13, x14] : List Int) 0 false), (608, RR 54 8 a53 ([x5] : List S53) 0 false), (584, RR 91 5 a90 ([x11] : List S90) 0 false), (48, .box [S x5.f0, S x5.f1, I x5.f2.f0, I x5.f2.f1, LL S x5.f3, I x5.f4, I x5.f5, I x5.f6] false), (96, .box [S x11.f0, I x11.f1.f0, I x11.f1.f1, I x11.f2, LL S x11.f3] false)] 97) ?_
    refine se (mkE [(0, LL a90 p0), (6, .ba 48 0), (12, .ba 96 0), (13, B x12.1), (14, I x12.2), (15, I x15), (28, LL a53 p1), (29, I (lenL p1)), (30, I z0), (60, LL a90 p0), (61, I (lenL p0)), (62, I z1)] [(48, .box [S x5.f0, S x5.f1, I x5.f2.f0, I x5.f2.f1, LL S x5.f3, I x5.f4, I x5.f5, I x5.f6] false), (96, .box [S x11.f0, I x11.f1.f0, I x11.f1.f1, I x11.f2, LL S x11.f3] false)] 97) ?_
    refine pN ?_
    refine pS ?_
    refine gS 0 ?_
    refine gR 18 (rg Try.f17 18) ?_
    refine sg 4 (mkE [(83, B (neI x12.2 x15)), (82, B (neI x12.2 x15)), (81, I x15), (80, I x12.2), (0, LL a90 p0), (6, .ba 48 0), (12, .ba 96 0), (13, B x12.1), (14, I x12.2), (15, I x15), (28, LL a53 p1), (29, I (lenL p1)), (30, I z0), (60, LL a90 p0), (61, I (lenL p0)), (62, I z1)] [(48, .box [S x5.f0, S x5.f1, I x5.f2.f0, I x5.f2.f1, LL S x5.f3, I x5.f4, I x5.f5, I x5.f6] false), (96, .box [S x11.f0, I x11.f1.f0, I x11.f1.f1, I x11.f2, LL S x11.f3] false)] 97) ?_
    refine sb 83 (neI x12.2 x15) ?_ ?_
    · refine se (mkE [(0, LL a90 p0), (6, .ba 48 0), (28, LL a53 p1), (29, I (lenL p1)), (30, I z0), (60, LL a90 p0), (61, I (lenL p0)), (62, I z1), (93, B true)] [(48, .box [S x5.f0, S x5.f1, I x5.f2.f0, I x5.f2.f1, LL S x5.f3, I x5.f4, I x5.f5, I x5.f6] false)] 97) ?_
      refine pN ?_
      refine pS ?_
      refine gT (.tmp 93) ?_
      refine gS 0 ?_
      refine gR 19 (rg Try.f17 19) ?_
      refine se (mkE [(4, B false)] [] 97) ?_
      refine pN ?_
      refine pS ?_
      refine gE ?_
      exact pL
    · refine sg 8 (mkE [(87, B (eqI x15 0)), (86, B (eqI x15 0)), (85, I x15), (84, B x12.1), (83, B false), (83, B (neI x12.2 x15)), (82, B (neI x12.2 x15)), (81, I x15), (80, I x12.2), (0, LL a90 p0), (6, .ba 48 0), (12, .ba 96 0), (13, B x12.1), (14, I x12.2), (15, I x15), (28, LL a53 p1), (29, I (lenL p1)), (30, I z0), (60, LL a90 p0), (61, I (lenL p0)), (62, I z1)] [(48, .box [S x5.f0, S x5.f1, I x5.f2.f0, I x5.f2.f1, LL S x5.f3, I x5.f4, I x5.f5, I x5.f6] false), (96, .box [S x11.f0, I x11.f1.f0, I x11.f1.f1, I x11.f2, LL S x11.f3] false)] 97) ?_
      refine sb 87 (eqI x15 0) ?_ ?_
      · refine sg 10 (mkE [(89, a90 x11), (88, a53 x5), (87, B true), (87, B (eqI x15 0)), (86, B (eqI x15 0)), (85, I x15), (84, B x12.1), (83, B false), (83, B (neI x12.2 x15)), (82, B (neI x12.2 x15)), (81, I x15), (80, I x12.2), (0, LL a90 p0), (6, .ba 48 0), (12, .ba 96 0), (13, B x12.1), (14, I x12.2), (15, I x15), (28, LL a53 p1), (29, I (lenL p1)), (30, I z0), (60, LL a90 p0), (61, I (lenL p0)), (62, I z1)] [(48, .box [S x5.f0, S x5.f1, I x5.f2.f0, I x5.f2.f1, LL S x5.f3, I x5.f4, I x5.f5, I x5.f6] false), (96, .box [S x11.f0, I x11.f1.f0, I x11.f1.f1, I x11.f2, LL S x11.f3] false)] 97) ?_
        refine co 90 [] (h65 x5 x11) (fun x16 => ?_)
        refine se (mkE [(0, LL a90 p0), (6, .ba 48 0), (28, LL a53 p1), (29, I (lenL p1)), (30, I z0), (60, LL a90 p0), (61, I (lenL p0)), (62, I z1), (93, B (x12.1 != x16))] [(48, .box [S x5.f0, S x5.f1, I x5.f2.f0, I x5.f2.f1, LL S x5.f3, I x5.f4, I x5.f5, I x5.f6] false)] 97) ?_
        refine pN ?_
        refine pS ?_
        refine gC 93 (x12.1 != x16) ?_ ?_
        · refine gS 0 ?_
          refine gR 19 (rg Try.f17 19) ?_
          refine se (mkE [(4, B false)] [] 97) ?_
          refine pN ?_
          refine pS ?_
          refine gE ?_
          exact pL
        · refine gK ?_
          refine pB ?_
          refine pN ?_
          refine pS ?_
          refine gR 20 (rg Try.f17 20) ?_
          refine se (mkE [(0, LL a90 p0), (6, .ba 48 0), (28, LL a53 p1), (29, I (lenL p1)), (30, I z0), (60, LL a90 p0), (61, I (lenL p0)), (62, I (addI .i64 z1 1))] [(48, .box [S x5.f0, S x5.f1, I x5.f2.f0, I x5.f2.f1, LL S x5.f3, I x5.f4, I x5.f5, I x5.f6] false)] 97) ?_
          exact pL
      · refine se (mkE [(0, LL a90 p0), (6, .ba 48 0), (28, LL a53 p1), (29, I (lenL p1)), (30, I z0), (60, LL a90 p0), (61, I (lenL p0)), (62, I z1), (93, B (x12.1 != false))] [(48, .box [S x5.f0, S x5.f1, I x5.f2.f0, I x5.f2.f1, LL S x5.f3, I x5.f4, I x5.f5, I x5.f6] false)] 97) ?_
        refine pN ?_
        refine pS ?_
        refine gC 93 (x12.1 != false) ?_ ?_
        · refine gS 0 ?_
          refine gR 19 (rg Try.f17 19) ?_
          refine se (mkE [(4, B false)] [] 97) ?_
          refine pN ?_
          refine pS ?_
          refine gE ?_
          exact pL
        · refine gK ?_
          refine pB ?_
          refine pN ?_
          refine pS ?_
          refine gR 20 (rg Try.f17 20) ?_
          refine se (mkE [(0, LL a90 p0), (6, .ba 48 0), (28, LL a53 p1), (29, I (lenL p1)), (30, I z0), (60, LL a90 p0), (61, I (lenL p0)), (62, I (addI .i64 z1 1))] [(48, .box [S x5.f0, S x5.f1, I x5.f2.f0, I x5.f2.f1, LL S x5.f3, I x5.f4, I x5.f5, I x5.f6] false)] 97) ?_
          exact pL
  · refine gX 2 ?_
    exact pL
noncomputable def L17_14_v1 (p0 : (List S90)) (p1 : (List S53)) (z0 : Int) (x5 : S53) (z1 : Int) : Option (Int ⊕ ((Int × Bool) ⊕ Unit)) := (bif (ltI z1 (lenL p0)) then ((listAt p0 z1).bind fun x18 => ((T64 x5 x18).bind fun x19 => ((T59 ([x18] : List S90)).bind fun x20 => ((T61 ([x5] : List S53)).bind fun x21 => ((T49 ([x20, x21] : List Int)).bind fun x22 => (bif (neI x19.2 x22) then (some (.inr (.inr ()))) else (bif (eqI x22 0) then ((T65 x5 x18).bind fun x23 => (bif (x19.1 != x23) then (some (.inr (.inr ()))) else (some (.inl (addI .i64 z1 1))))) else (bif (x19.1 != false) then (some (.inr (.inr ()))) else (some (.inl (addI .i64 z1 1))))))))))) else (some (.inr (.inl (z1, (ltI z1 (lenL p0)))))))
theorem L17_14_v1_ok (C : Callee) (h49 : ∀ (p0 : (List Int)), C 49 [LL I p0] = (T49 p0).map I) (h59 : ∀ (p0 : (List S90)), C 59 [LL a90 p0] = (T59 p0).map I) (h61 : ∀ (p0 : (List S53)), C 61 [LL a53 p0] = (T61 p0).map I) (h64 : ∀ (p0 : S53) (p1 : S90), C 64 [a53 p0, a90 p1] = (T64 p0 p1).map (fun r => AV.tup [B r.1, I r.2])) (h65 : ∀ (p0 : S53) (p1 : S90), C 65 [a53 p0, a90 p1] = (T65 p0 p1).map B) (p0 : (List S90)) (p1 : (List S53)) (z0 : Int) (x5 : S53) (z1 : Int) : runs Try.prog C (cfg.fn 17) (finLoop ((cfg.fn 17).keep 14)) [] (execA Try.prog C (cfg.fn 17) (nr Try.f17 [false, false, true, true, true, true, true, true, true, false, false, true, true, false, false, true, false, true, true]) ((fun z1 : Int => (mkE [(0, LL a90 p0), (6, .ba 48 0), (28, LL a53 p1), (29, I (lenL p1)), (30, I z0), (60, LL a90 p0), (61, I (lenL p0)), (62, I z1)] [(48, .box [S x5.f0, S x5.f1, I x5.f2.f0, I x5.f2.f1, LL S x5.f3, I x5.f4, I x5.f5, I x5.f6] false)] 97)) z1)) = (L17_14_v1 p0 p1 z0 x5 z1).map (Sum.elim (fun z => .inl ((fun z1 : Int => (mkE [(0, LL a90 p0), (6, .ba 48 0), (28, LL a53 p1), (29, I (lenL p1)), (30, I z0), (60, LL a90 p0), (61, I (lenL p0)), (62, I z1)] [(48, .box [S x5.f0, S x5.f1, I x5.f2.f0, I x5.f2.f1, LL S x5.f3, I x5.f4, I x5.f5, I x5.f6] false)] 97)) z)) (fun x => .inr ((Sum.elim (fun (x : (Int × Bool)) => (.exit 2, (mkE [(0, LL a90 p0), (6, .ba 48 0), (28, LL a53 p1), (29, I (lenL p1)), (30, I z0), (60, LL a90 p0), (61, I (lenL p0)), (62, I x.1), (63, B x.2)] [(48, .box [S x5.f0, S x5.f1, I x5.f2.f0, I x5.f2.f1, LL S x5.f3, I x5.f4, I x5.f5, I x5.f6] false)] 97))) (fun (x : Unit) => (.ret, (mkE [(4, B false)] [] 97)))) x))) := by
  unfold L17_14_v1
  refine gS 0 ?_
  refine gR 14 (rg Try.f17 14) ?_
  refine se (mkE [(0, LL a90 p0), (6, .ba 48 0), (28, LL a53 p1), (29, I (lenL p1)), (30, I z0), (60, LL a90 p0), (61, I (lenL p0)), (62, I z1), (63, B (ltI z1 (lenL p0)))] [(48, .box [S x5.f0, S x5.f1, I x5.f2.f0, I x5.f2.f1, LL S x5.f3, I x5.f4, I x5.f5, I x5.f6] false)] 97) ?_
  refine pN ?_
  refine pS ?_
  refine gS 15 ?_
  refine gC 63 (ltI z1 (lenL p0)) ?_ ?_
  · refine gK ?_
    refine pN ?_
    refine pS ?_
    refine gS 20 ?_
    refine gB 3 ?_
    refine gS 16 ?_
    refine gR 15 (rg Try.f17 15) ?_
    refine vo 64 (addrE 28 91 5 a90 .i64 p0 z1) (fun x18 => ?_)
    refine se (mkE [(0, LL a90 p0), (6, .ba 48 0), (12, .ba 96 0), (28, LL a53 p1), (29, I (lenL p1)), (30, I z0), (60, LL a90 p0), (61, I (lenL p0)), (62, I z1)] [(48, .box [S x5.f0, S x5.f1, I x5.f2.f0, I x5.f2.f1, LL S x5.f3, I x5.f4, I x5.f5, I x5.f6] false), (96, .box [S x18.f0, I x18.f1.f0, I x18.f1.f1, I x18.f2, LL S x18.f3] false)] 97) ?_
    refine pN ?_
    refine pS ?_
    refine gS 17 ?_
    refine gR 16 (rg Try.f17 16) ?_
    refine sg 2 (mkE [(68, a90 x18), (67, a53 x5), (0, LL a90 p0), (6, .ba 48 0), (12, .ba 96 0), (28, LL a53 p1), (29, I (lenL p1)), (30, I z0), (60, LL a90 p0), (61, I (lenL p0)), (62, I z1)] [(48, .box [S x5.f0, S x5.f1, I x5.f2.f0, I x5.f2.f1, LL S x5.f3, I x5.f4, I x5.f5, I x5.f6] false), (96, .box [S x18.f0, I x18.f1.f0, I x18.f1.f1, I x18.f2, LL S x18.f3] false)] 97) ?_
    refine co 69 [] (h64 x5 x18) (fun x19 => ?_)
    refine se (mkE [(0, LL a90 p0), (6, .ba 48 0), (12, .ba 96 0), (13, B x19.1), (14, I x19.2), (28, LL a53 p1), (29, I (lenL p1)), (30, I z0), (60, LL a90 p0), (61, I (lenL p0)), (62, I z1)] [(48, .box [S x5.f0, S x5.f1, I x5.f2.f0, I x5.f2.f1, LL S x5.f3, I x5.f4, I x5.f5, I x5.f6] false), (96, .box [S x18.f0, I x18.f1.f0, I x18.f1.f1, I x18.f2, LL S x18.f3] false)] 97) ?_
    refine pN ?_
    refine pS ?_
    refine gS 18 ?_
    refine gD 17 9 (rg Try.f17 17) [0, 1, 2, 3, 4, 5, 6, 7, 8] ?_
    refine dg 2 [(some 72, { val := a90 x18 }), (some 73, { val := .own 584 0, news := [(584, RR 91 5 a90 ([x18] : List S90) 0 false)] })] ?_
    refine dc 74 [584] (mkE [(73, .own 584 0), (72, a90 x18), (0, LL a90 p0), (6, .ba 48 0), (12, .ba 96 0), (13, B x19.1), (14, I x19.2), (28, LL a53 p1), (29, I (lenL p1)), (30, I z0), (60, LL a90 p0), (61, I (lenL p0)), (62, I z1)] [(584, RR 91 5 a90 ([x18] : List S90) 0 false), (48, .box [S x5.f0, S x5.f1, I x5.f2.f0, I x5.f2.f1, LL S x5.f3, I x5.f4, I x5.f5, I x5.f6] false), (96, .box [S x18.f0, I x18.f1.f0, I x18.f1.f1, I x18.f2, LL S x18.f3] false)] 97) (h59 ([x18] : List S90)) (fun x20 => ?_)
    refine dg 5 [(some 72, { val := a90 x18 }), (some 73, { val := .own 584 0, news := [(584, RR 91 5 a90 ([x18] : List S90) 0 false)] }), (some 74, { val := I x20 }), (some 75, { val := a53 x5 }), (some 76, { val := .own 608 0, news := [(608, RR 54 8 a53 ([x5] : List S53) 0 false)] })] ?_
    refine dc 77 [608] (mkE [(76, .own 608 0), (75, a53 x5), (74, I x20), (73, .own 584 0), (72, a90 x18), (0, LL a90 p0), (6, .ba 48 0), (12, .ba 96 0), (13, B x19.1), (14, I x19.2), (28, LL a53 p1), (29, I (lenL p1)), (30, I z0), (60, LL a90 p0), (61, I (lenL p0)), (62, I z1)] [(608, RR 54 8 a53 ([x5] : List S53) 0 false), (584, RR 91 5 a90 ([x18] : List S90) 0 false), (48, .box [S x5.f0, S x5.f1, I x5.f2.f0, I x5.f2.f1, LL S x5.f3, I x5.f4, I x5.f5, I x5.f6] false), (96, .box [S x18.f0, I x18.f1.f0, I x18.f1.f1, I x18.f2, LL S x18.f3] false)] 97) (h61 ([x5] : List S53)) (fun x21 => ?_)
    refine dg 7 [(some 72, { val := a90 x18 }), (some 73, { val := .own 584 0, news := [(584, RR 91 5 a90 ([x18] : List S90) 0 false)] }), (some 74, { val := I x20 }), (some 75, { val := a53 x5 }), (some 76, { val := .own 608 0, news := [(608, RR 54 8 a53 ([x5] : List S53) 0 false)] }), (some 77, { val := I x21 }), (some 78, { val := .own 624 0, news := [(624, RR 69 1 I ([x20, x21] : List Int) 0 false)] })] ?_
    refine dc 79 [624] (mkE [(78, .own 624 0), (77, I x21), (76, .own 608 0), (75, a53 x5), (74, I x20), (73, .own 584 0), (72, a90 x18), (0, LL a90 p0), (6, .ba 48 0), (12, .ba 96 0), (13, B x19.1), (14, I x19.2), (28, LL a53 p1), (29, I (lenL p1)), (30, I z0), (60, LL a90 p0), (61, I (lenL p0)), (62, I z1)] [(624, RR 69 1 I ([x20, x21] : List Int) 0 false), (608, RR 54 8 a53 ([x5] : List S53) 0 false), (584, RR 91 5 a90 ([x18] : List S90) 0 false), (48, .box [S x5.f0, S x5.f1, I x5.f2.f0, I x5.f2.f1, LL S x5.f3, I x5.f4, I x5.f5, I x5.f6] false), (96, .box [S x18.f0, I x18.f1.f0, I x18.f1.f1, I x18.f2, LL S x18.f3] false)] 97) (h49 ([x20, x21] : List Int)) (fun x22 => ?_)
    refine dg 9 [(some 72, { val := a90 x18 }), (some 73, { val := .own 584 0, news := [(584, RR 91 5 a90 ([x18] : List S90) 0 false)] }), (some 74, { val := I x20 }), (some 75, { val := a53 x5 }), (some 76, { val := .own 608 0, news := [(608, RR 54 8 a53 ([x5] : List S53) 0 false)] }), (some 77, { val := I x21 }), (some 78, { val := .own 624 0, news := [(624, RR 69 1 I ([x20, x21] : List Int) 0 false)] }), (some 79, { val := I x22 }), (some 15, { val := I x22 })] ?_
    refine de (mkE [(15, I x22), (79, I x22), (78, .own 624 0), (77, I x21), (76, .own 608 0), (75, a53 x5), (74, I x20), (73, .own 584 0), (72, a90 x18), (0, LL a90 p0), (6, .ba 48 0), (12, .ba 96 0), (13, B x19.1), (14, I x19.2), (28, LL a53 p1), (29, I (lenL p1)), (30, I z0), (60, LL a90 p0), (61, I (lenL p0)), (62, I z1)] [(624, RR 69 1 I ([x20, x21] : List Int) 0 false), (608, RR 54 8 a53 ([x5] : List S53) 0 false), (584, RR 91 5 a90 ([x18] : List S90) 0 false), (48, .box [S x5.f0, S x5.f1, I x5.f2.f0, I x5.f2.f1, LL S x5.f3, I x5.f4, I x5.f5, I x5.f6] false), (96, .box [S x18.f0, I x18.f1.f0, I x18.f1.f1, I x18.f2, LL S x18.f3] false)] 97) ?_
    refine se (mkE [(0, LL a90 p0), (6, .ba 48 0), (12, .ba 96 0), (13, B x19.1), (14, I x19.2), (15, I x22), (28, LL a53 p1), (29, I (lenL p1)), (30, I z0), (60, LL a90 p0), (61, I (lenL p0)), (62, I z1)] [(48, .box [S x5.f0, S x5.f1, I x5.f2.f0, I x5.f2.f1, LL S x5.f3, I x5.f4, I x5.f5, I x5.f6] false), (96, .box [S x18.f0, I x18.f1.f0, I x18.f1.f1, I x18.f2, LL S x18.f3] false)] 97) ?_
    refine pN ?_
    refine pS ?_
    refine gS 0 ?_
    refine gR 18 (rg Try.f17 18) ?_
    refine sg 4 (mkE [(83, B (neI x19.2 x22)), (82, B (neI x19.2 x22)), (81, I x22), (80, I x19.2), (0, LL a90 p0), (6, .ba 48 0), (12, .ba 96 0), (13, B x19.1), (14, I x19.2), (15, I x22), (28, LL a53 p1), (29, I (lenL p1)), (30, I z0), (60, LL a90 p0), (61, I (lenL p0)), (62, I z1)] [(48, .box [S x5.f0, S x5.f1, I x5.f2.f0, I x5.f2.f1, LL S x5.f3, I x5.f4, I x5.f5, I x5.f6] false), (96, .box [S x18.f0, I x18.f1.f0, I x18.f1.f1, I x18.f2, LL S x18.f3] false)] 97) ?_
    refine sb 83 (neI x19.2 x22) ?_ ?_
    · refine se (mkE [(0, LL a90 p0), (6, .ba 48 0), (28, LL a53 p1), (29, I (lenL p1)), (30, I z0), (60, LL a90 p0), (61, I (lenL p0)), (62, I z1), (93, B true)] [(48, .box [S x5.f0, S x5.f1, I x5.f2.f0, I x5.f2.f1, LL S x5.f3, I x5.f4, I x5.f5, I x5.f6] false)] 97) ?_
      refine pN ?_
      refine pS ?_
      refine gT (.tmp 93) ?_
      refine gS 0 ?_
      refine gR 19 (rg Try.f17 19) ?_
      refine se (mkE [(4, B false)] [] 97) ?_
      refine pN ?_
      refine pS ?_
      refine gE ?_
      exact pL
    · refine sg 8 (mkE [(87, B (eqI x22 0)), (86, B (eqI x22 0)), (85, I x22), (84, B x19.1), (83, B false), (83, B (neI x19.2 x22)), (82, B (neI x19.2 x22)), (81, I x22), (80, I x19.2), (0, LL a90 p0), (6, .ba 48 0), (12, .ba 96 0), (13, B x19.1), (14, I x19.2), (15, I x22), (28, LL a53 p1), (29, I (lenL p1)), (30, I z0), (60, LL a90 p0), (61, I (lenL p0)), (62, I z1)] [(48, .box [S x5.f0, S x5.f1, I x5.f2.f0, I x5.f2.f1, LL S x5.f3, I x5.f4, I x5.f5, I x5.f6] false), (96, .box [S x18.f0, I x18.f1.f0, I x18.f1.f1, I x18.f2, LL S x18.f3] false)] 97) ?_
      refine sb 87 (eqI x22 0) ?_ ?_
      · refine sg 10 (mkE [(89, a90 x18), (88, a53 x5), (87, B true), (87, B (eqI x22 0)), (86, B (eqI x22 0)), (85, I x22), (84, B x19.1), (83, B false), (83, B (neI x19.2 x22)), (82, B (neI x19.2 x22)), (81, I x22), (80, I x19.2), (0, LL a90 p0), (6, .ba 48 0), (12, .ba 96 0), (13, B x19.1), (14, I x19.2), (15, I x22), (28, LL a53 p1), (29, I (lenL p1)), (30, I z0), (60, LL a90 p0), (61, I (lenL p0)), (62, I z1)] [(48, .box [S x5.f0, S x5.f1, I x5.f2.f0, I x5.f2.f1, LL S x5.f3, I x5.f4, I x5.f5, I x5.f6] false), (96, .box [S x18.f0, I x18.f1.f0, I x18.f1.f1, I x18.f2, LL S x18.f3] false)] 97) ?_
        refine co 90 [] (h65 x5 x18) (fun x23 => ?_)
        refine se (mkE [(0, LL a90 p0), (6, .ba 48 0), (28, LL a53 p1), (29, I (lenL p1)), (30, I z0), (60, LL a90 p0), (61, I (lenL p0)), (62, I z1), (93, B (x19.1 != x23))] [(48, .box [S x5.f0, S x5.f1, I x5.f2.f0, I x5.f2.f1, LL S x5.f3, I x5.f4, I x5.f5, I x5.f6] false)] 97) ?_
        refine pN ?_
        refine pS ?_
        refine gC 93 (x19.1 != x23) ?_ ?_
        · refine gS 0 ?_
          refine gR 19 (rg Try.f17 19) ?_
          refine se (mkE [(4, B false)] [] 97) ?_
          refine pN ?_
          refine pS ?_
          refine gE ?_
          exact pL
        · refine gK ?_
          refine pB ?_
          refine pN ?_
          refine pS ?_
          refine gR 20 (rg Try.f17 20) ?_
          refine se (mkE [(0, LL a90 p0), (6, .ba 48 0), (28, LL a53 p1), (29, I (lenL p1)), (30, I z0), (60, LL a90 p0), (61, I (lenL p0)), (62, I (addI .i64 z1 1))] [(48, .box [S x5.f0, S x5.f1, I x5.f2.f0, I x5.f2.f1, LL S x5.f3, I x5.f4, I x5.f5, I x5.f6] false)] 97) ?_
          exact pL
      · refine se (mkE [(0, LL a90 p0), (6, .ba 48 0), (28, LL a53 p1), (29, I (lenL p1)), (30, I z0), (60, LL a90 p0), (61, I (lenL p0)), (62, I z1), (93, B (x19.1 != false))] [(48, .box [S x5.f0, S x5.f1, I x5.f2.f0, I x5.f2.f1, LL S x5.f3, I x5.f4, I x5.f5, I x5.f6] false)] 97) ?_
        refine pN ?_
        refine pS ?_
        refine gC 93 (x19.1 != false) ?_ ?_
        · refine gS 0 ?_
          refine gR 19 (rg Try.f17 19) ?_
          refine se (mkE [(4, B false)] [] 97) ?_
          refine pN ?_
          refine pS ?_
          refine gE ?_
          exact pL
        · refine gK ?_
          refine pB ?_
          refine pN ?_
          refine pS ?_
          refine gR 20 (rg Try.f17 20) ?_
          refine se (mkE [(0, LL a90 p0), (6, .ba 48 0), (28, LL a53 p1), (29, I (lenL p1)), (30, I z0), (60, LL a90 p0), (61, I (lenL p0)), (62, I (addI .i64 z1 1))] [(48, .box [S x5.f0, S x5.f1, I x5.f2.f0, I x5.f2.f1, LL S x5.f3, I x5.f4, I x5.f5, I x5.f6] false)] 97) ?_
          exact pL
  · refine gX 2 ?_
    exact pL
noncomputable def L17_4 (p0 : (List S90)) (p1 : (List S53)) (z0 : Int) : Option (Int ⊕ ((Int × Bool) ⊕ Unit)) := (bif (ltI z0 (lenL p1)) then ((listAt p1 z0).bind fun x5 => ((T59 p0).bind fun x6 => ((T61 ([x5] : List S53)).bind fun x7 => ((T49 ([x6, x7] : List Int)).bind fun x8 => ((T62 p0 x5).bind fun x9 => (bif (eqI x8 0) then ((T63 p0 x5).bind fun x10 => (bif (neI x9.2 x8) then (some (.inr (.inr ()))) else (bif (neI x9.1 x10) then (some (.inr (.inr ()))) else ((iter (L17_14 p0 p1 z0 x5) 0).bind fun y17 => (Sum.elim (fun y17a => (some (.inl (addI .i64 z0 1)))) (fun y17b => (some (.inr (.inr ())))) y17))))) else (bif (neI x9.2 x8) then (some (.inr (.inr ()))) else (bif (neI x9.1 0) then (some (.inr (.inr ()))) else ((iter (L17_14_v1 p0 p1 z0 x5) 0).bind fun y24 => (Sum.elim (fun y24a => (some (.inl (addI .i64 z0 1)))) (fun y24b => (some (.inr (.inr ())))) y24)))))))))) else (some (.inr (.inl (z0, (ltI z0 (lenL p1)))))))
theorem L17_4_ok (C : Callee) (h49 : ∀ (p0 : (List Int)), C 49 [LL I p0] = (T49 p0).map I) (h59 : ∀ (p0 : (List S90)), C 59 [LL a90 p0] = (T59 p0).map I) (h61 : ∀ (p0 : (List S53)), C 61 [LL a53 p0] = (T61 p0).map I) (h62 : ∀ (p0 : (List S90)) (p1 : S53), C 62 [LL a90 p0, a53 p1] = (T62 p0 p1).map (fun r => AV.tup [I r.1, I r.2])) (h63 : ∀ (p0 : (List S90)) (p1 : S53), C 63 [LL a90 p0, a53 p1] = (T63 p0 p1).map I) (h64 : ∀ (p0 : S53) (p1 : S90), C 64 [a53 p0, a90 p1] = (T64 p0 p1).map (fun r => AV.tup [B r.1, I r.2])) (h65 : ∀ (p0 : S53) (p1 : S90), C 65 [a53 p0, a90 p1] = (T65 p0 p1).map B) (p0 : (List S90)) (p1 : (List S53)) (z0 : Int) : runs Try.prog C (cfg.fn 17) (finLoop ((cfg.fn 17).keep 4)) [] (execA Try.prog C (cfg.fn 17) (nr Try.f17 [false, false, true, false, true, true]) ((fun z0 : Int => (mkE [(0, LL a90 p0), (28, LL a53 p1), (29, I (lenL p1)), (30, I z0)] [] 97)) z0)) = (L17_4 p0 p1 z0).map (Sum.elim (fun z => .inl ((fun z0 : Int => (mkE [(0, LL a90 p0), (28, LL a53 p1), (29, I (lenL p1)), (30, I z0)] [] 97)) z)) (fun x => .inr ((Sum.elim (fun (x : (Int × Bool)) => (.exit 0, (mkE [(0, LL a90 p0), (28, LL a53 p1), (29, I (lenL p1)), (30, I x.1), (31, B x.2)] [] 97))) (fun (x : Unit) => (.ret, (mkE [(4, B false)] [] 97)))) x))) := by
  unfold L17_4
  refine gS 0 ?_
  refine gR 4 (rg Try.f17 4) ?_
  refine se (mkE [(0, LL a90 p0), (28, LL a53 p1), (29, I (lenL p1)), (30, I z0), (31, B (ltI z0 (lenL p1)))] [] 97) ?_
  refine pN ?_
  refine pS ?_
  refine gS 5 ?_
  refine gC 31 (ltI z0 (lenL p1)) ?_ ?_
  · refine gK ?_
    refine pN ?_
    refine pS ?_
    refine gS 21 ?_
    refine gB 1 ?_
    refine gS 6 ?_
    refine gR 5 (rg Try.f17 5) ?_
    refine vo 32 (addrE 29 54 8 a53 .i64 p1 z0) (fun x5 => ?_)
    refine se (mkE [(0, LL a90 p0), (6, .ba 48 0), (28, LL a53 p1), (29, I (lenL p1)), (30, I z0)] [(48, .box [S x5.f0, S x5.f1, I x5.f2.f0, I x5.f2.f1, LL S x5.f3, I x5.f4, I x5.f5, I x5.f6] false)] 97) ?_
    refine pN ?_
    refine pS ?_
    refine gS 7 ?_
    refine gD 6 8 (rg Try.f17 6) [0, 1, 2, 3, 4, 5, 6, 7] ?_
    refine dg 1 [(some 34, { val := LL a90 p0 })] ?_
    refine dc 35 [] (mkE [(34, LL a90 p0), (0, LL a90 p0), (6, .ba 48 0), (28, LL a53 p1), (29, I (lenL p1)), (30, I z0)] [(48, .box [S x5.f0, S x5.f1, I x5.f2.f0, I x5.f2.f1, LL S x5.f3, I x5.f4, I x5.f5, I x5.f6] false)] 97) (h59 p0) (fun x6 => ?_)
    refine dg 4 [(some 34, { val := LL a90 p0 }), (some 35, { val := I x6 }), (some 36, { val := a53 x5 }), (some 37, { val := .own 296 0, news := [(296, RR 54 8 a53 ([x5] : List S53) 0 false)] })] ?_
    refine dc 38 [296] (mkE [(37, .own 296 0), (36, a53 x5), (35, I x6), (34, LL a90 p0), (0, LL a90 p0), (6, .ba 48 0), (28, LL a53 p1), (29, I (lenL p1)), (30, I z0)] [(296, RR 54 8 a53 ([x5] : List S53) 0 false), (48, .box [S x5.f0, S x5.f1, I x5.f2.f0, I x5.f2.f1, LL S x5.f3, I x5.f4, I x5.f5, I x5.f6] false)] 97) (h61 ([x5] : List S53)) (fun x7 => ?_)
    refine dg 6 [(some 34, { val := LL a90 p0 }), (some 35, { val := I x6 }), (some 36, { val := a53 x5 }), (some 37, { val := .own 296 0, news := [(296, RR 54 8 a53 ([x5] : List S53) 0 false)] }), (some 38, { val := I x7 }), (some 39, { val := .own 312 0, news := [(312, RR 69 1 I ([x6, x7] : List Int) 0 false)] })] ?_
    refine dc 40 [312] (mkE [(39, .own 312 0), (38, I x7), (37, .own 296 0), (36, a53 x5), (35, I x6), (34, LL a90 p0), (0, LL a90 p0), (6, .ba 48 0), (28, LL a53 p1), (29, I (lenL p1)), (30, I z0)] [(312, RR 69 1 I ([x6, x7] : List Int) 0 false), (296, RR 54 8 a53 ([x5] : List S53) 0 false), (48, .box [S x5.f0, S x5.f1, I x5.f2.f0, I x5.f2.f1, LL S x5.f3, I x5.f4, I x5.f5, I x5.f6] false)] 97) (h49 ([x6, x7] : List Int)) (fun x8 => ?_)
    refine dg 8 [(some 34, { val := LL a90 p0 }), (some 35, { val := I x6 }), (some 36, { val := a53 x5 }), (some 37, { val := .own 296 0, news := [(296, RR 54 8 a53 ([x5] : List S53) 0 false)] }), (some 38, { val := I x7 }), (some 39, { val := .own 312 0, news := [(312, RR 69 1 I ([x6, x7] : List Int) 0 false)] }), (some 40, { val := I x8 }), (some 7, { val := I x8 })] ?_
    refine de (mkE [(7, I x8), (40, I x8), (39, .own 312 0), (38, I x7), (37, .own 296 0), (36, a53 x5), (35, I x6), (34, LL a90 p0), (0, LL a90 p0), (6, .ba 48 0), (28, LL a53 p1), (29, I (lenL p1)), (30, I z0)] [(312, RR 69 1 I ([x6, x7] : List Int) 0 false), (296, RR 54 8 a53 ([x5] : List S53) 0 false), (48, .box [S x5.f0, S x5.f1, I x5.f2.f0, I x5.f2.f1, LL S x5.f3, I x5.f4, I x5.f5, I x5.f6] false)] 97) ?_
    refine se (mkE [(0, LL a90 p0), (6, .ba 48 0), (7, I x8), (28, LL a53 p1), (29, I (lenL p1)), (30, I z0)] [(48, .box [S x5.f0, S x5.f1, I x5.f2.f0, I x5.f2.f1, LL S x5.f3, I x5.f4, I x5.f5, I x5.f6] false)] 97) ?_
    refine pN ?_
    refine pS ?_
    refine gS 8 ?_
    refine gR 7 (rg Try.f17 7) ?_
    refine sg 2 (mkE [(43, a53 x5), (42, LL a90 p0), (0, LL a90 p0), (6, .ba 48 0), (7, I x8), (28, LL a53 p1), (29, I (lenL p1)), (30, I z0)] [(48, .box [S x5.f0, S x5.f1, I x5.f2.f0, I x5.f2.f1, LL S x5.f3, I x5.f4, I x5.f5, I x5.f6] false)] 97) ?_
    refine co 44 [] (h62 p0 x5) (fun x9 => ?_)
    refine se (mkE [(0, LL a90 p0), (6, .ba 48 0), (7, I x8), (8, I x9.1), (9, I x9.2), (28, LL a53 p1), (29, I (lenL p1)), (30, I z0)] [(48, .box [S x5.f0, S x5.f1, I x5.f2.f0, I x5.f2.f1, LL S x5.f3, I x5.f4, I x5.f5, I x5.f6] false)] 97) ?_
    refine pN ?_
    refine pS ?_
    refine gS 9 ?_
    refine gR 8 (rg Try.f17 8) ?_
    refine se (mkE [(0, LL a90 p0), (6, .ba 48 0), (7, I x8), (8, I x9.1), (9, I x9.2), (10, I 0), (28, LL a53 p1), (29, I (lenL p1)), (30, I z0)] [(48, .box [S x5.f0, S x5.f1, I x5.f2.f0, I x5.f2.f1, LL S x5.f3, I x5.f4, I x5.f5, I x5.f6] false)] 97) ?_
    refine pN ?_
    refine pS ?_
    refine gS 11 ?_
    refine gS 0 ?_
    refine gR 9 (rg Try.f17 9) ?_
    refine se (mkE [(0, LL a90 p0), (6, .ba 48 0), (7, I x8), (8, I x9.1), (9, I x9.2), (10, I 0), (28, LL a53 p1), (29, I (lenL p1)), (30, I z0), (48, B (eqI x8 0))] [(48, .box [S x5.f0, S x5.f1, I x5.f2.f0, I x5.f2.f1, LL S x5.f3, I x5.f4, I x5.f5, I x5.f6] false)] 97) ?_
    refine pN ?_
    refine pS ?_
    refine gC 48 (eqI x8 0) ?_ ?_
    · refine gR 10 (rg Try.f17 10) ?_
      refine sg 2 (mkE [(50, a53 x5), (49, LL a90 p0), (0, LL a90 p0), (6, .ba 48 0), (7, I x8), (8, I x9.1), (9, I x9.2), (10, I 0), (28, LL a53 p1), (29, I (lenL p1)), (30, I z0), (48, B (eqI x8 0))] [(48, .box [S x5.f0, S x5.f1, I x5.f2.f0, I x5.f2.f1, LL S x5.f3, I x5.f4, I x5.f5, I x5.f6] false)] 97) ?_
      refine co 51 [] (h63 p0 x5) (fun x10 => ?_)
      refine se (mkE [(0, LL a90 p0), (6, .ba 48 0), (7, I x8), (8, I x9.1), (9, I x9.2), (10, I x10), (28, LL a53 p1), (29, I (lenL p1)), (30, I z0)] [(48, .box [S x5.f0, S x5.f1, I x5.f2.f0, I x5.f2.f1, LL S x5.f3, I x5.f4, I x5.f5, I x5.f6] false)] 97) ?_
      refine pN ?_
      refine pS ?_
      refine gS 13 ?_
      refine gS 0 ?_
      refine gR 11 (rg Try.f17 11) ?_
      refine sg 4 (mkE [(55, B (neI x9.2 x8)), (54, B (neI x9.2 x8)), (53, I x8), (52, I x9.2), (0, LL a90 p0), (6, .ba 48 0), (7, I x8), (8, I x9.1), (9, I x9.2), (10, I x10), (28, LL a53 p1), (29, I (lenL p1)), (30, I z0)] [(48, .box [S x5.f0, S x5.f1, I x5.f2.f0, I x5.f2.f1, LL S x5.f3, I x5.f4, I x5.f5, I x5.f6] false)] 97) ?_
      refine sb 55 (neI x9.2 x8) ?_ ?_
      · refine se (mkE [(0, LL a90 p0), (6, .ba 48 0), (28, LL a53 p1), (29, I (lenL p1)), (30, I z0), (59, B true)] [(48, .box [S x5.f0, S x5.f1, I x5.f2.f0, I x5.f2.f1, LL S x5.f3, I x5.f4, I x5.f5, I x5.f6] false)] 97) ?_
        refine pN ?_
        refine pS ?_
        refine gT (.tmp 59) ?_
        refine gS 0 ?_
        refine gR 12 (rg Try.f17 12) ?_
        refine se (mkE [(4, B false)] [] 97) ?_
        refine pN ?_
        refine pS ?_
        refine gE ?_
        exact pL
      · refine se (mkE [(0, LL a90 p0), (6, .ba 48 0), (28, LL a53 p1), (29, I (lenL p1)), (30, I z0), (59, B (neI x9.1 x10))] [(48, .box [S x5.f0, S x5.f1, I x5.f2.f0, I x5.f2.f1, LL S x5.f3, I x5.f4, I x5.f5, I x5.f6] false)] 97) ?_
        refine pN ?_
        refine pS ?_
        refine gC 59 (neI x9.1 x10) ?_ ?_
        · refine gS 0 ?_
          refine gR 12 (rg Try.f17 12) ?_
          refine se (mkE [(4, B false)] [] 97) ?_
          refine pN ?_
          refine pS ?_
          refine gE ?_
          exact pL
        · refine gK ?_
          refine pN ?_
          refine pS ?_
          refine gS 14 ?_
          refine gR 13 (rg Try.f17 13) ?_
          refine sg 1 (mkE [(60, LL a90 p0), (0, LL a90 p0), (6, .ba 48 0), (28, LL a53 p1), (29, I (lenL p1)), (30, I z0), (59, B (neI x9.1 x10))] [(48, .box [S x5.f0, S x5.f1, I x5.f2.f0, I x5.f2.f1, LL S x5.f3, I x5.f4, I x5.f5, I x5.f6] false)] 97) ?_
          refine eo 61 (I (lenL p0)) (lenE 28 a90 p0) ?_
          refine se (mkE [(0, LL a90 p0), (6, .ba 48 0), (28, LL a53 p1), (29, I (lenL p1)), (30, I z0), (60, LL a90 p0), (61, I (lenL p0)), (62, I 0)] [(48, .box [S x5.f0, S x5.f1, I x5.f2.f0, I x5.f2.f1, LL S x5.f3, I x5.f4, I x5.f5, I x5.f6] false)] 97) ?_
          refine pN ?_
          refine pS ?_
          refine gB 2 ?_
          refine lo [(0, none), (6, none), (28, none), (29, none), (30, none), (60, none), (61, none), (62, none)] (L17_14 p0 p1 z0 x5) (fun z1 : Int => (mkE [(0, LL a90 p0), (6, .ba 48 0), (28, LL a53 p1), (29, I (lenL p1)), (30, I z0), (60, LL a90 p0), (61, I (lenL p0)), (62, I z1)] [(48, .box [S x5.f0, S x5.f1, I x5.f2.f0, I x5.f2.f1, LL S x5.f3, I x5.f4, I x5.f5, I x5.f6] false)] 97)) (Sum.elim (fun (x : (Int × Bool)) => (.exit 2, (mkE [(0, LL a90 p0), (6, .ba 48 0), (28, LL a53 p1), (29, I (lenL p1)), (30, I z0), (60, LL a90 p0), (61, I (lenL p0)), (62, I x.1), (63, B x.2)] [(48, .box [S x5.f0, S x5.f1, I x5.f2.f0, I x5.f2.f1, LL S x5.f3, I x5.f4, I x5.f5, I x5.f6] false)] 97))) (fun (x : Unit) => (.ret, (mkE [(4, B false)] [] 97)))) 0 (fun z => L17_14_ok C h49 h59 h61 h64 h65 p0 p1 z0 x5 z) ?_
          intro y17
          refine ss y17 (Z := (Sum.elim (fun (x : (Int × Bool)) => (.exit 2, (mkE [(0, LL a90 p0), (6, .ba 48 0), (28, LL a53 p1), (29, I (lenL p1)), (30, I z0), (60, LL a90 p0), (61, I (lenL p0)), (62, I x.1), (63, B x.2)] [(48, .box [S x5.f0, S x5.f1, I x5.f2.f0, I x5.f2.f1, LL S x5.f3, I x5.f4, I x5.f5, I x5.f6] false)] 97))) (fun (x : Unit) => (.ret, (mkE [(4, B false)] [] 97))))) (fun y17a => ?_) (fun y17b => ?_)
          · refine pH ?_
            refine pB ?_
            refine pN ?_
            refine pS ?_
            refine gR 21 (rg Try.f17 21) ?_
            refine se (mkE [(0, LL a90 p0), (28, LL a53 p1), (29, I (lenL p1)), (30, I (addI .i64 z0 1))] [] 97) ?_
            exact pL
          · exact pL
    · refine gK ?_
      refine pN ?_
      refine pS ?_
      refine gS 13 ?_
      refine gS 0 ?_
      refine gR 11 (rg Try.f17 11) ?_
      refine sg 4 (mkE [(55, B (neI x9.2 x8)), (54, B (neI x9.2 x8)), (53, I x8), (52, I x9.2), (0, LL a90 p0), (6, .ba 48 0), (7, I x8), (8, I x9.1), (9, I x9.2), (10, I 0), (28, LL a53 p1), (29, I (lenL p1)), (30, I z0), (48, B (eqI x8 0))] [(48, .box [S x5.f0, S x5.f1, I x5.f2.f0, I x5.f2.f1, LL S x5.f3, I x5.f4, I x5.f5, I x5.f6] false)] 97) ?_
      refine sb 55 (neI x9.2 x8) ?_ ?_
      · refine se (mkE [(0, LL a90 p0), (6, .ba 48 0), (28, LL a53 p1), (29, I (lenL p1)), (30, I z0), (59, B true)] [(48, .box [S x5.f0, S x5.f1, I x5.f2.f0, I x5.f2.f1, LL S x5.f3, I x5.f4, I x5.f5, I x5.f6] false)] 97) ?_
        refine pN ?_
        refine pS ?_
        refine gT (.tmp 59) ?_
        refine gS 0 ?_
        refine gR 12 (rg Try.f17 12) ?_
        refine se (mkE [(4, B false)] [] 97) ?_
        refine pN ?_
        refine pS ?_
        refine gE ?_
        exact pL
      · refine se (mkE [(0, LL a90 p0), (6, .ba 48 0), (28, LL a53 p1), (29, I (lenL p1)), (30, I z0), (59, B (neI x9.1 0))] [(48, .box [S x5.f0, S x5.f1, I x5.f2.f0, I x5.f2.f1, LL S x5.f3, I x5.f4, I x5.f5, I x5.f6] false)] 97) ?_
        refine pN ?_
        refine pS ?_
        refine gC 59 (neI x9.1 0) ?_ ?_
        · refine gS 0 ?_
          refine gR 12 (rg Try.f17 12) ?_
          refine se (mkE [(4, B false)] [] 97) ?_
          refine pN ?_
          refine pS ?_
          refine gE ?_
          exact pL
        · refine gK ?_
          refine pN ?_
          refine pS ?_
          refine gS 14 ?_
          refine gR 13 (rg Try.f17 13) ?_
          refine sg 1 (mkE [(60, LL a90 p0), (0, LL a90 p0), (6, .ba 48 0), (28, LL a53 p1), (29, I (lenL p1)), (30, I z0), (59, B (neI x9.1 0))] [(48, .box [S x5.f0, S x5.f1, I x5.f2.f0, I x5.f2.f1, LL S x5.f3, I x5.f4, I x5.f5, I x5.f6] false)] 97) ?_
          refine eo 61 (I (lenL p0)) (lenE 28 a90 p0) ?_
          refine se (mkE [(0, LL a90 p0), (6, .ba 48 0), (28, LL a53 p1), (29, I (lenL p1)), (30, I z0), (60, LL a90 p0), (61, I (lenL p0)), (62, I 0)] [(48, .box [S x5.f0, S x5.f1, I x5.f2.f0, I x5.f2.f1, LL S x5.f3, I x5.f4, I x5.f5, I x5.f6] false)] 97) ?_
          refine pN ?_
          refine pS ?_
          refine gB 2 ?_
          refine lo [(0, none), (6, none), (28, none), (29, none), (30, none), (60, none), (61, none), (62, none)] (L17_14_v1 p0 p1 z0 x5) (fun z1 : Int => (mkE [(0, LL a90 p0), (6, .ba 48 0), (28, LL a53 p1), (29, I (lenL p1)), (30, I z0), (60, LL a90 p0), (61, I (lenL p0)), (62, I z1)] [(48, .box [S x5.f0, S x5.f1, I x5.f2.f0, I x5.f2.f1, LL S x5.f3, I x5.f4, I x5.f5, I x5.f6] false)] 97)) (Sum.elim (fun (x : (Int × Bool)) => (.exit 2, (mkE [(0, LL a90 p0), (6, .ba 48 0), (28, LL a53 p1), (29, I (lenL p1)), (30, I z0), (60, LL a90 p0), (61, I (lenL p0)), (62, I x.1), (63, B x.2)] [(48, .box [S x5.f0, S x5.f1, I x5.f2.f0, I x5.f2.f1, LL S x5.f3, I x5.f4, I x5.f5, I x5.f6] false)] 97))) (fun (x : Unit) => (.ret, (mkE [(4, B false)] [] 97)))) 0 (fun z => L17_14_v1_ok C h49 h59 h61 h64 h65 p0 p1 z0 x5 z) ?_
          intro y24
          refine ss y24 (Z := (Sum.elim (fun (x : (Int × Bool)) => (.exit 2, (mkE [(0, LL a90 p0), (6, .ba 48 0), (28, LL a53 p1), (29, I (lenL p1)), (30, I z0), (60, LL a90 p0), (61, I (lenL p0)), (62, I x.1), (63, B x.2)] [(48, .box [S x5.f0, S x5.f1, I x5.f2.f0, I x5.f2.f1, LL S x5.f3, I x5.f4, I x5.f5, I x5.f6] false)] 97))) (fun (x : Unit) => (.ret, (mkE [(4, B false)] [] 97))))) (fun y24a => ?_) (fun y24b => ?_)
          · refine pH ?_
            refine pB ?_
            refine pN ?_
            refine pS ?_
            refine gR 21 (rg Try.f17 21) ?_
            refine se (mkE [(0, LL a90 p0), (28, LL a53 p1), (29, I (lenL p1)), (30, I (addI .i64 z0 1))] [] 97) ?_
            exact pL
          · exact pL
  · refine gX 0 ?_
    exact pL
noncomputable def T17 (p0 : (List S90)) (p1 : (List S53)) : Option Bool := ((T58 p0).bind fun x1 => ((T59 p0).bind fun x2 => (bif (neI x1 x2) then (some false) else ((T60 p1).bind fun x3 => ((T61 p1).bind fun x4 => (bif (neI x3 x4) then (some false) else ((iter (L17_4 p0 p1) 0).bind fun y25 => (Sum.elim (fun y25a => ((T66).bind fun x26 => (some x26))) (fun y25b => (some false)) y25))))))))
theorem B17 (C : Callee) (h49 : ∀ (p0 : (List Int)), C 49 [LL I p0] = (T49 p0).map I) (h58 : ∀ (p0 : (List S90)), C 58 [LL a90 p0] = (T58 p0).map I) (h59 : ∀ (p0 : (List S90)), C 59 [LL a90 p0] = (T59 p0).map I) (h60 : ∀ (p0 : (List S53)), C 60 [LL a53 p0] = (T60 p0).map I) (h61 : ∀ (p0 : (List S53)), C 61 [LL a53 p0] = (T61 p0).map I) (h62 : ∀ (p0 : (List S90)) (p1 : S53), C 62 [LL a90 p0, a53 p1] = (T62 p0 p1).map (fun r => AV.tup [I r.1, I r.2])) (h63 : ∀ (p0 : (List S90)) (p1 : S53), C 63 [LL a90 p0, a53 p1] = (T63 p0 p1).map I) (h64 : ∀ (p0 : S53) (p1 : S90), C 64 [a53 p0, a90 p1] = (T64 p0 p1).map (fun r => AV.tup [B r.1, I r.2])) (h65 : ∀ (p0 : S53) (p1 : S90), C 65 [a53 p0, a90 p1] = (T65 p0 p1).map B) (h66 : C 66 [] = (T66).map B) (p0 : (List S90)) (p1 : (List S53)) : runs Try.prog C (cfg.fn 17) (finFn Try.prog (cfg.fn 17).byval Try.f17) [] (execA Try.prog C (cfg.fn 17) (nr Try.f17 []) (frame0 [LL a90 p0, LL a53 p1] 97)) = (T17 p0 p1).map B := by
  unfold T17
  refine gS 1 ?_
  refine gR 0 (rg Try.f17 0) ?_
  refine se (mkE [(0, LL a90 p0), (1, LL a53 p1)] [] 97) ?_
  refine pN ?_
  refine pS ?_
  refine gS 3 ?_
  refine gS 0 ?_
  refine gR 1 (rg Try.f17 1) ?_
  refine sg 1 (mkE [(16, LL a90 p0), (0, LL a90 p0), (1, LL a53 p1)] [] 97) ?_
  refine co 17 [] (h58 p0) (fun x1 => ?_)
  refine sg 3 (mkE [(18, LL a90 p0), (17, I x1), (16, LL a90 p0), (0, LL a90 p0), (1, LL a53 p1)] [] 97) ?_
  refine co 19 [] (h59 p0) (fun x2 => ?_)
  refine sg 6 (mkE [(21, B (neI x1 x2)), (20, B (neI x1 x2)), (19, I x2), (18, LL a90 p0), (17, I x1), (16, LL a90 p0), (0, LL a90 p0), (1, LL a53 p1)] [] 97) ?_
  refine sb 21 (neI x1 x2) ?_ ?_
  · refine se (mkE [(0, LL a90 p0), (1, LL a53 p1), (27, B true)] [] 97) ?_
    refine pN ?_
    refine pS ?_
    refine gT (.tmp 27) ?_
    refine gS 0 ?_
    refine gR 2 (rg Try.f17 2) ?_
    refine se (mkE [(4, B false)] [] 97) ?_
    refine pN ?_
    refine pS ?_
    refine gE ?_
    exact pL
  · refine sg 7 (mkE [(22, LL a53 p1), (21, B false), (21, B (neI x1 x2)), (20, B (neI x1 x2)), (19, I x2), (18, LL a90 p0), (17, I x1), (16, LL a90 p0), (0, LL a90 p0), (1, LL a53 p1)] [] 97) ?_
    refine co 23 [] (h60 p1) (fun x3 => ?_)
    refine sg 9 (mkE [(24, LL a53 p1), (23, I x3), (22, LL a53 p1), (21, B false), (21, B (neI x1 x2)), (20, B (neI x1 x2)), (19, I x2), (18, LL a90 p0), (17, I x1), (16, LL a90 p0), (0, LL a90 p0), (1, LL a53 p1)] [] 97) ?_
    refine co 25 [] (h61 p1) (fun x4 => ?_)
    refine se (mkE [(0, LL a90 p0), (1, LL a53 p1), (27, B (neI x3 x4))] [] 97) ?_
    refine pN ?_
    refine pS ?_
    refine gC 27 (neI x3 x4) ?_ ?_
    · refine gS 0 ?_
      refine gR 2 (rg Try.f17 2) ?_
      refine se (mkE [(4, B false)] [] 97) ?_
      refine pN ?_
      refine pS ?_
      refine gE ?_
      exact pL
    · refine gK ?_
      refine pN ?_
      refine pS ?_
      refine gS 22 ?_
      refine gS 4 ?_
      refine gR 3 (rg Try.f17 3) ?_
      refine sg 1 (mkE [(28, LL a53 p1), (0, LL a90 p0), (1, LL a53 p1), (27, B (neI x3 x4))] [] 97) ?_
      refine eo 29 (I (lenL p1)) (lenE 29 a53 p1) ?_
      refine se (mkE [(0, LL a90 p0), (28, LL a53 p1), (29, I (lenL p1)), (30, I 0)] [] 97) ?_
      refine pN ?_
      refine pS ?_
      refine gB 0 ?_
      refine lo [(0, none), (28, none), (29, none), (30, none)] (L17_4 p0 p1) (fun z0 : Int => (mkE [(0, LL a90 p0), (28, LL a53 p1), (29, I (lenL p1)), (30, I z0)] [] 97)) (Sum.elim (fun (x : (Int × Bool)) => (.exit 0, (mkE [(0, LL a90 p0), (28, LL a53 p1), (29, I (lenL p1)), (30, I x.1), (31, B x.2)] [] 97))) (fun (x : Unit) => (.ret, (mkE [(4, B false)] [] 97)))) 0 (fun z => L17_4_ok C h49 h59 h61 h62 h63 h64 h65 p0 p1 z) ?_
      intro y25
      refine ss y25 (Z := (Sum.elim (fun (x : (Int × Bool)) => (.exit 0, (mkE [(0, LL a90 p0), (28, LL a53 p1), (29, I (lenL p1)), (30, I x.1), (31, B x.2)] [] 97))) (fun (x : Unit) => (.ret, (mkE [(4, B false)] [] 97))))) (fun y25a => ?_) (fun y25b => ?_)
      · refine pH ?_
        refine pN ?_
        refine pS ?_
        refine gS 0 ?_
        refine gR 22 (rg Try.f17 22) ?_
        refine co 96 [] (h66) (fun x26 => ?_)
        refine se (mkE [(4, B x26)] [] 97) ?_
        refine pN ?_
        refine pS ?_
        refine gE ?_
        exact pL
      · exact pL
theorem F17 (m : Nat) (hm : 8 ≤ m) (p0 : (List S90)) (p1 : (List S53)) : callA Try.prog cfg m 17 [LL a90 p0, LL a53 p1] = (T17 p0 p1).map B := by
  obtain ⟨q, rfl⟩ : ∃ q, m = q + 1 := ⟨m - 1, by omega⟩
  exact (callA_body (fn := Try.f17) (c := body_ Try.f17) q _ (by kernel_rfl) (by kernel_rfl) (by kernel_rfl)).trans (B17 _ (fun p0 => F49 q (by omega) p0) (fun p0 => F58 q (by omega) p0) (fun p0 => F59 q (by omega) p0) (fun p0 => F60 q (by omega) p0) (fun p0 => F61 q (by omega) p0) (fun p0 p1 => F62 q (by omega) p0 p1) (fun p0 p1 => F63 q (by omega) p0 p1) (fun p0 p1 => F64 q (by omega) p0 p1) (fun p0 p1 => F65 q (by omega) p0 p1) (F66 q (by omega)) p0 p1)

noncomputable def L69_4 (p0 : (List ByteArray)) (p1 : (List ByteArray)) (z0 : Int) : Option (Int ⊕ ((Int × Bool) ⊕ Unit)) := (bif (ltI z0 (lenL p0)) then ((listAt p0 z0).bind fun x1 => ((listAt p1 z0).bind fun x2 => (bif (!eqS x1 x2) then (some (.inr (.inr ()))) else (some (.inl (addI .i64 z0 1)))))) else (some (.inr (.inl (z0, (ltI z0 (lenL p0)))))))
theorem L69_4_ok (C : Callee) (p0 : (List ByteArray)) (p1 : (List ByteArray)) (z0 : Int) : runs Try.prog C (cfg.fn 69) (finLoop ((cfg.fn 69).keep 4)) [] (execA Try.prog C (cfg.fn 69) (nr Try.f69 [false, false, true, false, true, true]) ((fun z0 : Int => (mkE [(0, LL S p0), (1, LL S p1), (12, I (lenL p0)), (13, I z0)] [] 26)) z0)) = (L69_4 p0 p1 z0).map (Sum.elim (fun z => .inl ((fun z0 : Int => (mkE [(0, LL S p0), (1, LL S p1), (12, I (lenL p0)), (13, I z0)] [] 26)) z)) (fun x => .inr ((Sum.elim (fun (x : (Int × Bool)) => (.exit 0, (mkE [(0, LL S p0), (1, LL S p1), (12, I (lenL p0)), (13, I x.1), (14, B x.2)] [] 26))) (fun (x : Unit) => (.ret, (mkE [(4, B false)] [] 26)))) x))) := by
  unfold L69_4
  refine gS 0 ?_
  refine gR 4 (rg Try.f69 4) ?_
  refine se (mkE [(0, LL S p0), (1, LL S p1), (12, I (lenL p0)), (13, I z0), (14, B (ltI z0 (lenL p0)))] [] 26) ?_
  refine pN ?_
  refine pS ?_
  refine gS 5 ?_
  refine gC 14 (ltI z0 (lenL p0)) ?_ ?_
  · refine gK ?_
    refine pN ?_
    refine pS ?_
    refine gS 8 ?_
    refine gB 1 ?_
    refine gS 6 ?_
    refine gR 5 (rg Try.f69 5) ?_
    refine se (mkE [(0, LL S p0), (1, LL S p1), (5, I z0), (12, I (lenL p0)), (13, I z0)] [] 26) ?_
    refine pN ?_
    refine pS ?_
    refine gS 0 ?_
    refine gD 6 9 (rg Try.f69 6) [0, 1, 2, 3, 4, 5, 6, 7, 8] ?_
    refine dg 2 [(some 16, { val := LL S p0 }), (some 17, { val := I z0 })] ?_
    refine dv 18 (mkE [(17, I z0), (16, LL S p0), (0, LL S p0), (1, LL S p1), (5, I z0), (12, I (lenL p0)), (13, I z0)] [] 26) (addrE 35 9 1 S .i64 p0 z0) (fun x1 => ?_)
    refine dg 6 [(some 16, { val := LL S p0 }), (some 17, { val := I z0 }), (some 18, { val := .ia [S x1] 0 }), (some 19, { val := S x1 }), (some 20, { val := LL S p1 }), (some 21, { val := I z0 })] ?_
    refine dv 22 (mkE [(21, I z0), (20, LL S p1), (0, LL S p0), (1, LL S p1), (5, I z0), (12, I (lenL p0)), (13, I z0)] [] 26) (addrE 35 9 1 S .i64 p1 z0) (fun x2 => ?_)
    refine dg 9 [(some 16, { val := LL S p0 }), (some 17, { val := I z0 }), (some 18, { val := .ia [S x1] 0 }), (some 19, { val := S x1 }), (some 20, { val := LL S p1 }), (some 21, { val := I z0 }), (some 22, { val := .ia [S x2] 0 }), (some 23, { val := S x2 }), (some 24, { val := B (!eqS x1 x2) })] ?_
    refine de (mkE [(24, B (!eqS x1 x2)), (23, S x2), (22, .ia [S x2] 0), (21, I z0), (20, LL S p1), (19, S x1), (18, .ia [S x1] 0), (17, I z0), (16, LL S p0), (0, LL S p0), (1, LL S p1), (5, I z0), (12, I (lenL p0)), (13, I z0)] [] 26) ?_
    refine se (mkE [(0, LL S p0), (1, LL S p1), (12, I (lenL p0)), (13, I z0), (24, B (!eqS x1 x2))] [] 26) ?_
    refine pN ?_
    refine pS ?_
    refine gC 24 (!eqS x1 x2) ?_ ?_
    · refine gS 0 ?_
      refine gR 7 (rg Try.f69 7) ?_
      refine se (mkE [(4, B false)] [] 26) ?_
      refine pN ?_
      refine pS ?_
      refine gE ?_
      exact pL
    · refine gK ?_
      refine pB ?_
      refine pN ?_
      refine pS ?_
      refine gR 8 (rg Try.f69 8) ?_
      refine se (mkE [(0, LL S p0), (1, LL S p1), (12, I (lenL p0)), (13, I (addI .i64 z0 1))] [] 26) ?_
      exact pL
  · refine gX 0 ?_
    exact pL
noncomputable def T69 (p0 : (List ByteArray)) (p1 : (List ByteArray)) : Option Bool := (bif (neI (lenL p0) (lenL p1)) then (some false) else ((iter (L69_4 p0 p1) 0).bind fun y3 => (Sum.elim (fun y3a => (some true)) (fun y3b => (some false)) y3)))
theorem B69 (C : Callee) (p0 : (List ByteArray)) (p1 : (List ByteArray)) : runs Try.prog C (cfg.fn 69) (finFn Try.prog (cfg.fn 69).byval Try.f69) [] (execA Try.prog C (cfg.fn 69) (nr Try.f69 []) (frame0 [LL S p0, LL S p1] 26)) = (T69 p0 p1).map B := by
  unfold T69
  refine gS 1 ?_
  refine gR 0 (rg Try.f69 0) ?_
  refine se (mkE [(0, LL S p0), (1, LL S p1)] [] 26) ?_
  refine pN ?_
  refine pS ?_
  refine gS 3 ?_
  refine gS 0 ?_
  refine gR 1 (rg Try.f69 1) ?_
  refine sg 1 (mkE [(6, LL S p0), (0, LL S p0), (1, LL S p1)] [] 26) ?_
  refine eo 7 (I (lenL p0)) (lenE 35 S p0) ?_
  refine sg 3 (mkE [(8, LL S p1), (7, I (lenL p0)), (6, LL S p0), (0, LL S p0), (1, LL S p1)] [] 26) ?_
  refine eo 9 (I (lenL p1)) (lenE 35 S p1) ?_
  refine se (mkE [(0, LL S p0), (1, LL S p1), (10, B (neI (lenL p0) (lenL p1)))] [] 26) ?_
  refine pN ?_
  refine pS ?_
  refine gC 10 (neI (lenL p0) (lenL p1)) ?_ ?_
  · refine gS 0 ?_
    refine gR 2 (rg Try.f69 2) ?_
    refine se (mkE [(4, B false)] [] 26) ?_
    refine pN ?_
    refine pS ?_
    refine gE ?_
    exact pL
  · refine gK ?_
    refine pN ?_
    refine pS ?_
    refine gS 9 ?_
    refine gS 4 ?_
    refine gR 3 (rg Try.f69 3) ?_
    refine sg 1 (mkE [(11, LL S p0), (0, LL S p0), (1, LL S p1), (10, B (neI (lenL p0) (lenL p1)))] [] 26) ?_
    refine eo 12 (I (lenL p0)) (lenE 35 S p0) ?_
    refine se (mkE [(0, LL S p0), (1, LL S p1), (12, I (lenL p0)), (13, I 0)] [] 26) ?_
    refine pN ?_
    refine pS ?_
    refine gB 0 ?_
    refine lo [(0, none), (1, none), (12, none), (13, none)] (L69_4 p0 p1) (fun z0 : Int => (mkE [(0, LL S p0), (1, LL S p1), (12, I (lenL p0)), (13, I z0)] [] 26)) (Sum.elim (fun (x : (Int × Bool)) => (.exit 0, (mkE [(0, LL S p0), (1, LL S p1), (12, I (lenL p0)), (13, I x.1), (14, B x.2)] [] 26))) (fun (x : Unit) => (.ret, (mkE [(4, B false)] [] 26)))) 0 (fun z => L69_4_ok C p0 p1 z) ?_
    intro y3
    refine ss y3 (Z := (Sum.elim (fun (x : (Int × Bool)) => (.exit 0, (mkE [(0, LL S p0), (1, LL S p1), (12, I (lenL p0)), (13, I x.1), (14, B x.2)] [] 26))) (fun (x : Unit) => (.ret, (mkE [(4, B false)] [] 26))))) (fun y3a => ?_) (fun y3b => ?_)
    · refine pH ?_
      refine pN ?_
      refine pS ?_
      refine gS 0 ?_
      refine gR 9 (rg Try.f69 9) ?_
      refine se (mkE [(4, B true)] [] 26) ?_
      refine pN ?_
      refine pS ?_
      refine gE ?_
      exact pL
    · exact pL
theorem F69 (m : Nat) (hm : 1 ≤ m) (p0 : (List ByteArray)) (p1 : (List ByteArray)) : callA Try.prog cfg m 69 [LL S p0, LL S p1] = (T69 p0 p1).map B := by
  obtain ⟨q, rfl⟩ : ∃ q, m = q + 1 := ⟨m - 1, by omega⟩
  exact (callA_body (fn := Try.f69) (c := body_ Try.f69) q _ (by kernel_rfl) (by kernel_rfl) (by kernel_rfl)).trans (B69 _ p0 p1)

noncomputable def T68 (p0 : S90) (p1 : S90) : Option Bool := (bif (eqS p0.f0 p1.f0) then (bif (allB [eqI p0.f1.f0 p1.f1.f0, eqI p0.f1.f1 p1.f1.f1]) then (bif (eqI p0.f2 p1.f2) then ((T69 p0.f3 p1.f3).bind fun x1 => (some x1)) else (some false)) else (some false)) else (some false))
theorem B68 (C : Callee) (h69 : ∀ (p0 : (List ByteArray)) (p1 : (List ByteArray)), C 69 [LL S p0, LL S p1] = (T69 p0 p1).map B) (p0 : S90) (p1 : S90) : runs Try.prog C (cfg.fn 68) (finFn Try.prog (cfg.fn 68).byval Try.f68) [] (execA Try.prog C (cfg.fn 68) (nr Try.f68 []) (frame0 [a90 p0, a90 p1] 31)) = (T68 p0 p1).map B := by
  unfold T68
  refine gS 1 ?_
  refine gR 0 (rg Try.f68 0) ?_
  refine se (mkE [(2, .ba 16 0), (3, .ba 24 0)] [(16, .box [S p0.f0, I p0.f1.f0, I p0.f1.f1, I p0.f2, LL S p0.f3] false), (24, .box [S p1.f0, I p1.f1.f0, I p1.f1.f1, I p1.f2, LL S p1.f3] false)] 31) ?_
  refine pN ?_
  refine pS ?_
  refine gS 0 ?_
  refine gR 1 (rg Try.f68 1) ?_
  refine sg 6 (mkE [(10, B (eqS p0.f0 p1.f0)), (9, B (eqS p0.f0 p1.f0)), (8, S p1.f0), (7, .ba 24 0), (6, S p0.f0), (5, .ba 16 0), (2, .ba 16 0), (3, .ba 24 0)] [(16, .box [S p0.f0, I p0.f1.f0, I p0.f1.f1, I p0.f2, LL S p0.f3] false), (24, .box [S p1.f0, I p1.f1.f0, I p1.f1.f1, I p1.f2, LL S p1.f3] false)] 31) ?_
  refine sb 10 (eqS p0.f0 p1.f0) ?_ ?_
  · refine sg 10 (mkE [(14, a38 p1.f1), (13, .ba 24 1), (12, a38 p0.f1), (11, .ba 16 1), (10, B true), (10, B (eqS p0.f0 p1.f0)), (9, B (eqS p0.f0 p1.f0)), (8, S p1.f0), (7, .ba 24 0), (6, S p0.f0), (5, .ba 16 0), (2, .ba 16 0), (3, .ba 24 0)] [(16, .box [S p0.f0, I p0.f1.f0, I p0.f1.f1, I p0.f2, LL S p0.f3] false), (24, .box [S p1.f0, I p1.f1.f0, I p1.f1.f1, I p1.f2, LL S p1.f3] false)] 31) ?_
    refine eo 15 (B (allB [eqI p0.f1.f0 p1.f1.f0, eqI p0.f1.f1 p1.f1.f1])) (eqlE 39 (.tmp 12) (.tmp 14) [I p0.f1.f0, I p0.f1.f1] [I p1.f1.f0, I p1.f1.f1] [.int .i64 p0.f1.f0, .int .i64 p0.f1.f1] [.int .i64 p1.f1.f0, .int .i64 p1.f1.f1] [eqI p0.f1.f0 p1.f1.f0, eqI p0.f1.f1 p1.f1.f1]) ?_
    refine sg 13 (mkE [(17, B (allB [eqI p0.f1.f0 p1.f1.f0, eqI p0.f1.f1 p1.f1.f1])), (16, B (allB [eqI p0.f1.f0 p1.f1.f0, eqI p0.f1.f1 p1.f1.f1])), (15, B (allB [eqI p0.f1.f0 p1.f1.f0, eqI p0.f1.f1 p1.f1.f1])), (14, a38 p1.f1), (13, .ba 24 1), (12, a38 p0.f1), (11, .ba 16 1), (10, B true), (10, B (eqS p0.f0 p1.f0)), (9, B (eqS p0.f0 p1.f0)), (8, S p1.f0), (7, .ba 24 0), (6, S p0.f0), (5, .ba 16 0), (2, .ba 16 0), (3, .ba 24 0)] [(16, .box [S p0.f0, I p0.f1.f0, I p0.f1.f1, I p0.f2, LL S p0.f3] false), (24, .box [S p1.f0, I p1.f1.f0, I p1.f1.f1, I p1.f2, LL S p1.f3] false)] 31) ?_
    refine sb 17 (allB [eqI p0.f1.f0 p1.f1.f0, eqI p0.f1.f1 p1.f1.f1]) ?_ ?_
    · refine sg 20 (mkE [(24, B (eqI p0.f2 p1.f2)), (23, B (eqI p0.f2 p1.f2)), (22, B (eqI p0.f2 p1.f2)), (21, I p1.f2), (20, .ba 24 3), (19, I p0.f2), (18, .ba 16 3), (17, B true), (17, B (allB [eqI p0.f1.f0 p1.f1.f0, eqI p0.f1.f1 p1.f1.f1])), (16, B (allB [eqI p0.f1.f0 p1.f1.f0, eqI p0.f1.f1 p1.f1.f1])), (15, B (allB [eqI p0.f1.f0 p1.f1.f0, eqI p0.f1.f1 p1.f1.f1])), (14, a38 p1.f1), (13, .ba 24 1), (12, a38 p0.f1), (11, .ba 16 1), (10, B true), (10, B (eqS p0.f0 p1.f0)), (9, B (eqS p0.f0 p1.f0)), (8, S p1.f0), (7, .ba 24 0), (6, S p0.f0), (5, .ba 16 0), (2, .ba 16 0), (3, .ba 24 0)] [(16, .box [S p0.f0, I p0.f1.f0, I p0.f1.f1, I p0.f2, LL S p0.f3] false), (24, .box [S p1.f0, I p1.f1.f0, I p1.f1.f1, I p1.f2, LL S p1.f3] false)] 31) ?_
      refine sb 24 (eqI p0.f2 p1.f2) ?_ ?_
      · refine sg 24 (mkE [(28, LL S p1.f3), (27, .ba 24 4), (26, LL S p0.f3), (25, .ba 16 4), (24, B true), (24, B (eqI p0.f2 p1.f2)), (23, B (eqI p0.f2 p1.f2)), (22, B (eqI p0.f2 p1.f2)), (21, I p1.f2), (20, .ba 24 3), (19, I p0.f2), (18, .ba 16 3), (17, B true), (17, B (allB [eqI p0.f1.f0 p1.f1.f0, eqI p0.f1.f1 p1.f1.f1])), (16, B (allB [eqI p0.f1.f0 p1.f1.f0, eqI p0.f1.f1 p1.f1.f1])), (15, B (allB [eqI p0.f1.f0 p1.f1.f0, eqI p0.f1.f1 p1.f1.f1])), (14, a38 p1.f1), (13, .ba 24 1), (12, a38 p0.f1), (11, .ba 16 1), (10, B true), (10, B (eqS p0.f0 p1.f0)), (9, B (eqS p0.f0 p1.f0)), (8, S p1.f0), (7, .ba 24 0), (6, S p0.f0), (5, .ba 16 0), (2, .ba 16 0), (3, .ba 24 0)] [(16, .box [S p0.f0, I p0.f1.f0, I p0.f1.f1, I p0.f2, LL S p0.f3] false), (24, .box [S p1.f0, I p1.f1.f0, I p1.f1.f1, I p1.f2, LL S p1.f3] false)] 31) ?_
        refine co 29 [] (h69 p0.f3 p1.f3) (fun x1 => ?_)
        refine se (mkE [(4, B x1)] [] 31) ?_
        refine pN ?_
        refine pS ?_
        refine gE ?_
        exact pL
      · refine se (mkE [(4, B false)] [] 31) ?_
        refine pN ?_
        refine pS ?_
        refine gE ?_
        exact pL
    · refine se (mkE [(4, B false)] [] 31) ?_
      refine pN ?_
      refine pS ?_
      refine gE ?_
      exact pL
  · refine se (mkE [(4, B false)] [] 31) ?_
    refine pN ?_
    refine pS ?_
    refine gE ?_
    exact pL
theorem F68 (m : Nat) (hm : 2 ≤ m) (p0 : S90) (p1 : S90) : callA Try.prog cfg m 68 [a90 p0, a90 p1] = (T68 p0 p1).map B := by
  obtain ⟨q, rfl⟩ : ∃ q, m = q + 1 := ⟨m - 1, by omega⟩
  exact (callA_body (fn := Try.f68) (c := body_ Try.f68) q _ (by kernel_rfl) (by kernel_rfl) (by kernel_rfl)).trans (B68 _ (fun p0 p1 => F69 q (by omega) p0 p1) p0 p1)

noncomputable def L67_4 (p0 : (List S90)) (p1 : (List S90)) (z0 : Int) : Option (Int ⊕ ((Int × Bool) ⊕ Unit)) := (bif (ltI z0 (lenL p0)) then ((listAt p0 z0).bind fun x1 => ((listAt p1 z0).bind fun x2 => ((T68 x1 x2).bind fun x3 => (bif (!x3) then (some (.inr (.inr ()))) else (some (.inl (addI .i64 z0 1))))))) else (some (.inr (.inl (z0, (ltI z0 (lenL p0)))))))
theorem L67_4_ok (C : Callee) (h68 : ∀ (p0 : S90) (p1 : S90), C 68 [a90 p0, a90 p1] = (T68 p0 p1).map B) (p0 : (List S90)) (p1 : (List S90)) (z0 : Int) : runs Try.prog C (cfg.fn 67) (finLoop ((cfg.fn 67).keep 4)) [] (execA Try.prog C (cfg.fn 67) (nr Try.f67 [false, false, true, false, true, true]) ((fun z0 : Int => (mkE [(1, LL a90 p1), (2, .fn 68 []), (15, LL a90 p0), (16, I (lenL p0)), (17, I z0)] [] 32)) z0)) = (L67_4 p0 p1 z0).map (Sum.elim (fun z => .inl ((fun z0 : Int => (mkE [(1, LL a90 p1), (2, .fn 68 []), (15, LL a90 p0), (16, I (lenL p0)), (17, I z0)] [] 32)) z)) (fun x => .inr ((Sum.elim (fun (x : (Int × Bool)) => (.exit 0, (mkE [(1, LL a90 p1), (2, .fn 68 []), (15, LL a90 p0), (16, I (lenL p0)), (17, I x.1), (18, B x.2)] [] 32))) (fun (x : Unit) => (.ret, (mkE [(6, B false)] [] 32)))) x))) := by
  unfold L67_4
  refine gS 0 ?_
  refine gR 4 (rg Try.f67 4) ?_
  refine se (mkE [(1, LL a90 p1), (2, .fn 68 []), (15, LL a90 p0), (16, I (lenL p0)), (17, I z0), (18, B (ltI z0 (lenL p0)))] [] 32) ?_
  refine pN ?_
  refine pS ?_
  refine gS 5 ?_
  refine gC 18 (ltI z0 (lenL p0)) ?_ ?_
  · refine gK ?_
    refine pN ?_
    refine pS ?_
    refine gS 9 ?_
    refine gB 1 ?_
    refine gS 6 ?_
    refine gR 5 (rg Try.f67 5) ?_
    refine sg 1 (mkE [(19, I z0), (1, LL a90 p1), (2, .fn 68 []), (15, LL a90 p0), (16, I (lenL p0)), (17, I z0), (18, B (ltI z0 (lenL p0)))] [] 32) ?_
    refine vo 20 (addrE 28 91 5 a90 .i64 p0 z0) (fun x1 => ?_)
    refine se (mkE [(1, LL a90 p1), (2, .fn 68 []), (7, I z0), (8, .ba 64 0), (15, LL a90 p0), (16, I (lenL p0)), (17, I z0)] [(64, .box [S x1.f0, I x1.f1.f0, I x1.f1.f1, I x1.f2, LL S x1.f3] false)] 32) ?_
    refine pN ?_
    refine pS ?_
    refine gS 7 ?_
    refine gR 6 (rg Try.f67 6) ?_
    refine sg 2 (mkE [(23, I z0), (22, LL a90 p1), (1, LL a90 p1), (2, .fn 68 []), (7, I z0), (8, .ba 64 0), (15, LL a90 p0), (16, I (lenL p0)), (17, I z0)] [(64, .box [S x1.f0, I x1.f1.f0, I x1.f1.f1, I x1.f2, LL S x1.f3] false)] 32) ?_
    refine vo 24 (addrE 28 91 5 a90 .i64 p1 z0) (fun x2 => ?_)
    refine se (mkE [(1, LL a90 p1), (2, .fn 68 []), (8, .ba 64 0), (9, .ba 72 0), (15, LL a90 p0), (16, I (lenL p0)), (17, I z0)] [(64, .box [S x1.f0, I x1.f1.f0, I x1.f1.f1, I x1.f2, LL S x1.f3] false), (72, .box [S x2.f0, I x2.f1.f0, I x2.f1.f1, I x2.f2, LL S x2.f3] false)] 32) ?_
    refine pN ?_
    refine pS ?_
    refine gS 0 ?_
    refine gR 7 (rg Try.f67 7) ?_
    refine sg 3 (mkE [(28, a90 x2), (27, a90 x1), (26, .fn 68 []), (1, LL a90 p1), (2, .fn 68 []), (8, .ba 64 0), (9, .ba 72 0), (15, LL a90 p0), (16, I (lenL p0)), (17, I z0)] [(64, .box [S x1.f0, I x1.f1.f0, I x1.f1.f1, I x1.f2, LL S x1.f3] false), (72, .box [S x2.f0, I x2.f1.f0, I x2.f1.f1, I x2.f2, LL S x2.f3] false)] 32) ?_
    refine co 29 [] (h68 x1 x2) (fun x3 => ?_)
    refine se (mkE [(1, LL a90 p1), (2, .fn 68 []), (15, LL a90 p0), (16, I (lenL p0)), (17, I z0), (30, B (!x3))] [] 32) ?_
    refine pN ?_
    refine pS ?_
    refine gC 30 (!x3) ?_ ?_
    · refine gS 0 ?_
      refine gR 8 (rg Try.f67 8) ?_
      refine se (mkE [(6, B false)] [] 32) ?_
      refine pN ?_
      refine pS ?_
      refine gE ?_
      exact pL
    · refine gK ?_
      refine pB ?_
      refine pN ?_
      refine pS ?_
      refine gR 9 (rg Try.f67 9) ?_
      refine se (mkE [(1, LL a90 p1), (2, .fn 68 []), (15, LL a90 p0), (16, I (lenL p0)), (17, I (addI .i64 z0 1))] [] 32) ?_
      exact pL
  · refine gX 0 ?_
    exact pL
noncomputable def T67 (p0 : (List S90)) (p1 : (List S90)) : Option Bool := (bif (neI (lenL p0) (lenL p1)) then (some false) else ((iter (L67_4 p0 p1) 0).bind fun y4 => (Sum.elim (fun y4a => (some true)) (fun y4b => (some false)) y4)))
theorem B67 (C : Callee) (h68 : ∀ (p0 : S90) (p1 : S90), C 68 [a90 p0, a90 p1] = (T68 p0 p1).map B) (p0 : (List S90)) (p1 : (List S90)) : runs Try.prog C (cfg.fn 67) (finFn Try.prog (cfg.fn 67).byval Try.f67) [] (execA Try.prog C (cfg.fn 67) (nr Try.f67 []) (frame0 [LL a90 p0, LL a90 p1, .fn 68 []] 32)) = (T67 p0 p1).map B := by
  unfold T67
  refine gS 1 ?_
  refine gR 0 (rg Try.f67 0) ?_
  refine se (mkE [(0, LL a90 p0), (1, LL a90 p1), (2, .fn 68 [])] [] 32) ?_
  refine pN ?_
  refine pS ?_
  refine gS 3 ?_
  refine gS 0 ?_
  refine gR 1 (rg Try.f67 1) ?_
  refine sg 1 (mkE [(10, LL a90 p0), (0, LL a90 p0), (1, LL a90 p1), (2, .fn 68 [])] [] 32) ?_
  refine eo 11 (I (lenL p0)) (lenE 28 a90 p0) ?_
  refine sg 3 (mkE [(12, LL a90 p1), (11, I (lenL p0)), (10, LL a90 p0), (0, LL a90 p0), (1, LL a90 p1), (2, .fn 68 [])] [] 32) ?_
  refine eo 13 (I (lenL p1)) (lenE 28 a90 p1) ?_
  refine se (mkE [(0, LL a90 p0), (1, LL a90 p1), (2, .fn 68 []), (14, B (neI (lenL p0) (lenL p1)))] [] 32) ?_
  refine pN ?_
  refine pS ?_
  refine gC 14 (neI (lenL p0) (lenL p1)) ?_ ?_
  · refine gS 0 ?_
    refine gR 2 (rg Try.f67 2) ?_
    refine se (mkE [(6, B false)] [] 32) ?_
    refine pN ?_
    refine pS ?_
    refine gE ?_
    exact pL
  · refine gK ?_
    refine pN ?_
    refine pS ?_
    refine gS 10 ?_
    refine gS 4 ?_
    refine gR 3 (rg Try.f67 3) ?_
    refine sg 1 (mkE [(15, LL a90 p0), (0, LL a90 p0), (1, LL a90 p1), (2, .fn 68 []), (14, B (neI (lenL p0) (lenL p1)))] [] 32) ?_
    refine eo 16 (I (lenL p0)) (lenE 28 a90 p0) ?_
    refine se (mkE [(1, LL a90 p1), (2, .fn 68 []), (15, LL a90 p0), (16, I (lenL p0)), (17, I 0)] [] 32) ?_
    refine pN ?_
    refine pS ?_
    refine gB 0 ?_
    refine lo [(1, none), (2, none), (15, none), (16, none), (17, none)] (L67_4 p0 p1) (fun z0 : Int => (mkE [(1, LL a90 p1), (2, .fn 68 []), (15, LL a90 p0), (16, I (lenL p0)), (17, I z0)] [] 32)) (Sum.elim (fun (x : (Int × Bool)) => (.exit 0, (mkE [(1, LL a90 p1), (2, .fn 68 []), (15, LL a90 p0), (16, I (lenL p0)), (17, I x.1), (18, B x.2)] [] 32))) (fun (x : Unit) => (.ret, (mkE [(6, B false)] [] 32)))) 0 (fun z => L67_4_ok C h68 p0 p1 z) ?_
    intro y4
    refine ss y4 (Z := (Sum.elim (fun (x : (Int × Bool)) => (.exit 0, (mkE [(1, LL a90 p1), (2, .fn 68 []), (15, LL a90 p0), (16, I (lenL p0)), (17, I x.1), (18, B x.2)] [] 32))) (fun (x : Unit) => (.ret, (mkE [(6, B false)] [] 32))))) (fun y4a => ?_) (fun y4b => ?_)
    · refine pH ?_
      refine pN ?_
      refine pS ?_
      refine gS 0 ?_
      refine gR 10 (rg Try.f67 10) ?_
      refine se (mkE [(6, B true)] [] 32) ?_
      refine pN ?_
      refine pS ?_
      refine gE ?_
      exact pL
    · exact pL
theorem F67 (m : Nat) (hm : 3 ≤ m) (p0 : (List S90)) (p1 : (List S90)) : callA Try.prog cfg m 67 [LL a90 p0, LL a90 p1, .fn 68 []] = (T67 p0 p1).map B := by
  obtain ⟨q, rfl⟩ : ∃ q, m = q + 1 := ⟨m - 1, by omega⟩
  exact (callA_body (fn := Try.f67) (c := body_ Try.f67) q _ (by kernel_rfl) (by kernel_rfl) (by kernel_rfl)).trans (B67 _ (fun p0 p1 => F68 q (by omega) p0 p1) p0 p1)

noncomputable def T18 (p0 : (List S90)) (p1 : (List S90)) : Option Bool := ((T67 p0 p1).bind fun x1 => (some x1))
theorem B18 (C : Callee) (h67 : ∀ (p0 : (List S90)) (p1 : (List S90)), C 67 [LL a90 p0, LL a90 p1, .fn 68 []] = (T67 p0 p1).map B) (p0 : (List S90)) (p1 : (List S90)) : runs Try.prog C (cfg.fn 18) (finFn Try.prog (cfg.fn 18).byval Try.f18) [] (execA Try.prog C (cfg.fn 18) (nr Try.f18 []) (frame0 [LL a90 p0, LL a90 p1] 8)) = (T18 p0 p1).map B := by
  unfold T18
  refine gS 1 ?_
  refine gR 0 (rg Try.f18 0) ?_
  refine se (mkE [(0, LL a90 p0), (1, LL a90 p1)] [] 8) ?_
  refine pN ?_
  refine pS ?_
  refine gS 0 ?_
  refine gR 1 (rg Try.f18 1) ?_
  refine sg 2 (mkE [(6, LL a90 p1), (5, LL a90 p0), (0, LL a90 p0), (1, LL a90 p1)] [] 8) ?_
  refine co 7 [] (h67 p0 p1) (fun x1 => ?_)
  refine se (mkE [(4, B x1)] [] 8) ?_
  refine pN ?_
  refine pS ?_
  refine gE ?_
  exact pL
theorem F18 (m : Nat) (hm : 4 ≤ m) (p0 : (List S90)) (p1 : (List S90)) : callA Try.prog cfg m 18 [LL a90 p0, LL a90 p1] = (T18 p0 p1).map B := by
  obtain ⟨q, rfl⟩ : ∃ q, m = q + 1 := ⟨m - 1, by omega⟩
  exact (callA_body (fn := Try.f18) (c := body_ Try.f18) q _ (by kernel_rfl) (by kernel_rfl) (by kernel_rfl)).trans (B18 _ (fun p0 p1 => F67 q (by omega) p0 p1) p0 p1)

noncomputable def T30 (p0 : S53) (p1 : S53) : Option Bool := (bif (eqS p0.f0 p1.f0) then (bif (eqS p0.f1 p1.f1) then (bif (allB [eqI p0.f2.f0 p1.f2.f0, eqI p0.f2.f1 p1.f2.f1]) then (bif (eqI p0.f4 p1.f4) then (bif (eqI p0.f5 p1.f5) then (bif (eqI p0.f6 p1.f6) then ((T69 p0.f3 p1.f3).bind fun x1 => (some x1)) else (some false)) else (some false)) else (some false)) else (some false)) else (some false)) else (some false))
theorem B30 (C : Callee) (h69 : ∀ (p0 : (List ByteArray)) (p1 : (List ByteArray)), C 69 [LL S p0, LL S p1] = (T69 p0 p1).map B) (p0 : S53) (p1 : S53) : runs Try.prog C (cfg.fn 30) (finFn Try.prog (cfg.fn 30).byval Try.f30) [] (execA Try.prog C (cfg.fn 30) (nr Try.f30 []) (frame0 [a53 p0, a53 p1] 52)) = (T30 p0 p1).map B := by
  unfold T30
  refine gS 1 ?_
  refine gR 0 (rg Try.f30 0) ?_
  refine se (mkE [(2, .ba 16 0), (3, .ba 24 0)] [(16, .box [S p0.f0, S p0.f1, I p0.f2.f0, I p0.f2.f1, LL S p0.f3, I p0.f4, I p0.f5, I p0.f6] false), (24, .box [S p1.f0, S p1.f1, I p1.f2.f0, I p1.f2.f1, LL S p1.f3, I p1.f4, I p1.f5, I p1.f6] false)] 52) ?_
  refine pN ?_
  refine pS ?_
  refine gS 0 ?_
  refine gR 1 (rg Try.f30 1) ?_
  refine sg 6 (mkE [(10, B (eqS p0.f0 p1.f0)), (9, B (eqS p0.f0 p1.f0)), (8, S p1.f0), (7, .ba 24 0), (6, S p0.f0), (5, .ba 16 0), (2, .ba 16 0), (3, .ba 24 0)] [(16, .box [S p0.f0, S p0.f1, I p0.f2.f0, I p0.f2.f1, LL S p0.f3, I p0.f4, I p0.f5, I p0.f6] false), (24, .box [S p1.f0, S p1.f1, I p1.f2.f0, I p1.f2.f1, LL S p1.f3, I p1.f4, I p1.f5, I p1.f6] false)] 52) ?_
  refine sb 10 (eqS p0.f0 p1.f0) ?_ ?_
  · refine sg 13 (mkE [(17, B (eqS p0.f1 p1.f1)), (16, B (eqS p0.f1 p1.f1)), (15, B (eqS p0.f1 p1.f1)), (14, S p1.f1), (13, .ba 24 1), (12, S p0.f1), (11, .ba 16 1), (10, B true), (10, B (eqS p0.f0 p1.f0)), (9, B (eqS p0.f0 p1.f0)), (8, S p1.f0), (7, .ba 24 0), (6, S p0.f0), (5, .ba 16 0), (2, .ba 16 0), (3, .ba 24 0)] [(16, .box [S p0.f0, S p0.f1, I p0.f2.f0, I p0.f2.f1, LL S p0.f3, I p0.f4, I p0.f5, I p0.f6] false), (24, .box [S p1.f0, S p1.f1, I p1.f2.f0, I p1.f2.f1, LL S p1.f3, I p1.f4, I p1.f5, I p1.f6] false)] 52) ?_
    refine sb 17 (eqS p0.f1 p1.f1) ?_ ?_
    · refine sg 17 (mkE [(21, a38 p1.f2), (20, .ba 24 2), (19, a38 p0.f2), (18, .ba 16 2), (17, B true), (17, B (eqS p0.f1 p1.f1)), (16, B (eqS p0.f1 p1.f1)), (15, B (eqS p0.f1 p1.f1)), (14, S p1.f1), (13, .ba 24 1), (12, S p0.f1), (11, .ba 16 1), (10, B true), (10, B (eqS p0.f0 p1.f0)), (9, B (eqS p0.f0 p1.f0)), (8, S p1.f0), (7, .ba 24 0), (6, S p0.f0), (5, .ba 16 0), (2, .ba 16 0), (3, .ba 24 0)] [(16, .box [S p0.f0, S p0.f1, I p0.f2.f0, I p0.f2.f1, LL S p0.f3, I p0.f4, I p0.f5, I p0.f6] false), (24, .box [S p1.f0, S p1.f1, I p1.f2.f0, I p1.f2.f1, LL S p1.f3, I p1.f4, I p1.f5, I p1.f6] false)] 52) ?_
      refine eo 22 (B (allB [eqI p0.f2.f0 p1.f2.f0, eqI p0.f2.f1 p1.f2.f1])) (eqlE 39 (.tmp 19) (.tmp 21) [I p0.f2.f0, I p0.f2.f1] [I p1.f2.f0, I p1.f2.f1] [.int .i64 p0.f2.f0, .int .i64 p0.f2.f1] [.int .i64 p1.f2.f0, .int .i64 p1.f2.f1] [eqI p0.f2.f0 p1.f2.f0, eqI p0.f2.f1 p1.f2.f1]) ?_
      refine sg 20 (mkE [(24, B (allB [eqI p0.f2.f0 p1.f2.f0, eqI p0.f2.f1 p1.f2.f1])), (23, B (allB [eqI p0.f2.f0 p1.f2.f0, eqI p0.f2.f1 p1.f2.f1])), (22, B (allB [eqI p0.f2.f0 p1.f2.f0, eqI p0.f2.f1 p1.f2.f1])), (21, a38 p1.f2), (20, .ba 24 2), (19, a38 p0.f2), (18, .ba 16 2), (17, B true), (17, B (eqS p0.f1 p1.f1)), (16, B (eqS p0.f1 p1.f1)), (15, B (eqS p0.f1 p1.f1)), (14, S p1.f1), (13, .ba 24 1), (12, S p0.f1), (11, .ba 16 1), (10, B true), (10, B (eqS p0.f0 p1.f0)), (9, B (eqS p0.f0 p1.f0)), (8, S p1.f0), (7, .ba 24 0), (6, S p0.f0), (5, .ba 16 0), (2, .ba 16 0), (3, .ba 24 0)] [(16, .box [S p0.f0, S p0.f1, I p0.f2.f0, I p0.f2.f1, LL S p0.f3, I p0.f4, I p0.f5, I p0.f6] false), (24, .box [S p1.f0, S p1.f1, I p1.f2.f0, I p1.f2.f1, LL S p1.f3, I p1.f4, I p1.f5, I p1.f6] false)] 52) ?_
      refine sb 24 (allB [eqI p0.f2.f0 p1.f2.f0, eqI p0.f2.f1 p1.f2.f1]) ?_ ?_
      · refine sg 27 (mkE [(31, B (eqI p0.f4 p1.f4)), (30, B (eqI p0.f4 p1.f4)), (29, B (eqI p0.f4 p1.f4)), (28, I p1.f4), (27, .ba 24 5), (26, I p0.f4), (25, .ba 16 5), (24, B true), (24, B (allB [eqI p0.f2.f0 p1.f2.f0, eqI p0.f2.f1 p1.f2.f1])), (23, B (allB [eqI p0.f2.f0 p1.f2.f0, eqI p0.f2.f1 p1.f2.f1])), (22, B (allB [eqI p0.f2.f0 p1.f2.f0, eqI p0.f2.f1 p1.f2.f1])), (21, a38 p1.f2), (20, .ba 24 2), (19, a38 p0.f2), (18, .ba 16 2), (17, B true), (17, B (eqS p0.f1 p1.f1)), (16, B (eqS p0.f1 p1.f1)), (15, B (eqS p0.f1 p1.f1)), (14, S p1.f1), (13, .ba 24 1), (12, S p0.f1), (11, .ba 16 1), (10, B true), (10, B (eqS p0.f0 p1.f0)), (9, B (eqS p0.f0 p1.f0)), (8, S p1.f0), (7, .ba 24 0), (6, S p0.f0), (5, .ba 16 0), (2, .ba 16 0), (3, .ba 24 0)] [(16, .box [S p0.f0, S p0.f1, I p0.f2.f0, I p0.f2.f1, LL S p0.f3, I p0.f4, I p0.f5, I p0.f6] false), (24, .box [S p1.f0, S p1.f1, I p1.f2.f0, I p1.f2.f1, LL S p1.f3, I p1.f4, I p1.f5, I p1.f6] false)] 52) ?_
        refine sb 31 (eqI p0.f4 p1.f4) ?_ ?_
        · refine sg 34 (mkE [(38, B (eqI p0.f5 p1.f5)), (37, B (eqI p0.f5 p1.f5)), (36, B (eqI p0.f5 p1.f5)), (35, I p1.f5), (34, .ba 24 6), (33, I p0.f5), (32, .ba 16 6), (31, B true), (31, B (eqI p0.f4 p1.f4)), (30, B (eqI p0.f4 p1.f4)), (29, B (eqI p0.f4 p1.f4)), (28, I p1.f4), (27, .ba 24 5), (26, I p0.f4), (25, .ba 16 5), (24, B true), (24, B (allB [eqI p0.f2.f0 p1.f2.f0, eqI p0.f2.f1 p1.f2.f1])), (23, B (allB [eqI p0.f2.f0 p1.f2.f0, eqI p0.f2.f1 p1.f2.f1])), (22, B (allB [eqI p0.f2.f0 p1.f2.f0, eqI p0.f2.f1 p1.f2.f1])), (21, a38 p1.f2), (20, .ba 24 2), (19, a38 p0.f2), (18, .ba 16 2), (17, B true), (17, B (eqS p0.f1 p1.f1)), (16, B (eqS p0.f1 p1.f1)), (15, B (eqS p0.f1 p1.f1)), (14, S p1.f1), (13, .ba 24 1), (12, S p0.f1), (11, .ba 16 1), (10, B true), (10, B (eqS p0.f0 p1.f0)), (9, B (eqS p0.f0 p1.f0)), (8, S p1.f0), (7, .ba 24 0), (6, S p0.f0), (5, .ba 16 0), (2, .ba 16 0), (3, .ba 24 0)] [(16, .box [S p0.f0, S p0.f1, I p0.f2.f0, I p0.f2.f1, LL S p0.f3, I p0.f4, I p0.f5, I p0.f6] false), (24, .box [S p1.f0, S p1.f1, I p1.f2.f0, I p1.f2.f1, LL S p1.f3, I p1.f4, I p1.f5, I p1.f6] false)] 52) ?_
          refine sb 38 (eqI p0.f5 p1.f5) ?_ ?_
          · refine sg 41 (mkE [(45, B (eqI p0.f6 p1.f6)), (44, B (eqI p0.f6 p1.f6)), (43, B (eqI p0.f6 p1.f6)), (42, I p1.f6), (41, .ba 24 7), (40, I p0.f6), (39, .ba 16 7), (38, B true), (38, B (eqI p0.f5 p1.f5)), (37, B (eqI p0.f5 p1.f5)), (36, B (eqI p0.f5 p1.f5)), (35, I p1.f5), (34, .ba 24 6), (33, I p0.f5), (32, .ba 16 6), (31, B true), (31, B (eqI p0.f4 p1.f4)), (30, B (eqI p0.f4 p1.f4)), (29, B (eqI p0.f4 p1.f4)), (28, I p1.f4), (27, .ba 24 5), (26, I p0.f4), (25, .ba 16 5), (24, B true), (24, B (allB [eqI p0.f2.f0 p1.f2.f0, eqI p0.f2.f1 p1.f2.f1])), (23, B (allB [eqI p0.f2.f0 p1.f2.f0, eqI p0.f2.f1 p1.f2.f1])), (22, B (allB [eqI p0.f2.f0 p1.f2.f0, eqI p0.f2.f1 p1.f2.f1])), (21, a38 p1.f2), (20, .ba 24 2), (19, a38 p0.f2), (18, .ba 16 2), (17, B true), (17, B (eqS p0.f1 p1.f1)), (16, B (eqS p0.f1 p1.f1)), (15, B (eqS p0.f1 p1.f1)), (14, S p1.f1), (13, .ba 24 1), (12, S p0.f1), (11, .ba 16 1), (10, B true), (10, B (eqS p0.f0 p1.f0)), (9, B (eqS p0.f0 p1.f0)), (8, S p1.f0), (7, .ba 24 0), (6, S p0.f0), (5, .ba 16 0), (2, .ba 16 0), (3, .ba 24 0)] [(16, .box [S p0.f0, S p0.f1, I p0.f2.f0, I p0.f2.f1, LL S p0.f3, I p0.f4, I p0.f5, I p0.f6] false), (24, .box [S p1.f0, S p1.f1, I p1.f2.f0, I p1.f2.f1, LL S p1.f3, I p1.f4, I p1.f5, I p1.f6] false)] 52) ?_
            refine sb 45 (eqI p0.f6 p1.f6) ?_ ?_
            · refine sg 45 (mkE [(49, LL S p1.f3), (48, .ba 24 4), (47, LL S p0.f3), (46, .ba 16 4), (45, B true), (45, B (eqI p0.f6 p1.f6)), (44, B (eqI p0.f6 p1.f6)), (43, B (eqI p0.f6 p1.f6)), (42, I p1.f6), (41, .ba 24 7), (40, I p0.f6), (39, .ba 16 7), (38, B true), (38, B (eqI p0.f5 p1.f5)), (37, B (eqI p0.f5 p1.f5)), (36, B (eqI p0.f5 p1.f5)), (35, I p1.f5), (34, .ba 24 6), (33, I p0.f5), (32, .ba 16 6), (31, B true), (31, B (eqI p0.f4 p1.f4)), (30, B (eqI p0.f4 p1.f4)), (29, B (eqI p0.f4 p1.f4)), (28, I p1.f4), (27, .ba 24 5), (26, I p0.f4), (25, .ba 16 5), (24, B true), (24, B (allB [eqI p0.f2.f0 p1.f2.f0, eqI p0.f2.f1 p1.f2.f1])), (23, B (allB [eqI p0.f2.f0 p1.f2.f0, eqI p0.f2.f1 p1.f2.f1])), (22, B (allB [eqI p0.f2.f0 p1.f2.f0, eqI p0.f2.f1 p1.f2.f1])), (21, a38 p1.f2), (20, .ba 24 2), (19, a38 p0.f2), (18, .ba 16 2), (17, B true), (17, B (eqS p0.f1 p1.f1)), (16, B (eqS p0.f1 p1.f1)), (15, B (eqS p0.f1 p1.f1)), (14, S p1.f1), (13, .ba 24 1), (12, S p0.f1), (11, .ba 16 1), (10, B true), (10, B (eqS p0.f0 p1.f0)), (9, B (eqS p0.f0 p1.f0)), (8, S p1.f0), (7, .ba 24 0), (6, S p0.f0), (5, .ba 16 0), (2, .ba 16 0), (3, .ba 24 0)] [(16, .box [S p0.f0, S p0.f1, I p0.f2.f0, I p0.f2.f1, LL S p0.f3, I p0.f4, I p0.f5, I p0.f6] false), (24, .box [S p1.f0, S p1.f1, I p1.f2.f0, I p1.f2.f1, LL S p1.f3, I p1.f4, I p1.f5, I p1.f6] false)] 52) ?_
              refine co 50 [] (h69 p0.f3 p1.f3) (fun x1 => ?_)
              refine se (mkE [(4, B x1)] [] 52) ?_
              refine pN ?_
              refine pS ?_
              refine gE ?_
              exact pL
            · refine se (mkE [(4, B false)] [] 52) ?_
              refine pN ?_
              refine pS ?_
              refine gE ?_
              exact pL
          · refine se (mkE [(4, B false)] [] 52) ?_
            refine pN ?_
            refine pS ?_
            refine gE ?_
            exact pL
        · refine se (mkE [(4, B false)] [] 52) ?_
          refine pN ?_
          refine pS ?_
          refine gE ?_
          exact pL
      · refine se (mkE [(4, B false)] [] 52) ?_
        refine pN ?_
        refine pS ?_
        refine gE ?_
        exact pL
    · refine se (mkE [(4, B false)] [] 52) ?_
      refine pN ?_
      refine pS ?_
      refine gE ?_
      exact pL
  · refine se (mkE [(4, B false)] [] 52) ?_
    refine pN ?_
    refine pS ?_
    refine gE ?_
    exact pL
theorem F30 (m : Nat) (hm : 2 ≤ m) (p0 : S53) (p1 : S53) : callA Try.prog cfg m 30 [a53 p0, a53 p1] = (T30 p0 p1).map B := by
  obtain ⟨q, rfl⟩ : ∃ q, m = q + 1 := ⟨m - 1, by omega⟩
  exact (callA_body (fn := Try.f30) (c := body_ Try.f30) q _ (by kernel_rfl) (by kernel_rfl) (by kernel_rfl)).trans (B30 _ (fun p0 p1 => F69 q (by omega) p0 p1) p0 p1)

noncomputable def L70_4 (p0 : (List S53)) (p1 : (List S53)) (z0 : Int) : Option (Int ⊕ ((Int × Bool) ⊕ Unit)) := (bif (ltI z0 (lenL p0)) then ((listAt p0 z0).bind fun x1 => ((listAt p1 z0).bind fun x2 => ((T30 x1 x2).bind fun x3 => (bif (!x3) then (some (.inr (.inr ()))) else (some (.inl (addI .i64 z0 1))))))) else (some (.inr (.inl (z0, (ltI z0 (lenL p0)))))))
theorem L70_4_ok (C : Callee) (h30 : ∀ (p0 : S53) (p1 : S53), C 30 [a53 p0, a53 p1] = (T30 p0 p1).map B) (p0 : (List S53)) (p1 : (List S53)) (z0 : Int) : runs Try.prog C (cfg.fn 70) (finLoop ((cfg.fn 70).keep 4)) [] (execA Try.prog C (cfg.fn 70) (nr Try.f70 [false, false, true, false, true, true]) ((fun z0 : Int => (mkE [(1, LL a53 p1), (2, .fn 30 []), (15, LL a53 p0), (16, I (lenL p0)), (17, I z0)] [] 32)) z0)) = (L70_4 p0 p1 z0).map (Sum.elim (fun z => .inl ((fun z0 : Int => (mkE [(1, LL a53 p1), (2, .fn 30 []), (15, LL a53 p0), (16, I (lenL p0)), (17, I z0)] [] 32)) z)) (fun x => .inr ((Sum.elim (fun (x : (Int × Bool)) => (.exit 0, (mkE [(1, LL a53 p1), (2, .fn 30 []), (15, LL a53 p0), (16, I (lenL p0)), (17, I x.1), (18, B x.2)] [] 32))) (fun (x : Unit) => (.ret, (mkE [(6, B false)] [] 32)))) x))) := by
  unfold L70_4
  refine gS 0 ?_
  refine gR 4 (rg Try.f70 4) ?_
  refine se (mkE [(1, LL a53 p1), (2, .fn 30 []), (15, LL a53 p0), (16, I (lenL p0)), (17, I z0), (18, B (ltI z0 (lenL p0)))] [] 32) ?_
  refine pN ?_
  refine pS ?_
  refine gS 5 ?_
  refine gC 18 (ltI z0 (lenL p0)) ?_ ?_
  · refine gK ?_
    refine pN ?_
    refine pS ?_
    refine gS 9 ?_
    refine gB 1 ?_
    refine gS 6 ?_
    refine gR 5 (rg Try.f70 5) ?_
    refine sg 1 (mkE [(19, I z0), (1, LL a53 p1), (2, .fn 30 []), (15, LL a53 p0), (16, I (lenL p0)), (17, I z0), (18, B (ltI z0 (lenL p0)))] [] 32) ?_
    refine vo 20 (addrE 29 54 8 a53 .i64 p0 z0) (fun x1 => ?_)
    refine se (mkE [(1, LL a53 p1), (2, .fn 30 []), (7, I z0), (8, .ba 64 0), (15, LL a53 p0), (16, I (lenL p0)), (17, I z0)] [(64, .box [S x1.f0, S x1.f1, I x1.f2.f0, I x1.f2.f1, LL S x1.f3, I x1.f4, I x1.f5, I x1.f6] false)] 32) ?_
    refine pN ?_
    refine pS ?_
    refine gS 7 ?_
    refine gR 6 (rg Try.f70 6) ?_
    refine sg 2 (mkE [(23, I z0), (22, LL a53 p1), (1, LL a53 p1), (2, .fn 30 []), (7, I z0), (8, .ba 64 0), (15, LL a53 p0), (16, I (lenL p0)), (17, I z0)] [(64, .box [S x1.f0, S x1.f1, I x1.f2.f0, I x1.f2.f1, LL S x1.f3, I x1.f4, I x1.f5, I x1.f6] false)] 32) ?_
    refine vo 24 (addrE 29 54 8 a53 .i64 p1 z0) (fun x2 => ?_)
    refine se (mkE [(1, LL a53 p1), (2, .fn 30 []), (8, .ba 64 0), (9, .ba 72 0), (15, LL a53 p0), (16, I (lenL p0)), (17, I z0)] [(64, .box [S x1.f0, S x1.f1, I x1.f2.f0, I x1.f2.f1, LL S x1.f3, I x1.f4, I x1.f5, I x1.f6] false), (72, .box [S x2.f0, S x2.f1, I x2.f2.f0, I x2.f2.f1, LL S x2.f3, I x2.f4, I x2.f5, I x2.f6] false)] 32) ?_
    refine pN ?_
    refine pS ?_
    refine gS 0 ?_
    refine gR 7 (rg Try.f70 7) ?_
    refine sg 3 (mkE [(28, a53 x2), (27, a53 x1), (26, .fn 30 []), (1, LL a53 p1), (2, .fn 30 []), (8, .ba 64 0), (9, .ba 72 0), (15, LL a53 p0), (16, I (lenL p0)), (17, I z0)] [(64, .box [S x1.f0, S x1.f1, I x1.f2.f0, I x1.f2.f1, LL S x1.f3, I x1.f4, I x1.f5, I x1.f6] false), (72, .box [S x2.f0, S x2.f1, I x2.f2.f0, I x2.f2.f1, LL S x2.f3, I x2.f4, I x2.f5, I x2.f6] false)] 32) ?_
    refine co 29 [] (h30 x1 x2) (fun x3 => ?_)
    refine se (mkE [(1, LL a53 p1), (2, .fn 30 []), (15, LL a53 p0), (16, I (lenL p0)), (17, I z0), (30, B (!x3))] [] 32) ?_
    refine pN ?_
    refine pS ?_
    refine gC 30 (!x3) ?_ ?_
    · refine gS 0 ?_
      refine gR 8 (rg Try.f70 8) ?_
      refine se (mkE [(6, B false)] [] 32) ?_
      refine pN ?_
      refine pS ?_
      refine gE ?_
      exact pL
    · refine gK ?_
      refine pB ?_
      refine pN ?_
      refine pS ?_
      refine gR 9 (rg Try.f70 9) ?_
      refine se (mkE [(1, LL a53 p1), (2, .fn 30 []), (15, LL a53 p0), (16, I (lenL p0)), (17, I (addI .i64 z0 1))] [] 32) ?_
      exact pL
  · refine gX 0 ?_
    exact pL
noncomputable def T70 (p0 : (List S53)) (p1 : (List S53)) : Option Bool := (bif (neI (lenL p0) (lenL p1)) then (some false) else ((iter (L70_4 p0 p1) 0).bind fun y4 => (Sum.elim (fun y4a => (some true)) (fun y4b => (some false)) y4)))
theorem B70 (C : Callee) (h30 : ∀ (p0 : S53) (p1 : S53), C 30 [a53 p0, a53 p1] = (T30 p0 p1).map B) (p0 : (List S53)) (p1 : (List S53)) : runs Try.prog C (cfg.fn 70) (finFn Try.prog (cfg.fn 70).byval Try.f70) [] (execA Try.prog C (cfg.fn 70) (nr Try.f70 []) (frame0 [LL a53 p0, LL a53 p1, .fn 30 []] 32)) = (T70 p0 p1).map B := by
  unfold T70
  refine gS 1 ?_
  refine gR 0 (rg Try.f70 0) ?_
  refine se (mkE [(0, LL a53 p0), (1, LL a53 p1), (2, .fn 30 [])] [] 32) ?_
  refine pN ?_
  refine pS ?_
  refine gS 3 ?_
  refine gS 0 ?_
  refine gR 1 (rg Try.f70 1) ?_
  refine sg 1 (mkE [(10, LL a53 p0), (0, LL a53 p0), (1, LL a53 p1), (2, .fn 30 [])] [] 32) ?_
  refine eo 11 (I (lenL p0)) (lenE 29 a53 p0) ?_
  refine sg 3 (mkE [(12, LL a53 p1), (11, I (lenL p0)), (10, LL a53 p0), (0, LL a53 p0), (1, LL a53 p1), (2, .fn 30 [])] [] 32) ?_
  refine eo 13 (I (lenL p1)) (lenE 29 a53 p1) ?_
  refine se (mkE [(0, LL a53 p0), (1, LL a53 p1), (2, .fn 30 []), (14, B (neI (lenL p0) (lenL p1)))] [] 32) ?_
  refine pN ?_
  refine pS ?_
  refine gC 14 (neI (lenL p0) (lenL p1)) ?_ ?_
  · refine gS 0 ?_
    refine gR 2 (rg Try.f70 2) ?_
    refine se (mkE [(6, B false)] [] 32) ?_
    refine pN ?_
    refine pS ?_
    refine gE ?_
    exact pL
  · refine gK ?_
    refine pN ?_
    refine pS ?_
    refine gS 10 ?_
    refine gS 4 ?_
    refine gR 3 (rg Try.f70 3) ?_
    refine sg 1 (mkE [(15, LL a53 p0), (0, LL a53 p0), (1, LL a53 p1), (2, .fn 30 []), (14, B (neI (lenL p0) (lenL p1)))] [] 32) ?_
    refine eo 16 (I (lenL p0)) (lenE 29 a53 p0) ?_
    refine se (mkE [(1, LL a53 p1), (2, .fn 30 []), (15, LL a53 p0), (16, I (lenL p0)), (17, I 0)] [] 32) ?_
    refine pN ?_
    refine pS ?_
    refine gB 0 ?_
    refine lo [(1, none), (2, none), (15, none), (16, none), (17, none)] (L70_4 p0 p1) (fun z0 : Int => (mkE [(1, LL a53 p1), (2, .fn 30 []), (15, LL a53 p0), (16, I (lenL p0)), (17, I z0)] [] 32)) (Sum.elim (fun (x : (Int × Bool)) => (.exit 0, (mkE [(1, LL a53 p1), (2, .fn 30 []), (15, LL a53 p0), (16, I (lenL p0)), (17, I x.1), (18, B x.2)] [] 32))) (fun (x : Unit) => (.ret, (mkE [(6, B false)] [] 32)))) 0 (fun z => L70_4_ok C h30 p0 p1 z) ?_
    intro y4
    refine ss y4 (Z := (Sum.elim (fun (x : (Int × Bool)) => (.exit 0, (mkE [(1, LL a53 p1), (2, .fn 30 []), (15, LL a53 p0), (16, I (lenL p0)), (17, I x.1), (18, B x.2)] [] 32))) (fun (x : Unit) => (.ret, (mkE [(6, B false)] [] 32))))) (fun y4a => ?_) (fun y4b => ?_)
    · refine pH ?_
      refine pN ?_
      refine pS ?_
      refine gS 0 ?_
      refine gR 10 (rg Try.f70 10) ?_
      refine se (mkE [(6, B true)] [] 32) ?_
      refine pN ?_
      refine pS ?_
      refine gE ?_
      exact pL
    · exact pL
theorem F70 (m : Nat) (hm : 3 ≤ m) (p0 : (List S53)) (p1 : (List S53)) : callA Try.prog cfg m 70 [LL a53 p0, LL a53 p1, .fn 30 []] = (T70 p0 p1).map B := by
  obtain ⟨q, rfl⟩ : ∃ q, m = q + 1 := ⟨m - 1, by omega⟩
  exact (callA_body (fn := Try.f70) (c := body_ Try.f70) q _ (by kernel_rfl) (by kernel_rfl) (by kernel_rfl)).trans (B70 _ (fun p0 p1 => F30 q (by omega) p0 p1) p0 p1)

noncomputable def T19 (p0 : (List S53)) (p1 : (List S53)) : Option Bool := ((T70 p0 p1).bind fun x1 => (some x1))
theorem B19 (C : Callee) (h70 : ∀ (p0 : (List S53)) (p1 : (List S53)), C 70 [LL a53 p0, LL a53 p1, .fn 30 []] = (T70 p0 p1).map B) (p0 : (List S53)) (p1 : (List S53)) : runs Try.prog C (cfg.fn 19) (finFn Try.prog (cfg.fn 19).byval Try.f19) [] (execA Try.prog C (cfg.fn 19) (nr Try.f19 []) (frame0 [LL a53 p0, LL a53 p1] 8)) = (T19 p0 p1).map B := by
  unfold T19
  refine gS 1 ?_
  refine gR 0 (rg Try.f19 0) ?_
  refine se (mkE [(0, LL a53 p0), (1, LL a53 p1)] [] 8) ?_
  refine pN ?_
  refine pS ?_
  refine gS 0 ?_
  refine gR 1 (rg Try.f19 1) ?_
  refine sg 2 (mkE [(6, LL a53 p1), (5, LL a53 p0), (0, LL a53 p0), (1, LL a53 p1)] [] 8) ?_
  refine co 7 [] (h70 p0 p1) (fun x1 => ?_)
  refine se (mkE [(4, B x1)] [] 8) ?_
  refine pN ?_
  refine pS ?_
  refine gE ?_
  exact pL
theorem F19 (m : Nat) (hm : 4 ≤ m) (p0 : (List S53)) (p1 : (List S53)) : callA Try.prog cfg m 19 [LL a53 p0, LL a53 p1] = (T19 p0 p1).map B := by
  obtain ⟨q, rfl⟩ : ∃ q, m = q + 1 := ⟨m - 1, by omega⟩
  exact (callA_body (fn := Try.f19) (c := body_ Try.f19) q _ (by kernel_rfl) (by kernel_rfl) (by kernel_rfl)).trans (B19 _ (fun p0 p1 => F70 q (by omega) p0 p1) p0 p1)

noncomputable def T4 (p0 : (List S90)) (p1 : (List S53)) : Option Bool := ((T15 p0).bind fun x1 => ((T16 p1).bind fun x2 => ((T17 p0 p1).bind fun x3 => (bif x3 then ((T18 p0 x1).bind fun x4 => (bif x4 then ((T19 p1 x2).bind fun x5 => (some x5)) else (some false))) else (some false)))))
theorem B4 (C : Callee) (h15 : ∀ (p0 : (List S90)), C 15 [LL a90 p0] = (T15 p0).map (fun l => AV.fr 91 5 (List.map a90 l))) (h16 : ∀ (p0 : (List S53)), C 16 [LL a53 p0] = (T16 p0).map (fun l => AV.fr 54 8 (List.map a53 l))) (h17 : ∀ (p0 : (List S90)) (p1 : (List S53)), C 17 [LL a90 p0, LL a53 p1] = (T17 p0 p1).map B) (h18 : ∀ (p0 : (List S90)) (p1 : (List S90)), C 18 [LL a90 p0, LL a90 p1] = (T18 p0 p1).map B) (h19 : ∀ (p0 : (List S53)) (p1 : (List S53)), C 19 [LL a53 p0, LL a53 p1] = (T19 p0 p1).map B) (p0 : (List S90)) (p1 : (List S53)) : runs Try.prog C (cfg.fn 4) (finFn Try.prog (cfg.fn 4).byval Try.f4) [] (execA Try.prog C (cfg.fn 4) (nr Try.f4 []) (frame0 [LL a90 p0, LL a53 p1] 24)) = (T4 p0 p1).map B := by
  unfold T4
  refine gS 1 ?_
  refine gR 0 (rg Try.f4 0) ?_
  refine se (mkE [(0, LL a90 p0), (1, LL a53 p1)] [] 24) ?_
  refine pN ?_
  refine pS ?_
  refine gS 2 ?_
  refine gR 1 (rg Try.f4 1) ?_
  refine sg 1 (mkE [(7, LL a90 p0), (0, LL a90 p0), (1, LL a53 p1)] [] 24) ?_
  refine co 8 [] (h15 p0) (fun x1 => ?_)
  refine sg 3 (mkE [(9, LL a53 p1), (8, .own 64 0), (7, LL a90 p0), (0, LL a90 p0), (1, LL a53 p1)] [(64, RR 91 5 a90 x1 0 false)] 24) ?_
  refine co 10 [] (h16 p1) (fun x2 => ?_)
  refine se (mkE [(0, LL a90 p0), (1, LL a53 p1), (5, .own 64 0), (6, .own 80 0)] [(64, RR 91 5 a90 x1 0 false), (80, RR 54 8 a53 x2 0 false)] 24) ?_
  refine pN ?_
  refine pS ?_
  refine gS 0 ?_
  refine gR 2 (rg Try.f4 2) ?_
  refine sg 2 (mkE [(12, LL a53 p1), (11, LL a90 p0), (0, LL a90 p0), (1, LL a53 p1), (5, .own 64 0), (6, .own 80 0)] [(64, RR 91 5 a90 x1 0 false), (80, RR 54 8 a53 x2 0 false)] 24) ?_
  refine co 13 [] (h17 p0 p1) (fun x3 => ?_)
  refine sg 4 (mkE [(14, B x3), (13, B x3), (12, LL a53 p1), (11, LL a90 p0), (0, LL a90 p0), (1, LL a53 p1), (5, .own 64 0), (6, .own 80 0)] [(64, RR 91 5 a90 x1 0 false), (80, RR 54 8 a53 x2 0 false)] 24) ?_
  refine sb 14 x3 ?_ ?_
  · refine sg 6 (mkE [(16, .own 64 0), (15, LL a90 p0), (14, B true), (14, B x3), (13, B x3), (12, LL a53 p1), (11, LL a90 p0), (0, LL a90 p0), (1, LL a53 p1), (5, .own 64 0), (6, .own 80 0)] [(64, RR 91 5 a90 x1 0 false), (80, RR 54 8 a53 x2 0 false)] 24) ?_
    refine co 17 [64] (h18 p0 x1) (fun x4 => ?_)
    refine sg 9 (mkE [(19, B x4), (18, B x4), (17, B x4), (16, .own 64 0), (15, LL a90 p0), (14, B true), (14, B x3), (13, B x3), (12, LL a53 p1), (11, LL a90 p0), (0, LL a90 p0), (1, LL a53 p1), (5, .own 64 0), (6, .own 80 0)] [(64, RR 91 5 a90 x1 0 false), (80, RR 54 8 a53 x2 0 false)] 24) ?_
    refine sb 19 x4 ?_ ?_
    · refine sg 11 (mkE [(21, .own 80 0), (20, LL a53 p1), (19, B true), (19, B x4), (18, B x4), (17, B x4), (16, .own 64 0), (15, LL a90 p0), (14, B true), (14, B x3), (13, B x3), (12, LL a53 p1), (11, LL a90 p0), (0, LL a90 p0), (1, LL a53 p1), (5, .own 64 0), (6, .own 80 0)] [(64, RR 91 5 a90 x1 0 false), (80, RR 54 8 a53 x2 0 false)] 24) ?_
      refine co 22 [80] (h19 p1 x2) (fun x5 => ?_)
      refine se (mkE [(4, B x5)] [] 24) ?_
      refine pN ?_
      refine pS ?_
      refine gE ?_
      exact pL
    · refine se (mkE [(4, B false)] [] 24) ?_
      refine pN ?_
      refine pS ?_
      refine gE ?_
      exact pL
  · refine se (mkE [(4, B false)] [] 24) ?_
    refine pN ?_
    refine pS ?_
    refine gE ?_
    exact pL
theorem F4 (m : Nat) (hm : 9 ≤ m) (p0 : (List S90)) (p1 : (List S53)) : callA Try.prog cfg m 4 [LL a90 p0, LL a53 p1] = (T4 p0 p1).map B := by
  obtain ⟨q, rfl⟩ : ∃ q, m = q + 1 := ⟨m - 1, by omega⟩
  exact (callA_body (fn := Try.f4) (c := body_ Try.f4) q _ (by kernel_rfl) (by kernel_rfl) (by kernel_rfl)).trans (B4 _ (fun p0 => F15 q (by omega) p0) (fun p0 => F16 q (by omega) p0) (fun p0 p1 => F17 q (by omega) p0 p1) (fun p0 p1 => F18 q (by omega) p0 p1) (fun p0 p1 => F19 q (by omega) p0 p1) p0 p1)

end Go.Abs.TB
