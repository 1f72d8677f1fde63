import Derived.Test.YtnaibaifmnjpnaaRTRp1
set_option maxRecDepth 100000
set_option linter.unusedVariables false
namespace Go.Abs.TR
open Go.RowKit Go.Proofs Go.Abs
noncomputable def L215_9 (p1_c0 : (List S63)) (z0 : ((List Int) × (List Int) × (List S63) × (List S63) × Int)) (z1 : ((List Int) × (List Int) × (List S63) × (List S63) × (List S63) × Int)) : Option (((List Int) × (List Int) × (List S63) × (List S63) × (List S63) × Int) ⊕ (Int × Bool × (List Int) × (List Int) × (List S63) × (List S63) × (List S63))) := (bif (ltI (addI .i64 z1.2.2.2.2.2 1) (lenL z1.1)) then ((idxO (List.length z1.1) z1.2.2.2.2.2).bind fun x3 => ((getN z1.1 x3).bind fun x4 => ((idxO (List.length z1.2.1) z0.2.2.2.2).bind fun x5 => ((getN z1.2.1 x5).bind fun x6 => ((T216 x4 x6 p1_c0).bind fun x7 => (bif (!x7) then (some (.inl (z1.1, z1.2.1, z1.2.2.1, z1.2.2.2.1, z1.2.2.2.2.1, (addI .i64 z1.2.2.2.2.2 1)))) else (bif (leI 0 (subI .i64 (lenL z1.2.2.2.2.1) 1)) then ((idxO (List.length z1.2.2.2.2.1) (subI .i64 (lenL z1.2.2.2.2.1) 1)).bind fun x8 => ((getN z1.2.2.2.2.1 x8).bind fun x9 => ((idxO (List.length z1.2.2.2.2.1) (subI .i64 (lenL z1.2.2.2.2.1) 1)).bind fun x10 => ((getN z1.2.2.2.2.1 x10).bind fun x11 => ((idxO (List.length z1.1) z1.2.2.2.2.2).bind fun x12 => ((getN z1.1 x12).bind fun x13 => (bif (eqI (addI .i64 x9.f0 x11.f2) x13) then ((idxO (List.length z1.1) (addI .i64 z1.2.2.2.2.2 1)).bind fun x14 => ((getN z1.1 x14).bind fun x15 => ((idxO (List.length z1.2.2.2.2.1) (subI .i64 (lenL z1.2.2.2.2.1) 1)).bind fun x16 => ((getN z1.2.2.2.2.1 x16).bind fun x17 => ((idxO (List.length z1.2.2.2.2.1) (subI .i64 (lenL z1.2.2.2.2.1) 1)).bind fun x18 => ((getN z1.2.2.2.2.1 x18).bind fun x19 => (some (.inl (z1.1, z1.2.1, z1.2.2.1, z1.2.2.2.1, (List.set z1.2.2.2.2.1 x18 (S63.mk x19.f0 x19.f1 (subI .i64 x15 x17.f0) x19.f3)), (addI .i64 z1.2.2.2.2.2 1)))))))))) else ((idxO (List.length z1.1) z1.2.2.2.2.2).bind fun x20 => ((getN z1.1 x20).bind fun x21 => ((idxO (List.length z1.2.1) z0.2.2.2.2).bind fun x22 => ((getN z1.2.1 x22).bind fun x23 => ((idxO (List.length z1.1) (addI .i64 z1.2.2.2.2.2 1)).bind fun x24 => ((getN z1.1 x24).bind fun x25 => ((idxO (List.length z1.1) z1.2.2.2.2.2).bind fun x26 => ((getN z1.1 x26).bind fun x27 => ((idxO (List.length z1.2.1) (addI .i64 z0.2.2.2.2 1)).bind fun x28 => ((getN z1.2.1 x28).bind fun x29 => ((idxO (List.length z1.2.1) z0.2.2.2.2).bind fun x30 => ((getN z1.2.1 x30).bind fun x31 => ((appO 32 z1.2.2.2.2.1 ([(S63.mk x21 x23 (subI .i64 x25 x27) (subI .i64 x29 x31))] : List S63)).bind fun x32 => (some (.inl (z1.1, z1.2.1, z1.2.2.1, z1.2.2.2.1, x32, (addI .i64 z1.2.2.2.2.2 1)))))))))))))))))))))))) else ((idxO (List.length z1.1) z1.2.2.2.2.2).bind fun x33 => ((getN z1.1 x33).bind fun x34 => ((idxO (List.length z1.2.1) z0.2.2.2.2).bind fun x35 => ((getN z1.2.1 x35).bind fun x36 => ((idxO (List.length z1.1) (addI .i64 z1.2.2.2.2.2 1)).bind fun x37 => ((getN z1.1 x37).bind fun x38 => ((idxO (List.length z1.1) z1.2.2.2.2.2).bind fun x39 => ((getN z1.1 x39).bind fun x40 => ((idxO (List.length z1.2.1) (addI .i64 z0.2.2.2.2 1)).bind fun x41 => ((getN z1.2.1 x41).bind fun x42 => ((idxO (List.length z1.2.1) z0.2.2.2.2).bind fun x43 => ((getN z1.2.1 x43).bind fun x44 => ((appO 32 z1.2.2.2.2.1 ([(S63.mk x34 x36 (subI .i64 x38 x40) (subI .i64 x42 x44))] : List S63)).bind fun x45 => (some (.inl (z1.1, z1.2.1, z1.2.2.1, z1.2.2.2.1, x45, (addI .i64 z1.2.2.2.2.2 1)))))))))))))))))))))))) else (some (.inr (z1.2.2.2.2.2, (ltI (addI .i64 z1.2.2.2.2.2 1) (lenL z1.1)), z1.1, z1.2.1, z1.2.2.1, z1.2.2.2.1, z1.2.2.2.2.1))))
theorem L215_9_ok (C : Callee) (h216 : ∀ (p0 : Int) (p1 : Int) (p2_c0 : (List S63)), C 216 [I p0, I p1, .ia [LL a63 p2_c0] 0] = (T216 p0 p1 p2_c0).map B) (p1_c0 : (List S63)) (z0 : ((List Int) × (List Int) × (List S63) × (List S63) × Int)) (z1 : ((List Int) × (List Int) × (List S63) × (List S63) × (List S63) × Int)) : runs Try.prog C (cfg.fn 215) (finLoop ((cfg.fn 215).keep 9) ((cfg.fn 215).al 9)) [] (execA Try.prog C (cfg.fn 215) (nr Try.f215 [false, false, true, false, true, false, false, true, false, false, true, false, true, true, true, true]) ((fun z1 : ((List Int) × (List Int) × (List S63) × (List S63) × (List S63) × Int) => (mkE [(1, .fn 216 [.ia [LL a63 p1_c0] 0]), (5, .own 40 0), (6, .own 48 0), (7, .own 56 0), (8, .own 64 0), (9, I z0.2.2.2.2), (10, .own 80 0), (11, I z1.2.2.2.2.2)] [(40, RR 3 1 I z1.1 0 false), (48, RR 3 1 I z1.2.1 0 false), (56, RR 64 4 a63 z1.2.2.1 0 false), (64, RR 64 4 a63 z1.2.2.2.1 0 false), (80, RR 64 4 a63 z1.2.2.2.2.1 0 false)] 149)) z1)) = (L215_9 p1_c0 z0 z1).map (Sum.elim (fun z => .inl ((fun z1 : ((List Int) × (List Int) × (List S63) × (List S63) × (List S63) × Int) => (mkE [(1, .fn 216 [.ia [LL a63 p1_c0] 0]), (5, .own 40 0), (6, .own 48 0), (7, .own 56 0), (8, .own 64 0), (9, I z0.2.2.2.2), (10, .own 80 0), (11, I z1.2.2.2.2.2)] [(40, RR 3 1 I z1.1 0 false), (48, RR 3 1 I z1.2.1 0 false), (56, RR 64 4 a63 z1.2.2.1 0 false), (64, RR 64 4 a63 z1.2.2.2.1 0 false), (80, RR 64 4 a63 z1.2.2.2.2.1 0 false)] 149)) z)) (fun x => .inr ((fun (x : (Int × Bool × (List Int) × (List Int) × (List S63) × (List S63) × (List S63))) => (.exit 2, (mkE [(1, .fn 216 [.ia [LL a63 p1_c0] 0]), (5, .own 40 0), (6, .own 48 0), (7, .own 56 0), (8, .own 64 0), (9, I z0.2.2.2.2), (10, .own 80 0), (11, I x.1), (30, B x.2.1)] [(40, RR 3 1 I x.2.2.1 0 false), (48, RR 3 1 I x.2.2.2.1 0 false), (56, RR 64 4 a63 x.2.2.2.2.1 0 false), (64, RR 64 4 a63 x.2.2.2.2.2.1 0 false), (80, RR 64 4 a63 x.2.2.2.2.2.2 0 false)] 149))) x))) := by
  unfold L215_9
  refine gS 11 ?_
  refine gS 0 ?_
  refine gR 9 (rg Try.f215 9) ?_
  refine sg 3 (mkE [(28, .own 40 0), (27, I (addI .i64 z1.2.2.2.2.2 1)), (26, I z1.2.2.2.2.2), (1, .fn 216 [.ia [LL a63 p1_c0] 0]), (5, .own 40 0), (6, .own 48 0), (7, .own 56 0), (8, .own 64 0), (9, I z0.2.2.2.2), (10, .own 80 0), (11, I z1.2.2.2.2.2)] [(40, RR 3 1 I z1.1 0 false), (48, RR 3 1 I z1.2.1 0 false), (56, RR 64 4 a63 z1.2.2.1 0 false), (64, RR 64 4 a63 z1.2.2.2.1 0 false), (80, RR 64 4 a63 z1.2.2.2.2.1 0 false)] 149) ?_
  refine eo 29 (I (lenL z1.1)) (lenOE 104 3 1 I z1.1) ?_
  refine se (mkE [(1, .fn 216 [.ia [LL a63 p1_c0] 0]), (5, .own 40 0), (6, .own 48 0), (7, .own 56 0), (8, .own 64 0), (9, I z0.2.2.2.2), (10, .own 80 0), (11, I z1.2.2.2.2.2), (30, B (ltI (addI .i64 z1.2.2.2.2.2 1) (lenL z1.1)))] [(40, RR 3 1 I z1.1 0 false), (48, RR 3 1 I z1.2.1 0 false), (56, RR 64 4 a63 z1.2.2.1 0 false), (64, RR 64 4 a63 z1.2.2.2.1 0 false), (80, RR 64 4 a63 z1.2.2.2.2.1 0 false)] 149) ?_
  refine pN ?_
  refine pS ?_
  refine gC 30 (ltI (addI .i64 z1.2.2.2.2.2 1) (lenL z1.1)) ?_ ?_
  · refine gK ?_
    refine pN ?_
    refine pS ?_
    refine gS 10 ?_
    refine gB 3 ?_
    refine gS 12 ?_
    refine gS 0 ?_
    refine gD 11 11 (rg Try.f215 11) [0, 1, 2, 3, 4, 5, 6, 7, 8, 9, 10] ?_
    refine dg 3 [(some 33, qe (.fn 216 [.ia [LL a63 p1_c0] 0])), (some 34, qe (.own 40 0)), (some 35, qe (I z1.2.2.2.2.2))] ?_
    refine dv 36 (mkE [(35, I z1.2.2.2.2.2), (34, .own 40 0), (1, .fn 216 [.ia [LL a63 p1_c0] 0]), (5, .own 40 0), (6, .own 48 0), (7, .own 56 0), (8, .own 64 0), (9, I z0.2.2.2.2), (10, .own 80 0), (11, I z1.2.2.2.2.2), (30, B (ltI (addI .i64 z1.2.2.2.2.2 1) (lenL z1.1)))] [(40, RR 3 1 I z1.1 0 false), (48, RR 3 1 I z1.2.1 0 false), (56, RR 64 4 a63 z1.2.2.1 0 false), (64, RR 64 4 a63 z1.2.2.2.1 0 false), (80, RR 64 4 a63 z1.2.2.2.2.1 0 false)] 149) (addrOE 104 3 1 40 0 false I .i64 z1.1 z1.2.2.2.2.2) (fun x3 => ?_)
    refine dv 37 (mkE [(36, .oa 40 0 x3 0), (35, I z1.2.2.2.2.2), (34, .own 40 0), (1, .fn 216 [.ia [LL a63 p1_c0] 0]), (5, .own 40 0), (6, .own 48 0), (7, .own 56 0), (8, .own 64 0), (9, I z0.2.2.2.2), (10, .own 80 0), (11, I z1.2.2.2.2.2), (30, B (ltI (addI .i64 z1.2.2.2.2.2 1) (lenL z1.1)))] [(40, RR 3 1 I z1.1 0 false), (48, RR 3 1 I z1.2.1 0 false), (56, RR 64 4 a63 z1.2.2.1 0 false), (64, RR 64 4 a63 z1.2.2.2.1 0 false), (80, RR 64 4 a63 z1.2.2.2.2.1 0 false)] 149) (loadOE 3 40 0 x3 0 3 1 1 false false I (fun q : Int => I q) z1.1) (fun x4 => ?_)
    refine dg 7 [(some 33, qe (.fn 216 [.ia [LL a63 p1_c0] 0])), (some 34, qe (.own 40 0)), (some 35, qe (I z1.2.2.2.2.2)), (some 36, qe (.oa 40 0 x3 0)), (some 37, qe (I x4)), (some 38, qe (.own 48 0)), (some 39, qe (I z0.2.2.2.2))] ?_
    refine dv 40 (mkE [(39, I z0.2.2.2.2), (38, .own 48 0), (1, .fn 216 [.ia [LL a63 p1_c0] 0]), (5, .own 40 0), (6, .own 48 0), (7, .own 56 0), (8, .own 64 0), (9, I z0.2.2.2.2), (10, .own 80 0), (11, I z1.2.2.2.2.2), (30, B (ltI (addI .i64 z1.2.2.2.2.2 1) (lenL z1.1)))] [(40, RR 3 1 I z1.1 0 false), (48, RR 3 1 I z1.2.1 0 false), (56, RR 64 4 a63 z1.2.2.1 0 false), (64, RR 64 4 a63 z1.2.2.2.1 0 false), (80, RR 64 4 a63 z1.2.2.2.2.1 0 false)] 149) (addrOE 104 3 1 48 0 false I .i64 z1.2.1 z0.2.2.2.2) (fun x5 => ?_)
    refine dv 41 (mkE [(40, .oa 48 0 x5 0), (39, I z0.2.2.2.2), (38, .own 48 0), (1, .fn 216 [.ia [LL a63 p1_c0] 0]), (5, .own 40 0), (6, .own 48 0), (7, .own 56 0), (8, .own 64 0), (9, I z0.2.2.2.2), (10, .own 80 0), (11, I z1.2.2.2.2.2), (30, B (ltI (addI .i64 z1.2.2.2.2.2 1) (lenL z1.1)))] [(40, RR 3 1 I z1.1 0 false), (48, RR 3 1 I z1.2.1 0 false), (56, RR 64 4 a63 z1.2.2.1 0 false), (64, RR 64 4 a63 z1.2.2.2.1 0 false), (80, RR 64 4 a63 z1.2.2.2.2.1 0 false)] 149) (loadOE 3 48 0 x5 0 3 1 1 false false I (fun q : Int => I q) z1.2.1) (fun x6 => ?_)
    refine dc 42 [] (mkE [(41, I x6), (40, .oa 48 0 x5 0), (39, I z0.2.2.2.2), (38, .own 48 0), (37, I x4), (36, .oa 40 0 x3 0), (35, I z1.2.2.2.2.2), (34, .own 40 0), (33, .fn 216 [.ia [LL a63 p1_c0] 0]), (1, .fn 216 [.ia [LL a63 p1_c0] 0]), (5, .own 40 0), (6, .own 48 0), (7, .own 56 0), (8, .own 64 0), (9, I z0.2.2.2.2), (10, .own 80 0), (11, I z1.2.2.2.2.2), (30, B (ltI (addI .i64 z1.2.2.2.2.2 1) (lenL z1.1)))] [(40, RR 3 1 I z1.1 0 false), (48, RR 3 1 I z1.2.1 0 false), (56, RR 64 4 a63 z1.2.2.1 0 false), (64, RR 64 4 a63 z1.2.2.2.1 0 false), (80, RR 64 4 a63 z1.2.2.2.2.1 0 false)] 149) (h216 x4 x6 p1_c0) (fun x7 => ?_)
    refine dg 11 [(some 33, qe (.fn 216 [.ia [LL a63 p1_c0] 0])), (some 34, qe (.own 40 0)), (some 35, qe (I z1.2.2.2.2.2)), (some 36, qe (.oa 40 0 x3 0)), (some 37, qe (I x4)), (some 38, qe (.own 48 0)), (some 39, qe (I z0.2.2.2.2)), (some 40, qe (.oa 48 0 x5 0)), (some 41, qe (I x6)), (some 42, qe (B x7)), (some 43, qe (B (!x7)))] ?_
    refine de (mkE [(43, B (!x7)), (42, B x7), (41, I x6), (40, .oa 48 0 x5 0), (39, I z0.2.2.2.2), (38, .own 48 0), (37, I x4), (36, .oa 40 0 x3 0), (35, I z1.2.2.2.2.2), (34, .own 40 0), (33, .fn 216 [.ia [LL a63 p1_c0] 0]), (1, .fn 216 [.ia [LL a63 p1_c0] 0]), (5, .own 40 0), (6, .own 48 0), (7, .own 56 0), (8, .own 64 0), (9, I z0.2.2.2.2), (10, .own 80 0), (11, I z1.2.2.2.2.2), (30, B (ltI (addI .i64 z1.2.2.2.2.2 1) (lenL z1.1)))] [(40, RR 3 1 I z1.1 0 false), (48, RR 3 1 I z1.2.1 0 false), (56, RR 64 4 a63 z1.2.2.1 0 false), (64, RR 64 4 a63 z1.2.2.2.1 0 false), (80, RR 64 4 a63 z1.2.2.2.2.1 0 false)] 149) ?_
    refine se (mkE [(1, .fn 216 [.ia [LL a63 p1_c0] 0]), (5, .own 40 0), (6, .own 48 0), (7, .own 56 0), (8, .own 64 0), (9, I z0.2.2.2.2), (10, .own 80 0), (11, I z1.2.2.2.2.2), (43, B (!x7))] [(40, RR 3 1 I z1.1 0 false), (48, RR 3 1 I z1.2.1 0 false), (56, RR 64 4 a63 z1.2.2.1 0 false), (64, RR 64 4 a63 z1.2.2.2.1 0 false), (80, RR 64 4 a63 z1.2.2.2.2.1 0 false)] 149) ?_
    refine pN ?_
    refine pS ?_
    refine gC 43 (!x7) ?_ ?_
    · refine gX 3 ?_
      refine pF ?_
      refine pO ?_
      refine pH ?_
      refine pN ?_
      refine pS ?_
      refine gR 10 (rg Try.f215 10) ?_
      refine se (mkE [(1, .fn 216 [.ia [LL a63 p1_c0] 0]), (5, .own 40 0), (6, .own 48 0), (7, .own 56 0), (8, .own 64 0), (9, I z0.2.2.2.2), (10, .own 80 0), (11, I (addI .i64 z1.2.2.2.2.2 1))] [(40, RR 3 1 I z1.1 0 false), (48, RR 3 1 I z1.2.1 0 false), (56, RR 64 4 a63 z1.2.2.1 0 false), (64, RR 64 4 a63 z1.2.2.2.1 0 false), (80, RR 64 4 a63 z1.2.2.2.2.1 0 false)] 149) ?_
      exact pL
    · refine gK ?_
      refine pN ?_
      refine pS ?_
      refine gS 13 ?_
      refine gR 12 (rg Try.f215 12) ?_
      refine sg 1 (mkE [(44, .own 80 0), (1, .fn 216 [.ia [LL a63 p1_c0] 0]), (5, .own 40 0), (6, .own 48 0), (7, .own 56 0), (8, .own 64 0), (9, I z0.2.2.2.2), (10, .own 80 0), (11, I z1.2.2.2.2.2), (43, B (!x7))] [(40, RR 3 1 I z1.1 0 false), (48, RR 3 1 I z1.2.1 0 false), (56, RR 64 4 a63 z1.2.2.1 0 false), (64, RR 64 4 a63 z1.2.2.2.1 0 false), (80, RR 64 4 a63 z1.2.2.2.2.1 0 false)] 149) ?_
      refine eo 45 (I (lenL z1.2.2.2.2.1)) (lenOE 65 64 4 a63 z1.2.2.2.2.1) ?_
      refine se (mkE [(1, .fn 216 [.ia [LL a63 p1_c0] 0]), (5, .own 40 0), (6, .own 48 0), (7, .own 56 0), (8, .own 64 0), (9, I z0.2.2.2.2), (10, .own 80 0), (11, I z1.2.2.2.2.2), (12, I (subI .i64 (lenL z1.2.2.2.2.1) 1))] [(40, RR 3 1 I z1.1 0 false), (48, RR 3 1 I z1.2.1 0 false), (56, RR 64 4 a63 z1.2.2.1 0 false), (64, RR 64 4 a63 z1.2.2.2.1 0 false), (80, RR 64 4 a63 z1.2.2.2.2.1 0 false)] 149) ?_
      refine pN ?_
      refine pS ?_
      refine gS 0 ?_
      refine gD 13 20 (rg Try.f215 13) [0, 1, 2, 3, 4, 5, 6, 7, 8, 9, 10, 11, 12, 13, 14, 15, 16, 17, 18, 19] ?_
      refine dg 3 [(some 47, qe (I (subI .i64 (lenL z1.2.2.2.2.1) 1))), (some 48, qe (B (leI 0 (subI .i64 (lenL z1.2.2.2.2.1) 1)))), (some 49, qe (B (leI 0 (subI .i64 (lenL z1.2.2.2.2.1) 1))))] ?_
      refine db 2 49 (leI 0 (subI .i64 (lenL z1.2.2.2.2.1) 1)) ?_ ?_
      · refine dg 5 [(some 47, qe (I (subI .i64 (lenL z1.2.2.2.2.1) 1))), (some 48, qe (B (leI 0 (subI .i64 (lenL z1.2.2.2.2.1) 1)))), (some 49, qe (B true)), (some 50, qe (.own 80 0)), (some 51, qe (I (subI .i64 (lenL z1.2.2.2.2.1) 1)))] ?_
        refine dv 52 (mkE [(51, I (subI .i64 (lenL z1.2.2.2.2.1) 1)), (50, .own 80 0), (49, B true), (48, B (leI 0 (subI .i64 (lenL z1.2.2.2.2.1) 1))), (47, I (subI .i64 (lenL z1.2.2.2.2.1) 1)), (1, .fn 216 [.ia [LL a63 p1_c0] 0]), (5, .own 40 0), (6, .own 48 0), (7, .own 56 0), (8, .own 64 0), (9, I z0.2.2.2.2), (10, .own 80 0), (11, I z1.2.2.2.2.2), (12, I (subI .i64 (lenL z1.2.2.2.2.1) 1))] [(40, RR 3 1 I z1.1 0 false), (48, RR 3 1 I z1.2.1 0 false), (56, RR 64 4 a63 z1.2.2.1 0 false), (64, RR 64 4 a63 z1.2.2.2.1 0 false), (80, RR 64 4 a63 z1.2.2.2.2.1 0 false)] 149) (addrOE 65 64 4 80 0 false a63 .i64 z1.2.2.2.2.1 (subI .i64 (lenL z1.2.2.2.2.1) 1)) (fun x8 => ?_)
        refine dg 7 [(some 47, qe (I (subI .i64 (lenL z1.2.2.2.2.1) 1))), (some 48, qe (B (leI 0 (subI .i64 (lenL z1.2.2.2.2.1) 1)))), (some 49, qe (B true)), (some 50, qe (.own 80 0)), (some 51, qe (I (subI .i64 (lenL z1.2.2.2.2.1) 1))), (some 52, qe (.oa 80 0 x8 0)), (some 53, qe (.oa 80 0 x8 0))] ?_
        refine dv 54 (mkE [(53, .oa 80 0 x8 0), (52, .oa 80 0 x8 0), (51, I (subI .i64 (lenL z1.2.2.2.2.1) 1)), (50, .own 80 0), (49, B true), (48, B (leI 0 (subI .i64 (lenL z1.2.2.2.2.1) 1))), (47, I (subI .i64 (lenL z1.2.2.2.2.1) 1)), (1, .fn 216 [.ia [LL a63 p1_c0] 0]), (5, .own 40 0), (6, .own 48 0), (7, .own 56 0), (8, .own 64 0), (9, I z0.2.2.2.2), (10, .own 80 0), (11, I z1.2.2.2.2.2), (12, I (subI .i64 (lenL z1.2.2.2.2.1) 1))] [(40, RR 3 1 I z1.1 0 false), (48, RR 3 1 I z1.2.1 0 false), (56, RR 64 4 a63 z1.2.2.1 0 false), (64, RR 64 4 a63 z1.2.2.2.1 0 false), (80, RR 64 4 a63 z1.2.2.2.2.1 0 false)] 149) (loadOE 3 80 0 x8 0 64 4 1 false false a63 (fun q : S63 => I q.f0) z1.2.2.2.2.1) (fun x9 => ?_)
        refine dg 10 [(some 47, qe (I (subI .i64 (lenL z1.2.2.2.2.1) 1))), (some 48, qe (B (leI 0 (subI .i64 (lenL z1.2.2.2.2.1) 1)))), (some 49, qe (B true)), (some 50, qe (.own 80 0)), (some 51, qe (I (subI .i64 (lenL z1.2.2.2.2.1) 1))), (some 52, qe (.oa 80 0 x8 0)), (some 53, qe (.oa 80 0 x8 0)), (some 54, qe (I x9.f0)), (some 55, qe (.own 80 0)), (some 56, qe (I (subI .i64 (lenL z1.2.2.2.2.1) 1)))] ?_
        refine dv 57 (mkE [(56, I (subI .i64 (lenL z1.2.2.2.2.1) 1)), (55, .own 80 0), (49, B true), (48, B (leI 0 (subI .i64 (lenL z1.2.2.2.2.1) 1))), (47, I (subI .i64 (lenL z1.2.2.2.2.1) 1)), (1, .fn 216 [.ia [LL a63 p1_c0] 0]), (5, .own 40 0), (6, .own 48 0), (7, .own 56 0), (8, .own 64 0), (9, I z0.2.2.2.2), (10, .own 80 0), (11, I z1.2.2.2.2.2), (12, I (subI .i64 (lenL z1.2.2.2.2.1) 1))] [(40, RR 3 1 I z1.1 0 false), (48, RR 3 1 I z1.2.1 0 false), (56, RR 64 4 a63 z1.2.2.1 0 false), (64, RR 64 4 a63 z1.2.2.2.1 0 false), (80, RR 64 4 a63 z1.2.2.2.2.1 0 false)] 149) (addrOE 65 64 4 80 0 false a63 .i64 z1.2.2.2.2.1 (subI .i64 (lenL z1.2.2.2.2.1) 1)) (fun x10 => ?_)
        refine dg 12 [(some 47, qe (I (subI .i64 (lenL z1.2.2.2.2.1) 1))), (some 48, qe (B (leI 0 (subI .i64 (lenL z1.2.2.2.2.1) 1)))), (some 49, qe (B true)), (some 50, qe (.own 80 0)), (some 51, qe (I (subI .i64 (lenL z1.2.2.2.2.1) 1))), (some 52, qe (.oa 80 0 x8 0)), (some 53, qe (.oa 80 0 x8 0)), (some 54, qe (I x9.f0)), (some 55, qe (.own 80 0)), (some 56, qe (I (subI .i64 (lenL z1.2.2.2.2.1) 1))), (some 57, qe (.oa 80 0 x10 0)), (some 58, qe (.oa 80 0 x10 2))] ?_
        refine dv 59 (mkE [(58, .oa 80 0 x10 2), (57, .oa 80 0 x10 0), (56, I (subI .i64 (lenL z1.2.2.2.2.1) 1)), (55, .own 80 0), (49, B true), (48, B (leI 0 (subI .i64 (lenL z1.2.2.2.2.1) 1))), (47, I (subI .i64 (lenL z1.2.2.2.2.1) 1)), (1, .fn 216 [.ia [LL a63 p1_c0] 0]), (5, .own 40 0), (6, .own 48 0), (7, .own 56 0), (8, .own 64 0), (9, I z0.2.2.2.2), (10, .own 80 0), (11, I z1.2.2.2.2.2), (12, I (subI .i64 (lenL z1.2.2.2.2.1) 1))] [(40, RR 3 1 I z1.1 0 false), (48, RR 3 1 I z1.2.1 0 false), (56, RR 64 4 a63 z1.2.2.1 0 false), (64, RR 64 4 a63 z1.2.2.2.1 0 false), (80, RR 64 4 a63 z1.2.2.2.2.1 0 false)] 149) (loadOE 3 80 0 x10 2 64 4 1 false false a63 (fun q : S63 => I q.f2) z1.2.2.2.2.1) (fun x11 => ?_)
        refine dg 16 [(some 47, qe (I (subI .i64 (lenL z1.2.2.2.2.1) 1))), (some 48, qe (B (leI 0 (subI .i64 (lenL z1.2.2.2.2.1) 1)))), (some 49, qe (B true)), (some 50, qe (.own 80 0)), (some 51, qe (I (subI .i64 (lenL z1.2.2.2.2.1) 1))), (some 52, qe (.oa 80 0 x8 0)), (some 53, qe (.oa 80 0 x8 0)), (some 54, qe (I x9.f0)), (some 55, qe (.own 80 0)), (some 56, qe (I (subI .i64 (lenL z1.2.2.2.2.1) 1))), (some 57, qe (.oa 80 0 x10 0)), (some 58, qe (.oa 80 0 x10 2)), (some 59, qe (I x11.f2)), (some 60, qe (I (addI .i64 x9.f0 x11.f2))), (some 61, qe (.own 40 0)), (some 62, qe (I z1.2.2.2.2.2))] ?_
        refine dv 63 (mkE [(62, I z1.2.2.2.2.2), (61, .own 40 0), (49, B true), (48, B (leI 0 (subI .i64 (lenL z1.2.2.2.2.1) 1))), (47, I (subI .i64 (lenL z1.2.2.2.2.1) 1)), (1, .fn 216 [.ia [LL a63 p1_c0] 0]), (5, .own 40 0), (6, .own 48 0), (7, .own 56 0), (8, .own 64 0), (9, I z0.2.2.2.2), (10, .own 80 0), (11, I z1.2.2.2.2.2), (12, I (subI .i64 (lenL z1.2.2.2.2.1) 1))] [(40, RR 3 1 I z1.1 0 false), (48, RR 3 1 I z1.2.1 0 false), (56, RR 64 4 a63 z1.2.2.1 0 false), (64, RR 64 4 a63 z1.2.2.2.1 0 false), (80, RR 64 4 a63 z1.2.2.2.2.1 0 false)] 149) (addrOE 104 3 1 40 0 false I .i64 z1.1 z1.2.2.2.2.2) (fun x12 => ?_)
        refine dv 64 (mkE [(63, .oa 40 0 x12 0), (62, I z1.2.2.2.2.2), (61, .own 40 0), (49, B true), (48, B (leI 0 (subI .i64 (lenL z1.2.2.2.2.1) 1))), (47, I (subI .i64 (lenL z1.2.2.2.2.1) 1)), (1, .fn 216 [.ia [LL a63 p1_c0] 0]), (5, .own 40 0), (6, .own 48 0), (7, .own 56 0), (8, .own 64 0), (9, I z0.2.2.2.2), (10, .own 80 0), (11, I z1.2.2.2.2.2), (12, I (subI .i64 (lenL z1.2.2.2.2.1) 1))] [(40, RR 3 1 I z1.1 0 false), (48, RR 3 1 I z1.2.1 0 false), (56, RR 64 4 a63 z1.2.2.1 0 false), (64, RR 64 4 a63 z1.2.2.2.1 0 false), (80, RR 64 4 a63 z1.2.2.2.2.1 0 false)] 149) (loadOE 3 40 0 x12 0 3 1 1 false false I (fun q : Int => I q) z1.1) (fun x13 => ?_)
        refine dg 20 [(some 47, qe (I (subI .i64 (lenL z1.2.2.2.2.1) 1))), (some 48, qe (B (leI 0 (subI .i64 (lenL z1.2.2.2.2.1) 1)))), (some 49, qe (B true)), (some 50, qe (.own 80 0)), (some 51, qe (I (subI .i64 (lenL z1.2.2.2.2.1) 1))), (some 52, qe (.oa 80 0 x8 0)), (some 53, qe (.oa 80 0 x8 0)), (some 54, qe (I x9.f0)), (some 55, qe (.own 80 0)), (some 56, qe (I (subI .i64 (lenL z1.2.2.2.2.1) 1))), (some 57, qe (.oa 80 0 x10 0)), (some 58, qe (.oa 80 0 x10 2)), (some 59, qe (I x11.f2)), (some 60, qe (I (addI .i64 x9.f0 x11.f2))), (some 61, qe (.own 40 0)), (some 62, qe (I z1.2.2.2.2.2)), (some 63, qe (.oa 40 0 x12 0)), (some 64, qe (I x13)), (some 65, qe (B (eqI (addI .i64 x9.f0 x11.f2) x13))), (some 66, qe (B (eqI (addI .i64 x9.f0 x11.f2) x13)))] ?_
        refine de (mkE [(66, B (eqI (addI .i64 x9.f0 x11.f2) x13)), (65, B (eqI (addI .i64 x9.f0 x11.f2) x13)), (64, I x13), (63, .oa 40 0 x12 0), (62, I z1.2.2.2.2.2), (61, .own 40 0), (60, I (addI .i64 x9.f0 x11.f2)), (59, I x11.f2), (58, .oa 80 0 x10 2), (57, .oa 80 0 x10 0), (56, I (subI .i64 (lenL z1.2.2.2.2.1) 1)), (55, .own 80 0), (54, I x9.f0), (53, .oa 80 0 x8 0), (52, .oa 80 0 x8 0), (51, I (subI .i64 (lenL z1.2.2.2.2.1) 1)), (50, .own 80 0), (49, B true), (48, B (leI 0 (subI .i64 (lenL z1.2.2.2.2.1) 1))), (47, I (subI .i64 (lenL z1.2.2.2.2.1) 1)), (1, .fn 216 [.ia [LL a63 p1_c0] 0]), (5, .own 40 0), (6, .own 48 0), (7, .own 56 0), (8, .own 64 0), (9, I z0.2.2.2.2), (10, .own 80 0), (11, I z1.2.2.2.2.2), (12, I (subI .i64 (lenL z1.2.2.2.2.1) 1))] [(40, RR 3 1 I z1.1 0 false), (48, RR 3 1 I z1.2.1 0 false), (56, RR 64 4 a63 z1.2.2.1 0 false), (64, RR 64 4 a63 z1.2.2.2.1 0 false), (80, RR 64 4 a63 z1.2.2.2.2.1 0 false)] 149) ?_
        refine se (mkE [(1, .fn 216 [.ia [LL a63 p1_c0] 0]), (5, .own 40 0), (6, .own 48 0), (7, .own 56 0), (8, .own 64 0), (9, I z0.2.2.2.2), (10, .own 80 0), (11, I z1.2.2.2.2.2), (12, I (subI .i64 (lenL z1.2.2.2.2.1) 1)), (66, B (eqI (addI .i64 x9.f0 x11.f2) x13))] [(40, RR 3 1 I z1.1 0 false), (48, RR 3 1 I z1.2.1 0 false), (56, RR 64 4 a63 z1.2.2.1 0 false), (64, RR 64 4 a63 z1.2.2.2.1 0 false), (80, RR 64 4 a63 z1.2.2.2.2.1 0 false)] 149) ?_
        refine pN ?_
        refine pS ?_
        refine gC 66 (eqI (addI .i64 x9.f0 x11.f2) x13) ?_ ?_
        · refine gD 14 15 (rg Try.f215 14) [0, 1, 2, 3, 4, 5, 6, 7, 8, 9, 10, 11, 12, 13, 14, 15] ?_
          refine dg 5 [(some 67, qe (.own 80 0)), (some 68, qe (I (subI .i64 (lenL z1.2.2.2.2.1) 1))), (some 69, qe (.own 40 0)), (some 70, qe (I z1.2.2.2.2.2)), (some 71, qe (I (addI .i64 z1.2.2.2.2.2 1)))] ?_
          refine dv 72 (mkE [(71, I (addI .i64 z1.2.2.2.2.2 1)), (70, I z1.2.2.2.2.2), (69, .own 40 0), (1, .fn 216 [.ia [LL a63 p1_c0] 0]), (5, .own 40 0), (6, .own 48 0), (7, .own 56 0), (8, .own 64 0), (9, I z0.2.2.2.2), (10, .own 80 0), (11, I z1.2.2.2.2.2), (12, I (subI .i64 (lenL z1.2.2.2.2.1) 1)), (66, B (eqI (addI .i64 x9.f0 x11.f2) x13))] [(40, RR 3 1 I z1.1 0 false), (48, RR 3 1 I z1.2.1 0 false), (56, RR 64 4 a63 z1.2.2.1 0 false), (64, RR 64 4 a63 z1.2.2.2.1 0 false), (80, RR 64 4 a63 z1.2.2.2.2.1 0 false)] 149) (addrOE 104 3 1 40 0 false I .i64 z1.1 (addI .i64 z1.2.2.2.2.2 1)) (fun x14 => ?_)
          refine dv 73 (mkE [(72, .oa 40 0 x14 0), (71, I (addI .i64 z1.2.2.2.2.2 1)), (70, I z1.2.2.2.2.2), (69, .own 40 0), (1, .fn 216 [.ia [LL a63 p1_c0] 0]), (5, .own 40 0), (6, .own 48 0), (7, .own 56 0), (8, .own 64 0), (9, I z0.2.2.2.2), (10, .own 80 0), (11, I z1.2.2.2.2.2), (12, I (subI .i64 (lenL z1.2.2.2.2.1) 1)), (66, B (eqI (addI .i64 x9.f0 x11.f2) x13))] [(40, RR 3 1 I z1.1 0 false), (48, RR 3 1 I z1.2.1 0 false), (56, RR 64 4 a63 z1.2.2.1 0 false), (64, RR 64 4 a63 z1.2.2.2.1 0 false), (80, RR 64 4 a63 z1.2.2.2.2.1 0 false)] 149) (loadOE 3 40 0 x14 0 3 1 1 false false I (fun q : Int => I q) z1.1) (fun x15 => ?_)
          refine dg 9 [(some 67, qe (.own 80 0)), (some 68, qe (I (subI .i64 (lenL z1.2.2.2.2.1) 1))), (some 69, qe (.own 40 0)), (some 70, qe (I z1.2.2.2.2.2)), (some 71, qe (I (addI .i64 z1.2.2.2.2.2 1))), (some 72, qe (.oa 40 0 x14 0)), (some 73, qe (I x15)), (some 74, qe (.own 80 0)), (some 75, qe (I (subI .i64 (lenL z1.2.2.2.2.1) 1)))] ?_
          refine dv 76 (mkE [(75, I (subI .i64 (lenL z1.2.2.2.2.1) 1)), (74, .own 80 0), (1, .fn 216 [.ia [LL a63 p1_c0] 0]), (5, .own 40 0), (6, .own 48 0), (7, .own 56 0), (8, .own 64 0), (9, I z0.2.2.2.2), (10, .own 80 0), (11, I z1.2.2.2.2.2), (12, I (subI .i64 (lenL z1.2.2.2.2.1) 1)), (66, B (eqI (addI .i64 x9.f0 x11.f2) x13))] [(40, RR 3 1 I z1.1 0 false), (48, RR 3 1 I z1.2.1 0 false), (56, RR 64 4 a63 z1.2.2.1 0 false), (64, RR 64 4 a63 z1.2.2.2.1 0 false), (80, RR 64 4 a63 z1.2.2.2.2.1 0 false)] 149) (addrOE 65 64 4 80 0 false a63 .i64 z1.2.2.2.2.1 (subI .i64 (lenL z1.2.2.2.2.1) 1)) (fun x16 => ?_)
          refine dg 11 [(some 67, qe (.own 80 0)), (some 68, qe (I (subI .i64 (lenL z1.2.2.2.2.1) 1))), (some 69, qe (.own 40 0)), (some 70, qe (I z1.2.2.2.2.2)), (some 71, qe (I (addI .i64 z1.2.2.2.2.2 1))), (some 72, qe (.oa 40 0 x14 0)), (some 73, qe (I x15)), (some 74, qe (.own 80 0)), (some 75, qe (I (subI .i64 (lenL z1.2.2.2.2.1) 1))), (some 76, qe (.oa 80 0 x16 0)), (some 77, qe (.oa 80 0 x16 0))] ?_
          refine dv 78 (mkE [(77, .oa 80 0 x16 0), (76, .oa 80 0 x16 0), (75, I (subI .i64 (lenL z1.2.2.2.2.1) 1)), (74, .own 80 0), (1, .fn 216 [.ia [LL a63 p1_c0] 0]), (5, .own 40 0), (6, .own 48 0), (7, .own 56 0), (8, .own 64 0), (9, I z0.2.2.2.2), (10, .own 80 0), (11, I z1.2.2.2.2.2), (12, I (subI .i64 (lenL z1.2.2.2.2.1) 1)), (66, B (eqI (addI .i64 x9.f0 x11.f2) x13))] [(40, RR 3 1 I z1.1 0 false), (48, RR 3 1 I z1.2.1 0 false), (56, RR 64 4 a63 z1.2.2.1 0 false), (64, RR 64 4 a63 z1.2.2.2.1 0 false), (80, RR 64 4 a63 z1.2.2.2.2.1 0 false)] 149) (loadOE 3 80 0 x16 0 64 4 1 false false a63 (fun q : S63 => I q.f0) z1.2.2.2.2.1) (fun x17 => ?_)
          refine dg 13 [(some 67, qe (.own 80 0)), (some 68, qe (I (subI .i64 (lenL z1.2.2.2.2.1) 1))), (some 69, qe (.own 40 0)), (some 70, qe (I z1.2.2.2.2.2)), (some 71, qe (I (addI .i64 z1.2.2.2.2.2 1))), (some 72, qe (.oa 40 0 x14 0)), (some 73, qe (I x15)), (some 74, qe (.own 80 0)), (some 75, qe (I (subI .i64 (lenL z1.2.2.2.2.1) 1))), (some 76, qe (.oa 80 0 x16 0)), (some 77, qe (.oa 80 0 x16 0)), (some 78, qe (I x17.f0)), (some 79, qe (I (subI .i64 x15 x17.f0)))] ?_
          refine dv 80 (mkE [(79, I (subI .i64 x15 x17.f0)), (78, I x17.f0), (77, .oa 80 0 x16 0), (76, .oa 80 0 x16 0), (75, I (subI .i64 (lenL z1.2.2.2.2.1) 1)), (74, .own 80 0), (73, I x15), (72, .oa 40 0 x14 0), (71, I (addI .i64 z1.2.2.2.2.2 1)), (70, I z1.2.2.2.2.2), (69, .own 40 0), (68, I (subI .i64 (lenL z1.2.2.2.2.1) 1)), (67, .own 80 0), (1, .fn 216 [.ia [LL a63 p1_c0] 0]), (5, .own 40 0), (6, .own 48 0), (7, .own 56 0), (8, .own 64 0), (9, I z0.2.2.2.2), (10, .own 80 0), (11, I z1.2.2.2.2.2), (12, I (subI .i64 (lenL z1.2.2.2.2.1) 1)), (66, B (eqI (addI .i64 x9.f0 x11.f2) x13))] [(40, RR 3 1 I z1.1 0 false), (48, RR 3 1 I z1.2.1 0 false), (56, RR 64 4 a63 z1.2.2.1 0 false), (64, RR 64 4 a63 z1.2.2.2.1 0 false), (80, RR 64 4 a63 z1.2.2.2.2.1 0 false)] 149) (addrOE 65 64 4 80 0 false a63 .i64 z1.2.2.2.2.1 (subI .i64 (lenL z1.2.2.2.2.1) 1)) (fun x18 => ?_)
          refine dg 15 [(some 67, qe (.own 80 0)), (some 68, qe (I (subI .i64 (lenL z1.2.2.2.2.1) 1))), (some 69, qe (.own 40 0)), (some 70, qe (I z1.2.2.2.2.2)), (some 71, qe (I (addI .i64 z1.2.2.2.2.2 1))), (some 72, qe (.oa 40 0 x14 0)), (some 73, qe (I x15)), (some 74, qe (.own 80 0)), (some 75, qe (I (subI .i64 (lenL z1.2.2.2.2.1) 1))), (some 76, qe (.oa 80 0 x16 0)), (some 77, qe (.oa 80 0 x16 0)), (some 78, qe (I x17.f0)), (some 79, qe (I (subI .i64 x15 x17.f0))), (some 80, qe (.oa 80 0 x18 0)), (some 81, qe (.oa 80 0 x18 2))] ?_
          refine de (mkE [(81, .oa 80 0 x18 2), (80, .oa 80 0 x18 0), (79, I (subI .i64 x15 x17.f0)), (78, I x17.f0), (77, .oa 80 0 x16 0), (76, .oa 80 0 x16 0), (75, I (subI .i64 (lenL z1.2.2.2.2.1) 1)), (74, .own 80 0), (73, I x15), (72, .oa 40 0 x14 0), (71, I (addI .i64 z1.2.2.2.2.2 1)), (70, I z1.2.2.2.2.2), (69, .own 40 0), (68, I (subI .i64 (lenL z1.2.2.2.2.1) 1)), (67, .own 80 0), (1, .fn 216 [.ia [LL a63 p1_c0] 0]), (5, .own 40 0), (6, .own 48 0), (7, .own 56 0), (8, .own 64 0), (9, I z0.2.2.2.2), (10, .own 80 0), (11, I z1.2.2.2.2.2), (12, I (subI .i64 (lenL z1.2.2.2.2.1) 1)), (66, B (eqI (addI .i64 x9.f0 x11.f2) x13))] [(40, RR 3 1 I z1.1 0 false), (48, RR 3 1 I z1.2.1 0 false), (56, RR 64 4 a63 z1.2.2.1 0 false), (64, RR 64 4 a63 z1.2.2.2.1 0 false), (80, RR 64 4 a63 z1.2.2.2.2.1 0 false)] 149) ?_
          refine mo none (stO 64 4 80 0 x18 2 a63 z1.2.2.2.2.1 [] [I (subI .i64 x15 x17.f0)] (I (subI .i64 x15 x17.f0)) (fun q : S63 => (S63.mk q.f0 q.f1 (subI .i64 x15 x17.f0) q.f3)) 3 (.tmp 81) (.tmp 79) 1) (fun x19 => ?_)
          refine se (mkE [(1, .fn 216 [.ia [LL a63 p1_c0] 0]), (5, .own 40 0), (6, .own 48 0), (7, .own 56 0), (8, .own 64 0), (9, I z0.2.2.2.2), (10, .own 80 0), (11, I z1.2.2.2.2.2)] [(40, RR 3 1 I z1.1 0 false), (48, RR 3 1 I z1.2.1 0 false), (56, RR 64 4 a63 z1.2.2.1 0 false), (64, RR 64 4 a63 z1.2.2.2.1 0 false), (80, RR 64 4 a63 (List.set z1.2.2.2.2.1 x18 (S63.mk x19.f0 x19.f1 (subI .i64 x15 x17.f0) x19.f3)) 0 false)] 149) ?_
          refine pB ?_
          refine pN ?_
          refine pS ?_
          refine gR 10 (rg Try.f215 10) ?_
          refine se (mkE [(1, .fn 216 [.ia [LL a63 p1_c0] 0]), (5, .own 40 0), (6, .own 48 0), (7, .own 56 0), (8, .own 64 0), (9, I z0.2.2.2.2), (10, .own 80 0), (11, I (addI .i64 z1.2.2.2.2.2 1))] [(40, RR 3 1 I z1.1 0 false), (48, RR 3 1 I z1.2.1 0 false), (56, RR 64 4 a63 z1.2.2.1 0 false), (64, RR 64 4 a63 z1.2.2.2.1 0 false), (80, RR 64 4 a63 (List.set z1.2.2.2.2.1 x18 (S63.mk x19.f0 x19.f1 (subI .i64 x15 x17.f0) x19.f3)) 0 false)] 149) ?_
          exact pL
        · refine gD 15 31 (rg Try.f215 15) [0, 1, 2, 3, 4, 5, 6, 7, 8, 9, 10, 11, 12, 13, 14, 15, 16, 17, 18, 19, 20, 21, 22, 23, 24, 25, 26, 27, 28, 29, 30, 31, 32] ?_
          refine dg 3 [(some 82, qe (.own 80 0)), (some 83, qe (.own 40 0)), (some 84, qe (I z1.2.2.2.2.2))] ?_
          refine dv 85 (mkE [(84, I z1.2.2.2.2.2), (83, .own 40 0), (1, .fn 216 [.ia [LL a63 p1_c0] 0]), (5, .own 40 0), (6, .own 48 0), (7, .own 56 0), (8, .own 64 0), (9, I z0.2.2.2.2), (10, .own 80 0), (11, I z1.2.2.2.2.2), (12, I (subI .i64 (lenL z1.2.2.2.2.1) 1)), (66, B (eqI (addI .i64 x9.f0 x11.f2) x13))] [(40, RR 3 1 I z1.1 0 false), (48, RR 3 1 I z1.2.1 0 false), (56, RR 64 4 a63 z1.2.2.1 0 false), (64, RR 64 4 a63 z1.2.2.2.1 0 false), (80, RR 64 4 a63 z1.2.2.2.2.1 0 false)] 149) (addrOE 104 3 1 40 0 false I .i64 z1.1 z1.2.2.2.2.2) (fun x20 => ?_)
          refine dv 86 (mkE [(85, .oa 40 0 x20 0), (84, I z1.2.2.2.2.2), (83, .own 40 0), (1, .fn 216 [.ia [LL a63 p1_c0] 0]), (5, .own 40 0), (6, .own 48 0), (7, .own 56 0), (8, .own 64 0), (9, I z0.2.2.2.2), (10, .own 80 0), (11, I z1.2.2.2.2.2), (12, I (subI .i64 (lenL z1.2.2.2.2.1) 1)), (66, B (eqI (addI .i64 x9.f0 x11.f2) x13))] [(40, RR 3 1 I z1.1 0 false), (48, RR 3 1 I z1.2.1 0 false), (56, RR 64 4 a63 z1.2.2.1 0 false), (64, RR 64 4 a63 z1.2.2.2.1 0 false), (80, RR 64 4 a63 z1.2.2.2.2.1 0 false)] 149) (loadOE 3 40 0 x20 0 3 1 1 false false I (fun q : Int => I q) z1.1) (fun x21 => ?_)
          refine dg 7 [(some 82, qe (.own 80 0)), (some 83, qe (.own 40 0)), (some 84, qe (I z1.2.2.2.2.2)), (some 85, qe (.oa 40 0 x20 0)), (some 86, qe (I x21)), (some 87, qe (.own 48 0)), (some 88, qe (I z0.2.2.2.2))] ?_
          refine dv 89 (mkE [(88, I z0.2.2.2.2), (87, .own 48 0), (1, .fn 216 [.ia [LL a63 p1_c0] 0]), (5, .own 40 0), (6, .own 48 0), (7, .own 56 0), (8, .own 64 0), (9, I z0.2.2.2.2), (10, .own 80 0), (11, I z1.2.2.2.2.2), (12, I (subI .i64 (lenL z1.2.2.2.2.1) 1)), (66, B (eqI (addI .i64 x9.f0 x11.f2) x13))] [(40, RR 3 1 I z1.1 0 false), (48, RR 3 1 I z1.2.1 0 false), (56, RR 64 4 a63 z1.2.2.1 0 false), (64, RR 64 4 a63 z1.2.2.2.1 0 false), (80, RR 64 4 a63 z1.2.2.2.2.1 0 false)] 149) (addrOE 104 3 1 48 0 false I .i64 z1.2.1 z0.2.2.2.2) (fun x22 => ?_)
          refine dv 90 (mkE [(89, .oa 48 0 x22 0), (88, I z0.2.2.2.2), (87, .own 48 0), (1, .fn 216 [.ia [LL a63 p1_c0] 0]), (5, .own 40 0), (6, .own 48 0), (7, .own 56 0), (8, .own 64 0), (9, I z0.2.2.2.2), (10, .own 80 0), (11, I z1.2.2.2.2.2), (12, I (subI .i64 (lenL z1.2.2.2.2.1) 1)), (66, B (eqI (addI .i64 x9.f0 x11.f2) x13))] [(40, RR 3 1 I z1.1 0 false), (48, RR 3 1 I z1.2.1 0 false), (56, RR 64 4 a63 z1.2.2.1 0 false), (64, RR 64 4 a63 z1.2.2.2.1 0 false), (80, RR 64 4 a63 z1.2.2.2.2.1 0 false)] 149) (loadOE 3 48 0 x22 0 3 1 1 false false I (fun q : Int => I q) z1.2.1) (fun x23 => ?_)
          refine dg 12 [(some 82, qe (.own 80 0)), (some 83, qe (.own 40 0)), (some 84, qe (I z1.2.2.2.2.2)), (some 85, qe (.oa 40 0 x20 0)), (some 86, qe (I x21)), (some 87, qe (.own 48 0)), (some 88, qe (I z0.2.2.2.2)), (some 89, qe (.oa 48 0 x22 0)), (some 90, qe (I x23)), (some 91, qe (.own 40 0)), (some 92, qe (I z1.2.2.2.2.2)), (some 93, qe (I (addI .i64 z1.2.2.2.2.2 1)))] ?_
          refine dv 94 (mkE [(93, I (addI .i64 z1.2.2.2.2.2 1)), (92, I z1.2.2.2.2.2), (91, .own 40 0), (1, .fn 216 [.ia [LL a63 p1_c0] 0]), (5, .own 40 0), (6, .own 48 0), (7, .own 56 0), (8, .own 64 0), (9, I z0.2.2.2.2), (10, .own 80 0), (11, I z1.2.2.2.2.2), (12, I (subI .i64 (lenL z1.2.2.2.2.1) 1)), (66, B (eqI (addI .i64 x9.f0 x11.f2) x13))] [(40, RR 3 1 I z1.1 0 false), (48, RR 3 1 I z1.2.1 0 false), (56, RR 64 4 a63 z1.2.2.1 0 false), (64, RR 64 4 a63 z1.2.2.2.1 0 false), (80, RR 64 4 a63 z1.2.2.2.2.1 0 false)] 149) (addrOE 104 3 1 40 0 false I .i64 z1.1 (addI .i64 z1.2.2.2.2.2 1)) (fun x24 => ?_)
          refine dv 95 (mkE [(94, .oa 40 0 x24 0), (93, I (addI .i64 z1.2.2.2.2.2 1)), (92, I z1.2.2.2.2.2), (91, .own 40 0), (1, .fn 216 [.ia [LL a63 p1_c0] 0]), (5, .own 40 0), (6, .own 48 0), (7, .own 56 0), (8, .own 64 0), (9, I z0.2.2.2.2), (10, .own 80 0), (11, I z1.2.2.2.2.2), (12, I (subI .i64 (lenL z1.2.2.2.2.1) 1)), (66, B (eqI (addI .i64 x9.f0 x11.f2) x13))] [(40, RR 3 1 I z1.1 0 false), (48, RR 3 1 I z1.2.1 0 false), (56, RR 64 4 a63 z1.2.2.1 0 false), (64, RR 64 4 a63 z1.2.2.2.1 0 false), (80, RR 64 4 a63 z1.2.2.2.2.1 0 false)] 149) (loadOE 3 40 0 x24 0 3 1 1 false false I (fun q : Int => I q) z1.1) (fun x25 => ?_)
          refine dg 16 [(some 82, qe (.own 80 0)), (some 83, qe (.own 40 0)), (some 84, qe (I z1.2.2.2.2.2)), (some 85, qe (.oa 40 0 x20 0)), (some 86, qe (I x21)), (some 87, qe (.own 48 0)), (some 88, qe (I z0.2.2.2.2)), (some 89, qe (.oa 48 0 x22 0)), (some 90, qe (I x23)), (some 91, qe (.own 40 0)), (some 92, qe (I z1.2.2.2.2.2)), (some 93, qe (I (addI .i64 z1.2.2.2.2.2 1))), (some 94, qe (.oa 40 0 x24 0)), (some 95, qe (I x25)), (some 96, qe (.own 40 0)), (some 97, qe (I z1.2.2.2.2.2))] ?_
          refine dv 98 (mkE [(97, I z1.2.2.2.2.2), (96, .own 40 0), (1, .fn 216 [.ia [LL a63 p1_c0] 0]), (5, .own 40 0), (6, .own 48 0), (7, .own 56 0), (8, .own 64 0), (9, I z0.2.2.2.2), (10, .own 80 0), (11, I z1.2.2.2.2.2), (12, I (subI .i64 (lenL z1.2.2.2.2.1) 1)), (66, B (eqI (addI .i64 x9.f0 x11.f2) x13))] [(40, RR 3 1 I z1.1 0 false), (48, RR 3 1 I z1.2.1 0 false), (56, RR 64 4 a63 z1.2.2.1 0 false), (64, RR 64 4 a63 z1.2.2.2.1 0 false), (80, RR 64 4 a63 z1.2.2.2.2.1 0 false)] 149) (addrOE 104 3 1 40 0 false I .i64 z1.1 z1.2.2.2.2.2) (fun x26 => ?_)
          refine dv 99 (mkE [(98, .oa 40 0 x26 0), (97, I z1.2.2.2.2.2), (96, .own 40 0), (1, .fn 216 [.ia [LL a63 p1_c0] 0]), (5, .own 40 0), (6, .own 48 0), (7, .own 56 0), (8, .own 64 0), (9, I z0.2.2.2.2), (10, .own 80 0), (11, I z1.2.2.2.2.2), (12, I (subI .i64 (lenL z1.2.2.2.2.1) 1)), (66, B (eqI (addI .i64 x9.f0 x11.f2) x13))] [(40, RR 3 1 I z1.1 0 false), (48, RR 3 1 I z1.2.1 0 false), (56, RR 64 4 a63 z1.2.2.1 0 false), (64, RR 64 4 a63 z1.2.2.2.1 0 false), (80, RR 64 4 a63 z1.2.2.2.2.1 0 false)] 149) (loadOE 3 40 0 x26 0 3 1 1 false false I (fun q : Int => I q) z1.1) (fun x27 => ?_)
          refine dg 22 [(some 82, qe (.own 80 0)), (some 83, qe (.own 40 0)), (some 84, qe (I z1.2.2.2.2.2)), (some 85, qe (.oa 40 0 x20 0)), (some 86, qe (I x21)), (some 87, qe (.own 48 0)), (some 88, qe (I z0.2.2.2.2)), (some 89, qe (.oa 48 0 x22 0)), (some 90, qe (I x23)), (some 91, qe (.own 40 0)), (some 92, qe (I z1.2.2.2.2.2)), (some 93, qe (I (addI .i64 z1.2.2.2.2.2 1))), (some 94, qe (.oa 40 0 x24 0)), (some 95, qe (I x25)), (some 96, qe (.own 40 0)), (some 97, qe (I z1.2.2.2.2.2)), (some 98, qe (.oa 40 0 x26 0)), (some 99, qe (I x27)), (some 100, qe (I (subI .i64 x25 x27))), (some 101, qe (.own 48 0)), (some 102, qe (I z0.2.2.2.2)), (some 103, qe (I (addI .i64 z0.2.2.2.2 1)))] ?_
          refine dv 104 (mkE [(103, I (addI .i64 z0.2.2.2.2 1)), (102, I z0.2.2.2.2), (101, .own 48 0), (1, .fn 216 [.ia [LL a63 p1_c0] 0]), (5, .own 40 0), (6, .own 48 0), (7, .own 56 0), (8, .own 64 0), (9, I z0.2.2.2.2), (10, .own 80 0), (11, I z1.2.2.2.2.2), (12, I (subI .i64 (lenL z1.2.2.2.2.1) 1)), (66, B (eqI (addI .i64 x9.f0 x11.f2) x13))] [(40, RR 3 1 I z1.1 0 false), (48, RR 3 1 I z1.2.1 0 false), (56, RR 64 4 a63 z1.2.2.1 0 false), (64, RR 64 4 a63 z1.2.2.2.1 0 false), (80, RR 64 4 a63 z1.2.2.2.2.1 0 false)] 149) (addrOE 104 3 1 48 0 false I .i64 z1.2.1 (addI .i64 z0.2.2.2.2 1)) (fun x28 => ?_)
          refine dv 105 (mkE [(104, .oa 48 0 x28 0), (103, I (addI .i64 z0.2.2.2.2 1)), (102, I z0.2.2.2.2), (101, .own 48 0), (1, .fn 216 [.ia [LL a63 p1_c0] 0]), (5, .own 40 0), (6, .own 48 0), (7, .own 56 0), (8, .own 64 0), (9, I z0.2.2.2.2), (10, .own 80 0), (11, I z1.2.2.2.2.2), (12, I (subI .i64 (lenL z1.2.2.2.2.1) 1)), (66, B (eqI (addI .i64 x9.f0 x11.f2) x13))] [(40, RR 3 1 I z1.1 0 false), (48, RR 3 1 I z1.2.1 0 false), (56, RR 64 4 a63 z1.2.2.1 0 false), (64, RR 64 4 a63 z1.2.2.2.1 0 false), (80, RR 64 4 a63 z1.2.2.2.2.1 0 false)] 149) (loadOE 3 48 0 x28 0 3 1 1 false false I (fun q : Int => I q) z1.2.1) (fun x29 => ?_)
          refine dg 26 [(some 82, qe (.own 80 0)), (some 83, qe (.own 40 0)), (some 84, qe (I z1.2.2.2.2.2)), (some 85, qe (.oa 40 0 x20 0)), (some 86, qe (I x21)), (some 87, qe (.own 48 0)), (some 88, qe (I z0.2.2.2.2)), (some 89, qe (.oa 48 0 x22 0)), (some 90, qe (I x23)), (some 91, qe (.own 40 0)), (some 92, qe (I z1.2.2.2.2.2)), (some 93, qe (I (addI .i64 z1.2.2.2.2.2 1))), (some 94, qe (.oa 40 0 x24 0)), (some 95, qe (I x25)), (some 96, qe (.own 40 0)), (some 97, qe (I z1.2.2.2.2.2)), (some 98, qe (.oa 40 0 x26 0)), (some 99, qe (I x27)), (some 100, qe (I (subI .i64 x25 x27))), (some 101, qe (.own 48 0)), (some 102, qe (I z0.2.2.2.2)), (some 103, qe (I (addI .i64 z0.2.2.2.2 1))), (some 104, qe (.oa 48 0 x28 0)), (some 105, qe (I x29)), (some 106, qe (.own 48 0)), (some 107, qe (I z0.2.2.2.2))] ?_
          refine dv 108 (mkE [(107, I z0.2.2.2.2), (106, .own 48 0), (1, .fn 216 [.ia [LL a63 p1_c0] 0]), (5, .own 40 0), (6, .own 48 0), (7, .own 56 0), (8, .own 64 0), (9, I z0.2.2.2.2), (10, .own 80 0), (11, I z1.2.2.2.2.2), (12, I (subI .i64 (lenL z1.2.2.2.2.1) 1)), (66, B (eqI (addI .i64 x9.f0 x11.f2) x13))] [(40, RR 3 1 I z1.1 0 false), (48, RR 3 1 I z1.2.1 0 false), (56, RR 64 4 a63 z1.2.2.1 0 false), (64, RR 64 4 a63 z1.2.2.2.1 0 false), (80, RR 64 4 a63 z1.2.2.2.2.1 0 false)] 149) (addrOE 104 3 1 48 0 false I .i64 z1.2.1 z0.2.2.2.2) (fun x30 => ?_)
          refine dv 109 (mkE [(108, .oa 48 0 x30 0), (107, I z0.2.2.2.2), (106, .own 48 0), (1, .fn 216 [.ia [LL a63 p1_c0] 0]), (5, .own 40 0), (6, .own 48 0), (7, .own 56 0), (8, .own 64 0), (9, I z0.2.2.2.2), (10, .own 80 0), (11, I z1.2.2.2.2.2), (12, I (subI .i64 (lenL z1.2.2.2.2.1) 1)), (66, B (eqI (addI .i64 x9.f0 x11.f2) x13))] [(40, RR 3 1 I z1.1 0 false), (48, RR 3 1 I z1.2.1 0 false), (56, RR 64 4 a63 z1.2.2.1 0 false), (64, RR 64 4 a63 z1.2.2.2.1 0 false), (80, RR 64 4 a63 z1.2.2.2.2.1 0 false)] 149) (loadOE 3 48 0 x30 0 3 1 1 false false I (fun q : Int => I q) z1.2.1) (fun x31 => ?_)
          refine dg 31 [(some 82, qe (.own 80 0)), (some 83, qe (.own 40 0)), (some 84, qe (I z1.2.2.2.2.2)), (some 85, qe (.oa 40 0 x20 0)), (some 86, qe (I x21)), (some 87, qe (.own 48 0)), (some 88, qe (I z0.2.2.2.2)), (some 89, qe (.oa 48 0 x22 0)), (some 90, qe (I x23)), (some 91, qe (.own 40 0)), (some 92, qe (I z1.2.2.2.2.2)), (some 93, qe (I (addI .i64 z1.2.2.2.2.2 1))), (some 94, qe (.oa 40 0 x24 0)), (some 95, qe (I x25)), (some 96, qe (.own 40 0)), (some 97, qe (I z1.2.2.2.2.2)), (some 98, qe (.oa 40 0 x26 0)), (some 99, qe (I x27)), (some 100, qe (I (subI .i64 x25 x27))), (some 101, qe (.own 48 0)), (some 102, qe (I z0.2.2.2.2)), (some 103, qe (I (addI .i64 z0.2.2.2.2 1))), (some 104, qe (.oa 48 0 x28 0)), (some 105, qe (I x29)), (some 106, qe (.own 48 0)), (some 107, qe (I z0.2.2.2.2)), (some 108, qe (.oa 48 0 x30 0)), (some 109, qe (I x31)), (some 110, qe (I (subI .i64 x29 x31))), (some 111, qe (.agg [I x21, I x23, I (subI .i64 x25 x27), I (subI .i64 x29 x31)])), (some 112, { e := { val := .own 896 0, news := [(896, RR 64 4 a63 ([(S63.mk x21 x23 (subI .i64 x25 x27) (subI .i64 x29 x31))] : List S63) 0 false)] } })] ?_
          refine de (mkE [(112, .own 896 0), (111, .agg [I x21, I x23, I (subI .i64 x25 x27), I (subI .i64 x29 x31)]), (110, I (subI .i64 x29 x31)), (109, I x31), (108, .oa 48 0 x30 0), (107, I z0.2.2.2.2), (106, .own 48 0), (105, I x29), (104, .oa 48 0 x28 0), (103, I (addI .i64 z0.2.2.2.2 1)), (102, I z0.2.2.2.2), (101, .own 48 0), (100, I (subI .i64 x25 x27)), (99, I x27), (98, .oa 40 0 x26 0), (97, I z1.2.2.2.2.2), (96, .own 40 0), (95, I x25), (94, .oa 40 0 x24 0), (93, I (addI .i64 z1.2.2.2.2.2 1)), (92, I z1.2.2.2.2.2), (91, .own 40 0), (90, I x23), (89, .oa 48 0 x22 0), (88, I z0.2.2.2.2), (87, .own 48 0), (86, I x21), (85, .oa 40 0 x20 0), (84, I z1.2.2.2.2.2), (83, .own 40 0), (82, .own 80 0), (1, .fn 216 [.ia [LL a63 p1_c0] 0]), (5, .own 40 0), (6, .own 48 0), (7, .own 56 0), (8, .own 64 0), (9, I z0.2.2.2.2), (10, .own 80 0), (11, I z1.2.2.2.2.2), (12, I (subI .i64 (lenL z1.2.2.2.2.1) 1)), (66, B (eqI (addI .i64 x9.f0 x11.f2) x13))] [(896, RR 64 4 a63 ([(S63.mk x21 x23 (subI .i64 x25 x27) (subI .i64 x29 x31))] : List S63) 0 false), (40, RR 3 1 I z1.1 0 false), (48, RR 3 1 I z1.2.1 0 false), (56, RR 64 4 a63 z1.2.2.1 0 false), (64, RR 64 4 a63 z1.2.2.2.1 0 false), (80, RR 64 4 a63 z1.2.2.2.2.1 0 false)] 149) ?_
          refine mo (some 113) (apO 65 64 4 32 80 a63 0 [896] (y := .own 896 0) (l2 := ([(S63.mk x21 x23 (subI .i64 x25 x27) (subI .i64 x29 x31))] : List S63))) (fun x32 => ?_)
          refine se (mkE [(1, .fn 216 [.ia [LL a63 p1_c0] 0]), (5, .own 40 0), (6, .own 48 0), (7, .own 56 0), (8, .own 64 0), (9, I z0.2.2.2.2), (10, .own 80 1), (11, I z1.2.2.2.2.2)] [(40, RR 3 1 I z1.1 0 false), (48, RR 3 1 I z1.2.1 0 false), (56, RR 64 4 a63 z1.2.2.1 0 false), (64, RR 64 4 a63 z1.2.2.2.1 0 false), (80, RR 64 4 a63 x32 1 false)] 149) ?_
          refine pB ?_
          refine pN ?_
          refine pS ?_
          refine gR 10 (rg Try.f215 10) ?_
          refine se (mkE [(1, .fn 216 [.ia [LL a63 p1_c0] 0]), (5, .own 40 0), (6, .own 48 0), (7, .own 56 0), (8, .own 64 0), (9, I z0.2.2.2.2), (10, .own 80 1), (11, I (addI .i64 z1.2.2.2.2.2 1))] [(40, RR 3 1 I z1.1 0 false), (48, RR 3 1 I z1.2.1 0 false), (56, RR 64 4 a63 z1.2.2.1 0 false), (64, RR 64 4 a63 z1.2.2.2.1 0 false), (80, RR 64 4 a63 x32 1 false)] 149) ?_
          exact pL
      · refine dg 20 [(some 47, qe (I (subI .i64 (lenL z1.2.2.2.2.1) 1))), (some 48, qe (B (leI 0 (subI .i64 (lenL z1.2.2.2.2.1) 1)))), (some 49, qe (B false)), (some 50, qe (.und)), (some 51, qe (.und)), (some 52, qe (.und)), (some 53, qe (.und)), (some 54, qe (.und)), (some 55, qe (.und)), (some 56, qe (.und)), (some 57, qe (.und)), (some 58, qe (.und)), (some 59, qe (.und)), (some 60, qe (.und)), (some 61, qe (.und)), (some 62, qe (.und)), (some 63, qe (.und)), (some 64, qe (.und)), (some 65, qe (.und)), (some 66, qe (B false))] ?_
        refine de (mkE [(66, B false), (65, .und), (64, .und), (63, .und), (62, .und), (61, .und), (60, .und), (59, .und), (58, .und), (57, .und), (56, .und), (55, .und), (54, .und), (53, .und), (52, .und), (51, .und), (50, .und), (49, B false), (48, B (leI 0 (subI .i64 (lenL z1.2.2.2.2.1) 1))), (47, I (subI .i64 (lenL z1.2.2.2.2.1) 1)), (1, .fn 216 [.ia [LL a63 p1_c0] 0]), (5, .own 40 0), (6, .own 48 0), (7, .own 56 0), (8, .own 64 0), (9, I z0.2.2.2.2), (10, .own 80 0), (11, I z1.2.2.2.2.2), (12, I (subI .i64 (lenL z1.2.2.2.2.1) 1))] [(40, RR 3 1 I z1.1 0 false), (48, RR 3 1 I z1.2.1 0 false), (56, RR 64 4 a63 z1.2.2.1 0 false), (64, RR 64 4 a63 z1.2.2.2.1 0 false), (80, RR 64 4 a63 z1.2.2.2.2.1 0 false)] 149) ?_
        refine se (mkE [(1, .fn 216 [.ia [LL a63 p1_c0] 0]), (5, .own 40 0), (6, .own 48 0), (7, .own 56 0), (8, .own 64 0), (9, I z0.2.2.2.2), (10, .own 80 0), (11, I z1.2.2.2.2.2), (12, I (subI .i64 (lenL z1.2.2.2.2.1) 1)), (66, B false)] [(40, RR 3 1 I z1.1 0 false), (48, RR 3 1 I z1.2.1 0 false), (56, RR 64 4 a63 z1.2.2.1 0 false), (64, RR 64 4 a63 z1.2.2.2.1 0 false), (80, RR 64 4 a63 z1.2.2.2.2.1 0 false)] 149) ?_
        refine pN ?_
        refine pS ?_
        refine gF (.tmp 66) ?_
        refine gD 15 31 (rg Try.f215 15) [0, 1, 2, 3, 4, 5, 6, 7, 8, 9, 10, 11, 12, 13, 14, 15, 16, 17, 18, 19, 20, 21, 22, 23, 24, 25, 26, 27, 28, 29, 30, 31, 32] ?_
        refine dg 3 [(some 82, qe (.own 80 0)), (some 83, qe (.own 40 0)), (some 84, qe (I z1.2.2.2.2.2))] ?_
        refine dv 85 (mkE [(84, I z1.2.2.2.2.2), (83, .own 40 0), (1, .fn 216 [.ia [LL a63 p1_c0] 0]), (5, .own 40 0), (6, .own 48 0), (7, .own 56 0), (8, .own 64 0), (9, I z0.2.2.2.2), (10, .own 80 0), (11, I z1.2.2.2.2.2), (12, I (subI .i64 (lenL z1.2.2.2.2.1) 1)), (66, B false)] [(40, RR 3 1 I z1.1 0 false), (48, RR 3 1 I z1.2.1 0 false), (56, RR 64 4 a63 z1.2.2.1 0 false), (64, RR 64 4 a63 z1.2.2.2.1 0 false), (80, RR 64 4 a63 z1.2.2.2.2.1 0 false)] 149) (addrOE 104 3 1 40 0 false I .i64 z1.1 z1.2.2.2.2.2) (fun x33 => ?_)
        refine dv 86 (mkE [(85, .oa 40 0 x33 0), (84, I z1.2.2.2.2.2), (83, .own 40 0), (1, .fn 216 [.ia [LL a63 p1_c0] 0]), (5, .own 40 0), (6, .own 48 0), (7, .own 56 0), (8, .own 64 0), (9, I z0.2.2.2.2), (10, .own 80 0), (11, I z1.2.2.2.2.2), (12, I (subI .i64 (lenL z1.2.2.2.2.1) 1)), (66, B false)] [(40, RR 3 1 I z1.1 0 false), (48, RR 3 1 I z1.2.1 0 false), (56, RR 64 4 a63 z1.2.2.1 0 false), (64, RR 64 4 a63 z1.2.2.2.1 0 false), (80, RR 64 4 a63 z1.2.2.2.2.1 0 false)] 149) (loadOE 3 40 0 x33 0 3 1 1 false false I (fun q : Int => I q) z1.1) (fun x34 => ?_)
        refine dg 7 [(some 82, qe (.own 80 0)), (some 83, qe (.own 40 0)), (some 84, qe (I z1.2.2.2.2.2)), (some 85, qe (.oa 40 0 x33 0)), (some 86, qe (I x34)), (some 87, qe (.own 48 0)), (some 88, qe (I z0.2.2.2.2))] ?_
        refine dv 89 (mkE [(88, I z0.2.2.2.2), (87, .own 48 0), (1, .fn 216 [.ia [LL a63 p1_c0] 0]), (5, .own 40 0), (6, .own 48 0), (7, .own 56 0), (8, .own 64 0), (9, I z0.2.2.2.2), (10, .own 80 0), (11, I z1.2.2.2.2.2), (12, I (subI .i64 (lenL z1.2.2.2.2.1) 1)), (66, B false)] [(40, RR 3 1 I z1.1 0 false), (48, RR 3 1 I z1.2.1 0 false), (56, RR 64 4 a63 z1.2.2.1 0 false), (64, RR 64 4 a63 z1.2.2.2.1 0 false), (80, RR 64 4 a63 z1.2.2.2.2.1 0 false)] 149) (addrOE 104 3 1 48 0 false I .i64 z1.2.1 z0.2.2.2.2) (fun x35 => ?_)
        refine dv 90 (mkE [(89, .oa 48 0 x35 0), (88, I z0.2.2.2.2), (87, .own 48 0), (1, .fn 216 [.ia [LL a63 p1_c0] 0]), (5, .own 40 0), (6, .own 48 0), (7, .own 56 0), (8, .own 64 0), (9, I z0.2.2.2.2), (10, .own 80 0), (11, I z1.2.2.2.2.2), (12, I (subI .i64 (lenL z1.2.2.2.2.1) 1)), (66, B false)] [(40, RR 3 1 I z1.1 0 false), (48, RR 3 1 I z1.2.1 0 false), (56, RR 64 4 a63 z1.2.2.1 0 false), (64, RR 64 4 a63 z1.2.2.2.1 0 false), (80, RR 64 4 a63 z1.2.2.2.2.1 0 false)] 149) (loadOE 3 48 0 x35 0 3 1 1 false false I (fun q : Int => I q) z1.2.1) (fun x36 => ?_)
        refine dg 12 [(some 82, qe (.own 80 0)), (some 83, qe (.own 40 0)), (some 84, qe (I z1.2.2.2.2.2)), (some 85, qe (.oa 40 0 x33 0)), (some 86, qe (I x34)), (some 87, qe (.own 48 0)), (some 88, qe (I z0.2.2.2.2)), (some 89, qe (.oa 48 0 x35 0)), (some 90, qe (I x36)), (some 91, qe (.own 40 0)), (some 92, qe (I z1.2.2.2.2.2)), (some 93, qe (I (addI .i64 z1.2.2.2.2.2 1)))] ?_
        refine dv 94 (mkE [(93, I (addI .i64 z1.2.2.2.2.2 1)), (92, I z1.2.2.2.2.2), (91, .own 40 0), (1, .fn 216 [.ia [LL a63 p1_c0] 0]), (5, .own 40 0), (6, .own 48 0), (7, .own 56 0), (8, .own 64 0), (9, I z0.2.2.2.2), (10, .own 80 0), (11, I z1.2.2.2.2.2), (12, I (subI .i64 (lenL z1.2.2.2.2.1) 1)), (66, B false)] [(40, RR 3 1 I z1.1 0 false), (48, RR 3 1 I z1.2.1 0 false), (56, RR 64 4 a63 z1.2.2.1 0 false), (64, RR 64 4 a63 z1.2.2.2.1 0 false), (80, RR 64 4 a63 z1.2.2.2.2.1 0 false)] 149) (addrOE 104 3 1 40 0 false I .i64 z1.1 (addI .i64 z1.2.2.2.2.2 1)) (fun x37 => ?_)
        refine dv 95 (mkE [(94, .oa 40 0 x37 0), (93, I (addI .i64 z1.2.2.2.2.2 1)), (92, I z1.2.2.2.2.2), (91, .own 40 0), (1, .fn 216 [.ia [LL a63 p1_c0] 0]), (5, .own 40 0), (6, .own 48 0), (7, .own 56 0), (8, .own 64 0), (9, I z0.2.2.2.2), (10, .own 80 0), (11, I z1.2.2.2.2.2), (12, I (subI .i64 (lenL z1.2.2.2.2.1) 1)), (66, B false)] [(40, RR 3 1 I z1.1 0 false), (48, RR 3 1 I z1.2.1 0 false), (56, RR 64 4 a63 z1.2.2.1 0 false), (64, RR 64 4 a63 z1.2.2.2.1 0 false), (80, RR 64 4 a63 z1.2.2.2.2.1 0 false)] 149) (loadOE 3 40 0 x37 0 3 1 1 false false I (fun q : Int => I q) z1.1) (fun x38 => ?_)
        refine dg 16 [(some 82, qe (.own 80 0)), (some 83, qe (.own 40 0)), (some 84, qe (I z1.2.2.2.2.2)), (some 85, qe (.oa 40 0 x33 0)), (some 86, qe (I x34)), (some 87, qe (.own 48 0)), (some 88, qe (I z0.2.2.2.2)), (some 89, qe (.oa 48 0 x35 0)), (some 90, qe (I x36)), (some 91, qe (.own 40 0)), (some 92, qe (I z1.2.2.2.2.2)), (some 93, qe (I (addI .i64 z1.2.2.2.2.2 1))), (some 94, qe (.oa 40 0 x37 0)), (some 95, qe (I x38)), (some 96, qe (.own 40 0)), (some 97, qe (I z1.2.2.2.2.2))] ?_
        refine dv 98 (mkE [(97, I z1.2.2.2.2.2), (96, .own 40 0), (1, .fn 216 [.ia [LL a63 p1_c0] 0]), (5, .own 40 0), (6, .own 48 0), (7, .own 56 0), (8, .own 64 0), (9, I z0.2.2.2.2), (10, .own 80 0), (11, I z1.2.2.2.2.2), (12, I (subI .i64 (lenL z1.2.2.2.2.1) 1)), (66, B false)] [(40, RR 3 1 I z1.1 0 false), (48, RR 3 1 I z1.2.1 0 false), (56, RR 64 4 a63 z1.2.2.1 0 false), (64, RR 64 4 a63 z1.2.2.2.1 0 false), (80, RR 64 4 a63 z1.2.2.2.2.1 0 false)] 149) (addrOE 104 3 1 40 0 false I .i64 z1.1 z1.2.2.2.2.2) (fun x39 => ?_)
        refine dv 99 (mkE [(98, .oa 40 0 x39 0), (97, I z1.2.2.2.2.2), (96, .own 40 0), (1, .fn 216 [.ia [LL a63 p1_c0] 0]), (5, .own 40 0), (6, .own 48 0), (7, .own 56 0), (8, .own 64 0), (9, I z0.2.2.2.2), (10, .own 80 0), (11, I z1.2.2.2.2.2), (12, I (subI .i64 (lenL z1.2.2.2.2.1) 1)), (66, B false)] [(40, RR 3 1 I z1.1 0 false), (48, RR 3 1 I z1.2.1 0 false), (56, RR 64 4 a63 z1.2.2.1 0 false), (64, RR 64 4 a63 z1.2.2.2.1 0 false), (80, RR 64 4 a63 z1.2.2.2.2.1 0 false)] 149) (loadOE 3 40 0 x39 0 3 1 1 false false I (fun q : Int => I q) z1.1) (fun x40 => ?_)
        refine dg 22 [(some 82, qe (.own 80 0)), (some 83, qe (.own 40 0)), (some 84, qe (I z1.2.2.2.2.2)), (some 85, qe (.oa 40 0 x33 0)), (some 86, qe (I x34)), (some 87, qe (.own 48 0)), (some 88, qe (I z0.2.2.2.2)), (some 89, qe (.oa 48 0 x35 0)), (some 90, qe (I x36)), (some 91, qe (.own 40 0)), (some 92, qe (I z1.2.2.2.2.2)), (some 93, qe (I (addI .i64 z1.2.2.2.2.2 1))), (some 94, qe (.oa 40 0 x37 0)), (some 95, qe (I x38)), (some 96, qe (.own 40 0)), (some 97, qe (I z1.2.2.2.2.2)), (some 98, qe (.oa 40 0 x39 0)), (some 99, qe (I x40)), (some 100, qe (I (subI .i64 x38 x40))), (some 101, qe (.own 48 0)), (some 102, qe (I z0.2.2.2.2)), (some 103, qe (I (addI .i64 z0.2.2.2.2 1)))] ?_
        refine dv 104 (mkE [(103, I (addI .i64 z0.2.2.2.2 1)), (102, I z0.2.2.2.2), (101, .own 48 0), (1, .fn 216 [.ia [LL a63 p1_c0] 0]), (5, .own 40 0), (6, .own 48 0), (7, .own 56 0), (8, .own 64 0), (9, I z0.2.2.2.2), (10, .own 80 0), (11, I z1.2.2.2.2.2), (12, I (subI .i64 (lenL z1.2.2.2.2.1) 1)), (66, B false)] [(40, RR 3 1 I z1.1 0 false), (48, RR 3 1 I z1.2.1 0 false), (56, RR 64 4 a63 z1.2.2.1 0 false), (64, RR 64 4 a63 z1.2.2.2.1 0 false), (80, RR 64 4 a63 z1.2.2.2.2.1 0 false)] 149) (addrOE 104 3 1 48 0 false I .i64 z1.2.1 (addI .i64 z0.2.2.2.2 1)) (fun x41 => ?_)
        refine dv 105 (mkE [(104, .oa 48 0 x41 0), (103, I (addI .i64 z0.2.2.2.2 1)), (102, I z0.2.2.2.2), (101, .own 48 0), (1, .fn 216 [.ia [LL a63 p1_c0] 0]), (5, .own 40 0), (6, .own 48 0), (7, .own 56 0), (8, .own 64 0), (9, I z0.2.2.2.2), (10, .own 80 0), (11, I z1.2.2.2.2.2), (12, I (subI .i64 (lenL z1.2.2.2.2.1) 1)), (66, B false)] [(40, RR 3 1 I z1.1 0 false), (48, RR 3 1 I z1.2.1 0 false), (56, RR 64 4 a63 z1.2.2.1 0 false), (64, RR 64 4 a63 z1.2.2.2.1 0 false), (80, RR 64 4 a63 z1.2.2.2.2.1 0 false)] 149) (loadOE 3 48 0 x41 0 3 1 1 false false I (fun q : Int => I q) z1.2.1) (fun x42 => ?_)
        refine dg 26 [(some 82, qe (.own 80 0)), (some 83, qe (.own 40 0)), (some 84, qe (I z1.2.2.2.2.2)), (some 85, qe (.oa 40 0 x33 0)), (some 86, qe (I x34)), (some 87, qe (.own 48 0)), (some 88, qe (I z0.2.2.2.2)), (some 89, qe (.oa 48 0 x35 0)), (some 90, qe (I x36)), (some 91, qe (.own 40 0)), (some 92, qe (I z1.2.2.2.2.2)), (some 93, qe (I (addI .i64 z1.2.2.2.2.2 1))), (some 94, qe (.oa 40 0 x37 0)), (some 95, qe (I x38)), (some 96, qe (.own 40 0)), (some 97, qe (I z1.2.2.2.2.2)), (some 98, qe (.oa 40 0 x39 0)), (some 99, qe (I x40)), (some 100, qe (I (subI .i64 x38 x40))), (some 101, qe (.own 48 0)), (some 102, qe (I z0.2.2.2.2)), (some 103, qe (I (addI .i64 z0.2.2.2.2 1))), (some 104, qe (.oa 48 0 x41 0)), (some 105, qe (I x42)), (some 106, qe (.own 48 0)), (some 107, qe (I z0.2.2.2.2))] ?_
        refine dv 108 (mkE [(107, I z0.2.2.2.2), (106, .own 48 0), (1, .fn 216 [.ia [LL a63 p1_c0] 0]), (5, .own 40 0), (6, .own 48 0), (7, .own 56 0), (8, .own 64 0), (9, I z0.2.2.2.2), (10, .own 80 0), (11, I z1.2.2.2.2.2), (12, I (subI .i64 (lenL z1.2.2.2.2.1) 1)), (66, B false)] [(40, RR 3 1 I z1.1 0 false), (48, RR 3 1 I z1.2.1 0 false), (56, RR 64 4 a63 z1.2.2.1 0 false), (64, RR 64 4 a63 z1.2.2.2.1 0 false), (80, RR 64 4 a63 z1.2.2.2.2.1 0 false)] 149) (addrOE 104 3 1 48 0 false I .i64 z1.2.1 z0.2.2.2.2) (fun x43 => ?_)
        refine dv 109 (mkE [(108, .oa 48 0 x43 0), (107, I z0.2.2.2.2), (106, .own 48 0), (1, .fn 216 [.ia [LL a63 p1_c0] 0]), (5, .own 40 0), (6, .own 48 0), (7, .own 56 0), (8, .own 64 0), (9, I z0.2.2.2.2), (10, .own 80 0), (11, I z1.2.2.2.2.2), (12, I (subI .i64 (lenL z1.2.2.2.2.1) 1)), (66, B false)] [(40, RR 3 1 I z1.1 0 false), (48, RR 3 1 I z1.2.1 0 false), (56, RR 64 4 a63 z1.2.2.1 0 false), (64, RR 64 4 a63 z1.2.2.2.1 0 false), (80, RR 64 4 a63 z1.2.2.2.2.1 0 false)] 149) (loadOE 3 48 0 x43 0 3 1 1 false false I (fun q : Int => I q) z1.2.1) (fun x44 => ?_)
        refine dg 31 [(some 82, qe (.own 80 0)), (some 83, qe (.own 40 0)), (some 84, qe (I z1.2.2.2.2.2)), (some 85, qe (.oa 40 0 x33 0)), (some 86, qe (I x34)), (some 87, qe (.own 48 0)), (some 88, qe (I z0.2.2.2.2)), (some 89, qe (.oa 48 0 x35 0)), (some 90, qe (I x36)), (some 91, qe (.own 40 0)), (some 92, qe (I z1.2.2.2.2.2)), (some 93, qe (I (addI .i64 z1.2.2.2.2.2 1))), (some 94, qe (.oa 40 0 x37 0)), (some 95, qe (I x38)), (some 96, qe (.own 40 0)), (some 97, qe (I z1.2.2.2.2.2)), (some 98, qe (.oa 40 0 x39 0)), (some 99, qe (I x40)), (some 100, qe (I (subI .i64 x38 x40))), (some 101, qe (.own 48 0)), (some 102, qe (I z0.2.2.2.2)), (some 103, qe (I (addI .i64 z0.2.2.2.2 1))), (some 104, qe (.oa 48 0 x41 0)), (some 105, qe (I x42)), (some 106, qe (.own 48 0)), (some 107, qe (I z0.2.2.2.2)), (some 108, qe (.oa 48 0 x43 0)), (some 109, qe (I x44)), (some 110, qe (I (subI .i64 x42 x44))), (some 111, qe (.agg [I x34, I x36, I (subI .i64 x38 x40), I (subI .i64 x42 x44)])), (some 112, { e := { val := .own 896 0, news := [(896, RR 64 4 a63 ([(S63.mk x34 x36 (subI .i64 x38 x40) (subI .i64 x42 x44))] : List S63) 0 false)] } })] ?_
        refine de (mkE [(112, .own 896 0), (111, .agg [I x34, I x36, I (subI .i64 x38 x40), I (subI .i64 x42 x44)]), (110, I (subI .i64 x42 x44)), (109, I x44), (108, .oa 48 0 x43 0), (107, I z0.2.2.2.2), (106, .own 48 0), (105, I x42), (104, .oa 48 0 x41 0), (103, I (addI .i64 z0.2.2.2.2 1)), (102, I z0.2.2.2.2), (101, .own 48 0), (100, I (subI .i64 x38 x40)), (99, I x40), (98, .oa 40 0 x39 0), (97, I z1.2.2.2.2.2), (96, .own 40 0), (95, I x38), (94, .oa 40 0 x37 0), (93, I (addI .i64 z1.2.2.2.2.2 1)), (92, I z1.2.2.2.2.2), (91, .own 40 0), (90, I x36), (89, .oa 48 0 x35 0), (88, I z0.2.2.2.2), (87, .own 48 0), (86, I x34), (85, .oa 40 0 x33 0), (84, I z1.2.2.2.2.2), (83, .own 40 0), (82, .own 80 0), (1, .fn 216 [.ia [LL a63 p1_c0] 0]), (5, .own 40 0), (6, .own 48 0), (7, .own 56 0), (8, .own 64 0), (9, I z0.2.2.2.2), (10, .own 80 0), (11, I z1.2.2.2.2.2), (12, I (subI .i64 (lenL z1.2.2.2.2.1) 1)), (66, B false)] [(896, RR 64 4 a63 ([(S63.mk x34 x36 (subI .i64 x38 x40) (subI .i64 x42 x44))] : List S63) 0 false), (40, RR 3 1 I z1.1 0 false), (48, RR 3 1 I z1.2.1 0 false), (56, RR 64 4 a63 z1.2.2.1 0 false), (64, RR 64 4 a63 z1.2.2.2.1 0 false), (80, RR 64 4 a63 z1.2.2.2.2.1 0 false)] 149) ?_
        refine mo (some 113) (apO 65 64 4 32 80 a63 0 [896] (y := .own 896 0) (l2 := ([(S63.mk x34 x36 (subI .i64 x38 x40) (subI .i64 x42 x44))] : List S63))) (fun x45 => ?_)
        refine se (mkE [(1, .fn 216 [.ia [LL a63 p1_c0] 0]), (5, .own 40 0), (6, .own 48 0), (7, .own 56 0), (8, .own 64 0), (9, I z0.2.2.2.2), (10, .own 80 1), (11, I z1.2.2.2.2.2)] [(40, RR 3 1 I z1.1 0 false), (48, RR 3 1 I z1.2.1 0 false), (56, RR 64 4 a63 z1.2.2.1 0 false), (64, RR 64 4 a63 z1.2.2.2.1 0 false), (80, RR 64 4 a63 x45 1 false)] 149) ?_
        refine pB ?_
        refine pN ?_
        refine pS ?_
        refine gR 10 (rg Try.f215 10) ?_
        refine se (mkE [(1, .fn 216 [.ia [LL a63 p1_c0] 0]), (5, .own 40 0), (6, .own 48 0), (7, .own 56 0), (8, .own 64 0), (9, I z0.2.2.2.2), (10, .own 80 1), (11, I (addI .i64 z1.2.2.2.2.2 1))] [(40, RR 3 1 I z1.1 0 false), (48, RR 3 1 I z1.2.1 0 false), (56, RR 64 4 a63 z1.2.2.1 0 false), (64, RR 64 4 a63 z1.2.2.2.1 0 false), (80, RR 64 4 a63 x45 1 false)] 149) ?_
        exact pL
  · refine gX 2 ?_
    exact pL
noncomputable def L215_19 (p1_c0 : (List S63)) (z0 : ((List Int) × (List Int) × (List S63) × (List S63) × Int)) (y46 : (Int × Bool × (List Int) × (List Int) × (List S63) × (List S63) × (List S63))) (z2 : ((List Int) × (List Int) × (List S63) × (List S63) × (List S63) × Int)) : Option (((List Int) × (List Int) × (List S63) × (List S63) × (List S63) × Int) ⊕ (Int × Bool × (List Int) × (List Int) × (List S63) × (List S63) × (List S63))) := (bif (ltI z2.2.2.2.2.2 (lenL y46.2.2.2.2.2.1)) then ((idxO (List.length z2.2.2.2.1) z2.2.2.2.2.2).bind fun x48 => ((getN z2.2.2.2.1 x48).bind fun x49 => ((idxO (List.length z2.2.2.2.2.1) z2.2.2.2.2.2).bind fun x50 => ((getN z2.2.2.2.2.1 x50).bind fun x51 => ((idxO (List.length z2.2.2.2.1) z2.2.2.2.2.2).bind fun x52 => ((getN z2.2.2.2.1 x52).bind fun x53 => (some (.inl (z2.1, z2.2.1, z2.2.2.1, (List.set z2.2.2.2.1 x52 (S63.mk x53.f0 x53.f1 x53.f2 (addI .i64 x49.f3 x51.f3))), z2.2.2.2.2.1, (addI .i64 z2.2.2.2.2.2 1)))))))))) else (some (.inr (z2.2.2.2.2.2, (ltI z2.2.2.2.2.2 (lenL y46.2.2.2.2.2.1)), z2.1, z2.2.1, z2.2.2.1, z2.2.2.2.1, z2.2.2.2.2.1))))
theorem L215_19_ok (C : Callee) (p1_c0 : (List S63)) (z0 : ((List Int) × (List Int) × (List S63) × (List S63) × Int)) (y46 : (Int × Bool × (List Int) × (List Int) × (List S63) × (List S63) × (List S63))) (z2 : ((List Int) × (List Int) × (List S63) × (List S63) × (List S63) × Int)) : runs Try.prog C (cfg.fn 215) (finLoop ((cfg.fn 215).keep 19) ((cfg.fn 215).al 19)) [] (execA Try.prog C (cfg.fn 215) (nr Try.f215 [false, false, true, false, false, true, false, true, true, true, false, false, true, false, false, true, false, true, true, true, true]) ((fun z2 : ((List Int) × (List Int) × (List S63) × (List S63) × (List S63) × Int) => (mkE [(1, .fn 216 [.ia [LL a63 p1_c0] 0]), (5, .own 40 0), (6, .own 48 0), (7, .own 56 0), (8, .own 64 0), (9, I z0.2.2.2.2), (10, .own 80 0), (124, I (lenL y46.2.2.2.2.2.1)), (125, I z2.2.2.2.2.2)] [(40, RR 3 1 I z2.1 0 false), (48, RR 3 1 I z2.2.1 0 false), (56, RR 64 4 a63 z2.2.2.1 0 false), (64, RR 64 4 a63 z2.2.2.2.1 0 false), (80, RR 64 4 a63 z2.2.2.2.2.1 0 false)] 149)) z2)) = (L215_19 p1_c0 z0 y46 z2).map (Sum.elim (fun z => .inl ((fun z2 : ((List Int) × (List Int) × (List S63) × (List S63) × (List S63) × Int) => (mkE [(1, .fn 216 [.ia [LL a63 p1_c0] 0]), (5, .own 40 0), (6, .own 48 0), (7, .own 56 0), (8, .own 64 0), (9, I z0.2.2.2.2), (10, .own 80 0), (124, I (lenL y46.2.2.2.2.2.1)), (125, I z2.2.2.2.2.2)] [(40, RR 3 1 I z2.1 0 false), (48, RR 3 1 I z2.2.1 0 false), (56, RR 64 4 a63 z2.2.2.1 0 false), (64, RR 64 4 a63 z2.2.2.2.1 0 false), (80, RR 64 4 a63 z2.2.2.2.2.1 0 false)] 149)) z)) (fun x => .inr ((fun (x : (Int × Bool × (List Int) × (List Int) × (List S63) × (List S63) × (List S63))) => (.exit 4, (mkE [(1, .fn 216 [.ia [LL a63 p1_c0] 0]), (5, .own 40 0), (6, .own 48 0), (7, .own 56 0), (8, .own 64 0), (9, I z0.2.2.2.2), (10, .own 80 0), (124, I (lenL y46.2.2.2.2.2.1)), (125, I x.1), (126, B x.2.1)] [(40, RR 3 1 I x.2.2.1 0 false), (48, RR 3 1 I x.2.2.2.1 0 false), (56, RR 64 4 a63 x.2.2.2.2.1 0 false), (64, RR 64 4 a63 x.2.2.2.2.2.1 0 false), (80, RR 64 4 a63 x.2.2.2.2.2.2 0 false)] 149))) x))) := by
  unfold L215_19
  refine gS 0 ?_
  refine gR 19 (rg Try.f215 19) ?_
  refine se (mkE [(1, .fn 216 [.ia [LL a63 p1_c0] 0]), (5, .own 40 0), (6, .own 48 0), (7, .own 56 0), (8, .own 64 0), (9, I z0.2.2.2.2), (10, .own 80 0), (124, I (lenL y46.2.2.2.2.2.1)), (125, I z2.2.2.2.2.2), (126, B (ltI z2.2.2.2.2.2 (lenL y46.2.2.2.2.2.1)))] [(40, RR 3 1 I z2.1 0 false), (48, RR 3 1 I z2.2.1 0 false), (56, RR 64 4 a63 z2.2.2.1 0 false), (64, RR 64 4 a63 z2.2.2.2.1 0 false), (80, RR 64 4 a63 z2.2.2.2.2.1 0 false)] 149) ?_
  refine pN ?_
  refine pS ?_
  refine gS 20 ?_
  refine gC 126 (ltI z2.2.2.2.2.2 (lenL y46.2.2.2.2.2.1)) ?_ ?_
  · refine gK ?_
    refine pN ?_
    refine pS ?_
    refine gS 22 ?_
    refine gB 5 ?_
    refine gS 21 ?_
    refine gR 20 (rg Try.f215 20) ?_
    refine se (mkE [(1, .fn 216 [.ia [LL a63 p1_c0] 0]), (5, .own 40 0), (6, .own 48 0), (7, .own 56 0), (8, .own 64 0), (9, I z0.2.2.2.2), (10, .own 80 0), (14, I z2.2.2.2.2.2), (124, I (lenL y46.2.2.2.2.2.1)), (125, I z2.2.2.2.2.2)] [(40, RR 3 1 I z2.1 0 false), (48, RR 3 1 I z2.2.1 0 false), (56, RR 64 4 a63 z2.2.2.1 0 false), (64, RR 64 4 a63 z2.2.2.2.1 0 false), (80, RR 64 4 a63 z2.2.2.2.2.1 0 false)] 149) ?_
    refine pN ?_
    refine pS ?_
    refine gD 21 13 (rg Try.f215 21) [0, 1, 2, 3, 4, 5, 6, 7, 8, 9, 10, 11, 12, 13] ?_
    refine dg 2 [(some 128, qe (.own 64 0)), (some 129, qe (I z2.2.2.2.2.2))] ?_
    refine dv 130 (mkE [(129, I z2.2.2.2.2.2), (128, .own 64 0), (1, .fn 216 [.ia [LL a63 p1_c0] 0]), (5, .own 40 0), (6, .own 48 0), (7, .own 56 0), (8, .own 64 0), (9, I z0.2.2.2.2), (10, .own 80 0), (14, I z2.2.2.2.2.2), (124, I (lenL y46.2.2.2.2.2.1)), (125, I z2.2.2.2.2.2)] [(40, RR 3 1 I z2.1 0 false), (48, RR 3 1 I z2.2.1 0 false), (56, RR 64 4 a63 z2.2.2.1 0 false), (64, RR 64 4 a63 z2.2.2.2.1 0 false), (80, RR 64 4 a63 z2.2.2.2.2.1 0 false)] 149) (addrOE 65 64 4 64 0 false a63 .i64 z2.2.2.2.1 z2.2.2.2.2.2) (fun x48 => ?_)
    refine dg 4 [(some 128, qe (.own 64 0)), (some 129, qe (I z2.2.2.2.2.2)), (some 130, qe (.oa 64 0 x48 0)), (some 131, qe (.oa 64 0 x48 3))] ?_
    refine dv 132 (mkE [(131, .oa 64 0 x48 3), (130, .oa 64 0 x48 0), (129, I z2.2.2.2.2.2), (128, .own 64 0), (1, .fn 216 [.ia [LL a63 p1_c0] 0]), (5, .own 40 0), (6, .own 48 0), (7, .own 56 0), (8, .own 64 0), (9, I z0.2.2.2.2), (10, .own 80 0), (14, I z2.2.2.2.2.2), (124, I (lenL y46.2.2.2.2.2.1)), (125, I z2.2.2.2.2.2)] [(40, RR 3 1 I z2.1 0 false), (48, RR 3 1 I z2.2.1 0 false), (56, RR 64 4 a63 z2.2.2.1 0 false), (64, RR 64 4 a63 z2.2.2.2.1 0 false), (80, RR 64 4 a63 z2.2.2.2.2.1 0 false)] 149) (loadOE 3 64 0 x48 3 64 4 1 false false a63 (fun q : S63 => I q.f3) z2.2.2.2.1) (fun x49 => ?_)
    refine dg 7 [(some 128, qe (.own 64 0)), (some 129, qe (I z2.2.2.2.2.2)), (some 130, qe (.oa 64 0 x48 0)), (some 131, qe (.oa 64 0 x48 3)), (some 132, qe (I x49.f3)), (some 133, qe (.own 80 0)), (some 134, qe (I z2.2.2.2.2.2))] ?_
    refine dv 135 (mkE [(134, I z2.2.2.2.2.2), (133, .own 80 0), (1, .fn 216 [.ia [LL a63 p1_c0] 0]), (5, .own 40 0), (6, .own 48 0), (7, .own 56 0), (8, .own 64 0), (9, I z0.2.2.2.2), (10, .own 80 0), (14, I z2.2.2.2.2.2), (124, I (lenL y46.2.2.2.2.2.1)), (125, I z2.2.2.2.2.2)] [(40, RR 3 1 I z2.1 0 false), (48, RR 3 1 I z2.2.1 0 false), (56, RR 64 4 a63 z2.2.2.1 0 false), (64, RR 64 4 a63 z2.2.2.2.1 0 false), (80, RR 64 4 a63 z2.2.2.2.2.1 0 false)] 149) (addrOE 65 64 4 80 0 false a63 .i64 z2.2.2.2.2.1 z2.2.2.2.2.2) (fun x50 => ?_)
    refine dg 9 [(some 128, qe (.own 64 0)), (some 129, qe (I z2.2.2.2.2.2)), (some 130, qe (.oa 64 0 x48 0)), (some 131, qe (.oa 64 0 x48 3)), (some 132, qe (I x49.f3)), (some 133, qe (.own 80 0)), (some 134, qe (I z2.2.2.2.2.2)), (some 135, qe (.oa 80 0 x50 0)), (some 136, qe (.oa 80 0 x50 3))] ?_
    refine dv 137 (mkE [(136, .oa 80 0 x50 3), (135, .oa 80 0 x50 0), (134, I z2.2.2.2.2.2), (133, .own 80 0), (1, .fn 216 [.ia [LL a63 p1_c0] 0]), (5, .own 40 0), (6, .own 48 0), (7, .own 56 0), (8, .own 64 0), (9, I z0.2.2.2.2), (10, .own 80 0), (14, I z2.2.2.2.2.2), (124, I (lenL y46.2.2.2.2.2.1)), (125, I z2.2.2.2.2.2)] [(40, RR 3 1 I z2.1 0 false), (48, RR 3 1 I z2.2.1 0 false), (56, RR 64 4 a63 z2.2.2.1 0 false), (64, RR 64 4 a63 z2.2.2.2.1 0 false), (80, RR 64 4 a63 z2.2.2.2.2.1 0 false)] 149) (loadOE 3 80 0 x50 3 64 4 1 false false a63 (fun q : S63 => I q.f3) z2.2.2.2.2.1) (fun x51 => ?_)
    refine dg 11 [(some 128, qe (.own 64 0)), (some 129, qe (I z2.2.2.2.2.2)), (some 130, qe (.oa 64 0 x48 0)), (some 131, qe (.oa 64 0 x48 3)), (some 132, qe (I x49.f3)), (some 133, qe (.own 80 0)), (some 134, qe (I z2.2.2.2.2.2)), (some 135, qe (.oa 80 0 x50 0)), (some 136, qe (.oa 80 0 x50 3)), (some 137, qe (I x51.f3)), (some 138, qe (I (addI .i64 x49.f3 x51.f3)))] ?_
    refine dv 139 (mkE [(138, I (addI .i64 x49.f3 x51.f3)), (137, I x51.f3), (136, .oa 80 0 x50 3), (135, .oa 80 0 x50 0), (134, I z2.2.2.2.2.2), (133, .own 80 0), (132, I x49.f3), (131, .oa 64 0 x48 3), (130, .oa 64 0 x48 0), (129, I z2.2.2.2.2.2), (128, .own 64 0), (1, .fn 216 [.ia [LL a63 p1_c0] 0]), (5, .own 40 0), (6, .own 48 0), (7, .own 56 0), (8, .own 64 0), (9, I z0.2.2.2.2), (10, .own 80 0), (14, I z2.2.2.2.2.2), (124, I (lenL y46.2.2.2.2.2.1)), (125, I z2.2.2.2.2.2)] [(40, RR 3 1 I z2.1 0 false), (48, RR 3 1 I z2.2.1 0 false), (56, RR 64 4 a63 z2.2.2.1 0 false), (64, RR 64 4 a63 z2.2.2.2.1 0 false), (80, RR 64 4 a63 z2.2.2.2.2.1 0 false)] 149) (addrOE 65 64 4 64 0 false a63 .i64 z2.2.2.2.1 z2.2.2.2.2.2) (fun x52 => ?_)
    refine dg 13 [(some 128, qe (.own 64 0)), (some 129, qe (I z2.2.2.2.2.2)), (some 130, qe (.oa 64 0 x48 0)), (some 131, qe (.oa 64 0 x48 3)), (some 132, qe (I x49.f3)), (some 133, qe (.own 80 0)), (some 134, qe (I z2.2.2.2.2.2)), (some 135, qe (.oa 80 0 x50 0)), (some 136, qe (.oa 80 0 x50 3)), (some 137, qe (I x51.f3)), (some 138, qe (I (addI .i64 x49.f3 x51.f3))), (some 139, qe (.oa 64 0 x52 0)), (some 140, qe (.oa 64 0 x52 3))] ?_
    refine de (mkE [(140, .oa 64 0 x52 3), (139, .oa 64 0 x52 0), (138, I (addI .i64 x49.f3 x51.f3)), (137, I x51.f3), (136, .oa 80 0 x50 3), (135, .oa 80 0 x50 0), (134, I z2.2.2.2.2.2), (133, .own 80 0), (132, I x49.f3), (131, .oa 64 0 x48 3), (130, .oa 64 0 x48 0), (129, I z2.2.2.2.2.2), (128, .own 64 0), (1, .fn 216 [.ia [LL a63 p1_c0] 0]), (5, .own 40 0), (6, .own 48 0), (7, .own 56 0), (8, .own 64 0), (9, I z0.2.2.2.2), (10, .own 80 0), (14, I z2.2.2.2.2.2), (124, I (lenL y46.2.2.2.2.2.1)), (125, I z2.2.2.2.2.2)] [(40, RR 3 1 I z2.1 0 false), (48, RR 3 1 I z2.2.1 0 false), (56, RR 64 4 a63 z2.2.2.1 0 false), (64, RR 64 4 a63 z2.2.2.2.1 0 false), (80, RR 64 4 a63 z2.2.2.2.2.1 0 false)] 149) ?_
    refine mo none (stO 64 4 64 0 x52 3 a63 z2.2.2.2.1 [] [I (addI .i64 x49.f3 x51.f3)] (I (addI .i64 x49.f3 x51.f3)) (fun q : S63 => (S63.mk q.f0 q.f1 q.f2 (addI .i64 x49.f3 x51.f3))) 3 (.tmp 140) (.tmp 138) 1) (fun x53 => ?_)
    refine se (mkE [(1, .fn 216 [.ia [LL a63 p1_c0] 0]), (5, .own 40 0), (6, .own 48 0), (7, .own 56 0), (8, .own 64 0), (9, I z0.2.2.2.2), (10, .own 80 0), (124, I (lenL y46.2.2.2.2.2.1)), (125, I z2.2.2.2.2.2)] [(40, RR 3 1 I z2.1 0 false), (48, RR 3 1 I z2.2.1 0 false), (56, RR 64 4 a63 z2.2.2.1 0 false), (64, RR 64 4 a63 (List.set z2.2.2.2.1 x52 (S63.mk x53.f0 x53.f1 x53.f2 (addI .i64 x49.f3 x51.f3))) 0 false), (80, RR 64 4 a63 z2.2.2.2.2.1 0 false)] 149) ?_
    refine pB ?_
    refine pN ?_
    refine pS ?_
    refine gR 22 (rg Try.f215 22) ?_
    refine se (mkE [(1, .fn 216 [.ia [LL a63 p1_c0] 0]), (5, .own 40 0), (6, .own 48 0), (7, .own 56 0), (8, .own 64 0), (9, I z0.2.2.2.2), (10, .own 80 0), (124, I (lenL y46.2.2.2.2.2.1)), (125, I (addI .i64 z2.2.2.2.2.2 1))] [(40, RR 3 1 I z2.1 0 false), (48, RR 3 1 I z2.2.1 0 false), (56, RR 64 4 a63 z2.2.2.1 0 false), (64, RR 64 4 a63 (List.set z2.2.2.2.1 x52 (S63.mk x53.f0 x53.f1 x53.f2 (addI .i64 x49.f3 x51.f3))) 0 false), (80, RR 64 4 a63 z2.2.2.2.2.1 0 false)] 149) ?_
    exact pL
  · refine gX 4 ?_
    exact pL
noncomputable def L215_5 (p1_c0 : (List S63)) (z0 : ((List Int) × (List Int) × (List S63) × (List S63) × Int)) : Option (((List Int) × (List Int) × (List S63) × (List S63) × Int) ⊕ (Int × Bool × (List Int) × (List Int) × (List S63) × (List S63))) := (bif (ltI (addI .i64 z0.2.2.2.2 1) (lenL z0.2.1)) then ((iter (L215_9 p1_c0 z0) (z0.1, z0.2.1, z0.2.2.1, z0.2.2.2.1, [], 0)).bind fun y46 => ((T258 y46.2.2.2.2.2.2 y46.2.2.2.2.2.1).bind fun x47 => (bif x47 then (bif (ltI 0 (lenL y46.2.2.2.2.2.2)) then ((iter (L215_19 p1_c0 z0 y46) (y46.2.2.1, y46.2.2.2.1, y46.2.2.2.2.1, y46.2.2.2.2.2.1, y46.2.2.2.2.2.2, 0)).bind fun y54 => (some (.inl (y54.2.2.1, y54.2.2.2.1, y54.2.2.2.2.1, y54.2.2.2.2.2.1, (addI .i64 z0.2.2.2.2 1))))) else ((appO 32 y46.2.2.2.2.1 y46.2.2.2.2.2.1).bind fun x55 => (some (.inl (y46.2.2.1, y46.2.2.2.1, x55, y46.2.2.2.2.2.2, (addI .i64 z0.2.2.2.2 1)))))) else ((appO 32 y46.2.2.2.2.1 y46.2.2.2.2.2.1).bind fun x56 => (some (.inl (y46.2.2.1, y46.2.2.2.1, x56, y46.2.2.2.2.2.2, (addI .i64 z0.2.2.2.2 1)))))))) else (some (.inr (z0.2.2.2.2, (ltI (addI .i64 z0.2.2.2.2 1) (lenL z0.2.1)), z0.1, z0.2.1, z0.2.2.1, z0.2.2.2.1))))
theorem L215_5_ok (C : Callee) (h216 : ∀ (p0 : Int) (p1 : Int) (p2_c0 : (List S63)), C 216 [I p0, I p1, .ia [LL a63 p2_c0] 0] = (T216 p0 p1 p2_c0).map B) (h258 : ∀ (p0 : (List S63)) (p1 : (List S63)), C 258 [LL a63 p0, LL a63 p1, .fn 259 []] = (T258 p0 p1).map B) (p1_c0 : (List S63)) (z0 : ((List Int) × (List Int) × (List S63) × (List S63) × Int)) : runs Try.prog C (cfg.fn 215) (finLoop ((cfg.fn 215).keep 5) ((cfg.fn 215).al 5)) [] (execA Try.prog C (cfg.fn 215) (nr Try.f215 [false, false, true, false, true, true, true, true]) ((fun z0 : ((List Int) × (List Int) × (List S63) × (List S63) × Int) => (mkE [(1, .fn 216 [.ia [LL a63 p1_c0] 0]), (5, .own 40 0), (6, .own 48 0), (7, .own 56 0), (8, .own 64 0), (9, I z0.2.2.2.2)] [(40, RR 3 1 I z0.1 0 false), (48, RR 3 1 I z0.2.1 0 false), (56, RR 64 4 a63 z0.2.2.1 0 false), (64, RR 64 4 a63 z0.2.2.2.1 0 false)] 149)) z0)) = (L215_5 p1_c0 z0).map (Sum.elim (fun z => .inl ((fun z0 : ((List Int) × (List Int) × (List S63) × (List S63) × Int) => (mkE [(1, .fn 216 [.ia [LL a63 p1_c0] 0]), (5, .own 40 0), (6, .own 48 0), (7, .own 56 0), (8, .own 64 0), (9, I z0.2.2.2.2)] [(40, RR 3 1 I z0.1 0 false), (48, RR 3 1 I z0.2.1 0 false), (56, RR 64 4 a63 z0.2.2.1 0 false), (64, RR 64 4 a63 z0.2.2.2.1 0 false)] 149)) z)) (fun x => .inr ((fun (x : (Int × Bool × (List Int) × (List Int) × (List S63) × (List S63))) => (.exit 0, (mkE [(1, .fn 216 [.ia [LL a63 p1_c0] 0]), (5, .own 40 0), (6, .own 48 0), (7, .own 56 0), (8, .own 64 0), (9, I x.1), (23, B x.2.1)] [(40, RR 3 1 I x.2.2.1 0 false), (48, RR 3 1 I x.2.2.2.1 0 false), (56, RR 64 4 a63 x.2.2.2.2.1 0 false), (64, RR 64 4 a63 x.2.2.2.2.2 0 false)] 149))) x))) := by
  unfold L215_5
  refine gS 7 ?_
  refine gS 0 ?_
  refine gR 5 (rg Try.f215 5) ?_
  refine sg 3 (mkE [(21, .own 48 0), (20, I (addI .i64 z0.2.2.2.2 1)), (19, I z0.2.2.2.2), (1, .fn 216 [.ia [LL a63 p1_c0] 0]), (5, .own 40 0), (6, .own 48 0), (7, .own 56 0), (8, .own 64 0), (9, I z0.2.2.2.2)] [(40, RR 3 1 I z0.1 0 false), (48, RR 3 1 I z0.2.1 0 false), (56, RR 64 4 a63 z0.2.2.1 0 false), (64, RR 64 4 a63 z0.2.2.2.1 0 false)] 149) ?_
  refine eo 22 (I (lenL z0.2.1)) (lenOE 104 3 1 I z0.2.1) ?_
  refine se (mkE [(1, .fn 216 [.ia [LL a63 p1_c0] 0]), (5, .own 40 0), (6, .own 48 0), (7, .own 56 0), (8, .own 64 0), (9, I z0.2.2.2.2), (23, B (ltI (addI .i64 z0.2.2.2.2 1) (lenL z0.2.1)))] [(40, RR 3 1 I z0.1 0 false), (48, RR 3 1 I z0.2.1 0 false), (56, RR 64 4 a63 z0.2.2.1 0 false), (64, RR 64 4 a63 z0.2.2.2.1 0 false)] 149) ?_
  refine pN ?_
  refine pS ?_
  refine gC 23 (ltI (addI .i64 z0.2.2.2.2 1) (lenL z0.2.1)) ?_ ?_
  · refine gK ?_
    refine pN ?_
    refine pS ?_
    refine gS 6 ?_
    refine gB 1 ?_
    refine gS 8 ?_
    refine gR 7 (rg Try.f215 7) ?_
    refine se (mkE [(1, .fn 216 [.ia [LL a63 p1_c0] 0]), (5, .own 40 0), (6, .own 48 0), (7, .own 56 0), (8, .own 64 0), (9, I z0.2.2.2.2), (10, .nils)] [(40, RR 3 1 I z0.1 0 false), (48, RR 3 1 I z0.2.1 0 false), (56, RR 64 4 a63 z0.2.2.1 0 false), (64, RR 64 4 a63 z0.2.2.2.1 0 false)] 149) ?_
    refine pN ?_
    refine pS ?_
    refine gS 16 ?_
    refine gS 9 ?_
    refine gR 8 (rg Try.f215 8) ?_
    refine se (mkE [(1, .fn 216 [.ia [LL a63 p1_c0] 0]), (5, .own 40 0), (6, .own 48 0), (7, .own 56 0), (8, .own 64 0), (9, I z0.2.2.2.2), (10, .nils), (11, I 0)] [(40, RR 3 1 I z0.1 0 false), (48, RR 3 1 I z0.2.1 0 false), (56, RR 64 4 a63 z0.2.2.1 0 false), (64, RR 64 4 a63 z0.2.2.2.1 0 false)] 149) ?_
    refine pN ?_
    refine pS ?_
    refine gB 2 ?_
    refine lo [(1, none), (5, some (3, 1)), (6, some (3, 1)), (7, some (64, 4)), (8, some (64, 4)), (9, none), (10, some (64, 4)), (11, none)] [] (L215_9 p1_c0 z0) (fun z1 : ((List Int) × (List Int) × (List S63) × (List S63) × (List S63) × Int) => (mkE [(1, .fn 216 [.ia [LL a63 p1_c0] 0]), (5, .own 40 0), (6, .own 48 0), (7, .own 56 0), (8, .own 64 0), (9, I z0.2.2.2.2), (10, .own 80 0), (11, I z1.2.2.2.2.2)] [(40, RR 3 1 I z1.1 0 false), (48, RR 3 1 I z1.2.1 0 false), (56, RR 64 4 a63 z1.2.2.1 0 false), (64, RR 64 4 a63 z1.2.2.2.1 0 false), (80, RR 64 4 a63 z1.2.2.2.2.1 0 false)] 149)) (fun (x : (Int × Bool × (List Int) × (List Int) × (List S63) × (List S63) × (List S63))) => (.exit 2, (mkE [(1, .fn 216 [.ia [LL a63 p1_c0] 0]), (5, .own 40 0), (6, .own 48 0), (7, .own 56 0), (8, .own 64 0), (9, I z0.2.2.2.2), (10, .own 80 0), (11, I x.1), (30, B x.2.1)] [(40, RR 3 1 I x.2.2.1 0 false), (48, RR 3 1 I x.2.2.2.1 0 false), (56, RR 64 4 a63 x.2.2.2.2.1 0 false), (64, RR 64 4 a63 x.2.2.2.2.2.1 0 false), (80, RR 64 4 a63 x.2.2.2.2.2.2 0 false)] 149))) (z0.1, z0.2.1, z0.2.2.1, z0.2.2.2.1, [], 0) (fun z => L215_9_ok C h216 p1_c0 z0 z) ?_
    intro y46
    refine pH ?_
    refine pN ?_
    refine pS ?_
    refine gS 17 ?_
    refine gR 16 (rg Try.f215 16) ?_
    refine sg 2 (mkE [(115, .own 64 0), (114, .own 80 0), (1, .fn 216 [.ia [LL a63 p1_c0] 0]), (5, .own 40 0), (6, .own 48 0), (7, .own 56 0), (8, .own 64 0), (9, I z0.2.2.2.2), (10, .own 80 0), (11, I y46.1), (30, B y46.2.1)] [(40, RR 3 1 I y46.2.2.1 0 false), (48, RR 3 1 I y46.2.2.2.1 0 false), (56, RR 64 4 a63 y46.2.2.2.2.1 0 false), (64, RR 64 4 a63 y46.2.2.2.2.2.1 0 false), (80, RR 64 4 a63 y46.2.2.2.2.2.2 0 false)] 149) ?_
    refine co 116 [80, 64] (h258 y46.2.2.2.2.2.2 y46.2.2.2.2.2.1) (fun x47 => ?_)
    refine se (mkE [(1, .fn 216 [.ia [LL a63 p1_c0] 0]), (5, .own 40 0), (6, .own 48 0), (7, .own 56 0), (8, .own 64 0), (9, I z0.2.2.2.2), (10, .own 80 0), (13, B x47)] [(40, RR 3 1 I y46.2.2.1 0 false), (48, RR 3 1 I y46.2.2.2.1 0 false), (56, RR 64 4 a63 y46.2.2.2.2.1 0 false), (64, RR 64 4 a63 y46.2.2.2.2.2.1 0 false), (80, RR 64 4 a63 y46.2.2.2.2.2.2 0 false)] 149) ?_
    refine pN ?_
    refine pS ?_
    refine gS 23 ?_
    refine gS 0 ?_
    refine gR 17 (rg Try.f215 17) ?_
    refine sg 2 (mkE [(118, B x47), (117, B x47), (1, .fn 216 [.ia [LL a63 p1_c0] 0]), (5, .own 40 0), (6, .own 48 0), (7, .own 56 0), (8, .own 64 0), (9, I z0.2.2.2.2), (10, .own 80 0), (13, B x47)] [(40, RR 3 1 I y46.2.2.1 0 false), (48, RR 3 1 I y46.2.2.2.1 0 false), (56, RR 64 4 a63 y46.2.2.2.2.1 0 false), (64, RR 64 4 a63 y46.2.2.2.2.2.1 0 false), (80, RR 64 4 a63 y46.2.2.2.2.2.2 0 false)] 149) ?_
    refine sb 118 x47 ?_ ?_
    · refine sg 3 (mkE [(119, .own 80 0), (118, B true), (118, B x47), (117, B x47), (1, .fn 216 [.ia [LL a63 p1_c0] 0]), (5, .own 40 0), (6, .own 48 0), (7, .own 56 0), (8, .own 64 0), (9, I z0.2.2.2.2), (10, .own 80 0), (13, B x47)] [(40, RR 3 1 I y46.2.2.1 0 false), (48, RR 3 1 I y46.2.2.2.1 0 false), (56, RR 64 4 a63 y46.2.2.2.2.1 0 false), (64, RR 64 4 a63 y46.2.2.2.2.2.1 0 false), (80, RR 64 4 a63 y46.2.2.2.2.2.2 0 false)] 149) ?_
      refine eo 120 (I (lenL y46.2.2.2.2.2.2)) (lenOE 65 64 4 a63 y46.2.2.2.2.2.2) ?_
      refine se (mkE [(1, .fn 216 [.ia [LL a63 p1_c0] 0]), (5, .own 40 0), (6, .own 48 0), (7, .own 56 0), (8, .own 64 0), (9, I z0.2.2.2.2), (10, .own 80 0), (122, B (ltI 0 (lenL y46.2.2.2.2.2.2)))] [(40, RR 3 1 I y46.2.2.1 0 false), (48, RR 3 1 I y46.2.2.2.1 0 false), (56, RR 64 4 a63 y46.2.2.2.2.1 0 false), (64, RR 64 4 a63 y46.2.2.2.2.2.1 0 false), (80, RR 64 4 a63 y46.2.2.2.2.2.2 0 false)] 149) ?_
      refine pN ?_
      refine pS ?_
      refine gC 122 (ltI 0 (lenL y46.2.2.2.2.2.2)) ?_ ?_
      · refine gS 0 ?_
        refine gS 19 ?_
        refine gR 18 (rg Try.f215 18) ?_
        refine sg 1 (mkE [(123, .own 64 0), (1, .fn 216 [.ia [LL a63 p1_c0] 0]), (5, .own 40 0), (6, .own 48 0), (7, .own 56 0), (8, .own 64 0), (9, I z0.2.2.2.2), (10, .own 80 0), (122, B (ltI 0 (lenL y46.2.2.2.2.2.2)))] [(40, RR 3 1 I y46.2.2.1 0 false), (48, RR 3 1 I y46.2.2.2.1 0 false), (56, RR 64 4 a63 y46.2.2.2.2.1 0 false), (64, RR 64 4 a63 y46.2.2.2.2.2.1 0 false), (80, RR 64 4 a63 y46.2.2.2.2.2.2 0 false)] 149) ?_
        refine eo 124 (I (lenL y46.2.2.2.2.2.1)) (lenOE 65 64 4 a63 y46.2.2.2.2.2.1) ?_
        refine se (mkE [(1, .fn 216 [.ia [LL a63 p1_c0] 0]), (5, .own 40 0), (6, .own 48 0), (7, .own 56 0), (8, .own 64 0), (9, I z0.2.2.2.2), (10, .own 80 0), (124, I (lenL y46.2.2.2.2.2.1)), (125, I 0)] [(40, RR 3 1 I y46.2.2.1 0 false), (48, RR 3 1 I y46.2.2.2.1 0 false), (56, RR 64 4 a63 y46.2.2.2.2.1 0 false), (64, RR 64 4 a63 y46.2.2.2.2.2.1 0 false), (80, RR 64 4 a63 y46.2.2.2.2.2.2 0 false)] 149) ?_
        refine pN ?_
        refine pS ?_
        refine gB 4 ?_
        refine lo [(1, none), (5, some (3, 1)), (6, some (3, 1)), (7, some (64, 4)), (8, some (64, 4)), (9, none), (10, some (64, 4)), (124, none), (125, none)] [] (L215_19 p1_c0 z0 y46) (fun z2 : ((List Int) × (List Int) × (List S63) × (List S63) × (List S63) × Int) => (mkE [(1, .fn 216 [.ia [LL a63 p1_c0] 0]), (5, .own 40 0), (6, .own 48 0), (7, .own 56 0), (8, .own 64 0), (9, I z0.2.2.2.2), (10, .own 80 0), (124, I (lenL y46.2.2.2.2.2.1)), (125, I z2.2.2.2.2.2)] [(40, RR 3 1 I z2.1 0 false), (48, RR 3 1 I z2.2.1 0 false), (56, RR 64 4 a63 z2.2.2.1 0 false), (64, RR 64 4 a63 z2.2.2.2.1 0 false), (80, RR 64 4 a63 z2.2.2.2.2.1 0 false)] 149)) (fun (x : (Int × Bool × (List Int) × (List Int) × (List S63) × (List S63) × (List S63))) => (.exit 4, (mkE [(1, .fn 216 [.ia [LL a63 p1_c0] 0]), (5, .own 40 0), (6, .own 48 0), (7, .own 56 0), (8, .own 64 0), (9, I z0.2.2.2.2), (10, .own 80 0), (124, I (lenL y46.2.2.2.2.2.1)), (125, I x.1), (126, B x.2.1)] [(40, RR 3 1 I x.2.2.1 0 false), (48, RR 3 1 I x.2.2.2.1 0 false), (56, RR 64 4 a63 x.2.2.2.2.1 0 false), (64, RR 64 4 a63 x.2.2.2.2.2.1 0 false), (80, RR 64 4 a63 x.2.2.2.2.2.2 0 false)] 149))) (y46.2.2.1, y46.2.2.2.1, y46.2.2.2.2.1, y46.2.2.2.2.2.1, y46.2.2.2.2.2.2, 0) (fun z => L215_19_ok C p1_c0 z0 y46 z) ?_
        intro y54
        refine pH ?_
        refine pN ?_
        refine pS ?_
        refine gX 1 ?_
        refine pF ?_
        refine pO ?_
        refine pH ?_
        refine pN ?_
        refine pS ?_
        refine gR 6 (rg Try.f215 6) ?_
        refine se (mkE [(1, .fn 216 [.ia [LL a63 p1_c0] 0]), (5, .own 40 0), (6, .own 48 0), (7, .own 56 0), (8, .own 64 0), (9, I (addI .i64 z0.2.2.2.2 1))] [(40, RR 3 1 I y54.2.2.1 0 false), (48, RR 3 1 I y54.2.2.2.1 0 false), (56, RR 64 4 a63 y54.2.2.2.2.1 0 false), (64, RR 64 4 a63 y54.2.2.2.2.2.1 0 false), (80, RR 64 4 a63 y54.2.2.2.2.2.2 0 false)] 149) ?_
        exact pL
      · refine gK ?_
        refine pN ?_
        refine pS ?_
        refine gR 23 (rg Try.f215 23) ?_
        refine sg 2 (mkE [(143, .own 64 0), (142, .own 56 0), (1, .fn 216 [.ia [LL a63 p1_c0] 0]), (5, .own 40 0), (6, .own 48 0), (7, .own 56 0), (8, .own 64 0), (9, I z0.2.2.2.2), (10, .own 80 0), (122, B (ltI 0 (lenL y46.2.2.2.2.2.2)))] [(40, RR 3 1 I y46.2.2.1 0 false), (48, RR 3 1 I y46.2.2.2.1 0 false), (56, RR 64 4 a63 y46.2.2.2.2.1 0 false), (64, RR 64 4 a63 y46.2.2.2.2.2.1 0 false), (80, RR 64 4 a63 y46.2.2.2.2.2.2 0 false)] 149) ?_
        refine mo (some 144) (apO 65 64 4 32 56 a63 0 [64] (y := .own 64 0) (l2 := y46.2.2.2.2.2.1)) (fun x55 => ?_)
        refine se (mkE [(1, .fn 216 [.ia [LL a63 p1_c0] 0]), (5, .own 40 0), (6, .own 48 0), (7, .own 56 1), (8, .own 80 0), (9, I z0.2.2.2.2)] [(40, RR 3 1 I y46.2.2.1 0 false), (48, RR 3 1 I y46.2.2.2.1 0 false), (56, RR 64 4 a63 x55 1 false), (80, RR 64 4 a63 y46.2.2.2.2.2.2 0 false)] 149) ?_
        refine pB ?_
        refine pN ?_
        refine pS ?_
        refine gR 6 (rg Try.f215 6) ?_
        refine se (mkE [(1, .fn 216 [.ia [LL a63 p1_c0] 0]), (5, .own 40 0), (6, .own 48 0), (7, .own 56 1), (8, .own 80 0), (9, I (addI .i64 z0.2.2.2.2 1))] [(40, RR 3 1 I y46.2.2.1 0 false), (48, RR 3 1 I y46.2.2.2.1 0 false), (56, RR 64 4 a63 x55 1 false), (80, RR 64 4 a63 y46.2.2.2.2.2.2 0 false)] 149) ?_
        exact pL
    · refine se (mkE [(1, .fn 216 [.ia [LL a63 p1_c0] 0]), (5, .own 40 0), (6, .own 48 0), (7, .own 56 0), (8, .own 64 0), (9, I z0.2.2.2.2), (10, .own 80 0), (122, B false)] [(40, RR 3 1 I y46.2.2.1 0 false), (48, RR 3 1 I y46.2.2.2.1 0 false), (56, RR 64 4 a63 y46.2.2.2.2.1 0 false), (64, RR 64 4 a63 y46.2.2.2.2.2.1 0 false), (80, RR 64 4 a63 y46.2.2.2.2.2.2 0 false)] 149) ?_
      refine pN ?_
      refine pS ?_
      refine gF (.tmp 122) ?_
      refine gK ?_
      refine pN ?_
      refine pS ?_
      refine gR 23 (rg Try.f215 23) ?_
      refine sg 2 (mkE [(143, .own 64 0), (142, .own 56 0), (1, .fn 216 [.ia [LL a63 p1_c0] 0]), (5, .own 40 0), (6, .own 48 0), (7, .own 56 0), (8, .own 64 0), (9, I z0.2.2.2.2), (10, .own 80 0), (122, B false)] [(40, RR 3 1 I y46.2.2.1 0 false), (48, RR 3 1 I y46.2.2.2.1 0 false), (56, RR 64 4 a63 y46.2.2.2.2.1 0 false), (64, RR 64 4 a63 y46.2.2.2.2.2.1 0 false), (80, RR 64 4 a63 y46.2.2.2.2.2.2 0 false)] 149) ?_
      refine mo (some 144) (apO 65 64 4 32 56 a63 0 [64] (y := .own 64 0) (l2 := y46.2.2.2.2.2.1)) (fun x56 => ?_)
      refine se (mkE [(1, .fn 216 [.ia [LL a63 p1_c0] 0]), (5, .own 40 0), (6, .own 48 0), (7, .own 56 1), (8, .own 80 0), (9, I z0.2.2.2.2)] [(40, RR 3 1 I y46.2.2.1 0 false), (48, RR 3 1 I y46.2.2.2.1 0 false), (56, RR 64 4 a63 x56 1 false), (80, RR 64 4 a63 y46.2.2.2.2.2.2 0 false)] 149) ?_
      refine pB ?_
      refine pN ?_
      refine pS ?_
      refine gR 6 (rg Try.f215 6) ?_
      refine se (mkE [(1, .fn 216 [.ia [LL a63 p1_c0] 0]), (5, .own 40 0), (6, .own 48 0), (7, .own 56 1), (8, .own 80 0), (9, I (addI .i64 z0.2.2.2.2 1))] [(40, RR 3 1 I y46.2.2.1 0 false), (48, RR 3 1 I y46.2.2.2.1 0 false), (56, RR 64 4 a63 x56 1 false), (80, RR 64 4 a63 y46.2.2.2.2.2.2 0 false)] 149) ?_
      exact pL
  · refine gX 0 ?_
    exact pL
noncomputable def T215 (p0 : (List S63)) (p1_c0 : (List S63)) : Option (List S63) := ((T255 p0).bind fun x1 => ((T255_1 p0).bind fun x2 => ((iter (L215_5 p1_c0) (x1, x2, [], [], 0)).bind fun y57 => ((appO 32 y57.2.2.2.2.1 y57.2.2.2.2.2).bind fun x58 => (some x58)))))
theorem B215 (C : Callee) (h216 : ∀ (p0 : Int) (p1 : Int) (p2_c0 : (List S63)), C 216 [I p0, I p1, .ia [LL a63 p2_c0] 0] = (T216 p0 p1 p2_c0).map B) (h255 : ∀ (p0 : (List S63)), C 255 [LL a63 p0, .fn 256 []] = (T255 p0).map (fun l => AV.fr 3 1 (List.map I l))) (h255_1 : ∀ (p0 : (List S63)), C 255 [LL a63 p0, .fn 257 []] = (T255_1 p0).map (fun l => AV.fr 3 1 (List.map I l))) (h258 : ∀ (p0 : (List S63)) (p1 : (List S63)), C 258 [LL a63 p0, LL a63 p1, .fn 259 []] = (T258 p0 p1).map B) (p0 : (List S63)) (p1_c0 : (List S63)) : runs Try.prog C (cfg.fn 215) (finFn Try.prog (cfg.fn 215).byval Try.f215) [] (execA Try.prog C (cfg.fn 215) (nr Try.f215 []) (frame0 [LL a63 p0, .fn 216 [.ia [LL a63 p1_c0] 0]] 149 false)) = (T215 p0 p1_c0).map (fun l => AV.fr 64 4 (List.map a63 l)) := by
  unfold T215
  refine gS 1 ?_
  refine gR 0 (rg Try.f215 0) ?_
  refine se (mkE [(0, LL a63 p0), (1, .fn 216 [.ia [LL a63 p1_c0] 0])] [] 149) ?_
  refine pN ?_
  refine pS ?_
  refine gS 2 ?_
  refine gR 1 (rg Try.f215 1) ?_
  refine sg 1 (mkE [(15, LL a63 p0), (0, LL a63 p0), (1, .fn 216 [.ia [LL a63 p1_c0] 0])] [] 149) ?_
  refine co 16 [] (h255 p0) (fun x1 => ?_)
  refine se (mkE [(0, LL a63 p0), (1, .fn 216 [.ia [LL a63 p1_c0] 0]), (5, .own 128 0)] [(128, RR 3 1 I x1 0 false)] 149) ?_
  refine pN ?_
  refine pS ?_
  refine gS 3 ?_
  refine gR 2 (rg Try.f215 2) ?_
  refine sg 1 (mkE [(17, LL a63 p0), (0, LL a63 p0), (1, .fn 216 [.ia [LL a63 p1_c0] 0]), (5, .own 128 0)] [(128, RR 3 1 I x1 0 false)] 149) ?_
  refine co 18 [] (h255_1 p0) (fun x2 => ?_)
  refine se (mkE [(1, .fn 216 [.ia [LL a63 p1_c0] 0]), (5, .own 128 0), (6, .own 144 0)] [(128, RR 3 1 I x1 0 false), (144, RR 3 1 I x2 0 false)] 149) ?_
  refine pN ?_
  refine pS ?_
  refine gS 4 ?_
  refine gR 3 (rg Try.f215 3) ?_
  refine se (mkE [(1, .fn 216 [.ia [LL a63 p1_c0] 0]), (5, .own 128 0), (6, .own 144 0), (7, .nils), (8, .nils)] [(128, RR 3 1 I x1 0 false), (144, RR 3 1 I x2 0 false)] 149) ?_
  refine pN ?_
  refine pS ?_
  refine gS 24 ?_
  refine gS 5 ?_
  refine gR 4 (rg Try.f215 4) ?_
  refine se (mkE [(1, .fn 216 [.ia [LL a63 p1_c0] 0]), (5, .own 128 0), (6, .own 144 0), (7, .nils), (8, .nils), (9, I 0)] [(128, RR 3 1 I x1 0 false), (144, RR 3 1 I x2 0 false)] 149) ?_
  refine pN ?_
  refine pS ?_
  refine gB 0 ?_
  refine lo [(1, none), (5, some (3, 1)), (6, some (3, 1)), (7, some (64, 4)), (8, some (64, 4)), (9, none)] [] (L215_5 p1_c0) (fun z0 : ((List Int) × (List Int) × (List S63) × (List S63) × Int) => (mkE [(1, .fn 216 [.ia [LL a63 p1_c0] 0]), (5, .own 40 0), (6, .own 48 0), (7, .own 56 0), (8, .own 64 0), (9, I z0.2.2.2.2)] [(40, RR 3 1 I z0.1 0 false), (48, RR 3 1 I z0.2.1 0 false), (56, RR 64 4 a63 z0.2.2.1 0 false), (64, RR 64 4 a63 z0.2.2.2.1 0 false)] 149)) (fun (x : (Int × Bool × (List Int) × (List Int) × (List S63) × (List S63))) => (.exit 0, (mkE [(1, .fn 216 [.ia [LL a63 p1_c0] 0]), (5, .own 40 0), (6, .own 48 0), (7, .own 56 0), (8, .own 64 0), (9, I x.1), (23, B x.2.1)] [(40, RR 3 1 I x.2.2.1 0 false), (48, RR 3 1 I x.2.2.2.1 0 false), (56, RR 64 4 a63 x.2.2.2.2.1 0 false), (64, RR 64 4 a63 x.2.2.2.2.2 0 false)] 149))) (x1, x2, [], [], 0) (fun z => L215_5_ok C h216 h258 p1_c0 z) ?_
  intro y57
  refine pH ?_
  refine pN ?_
  refine pS ?_
  refine gS 0 ?_
  refine gR 24 (rg Try.f215 24) ?_
  refine sg 2 (mkE [(147, .own 64 0), (146, .own 56 0), (1, .fn 216 [.ia [LL a63 p1_c0] 0]), (5, .own 40 0), (6, .own 48 0), (7, .own 56 0), (8, .own 64 0), (9, I y57.1), (23, B y57.2.1)] [(40, RR 3 1 I y57.2.2.1 0 false), (48, RR 3 1 I y57.2.2.2.1 0 false), (56, RR 64 4 a63 y57.2.2.2.2.1 0 false), (64, RR 64 4 a63 y57.2.2.2.2.2 0 false)] 149) ?_
  refine mo (some 148) (apO 65 64 4 32 56 a63 0 [64] (y := .own 64 0) (l2 := y57.2.2.2.2.2)) (fun x58 => ?_)
  refine se (mkE [(4, .own 56 1)] [(56, RR 64 4 a63 x58 1 false)] 149) ?_
  refine pN ?_
  refine pS ?_
  refine gE ?_
  exact pL
theorem F215 (m : Nat) (hm : 8 ≤ m) (p0 : (List S63)) (p1_c0 : (List S63)) : callA Try.prog cfg m 215 [LL a63 p0, .fn 216 [.ia [LL a63 p1_c0] 0]] = (T215 p0 p1_c0).map (fun l => AV.fr 64 4 (List.map a63 l)) := by
  obtain ⟨q, rfl⟩ : ∃ q, m = q + 1 := ⟨m - 1, by omega⟩
  exact (callA_body (fn := Try.f215) (c := body_ Try.f215) q _ (by kernel_rfl) (by kernel_rfl) (by kernel_rfl)).trans (B215 _ (fun p0 p1 p2_c0 => F216 q (by omega) p0 p1 p2_c0) (fun p0 => F255 q (by omega) p0) (fun p0 => F255_1 q (by omega) p0) (fun p0 p1 => F258 q (by omega) p0 p1) p0 p1_c0)

noncomputable def T123 (p0 : (List S63)) : Option (List S63) := ((T215 p0 p0).bind fun x1 => (some x1))
theorem B123 (C : Callee) (h215 : ∀ (p0 : (List S63)) (p1_c0 : (List S63)), C 215 [LL a63 p0, .fn 216 [.ia [LL a63 p1_c0] 0]] = (T215 p0 p1_c0).map (fun l => AV.fr 64 4 (List.map a63 l))) (p0 : (List S63)) : runs Try.prog C (cfg.fn 123) (finFn Try.prog (cfg.fn 123).byval Try.f123) [] (execA Try.prog C (cfg.fn 123) (nr Try.f123 []) (frame0 [LL a63 p0] 6 false)) = (T123 p0).map (fun l => AV.fr 64 4 (List.map a63 l)) := by
  unfold T123
  refine gS 1 ?_
  refine gR 0 (rg Try.f123 0) ?_
  refine se (mkE [(1, .ba 8 0)] [(8, .box [LL a63 p0] false)] 6) ?_
  refine pN ?_
  refine pS ?_
  refine gS 0 ?_
  refine gR 1 (rg Try.f123 1) ?_
  refine sg 2 (mkE [(4, .fn 216 [.ba 8 0]), (3, LL a63 p0), (1, .ba 8 0)] [(8, .box [LL a63 p0] false)] 6) ?_
  refine co 5 [8] (h215 p0 p0) (fun x1 => ?_)
  refine se (mkE [(2, .own 40 0)] [(40, RR 64 4 a63 x1 0 false)] 6) ?_
  refine pN ?_
  refine pS ?_
  refine gE ?_
  exact pL
theorem F123 (m : Nat) (hm : 9 ≤ m) (p0 : (List S63)) : callA Try.prog cfg m 123 [LL a63 p0] = (T123 p0).map (fun l => AV.fr 64 4 (List.map a63 l)) := by
  obtain ⟨q, rfl⟩ : ∃ q, m = q + 1 := ⟨m - 1, by omega⟩
  exact (callA_body (fn := Try.f123) (c := body_ Try.f123) q _ (by kernel_rfl) (by kernel_rfl) (by kernel_rfl)).trans (B123 _ (fun p0 p1_c0 => F215 q (by omega) p0 p1_c0) p0)

noncomputable def L121_3 (x1 : (List S63)) (z0 : (Int × (List S63) × Int)) : Option ((Int × (List S63) × Int) ⊕ (Int × Int × Bool × (List S63))) := (bif (ltI z0.2.2 (lenL x1)) then ((idxO (List.length z0.2.1) z0.2.2).bind fun x2 => ((getN z0.2.1 x2).bind fun x3 => (some (.inl ((addI .i64 z0.1 (mulI .i64 x3.f2 x3.f3)), z0.2.1, (addI .i64 z0.2.2 1)))))) else (some (.inr (z0.1, z0.2.2, (ltI z0.2.2 (lenL x1)), z0.2.1))))
theorem L121_3_ok (C : Callee) (x1 : (List S63)) (z0 : (Int × (List S63) × Int)) : runs Try.prog C (cfg.fn 121) (finLoop ((cfg.fn 121).keep 3) ((cfg.fn 121).al 3)) [] (execA Try.prog C (cfg.fn 121) (nr Try.f121 [false, false, true, false, true, true]) ((fun z0 : (Int × (List S63) × Int) => (mkE [(3, I z0.1), (7, .own 56 0), (8, I (lenL x1)), (9, I z0.2.2)] [(56, RR 64 4 a63 z0.2.1 0 false)] 22)) z0)) = (L121_3 x1 z0).map (Sum.elim (fun z => .inl ((fun z0 : (Int × (List S63) × Int) => (mkE [(3, I z0.1), (7, .own 56 0), (8, I (lenL x1)), (9, I z0.2.2)] [(56, RR 64 4 a63 z0.2.1 0 false)] 22)) z)) (fun x => .inr ((fun (x : (Int × Int × Bool × (List S63))) => (.exit 0, (mkE [(3, I x.1), (7, .own 56 0), (8, I (lenL x1)), (9, I x.2.1), (10, B x.2.2.1)] [(56, RR 64 4 a63 x.2.2.2 0 false)] 22))) x))) := by
  unfold L121_3
  refine gS 0 ?_
  refine gR 3 (rg Try.f121 3) ?_
  refine se (mkE [(3, I z0.1), (7, .own 56 0), (8, I (lenL x1)), (9, I z0.2.2), (10, B (ltI z0.2.2 (lenL x1)))] [(56, RR 64 4 a63 z0.2.1 0 false)] 22) ?_
  refine pN ?_
  refine pS ?_
  refine gS 4 ?_
  refine gC 10 (ltI z0.2.2 (lenL x1)) ?_ ?_
  · refine gK ?_
    refine pN ?_
    refine pS ?_
    refine gS 6 ?_
    refine gB 1 ?_
    refine gS 5 ?_
    refine gR 4 (rg Try.f121 4) ?_
    refine vo 11 (addrOE 65 64 4 56 0 false a63 .i64 z0.2.1 z0.2.2) (fun x2 => ?_)
    refine vo 12 (loadOE 64 56 0 x2 0 64 4 4 true false a63 (fun q : S63 => a63 q) z0.2.1) (fun x3 => ?_)
    refine se (mkE [(3, I z0.1), (5, .ba 40 0), (7, .own 56 0), (8, I (lenL x1)), (9, I z0.2.2)] [(40, .box [I x3.f0, I x3.f1, I x3.f2, I x3.f3] false), (56, RR 64 4 a63 z0.2.1 0 false)] 22) ?_
    refine pN ?_
    refine pS ?_
    refine gR 5 (rg Try.f121 5) ?_
    refine se (mkE [(3, I (addI .i64 z0.1 (mulI .i64 x3.f2 x3.f3))), (7, .own 56 0), (8, I (lenL x1)), (9, I z0.2.2)] [(56, RR 64 4 a63 z0.2.1 0 false)] 22) ?_
    refine pB ?_
    refine pN ?_
    refine pS ?_
    refine gR 6 (rg Try.f121 6) ?_
    refine se (mkE [(3, I (addI .i64 z0.1 (mulI .i64 x3.f2 x3.f3))), (7, .own 56 0), (8, I (lenL x1)), (9, I (addI .i64 z0.2.2 1))] [(56, RR 64 4 a63 z0.2.1 0 false)] 22) ?_
    exact pL
  · refine gX 0 ?_
    exact pL
noncomputable def T121 (p0 : (List S63)) : Option Int := ((T123 p0).bind fun x1 => ((iter (L121_3 x1) (0, x1, 0)).bind fun y4 => (some y4.1)))
theorem B121 (C : Callee) (h123 : ∀ (p0 : (List S63)), C 123 [LL a63 p0] = (T123 p0).map (fun l => AV.fr 64 4 (List.map a63 l))) (p0 : (List S63)) : runs Try.prog C (cfg.fn 121) (finFn Try.prog (cfg.fn 121).byval Try.f121) [] (execA Try.prog C (cfg.fn 121) (nr Try.f121 []) (frame0 [LL a63 p0] 22 false)) = (T121 p0).map I := by
  unfold T121
  refine gS 1 ?_
  refine gR 0 (rg Try.f121 0) ?_
  refine se (mkE [(0, LL a63 p0)] [] 22) ?_
  refine pN ?_
  refine pS ?_
  refine gS 2 ?_
  refine gR 1 (rg Try.f121 1) ?_
  refine se (mkE [(0, LL a63 p0), (3, I 0)] [] 22) ?_
  refine pN ?_
  refine pS ?_
  refine gS 7 ?_
  refine gS 3 ?_
  refine gR 2 (rg Try.f121 2) ?_
  refine sg 1 (mkE [(6, LL a63 p0), (0, LL a63 p0), (3, I 0)] [] 22) ?_
  refine co 7 [] (h123 p0) (fun x1 => ?_)
  refine eo 8 (I (lenL x1)) (lenOE 65 64 4 a63 x1) ?_
  refine se (mkE [(3, I 0), (7, .own 56 0), (8, I (lenL x1)), (9, I 0)] [(56, RR 64 4 a63 x1 0 false)] 22) ?_
  refine pN ?_
  refine pS ?_
  refine gB 0 ?_
  refine lo [(3, none), (7, some (64, 4)), (8, none), (9, none)] [] (L121_3 x1) (fun z0 : (Int × (List S63) × Int) => (mkE [(3, I z0.1), (7, .own 56 0), (8, I (lenL x1)), (9, I z0.2.2)] [(56, RR 64 4 a63 z0.2.1 0 false)] 22)) (fun (x : (Int × Int × Bool × (List S63))) => (.exit 0, (mkE [(3, I x.1), (7, .own 56 0), (8, I (lenL x1)), (9, I x.2.1), (10, B x.2.2.1)] [(56, RR 64 4 a63 x.2.2.2 0 false)] 22))) (0, x1, 0) (fun z => L121_3_ok C x1 z) ?_
  intro y4
  refine pH ?_
  refine pN ?_
  refine pS ?_
  refine gS 0 ?_
  refine gR 7 (rg Try.f121 7) ?_
  refine se (mkE [(2, I y4.1)] [] 22) ?_
  refine pN ?_
  refine pS ?_
  refine gE ?_
  exact pL
theorem F121 (m : Nat) (hm : 10 ≤ m) (p0 : (List S63)) : callA Try.prog cfg m 121 [LL a63 p0] = (T121 p0).map I := by
  obtain ⟨q, rfl⟩ : ∃ q, m = q + 1 := ⟨m - 1, by omega⟩
  exact (callA_body (fn := Try.f121) (c := body_ Try.f121) q _ (by kernel_rfl) (by kernel_rfl) (by kernel_rfl)).trans (B121 _ (fun p0 => F123 q (by omega) p0) p0)

noncomputable def T122 (p0 : (List S63)) : Option ((List S63) × Int) := (bif (ltI 2000 (lenL p0)) then (some ([], 2)) else (some (p0, 0)))
theorem B122 (C : Callee) (p0 : (List S63)) : runs Try.prog C (cfg.fn 122) (finFn Try.prog (cfg.fn 122).byval Try.f122) [] (execA Try.prog C (cfg.fn 122) (nr Try.f122 []) (frame0 [LL a63 p0] 8 false)) = (T122 p0).map (fun r => AV.tup [(LL a63) r.1, I r.2]) := by
  unfold T122
  refine gS 1 ?_
  refine gR 0 (rg Try.f122 0) ?_
  refine se (mkE [(0, LL a63 p0)] [] 8) ?_
  refine pN ?_
  refine pS ?_
  refine gS 3 ?_
  refine gS 0 ?_
  refine gR 1 (rg Try.f122 1) ?_
  refine sg 1 (mkE [(4, LL a63 p0), (0, LL a63 p0)] [] 8) ?_
  refine eo 5 (I (lenL p0)) (lenE 65 a63 p0) ?_
  refine se (mkE [(0, LL a63 p0), (6, B (ltI 2000 (lenL p0)))] [] 8) ?_
  refine pN ?_
  refine pS ?_
  refine gC 6 (ltI 2000 (lenL p0)) ?_ ?_
  · refine gS 0 ?_
    refine gR 2 (rg Try.f122 2) ?_
    refine se (mkE [(2, .nils), (3, I 2)] [] 8) ?_
    refine pN ?_
    refine pS ?_
    refine gE ?_
    exact pL
  · refine gK ?_
    refine pN ?_
    refine pS ?_
    refine gS 0 ?_
    refine gR 3 (rg Try.f122 3) ?_
    refine se (mkE [(2, LL a63 p0), (3, I 0)] [] 8) ?_
    refine pN ?_
    refine pS ?_
    refine gE ?_
    exact pL
theorem F122 (m : Nat) (hm : 1 ≤ m) (p0 : (List S63)) : callA Try.prog cfg m 122 [LL a63 p0] = (T122 p0).map (fun r => AV.tup [(LL a63) r.1, I r.2]) := by
  obtain ⟨q, rfl⟩ : ∃ q, m = q + 1 := ⟨m - 1, by omega⟩
  exact (callA_body (fn := Try.f122) (c := body_ Try.f122) q _ (by kernel_rfl) (by kernel_rfl) (by kernel_rfl)).trans (B122 _ p0)

noncomputable def T219 (p0 : Int) (p1 : Int) (p2_c0 : (List S63)) (p3_c0 : (List S63)) : Option Bool := ((T217 p2_c0 p0 p1).bind fun x1 => (bif x1 then ((T217 p3_c0 p0 p1).bind fun x2 => (some (!x2))) else (some false)))
theorem B219 (C : Callee) (h217 : ∀ (p0 : (List S63)) (p1 : Int) (p2 : Int), C 217 [LL a63 p0, I p1, I p2] = (T217 p0 p1 p2).map B) (p0 : Int) (p1 : Int) (p2_c0 : (List S63)) (p3_c0 : (List S63)) : runs Try.prog C (cfg.fn 219) (finFn Try.prog (cfg.fn 219).byval Try.f219) [] (execA Try.prog C (cfg.fn 219) (nr Try.f219 []) (frame0 [I p0, I p1, .ia [LL a63 p2_c0] 0, .ia [LL a63 p3_c0] 0] 18 false)) = (T219 p0 p1 p2_c0 p3_c0).map B := by
  unfold T219
  refine gS 1 ?_
  refine gR 0 (rg Try.f219 0) ?_
  refine se (mkE [(0, I p0), (1, I p1), (2, .ia [LL a63 p2_c0] 0), (3, .ia [LL a63 p3_c0] 0)] [] 18) ?_
  refine pN ?_
  refine pS ?_
  refine gS 0 ?_
  refine gR 1 (rg Try.f219 1) ?_
  refine sg 3 (mkE [(9, I p1), (8, I p0), (7, LL a63 p2_c0), (0, I p0), (1, I p1), (2, .ia [LL a63 p2_c0] 0), (3, .ia [LL a63 p3_c0] 0)] [] 18) ?_
  refine co 10 [] (h217 p2_c0 p0 p1) (fun x1 => ?_)
  refine sg 5 (mkE [(11, B x1), (10, B x1), (9, I p1), (8, I p0), (7, LL a63 p2_c0), (0, I p0), (1, I p1), (2, .ia [LL a63 p2_c0] 0), (3, .ia [LL a63 p3_c0] 0)] [] 18) ?_
  refine sb 11 x1 ?_ ?_
  · refine sg 8 (mkE [(14, I p1), (13, I p0), (12, LL a63 p3_c0), (11, B true), (11, B x1), (10, B x1), (9, I p1), (8, I p0), (7, LL a63 p2_c0), (0, I p0), (1, I p1), (2, .ia [LL a63 p2_c0] 0), (3, .ia [LL a63 p3_c0] 0)] [] 18) ?_
    refine co 15 [] (h217 p3_c0 p0 p1) (fun x2 => ?_)
    refine se (mkE [(6, B (!x2))] [] 18) ?_
    refine pN ?_
    refine pS ?_
    refine gE ?_
    exact pL
  · refine se (mkE [(6, B false)] [] 18) ?_
    refine pN ?_
    refine pS ?_
    refine gE ?_
    exact pL
theorem F219 (m : Nat) (hm : 7 ≤ m) (p0 : Int) (p1 : Int) (p2_c0 : (List S63)) (p3_c0 : (List S63)) : callA Try.prog cfg m 219 [I p0, I p1, .ia [LL a63 p2_c0] 0, .ia [LL a63 p3_c0] 0] = (T219 p0 p1 p2_c0 p3_c0).map B := by
  obtain ⟨q, rfl⟩ : ∃ q, m = q + 1 := ⟨m - 1, by omega⟩
  exact (callA_body (fn := Try.f219) (c := body_ Try.f219) q _ (by kernel_rfl) (by kernel_rfl) (by kernel_rfl)).trans (B219 _ (fun p0 p1 p2 => F217 q (by omega) p0 p1 p2) p0 p1 p2_c0 p3_c0)

noncomputable def L215_1_9 (p1_c0 : (List S63)) (p1_c1 : (List S63)) (z0 : ((List Int) × (List Int) × (List S63) × (List S63) × Int)) (z1 : ((List Int) × (List Int) × (List S63) × (List S63) × (List S63) × Int)) : Option (((List Int) × (List Int) × (List S63) × (List S63) × (List S63) × Int) ⊕ (Int × Bool × (List Int) × (List Int) × (List S63) × (List S63) × (List S63))) := (bif (ltI (addI .i64 z1.2.2.2.2.2 1) (lenL z1.1)) then ((idxO (List.length z1.1) z1.2.2.2.2.2).bind fun x3 => ((getN z1.1 x3).bind fun x4 => ((idxO (List.length z1.2.1) z0.2.2.2.2).bind fun x5 => ((getN z1.2.1 x5).bind fun x6 => ((T219 x4 x6 p1_c0 p1_c1).bind fun x7 => (bif (!x7) then (some (.inl (z1.1, z1.2.1, z1.2.2.1, z1.2.2.2.1, z1.2.2.2.2.1, (addI .i64 z1.2.2.2.2.2 1)))) else (bif (leI 0 (subI .i64 (lenL z1.2.2.2.2.1) 1)) then ((idxO (List.length z1.2.2.2.2.1) (subI .i64 (lenL z1.2.2.2.2.1) 1)).bind fun x8 => ((getN z1.2.2.2.2.1 x8).bind fun x9 => ((idxO (List.length z1.2.2.2.2.1) (subI .i64 (lenL z1.2.2.2.2.1) 1)).bind fun x10 => ((getN z1.2.2.2.2.1 x10).bind fun x11 => ((idxO (List.length z1.1) z1.2.2.2.2.2).bind fun x12 => ((getN z1.1 x12).bind fun x13 => (bif (eqI (addI .i64 x9.f0 x11.f2) x13) then ((idxO (List.length z1.1) (addI .i64 z1.2.2.2.2.2 1)).bind fun x14 => ((getN z1.1 x14).bind fun x15 => ((idxO (List.length z1.2.2.2.2.1) (subI .i64 (lenL z1.2.2.2.2.1) 1)).bind fun x16 => ((getN z1.2.2.2.2.1 x16).bind fun x17 => ((idxO (List.length z1.2.2.2.2.1) (subI .i64 (lenL z1.2.2.2.2.1) 1)).bind fun x18 => ((getN z1.2.2.2.2.1 x18).bind fun x19 => (some (.inl (z1.1, z1.2.1, z1.2.2.1, z1.2.2.2.1, (List.set z1.2.2.2.2.1 x18 (S63.mk x19.f0 x19.f1 (subI .i64 x15 x17.f0) x19.f3)), (addI .i64 z1.2.2.2.2.2 1)))))))))) else ((idxO (List.length z1.1) z1.2.2.2.2.2).bind fun x20 => ((getN z1.1 x20).bind fun x21 => ((idxO (List.length z1.2.1) z0.2.2.2.2).bind fun x22 => ((getN z1.2.1 x22).bind fun x23 => ((idxO (List.length z1.1) (addI .i64 z1.2.2.2.2.2 1)).bind fun x24 => ((getN z1.1 x24).bind fun x25 => ((idxO (List.length z1.1) z1.2.2.2.2.2).bind fun x26 => ((getN z1.1 x26).bind fun x27 => ((idxO (List.length z1.2.1) (addI .i64 z0.2.2.2.2 1)).bind fun x28 => ((getN z1.2.1 x28).bind fun x29 => ((idxO (List.length z1.2.1) z0.2.2.2.2).bind fun x30 => ((getN z1.2.1 x30).bind fun x31 => ((appO 32 z1.2.2.2.2.1 ([(S63.mk x21 x23 (subI .i64 x25 x27) (subI .i64 x29 x31))] : List S63)).bind fun x32 => (some (.inl (z1.1, z1.2.1, z1.2.2.1, z1.2.2.2.1, x32, (addI .i64 z1.2.2.2.2.2 1)))))))))))))))))))))))) else ((idxO (List.length z1.1) z1.2.2.2.2.2).bind fun x33 => ((getN z1.1 x33).bind fun x34 => ((idxO (List.length z1.2.1) z0.2.2.2.2).bind fun x35 => ((getN z1.2.1 x35).bind fun x36 => ((idxO (List.length z1.1) (addI .i64 z1.2.2.2.2.2 1)).bind fun x37 => ((getN z1.1 x37).bind fun x38 => ((idxO (List.length z1.1) z1.2.2.2.2.2).bind fun x39 => ((getN z1.1 x39).bind fun x40 => ((idxO (List.length z1.2.1) (addI .i64 z0.2.2.2.2 1)).bind fun x41 => ((getN z1.2.1 x41).bind fun x42 => ((idxO (List.length z1.2.1) z0.2.2.2.2).bind fun x43 => ((getN z1.2.1 x43).bind fun x44 => ((appO 32 z1.2.2.2.2.1 ([(S63.mk x34 x36 (subI .i64 x38 x40) (subI .i64 x42 x44))] : List S63)).bind fun x45 => (some (.inl (z1.1, z1.2.1, z1.2.2.1, z1.2.2.2.1, x45, (addI .i64 z1.2.2.2.2.2 1)))))))))))))))))))))))) else (some (.inr (z1.2.2.2.2.2, (ltI (addI .i64 z1.2.2.2.2.2 1) (lenL z1.1)), z1.1, z1.2.1, z1.2.2.1, z1.2.2.2.1, z1.2.2.2.2.1))))
theorem L215_1_9_ok (C : Callee) (h219 : ∀ (p0 : Int) (p1 : Int) (p2_c0 : (List S63)) (p3_c0 : (List S63)), C 219 [I p0, I p1, .ia [LL a63 p2_c0] 0, .ia [LL a63 p3_c0] 0] = (T219 p0 p1 p2_c0 p3_c0).map B) (p1_c0 : (List S63)) (p1_c1 : (List S63)) (z0 : ((List Int) × (List Int) × (List S63) × (List S63) × Int)) (z1 : ((List Int) × (List Int) × (List S63) × (List S63) × (List S63) × Int)) : runs Try.prog C (cfg.fn 215) (finLoop ((cfg.fn 215).keep 9) ((cfg.fn 215).al 9)) [] (execA Try.prog C (cfg.fn 215) (nr Try.f215 [false, false, true, false, true, false, false, true, false, false, true, false, true, true, true, true]) ((fun z1 : ((List Int) × (List Int) × (List S63) × (List S63) × (List S63) × Int) => (mkE [(1, .fn 219 [.ia [LL a63 p1_c0] 0, .ia [LL a63 p1_c1] 0]), (5, .own 40 0), (6, .own 48 0), (7, .own 56 0), (8, .own 64 0), (9, I z0.2.2.2.2), (10, .own 80 0), (11, I z1.2.2.2.2.2)] [(40, RR 3 1 I z1.1 0 false), (48, RR 3 1 I z1.2.1 0 false), (56, RR 64 4 a63 z1.2.2.1 0 false), (64, RR 64 4 a63 z1.2.2.2.1 0 false), (80, RR 64 4 a63 z1.2.2.2.2.1 0 false)] 149)) z1)) = (L215_1_9 p1_c0 p1_c1 z0 z1).map (Sum.elim (fun z => .inl ((fun z1 : ((List Int) × (List Int) × (List S63) × (List S63) × (List S63) × Int) => (mkE [(1, .fn 219 [.ia [LL a63 p1_c0] 0, .ia [LL a63 p1_c1] 0]), (5, .own 40 0), (6, .own 48 0), (7, .own 56 0), (8, .own 64 0), (9, I z0.2.2.2.2), (10, .own 80 0), (11, I z1.2.2.2.2.2)] [(40, RR 3 1 I z1.1 0 false), (48, RR 3 1 I z1.2.1 0 false), (56, RR 64 4 a63 z1.2.2.1 0 false), (64, RR 64 4 a63 z1.2.2.2.1 0 false), (80, RR 64 4 a63 z1.2.2.2.2.1 0 false)] 149)) z)) (fun x => .inr ((fun (x : (Int × Bool × (List Int) × (List Int) × (List S63) × (List S63) × (List S63))) => (.exit 2, (mkE [(1, .fn 219 [.ia [LL a63 p1_c0] 0, .ia [LL a63 p1_c1] 0]), (5, .own 40 0), (6, .own 48 0), (7, .own 56 0), (8, .own 64 0), (9, I z0.2.2.2.2), (10, .own 80 0), (11, I x.1), (30, B x.2.1)] [(40, RR 3 1 I x.2.2.1 0 false), (48, RR 3 1 I x.2.2.2.1 0 false), (56, RR 64 4 a63 x.2.2.2.2.1 0 false), (64, RR 64 4 a63 x.2.2.2.2.2.1 0 false), (80, RR 64 4 a63 x.2.2.2.2.2.2 0 false)] 149))) x))) := by
  unfold L215_1_9
  refine gS 11 ?_
  refine gS 0 ?_
  refine gR 9 (rg Try.f215 9) ?_
  refine sg 3 (mkE [(28, .own 40 0), (27, I (addI .i64 z1.2.2.2.2.2 1)), (26, I z1.2.2.2.2.2), (1, .fn 219 [.ia [LL a63 p1_c0] 0, .ia [LL a63 p1_c1] 0]), (5, .own 40 0), (6, .own 48 0), (7, .own 56 0), (8, .own 64 0), (9, I z0.2.2.2.2), (10, .own 80 0), (11, I z1.2.2.2.2.2)] [(40, RR 3 1 I z1.1 0 false), (48, RR 3 1 I z1.2.1 0 false), (56, RR 64 4 a63 z1.2.2.1 0 false), (64, RR 64 4 a63 z1.2.2.2.1 0 false), (80, RR 64 4 a63 z1.2.2.2.2.1 0 false)] 149) ?_
  refine eo 29 (I (lenL z1.1)) (lenOE 104 3 1 I z1.1) ?_
  refine se (mkE [(1, .fn 219 [.ia [LL a63 p1_c0] 0, .ia [LL a63 p1_c1] 0]), (5, .own 40 0), (6, .own 48 0), (7, .own 56 0), (8, .own 64 0), (9, I z0.2.2.2.2), (10, .own 80 0), (11, I z1.2.2.2.2.2), (30, B (ltI (addI .i64 z1.2.2.2.2.2 1) (lenL z1.1)))] [(40, RR 3 1 I z1.1 0 false), (48, RR 3 1 I z1.2.1 0 false), (56, RR 64 4 a63 z1.2.2.1 0 false), (64, RR 64 4 a63 z1.2.2.2.1 0 false), (80, RR 64 4 a63 z1.2.2.2.2.1 0 false)] 149) ?_
  refine pN ?_
  refine pS ?_
  refine gC 30 (ltI (addI .i64 z1.2.2.2.2.2 1) (lenL z1.1)) ?_ ?_
  · refine gK ?_
    refine pN ?_
    refine pS ?_
    refine gS 10 ?_
    refine gB 3 ?_
    refine gS 12 ?_
    refine gS 0 ?_
    refine gD 11 11 (rg Try.f215 11) [0, 1, 2, 3, 4, 5, 6, 7, 8, 9, 10] ?_
    refine dg 3 [(some 33, qe (.fn 219 [.ia [LL a63 p1_c0] 0, .ia [LL a63 p1_c1] 0])), (some 34, qe (.own 40 0)), (some 35, qe (I z1.2.2.2.2.2))] ?_
    refine dv 36 (mkE [(35, I z1.2.2.2.2.2), (34, .own 40 0), (1, .fn 219 [.ia [LL a63 p1_c0] 0, .ia [LL a63 p1_c1] 0]), (5, .own 40 0), (6, .own 48 0), (7, .own 56 0), (8, .own 64 0), (9, I z0.2.2.2.2), (10, .own 80 0), (11, I z1.2.2.2.2.2), (30, B (ltI (addI .i64 z1.2.2.2.2.2 1) (lenL z1.1)))] [(40, RR 3 1 I z1.1 0 false), (48, RR 3 1 I z1.2.1 0 false), (56, RR 64 4 a63 z1.2.2.1 0 false), (64, RR 64 4 a63 z1.2.2.2.1 0 false), (80, RR 64 4 a63 z1.2.2.2.2.1 0 false)] 149) (addrOE 104 3 1 40 0 false I .i64 z1.1 z1.2.2.2.2.2) (fun x3 => ?_)
    refine dv 37 (mkE [(36, .oa 40 0 x3 0), (35, I z1.2.2.2.2.2), (34, .own 40 0), (1, .fn 219 [.ia [LL a63 p1_c0] 0, .ia [LL a63 p1_c1] 0]), (5, .own 40 0), (6, .own 48 0), (7, .own 56 0), (8, .own 64 0), (9, I z0.2.2.2.2), (10, .own 80 0), (11, I z1.2.2.2.2.2), (30, B (ltI (addI .i64 z1.2.2.2.2.2 1) (lenL z1.1)))] [(40, RR 3 1 I z1.1 0 false), (48, RR 3 1 I z1.2.1 0 false), (56, RR 64 4 a63 z1.2.2.1 0 false), (64, RR 64 4 a63 z1.2.2.2.1 0 false), (80, RR 64 4 a63 z1.2.2.2.2.1 0 false)] 149) (loadOE 3 40 0 x3 0 3 1 1 false false I (fun q : Int => I q) z1.1) (fun x4 => ?_)
    refine dg 7 [(some 33, qe (.fn 219 [.ia [LL a63 p1_c0] 0, .ia [LL a63 p1_c1] 0])), (some 34, qe (.own 40 0)), (some 35, qe (I z1.2.2.2.2.2)), (some 36, qe (.oa 40 0 x3 0)), (some 37, qe (I x4)), (some 38, qe (.own 48 0)), (some 39, qe (I z0.2.2.2.2))] ?_
    refine dv 40 (mkE [(39, I z0.2.2.2.2), (38, .own 48 0), (1, .fn 219 [.ia [LL a63 p1_c0] 0, .ia [LL a63 p1_c1] 0]), (5, .own 40 0), (6, .own 48 0), (7, .own 56 0), (8, .own 64 0), (9, I z0.2.2.2.2), (10, .own 80 0), (11, I z1.2.2.2.2.2), (30, B (ltI (addI .i64 z1.2.2.2.2.2 1) (lenL z1.1)))] [(40, RR 3 1 I z1.1 0 false), (48, RR 3 1 I z1.2.1 0 false), (56, RR 64 4 a63 z1.2.2.1 0 false), (64, RR 64 4 a63 z1.2.2.2.1 0 false), (80, RR 64 4 a63 z1.2.2.2.2.1 0 false)] 149) (addrOE 104 3 1 48 0 false I .i64 z1.2.1 z0.2.2.2.2) (fun x5 => ?_)
    refine dv 41 (mkE [(40, .oa 48 0 x5 0), (39, I z0.2.2.2.2), (38, .own 48 0), (1, .fn 219 [.ia [LL a63 p1_c0] 0, .ia [LL a63 p1_c1] 0]), (5, .own 40 0), (6, .own 48 0), (7, .own 56 0), (8, .own 64 0), (9, I z0.2.2.2.2), (10, .own 80 0), (11, I z1.2.2.2.2.2), (30, B (ltI (addI .i64 z1.2.2.2.2.2 1) (lenL z1.1)))] [(40, RR 3 1 I z1.1 0 false), (48, RR 3 1 I z1.2.1 0 false), (56, RR 64 4 a63 z1.2.2.1 0 false), (64, RR 64 4 a63 z1.2.2.2.1 0 false), (80, RR 64 4 a63 z1.2.2.2.2.1 0 false)] 149) (loadOE 3 48 0 x5 0 3 1 1 false false I (fun q : Int => I q) z1.2.1) (fun x6 => ?_)
    refine dc 42 [] (mkE [(41, I x6), (40, .oa 48 0 x5 0), (39, I z0.2.2.2.2), (38, .own 48 0), (37, I x4), (36, .oa 40 0 x3 0), (35, I z1.2.2.2.2.2), (34, .own 40 0), (33, .fn 219 [.ia [LL a63 p1_c0] 0, .ia [LL a63 p1_c1] 0]), (1, .fn 219 [.ia [LL a63 p1_c0] 0, .ia [LL a63 p1_c1] 0]), (5, .own 40 0), (6, .own 48 0), (7, .own 56 0), (8, .own 64 0), (9, I z0.2.2.2.2), (10, .own 80 0), (11, I z1.2.2.2.2.2), (30, B (ltI (addI .i64 z1.2.2.2.2.2 1) (lenL z1.1)))] [(40, RR 3 1 I z1.1 0 false), (48, RR 3 1 I z1.2.1 0 false), (56, RR 64 4 a63 z1.2.2.1 0 false), (64, RR 64 4 a63 z1.2.2.2.1 0 false), (80, RR 64 4 a63 z1.2.2.2.2.1 0 false)] 149) (h219 x4 x6 p1_c0 p1_c1) (fun x7 => ?_)
    refine dg 11 [(some 33, qe (.fn 219 [.ia [LL a63 p1_c0] 0, .ia [LL a63 p1_c1] 0])), (some 34, qe (.own 40 0)), (some 35, qe (I z1.2.2.2.2.2)), (some 36, qe (.oa 40 0 x3 0)), (some 37, qe (I x4)), (some 38, qe (.own 48 0)), (some 39, qe (I z0.2.2.2.2)), (some 40, qe (.oa 48 0 x5 0)), (some 41, qe (I x6)), (some 42, qe (B x7)), (some 43, qe (B (!x7)))] ?_
    refine de (mkE [(43, B (!x7)), (42, B x7), (41, I x6), (40, .oa 48 0 x5 0), (39, I z0.2.2.2.2), (38, .own 48 0), (37, I x4), (36, .oa 40 0 x3 0), (35, I z1.2.2.2.2.2), (34, .own 40 0), (33, .fn 219 [.ia [LL a63 p1_c0] 0, .ia [LL a63 p1_c1] 0]), (1, .fn 219 [.ia [LL a63 p1_c0] 0, .ia [LL a63 p1_c1] 0]), (5, .own 40 0), (6, .own 48 0), (7, .own 56 0), (8, .own 64 0), (9, I z0.2.2.2.2), (10, .own 80 0), (11, I z1.2.2.2.2.2), (30, B (ltI (addI .i64 z1.2.2.2.2.2 1) (lenL z1.1)))] [(40, RR 3 1 I z1.1 0 false), (48, RR 3 1 I z1.2.1 0 false), (56, RR 64 4 a63 z1.2.2.1 0 false), (64, RR 64 4 a63 z1.2.2.2.1 0 false), (80, RR 64 4 a63 z1.2.2.2.2.1 0 false)] 149) ?_
    refine se (mkE [(1, .fn 219 [.ia [LL a63 p1_c0] 0, .ia [LL a63 p1_c1] 0]), (5, .own 40 0), (6, .own 48 0), (7, .own 56 0), (8, .own 64 0), (9, I z0.2.2.2.2), (10, .own 80 0), (11, I z1.2.2.2.2.2), (43, B (!x7))] [(40, RR 3 1 I z1.1 0 false), (48, RR 3 1 I z1.2.1 0 false), (56, RR 64 4 a63 z1.2.2.1 0 false), (64, RR 64 4 a63 z1.2.2.2.1 0 false), (80, RR 64 4 a63 z1.2.2.2.2.1 0 false)] 149) ?_
    refine pN ?_
    refine pS ?_
    refine gC 43 (!x7) ?_ ?_
    · refine gX 3 ?_
      refine pF ?_
      refine pO ?_
      refine pH ?_
      refine pN ?_
      refine pS ?_
      refine gR 10 (rg Try.f215 10) ?_
      refine se (mkE [(1, .fn 219 [.ia [LL a63 p1_c0] 0, .ia [LL a63 p1_c1] 0]), (5, .own 40 0), (6, .own 48 0), (7, .own 56 0), (8, .own 64 0), (9, I z0.2.2.2.2), (10, .own 80 0), (11, I (addI .i64 z1.2.2.2.2.2 1))] [(40, RR 3 1 I z1.1 0 false), (48, RR 3 1 I z1.2.1 0 false), (56, RR 64 4 a63 z1.2.2.1 0 false), (64, RR 64 4 a63 z1.2.2.2.1 0 false), (80, RR 64 4 a63 z1.2.2.2.2.1 0 false)] 149) ?_
      exact pL
    · refine gK ?_
      refine pN ?_
      refine pS ?_
      refine gS 13 ?_
      refine gR 12 (rg Try.f215 12) ?_
      refine sg 1 (mkE [(44, .own 80 0), (1, .fn 219 [.ia [LL a63 p1_c0] 0, .ia [LL a63 p1_c1] 0]), (5, .own 40 0), (6, .own 48 0), (7, .own 56 0), (8, .own 64 0), (9, I z0.2.2.2.2), (10, .own 80 0), (11, I z1.2.2.2.2.2), (43, B (!x7))] [(40, RR 3 1 I z1.1 0 false), (48, RR 3 1 I z1.2.1 0 false), (56, RR 64 4 a63 z1.2.2.1 0 false), (64, RR 64 4 a63 z1.2.2.2.1 0 false), (80, RR 64 4 a63 z1.2.2.2.2.1 0 false)] 149) ?_
      refine eo 45 (I (lenL z1.2.2.2.2.1)) (lenOE 65 64 4 a63 z1.2.2.2.2.1) ?_
      refine se (mkE [(1, .fn 219 [.ia [LL a63 p1_c0] 0, .ia [LL a63 p1_c1] 0]), (5, .own 40 0), (6, .own 48 0), (7, .own 56 0), (8, .own 64 0), (9, I z0.2.2.2.2), (10, .own 80 0), (11, I z1.2.2.2.2.2), (12, I (subI .i64 (lenL z1.2.2.2.2.1) 1))] [(40, RR 3 1 I z1.1 0 false), (48, RR 3 1 I z1.2.1 0 false), (56, RR 64 4 a63 z1.2.2.1 0 false), (64, RR 64 4 a63 z1.2.2.2.1 0 false), (80, RR 64 4 a63 z1.2.2.2.2.1 0 false)] 149) ?_
      refine pN ?_
      refine pS ?_
      refine gS 0 ?_
      refine gD 13 20 (rg Try.f215 13) [0, 1, 2, 3, 4, 5, 6, 7, 8, 9, 10, 11, 12, 13, 14, 15, 16, 17, 18, 19] ?_
      refine dg 3 [(some 47, qe (I (subI .i64 (lenL z1.2.2.2.2.1) 1))), (some 48, qe (B (leI 0 (subI .i64 (lenL z1.2.2.2.2.1) 1)))), (some 49, qe (B (leI 0 (subI .i64 (lenL z1.2.2.2.2.1) 1))))] ?_
      refine db 2 49 (leI 0 (subI .i64 (lenL z1.2.2.2.2.1) 1)) ?_ ?_
      · refine dg 5 [(some 47, qe (I (subI .i64 (lenL z1.2.2.2.2.1) 1))), (some 48, qe (B (leI 0 (subI .i64 (lenL z1.2.2.2.2.1) 1)))), (some 49, qe (B true)), (some 50, qe (.own 80 0)), (some 51, qe (I (subI .i64 (lenL z1.2.2.2.2.1) 1)))] ?_
        refine dv 52 (mkE [(51, I (subI .i64 (lenL z1.2.2.2.2.1) 1)), (50, .own 80 0), (49, B true), (48, B (leI 0 (subI .i64 (lenL z1.2.2.2.2.1) 1))), (47, I (subI .i64 (lenL z1.2.2.2.2.1) 1)), (1, .fn 219 [.ia [LL a63 p1_c0] 0, .ia [LL a63 p1_c1] 0]), (5, .own 40 0), (6, .own 48 0), (7, .own 56 0), (8, .own 64 0), (9, I z0.2.2.2.2), (10, .own 80 0), (11, I z1.2.2.2.2.2), (12, I (subI .i64 (lenL z1.2.2.2.2.1) 1))] [(40, RR 3 1 I z1.1 0 false), (48, RR 3 1 I z1.2.1 0 false), (56, RR 64 4 a63 z1.2.2.1 0 false), (64, RR 64 4 a63 z1.2.2.2.1 0 false), (80, RR 64 4 a63 z1.2.2.2.2.1 0 false)] 149) (addrOE 65 64 4 80 0 false a63 .i64 z1.2.2.2.2.1 (subI .i64 (lenL z1.2.2.2.2.1) 1)) (fun x8 => ?_)
        refine dg 7 [(some 47, qe (I (subI .i64 (lenL z1.2.2.2.2.1) 1))), (some 48, qe (B (leI 0 (subI .i64 (lenL z1.2.2.2.2.1) 1)))), (some 49, qe (B true)), (some 50, qe (.own 80 0)), (some 51, qe (I (subI .i64 (lenL z1.2.2.2.2.1) 1))), (some 52, qe (.oa 80 0 x8 0)), (some 53, qe (.oa 80 0 x8 0))] ?_
        refine dv 54 (mkE [(53, .oa 80 0 x8 0), (52, .oa 80 0 x8 0), (51, I (subI .i64 (lenL z1.2.2.2.2.1) 1)), (50, .own 80 0), (49, B true), (48, B (leI 0 (subI .i64 (lenL z1.2.2.2.2.1) 1))), (47, I (subI .i64 (lenL z1.2.2.2.2.1) 1)), (1, .fn 219 [.ia [LL a63 p1_c0] 0, .ia [LL a63 p1_c1] 0]), (5, .own 40 0), (6, .own 48 0), (7, .own 56 0), (8, .own 64 0), (9, I z0.2.2.2.2), (10, .own 80 0), (11, I z1.2.2.2.2.2), (12, I (subI .i64 (lenL z1.2.2.2.2.1) 1))] [(40, RR 3 1 I z1.1 0 false), (48, RR 3 1 I z1.2.1 0 false), (56, RR 64 4 a63 z1.2.2.1 0 false), (64, RR 64 4 a63 z1.2.2.2.1 0 false), (80, RR 64 4 a63 z1.2.2.2.2.1 0 false)] 149) (loadOE 3 80 0 x8 0 64 4 1 false false a63 (fun q : S63 => I q.f0) z1.2.2.2.2.1) (fun x9 => ?_)
        refine dg 10 [(some 47, qe (I (subI .i64 (lenL z1.2.2.2.2.1) 1))), (some 48, qe (B (leI 0 (subI .i64 (lenL z1.2.2.2.2.1) 1)))), (some 49, qe (B true)), (some 50, qe (.own 80 0)), (some 51, qe (I (subI .i64 (lenL z1.2.2.2.2.1) 1))), (some 52, qe (.oa 80 0 x8 0)), (some 53, qe (.oa 80 0 x8 0)), (some 54, qe (I x9.f0)), (some 55, qe (.own 80 0)), (some 56, qe (I (subI .i64 (lenL z1.2.2.2.2.1) 1)))] ?_
        refine dv 57 (mkE [(56, I (subI .i64 (lenL z1.2.2.2.2.1) 1)), (55, .own 80 0), (49, B true), (48, B (leI 0 (subI .i64 (lenL z1.2.2.2.2.1) 1))), (47, I (subI .i64 (lenL z1.2.2.2.2.1) 1)), (1, .fn 219 [.ia [LL a63 p1_c0] 0, .ia [LL a63 p1_c1] 0]), (5, .own 40 0), (6, .own 48 0), (7, .own 56 0), (8, .own 64 0), (9, I z0.2.2.2.2), (10, .own 80 0), (11, I z1.2.2.2.2.2), (12, I (subI .i64 (lenL z1.2.2.2.2.1) 1))] [(40, RR 3 1 I z1.1 0 false), (48, RR 3 1 I z1.2.1 0 false), (56, RR 64 4 a63 z1.2.2.1 0 false), (64, RR 64 4 a63 z1.2.2.2.1 0 false), (80, RR 64 4 a63 z1.2.2.2.2.1 0 false)] 149) (addrOE 65 64 4 80 0 false a63 .i64 z1.2.2.2.2.1 (subI .i64 (lenL z1.2.2.2.2.1) 1)) (fun x10 => ?_)
        refine dg 12 [(some 47, qe (I (subI .i64 (lenL z1.2.2.2.2.1) 1))), (some 48, qe (B (leI 0 (subI .i64 (lenL z1.2.2.2.2.1) 1)))), (some 49, qe (B true)), (some 50, qe (.own 80 0)), (some 51, qe (I (subI .i64 (lenL z1.2.2.2.2.1) 1))), (some 52, qe (.oa 80 0 x8 0)), (some 53, qe (.oa 80 0 x8 0)), (some 54, qe (I x9.f0)), (some 55, qe (.own 80 0)), (some 56, qe (I (subI .i64 (lenL z1.2.2.2.2.1) 1))), (some 57, qe (.oa 80 0 x10 0)), (some 58, qe (.oa 80 0 x10 2))] ?_
        refine dv 59 (mkE [(58, .oa 80 0 x10 2), (57, .oa 80 0 x10 0), (56, I (subI .i64 (lenL z1.2.2.2.2.1) 1)), (55, .own 80 0), (49, B true), (48, B (leI 0 (subI .i64 (lenL z1.2.2.2.2.1) 1))), (47, I (subI .i64 (lenL z1.2.2.2.2.1) 1)), (1, .fn 219 [.ia [LL a63 p1_c0] 0, .ia [LL a63 p1_c1] 0]), (5, .own 40 0), (6, .own 48 0), (7, .own 56 0), (8, .own 64 0), (9, I z0.2.2.2.2), (10, .own 80 0), (11, I z1.2.2.2.2.2), (12, I (subI .i64 (lenL z1.2.2.2.2.1) 1))] [(40, RR 3 1 I z1.1 0 false), (48, RR 3 1 I z1.2.1 0 false), (56, RR 64 4 a63 z1.2.2.1 0 false), (64, RR 64 4 a63 z1.2.2.2.1 0 false), (80, RR 64 4 a63 z1.2.2.2.2.1 0 false)] 149) (loadOE 3 80 0 x10 2 64 4 1 false false a63 (fun q : S63 => I q.f2) z1.2.2.2.2.1) (fun x11 => ?_)
        refine dg 16 [(some 47, qe (I (subI .i64 (lenL z1.2.2.2.2.1) 1))), (some 48, qe (B (leI 0 (subI .i64 (lenL z1.2.2.2.2.1) 1)))), (some 49, qe (B true)), (some 50, qe (.own 80 0)), (some 51, qe (I (subI .i64 (lenL z1.2.2.2.2.1) 1))), (some 52, qe (.oa 80 0 x8 0)), (some 53, qe (.oa 80 0 x8 0)), (some 54, qe (I x9.f0)), (some 55, qe (.own 80 0)), (some 56, qe (I (subI .i64 (lenL z1.2.2.2.2.1) 1))), (some 57, qe (.oa 80 0 x10 0)), (some 58, qe (.oa 80 0 x10 2)), (some 59, qe (I x11.f2)), (some 60, qe (I (addI .i64 x9.f0 x11.f2))), (some 61, qe (.own 40 0)), (some 62, qe (I z1.2.2.2.2.2))] ?_
        refine dv 63 (mkE [(62, I z1.2.2.2.2.2), (61, .own 40 0), (49, B true), (48, B (leI 0 (subI .i64 (lenL z1.2.2.2.2.1) 1))), (47, I (subI .i64 (lenL z1.2.2.2.2.1) 1)), (1, .fn 219 [.ia [LL a63 p1_c0] 0, .ia [LL a63 p1_c1] 0]), (5, .own 40 0), (6, .own 48 0), (7, .own 56 0), (8, .own 64 0), (9, I z0.2.2.2.2), (10, .own 80 0), (11, I z1.2.2.2.2.2), (12, I (subI .i64 (lenL z1.2.2.2.2.1) 1))] [(40, RR 3 1 I z1.1 0 false), (48, RR 3 1 I z1.2.1 0 false), (56, RR 64 4 a63 z1.2.2.1 0 false), (64, RR 64 4 a63 z1.2.2.2.1 0 false), (80, RR 64 4 a63 z1.2.2.2.2.1 0 false)] 149) (addrOE 104 3 1 40 0 false I .i64 z1.1 z1.2.2.2.2.2) (fun x12 => ?_)
        refine dv 64 (mkE [(63, .oa 40 0 x12 0), (62, I z1.2.2.2.2.2), (61, .own 40 0), (49, B true), (48, B (leI 0 (subI .i64 (lenL z1.2.2.2.2.1) 1))), (47, I (subI .i64 (lenL z1.2.2.2.2.1) 1)), (1, .fn 219 [.ia [LL a63 p1_c0] 0, .ia [LL a63 p1_c1] 0]), (5, .own 40 0), (6, .own 48 0), (7, .own 56 0), (8, .own 64 0), (9, I z0.2.2.2.2), (10, .own 80 0), (11, I z1.2.2.2.2.2), (12, I (subI .i64 (lenL z1.2.2.2.2.1) 1))] [(40, RR 3 1 I z1.1 0 false), (48, RR 3 1 I z1.2.1 0 false), (56, RR 64 4 a63 z1.2.2.1 0 false), (64, RR 64 4 a63 z1.2.2.2.1 0 false), (80, RR 64 4 a63 z1.2.2.2.2.1 0 false)] 149) (loadOE 3 40 0 x12 0 3 1 1 false false I (fun q : Int => I q) z1.1) (fun x13 => ?_)
        refine dg 20 [(some 47, qe (I (subI .i64 (lenL z1.2.2.2.2.1) 1))), (some 48, qe (B (leI 0 (subI .i64 (lenL z1.2.2.2.2.1) 1)))), (some 49, qe (B true)), (some 50, qe (.own 80 0)), (some 51, qe (I (subI .i64 (lenL z1.2.2.2.2.1) 1))), (some 52, qe (.oa 80 0 x8 0)), (some 53, qe (.oa 80 0 x8 0)), (some 54, qe (I x9.f0)), (some 55, qe (.own 80 0)), (some 56, qe (I (subI .i64 (lenL z1.2.2.2.2.1) 1))), (some 57, qe (.oa 80 0 x10 0)), (some 58, qe (.oa 80 0 x10 2)), (some 59, qe (I x11.f2)), (some 60, qe (I (addI .i64 x9.f0 x11.f2))), (some 61, qe (.own 40 0)), (some 62, qe (I z1.2.2.2.2.2)), (some 63, qe (.oa 40 0 x12 0)), (some 64, qe (I x13)), (some 65, qe (B (eqI (addI .i64 x9.f0 x11.f2) x13))), (some 66, qe (B (eqI (addI .i64 x9.f0 x11.f2) x13)))] ?_
        refine de (mkE [(66, B (eqI (addI .i64 x9.f0 x11.f2) x13)), (65, B (eqI (addI .i64 x9.f0 x11.f2) x13)), (64, I x13), (63, .oa 40 0 x12 0), (62, I z1.2.2.2.2.2), (61, .own 40 0), (60, I (addI .i64 x9.f0 x11.f2)), (59, I x11.f2), (58, .oa 80 0 x10 2), (57, .oa 80 0 x10 0), (56, I (subI .i64 (lenL z1.2.2.2.2.1) 1)), (55, .own 80 0), (54, I x9.f0), (53, .oa 80 0 x8 0), (52, .oa 80 0 x8 0), (51, I (subI .i64 (lenL z1.2.2.2.2.1) 1)), (50, .own 80 0), (49, B true), (48, B (leI 0 (subI .i64 (lenL z1.2.2.2.2.1) 1))), (47, I (subI .i64 (lenL z1.2.2.2.2.1) 1)), (1, .fn 219 [.ia [LL a63 p1_c0] 0, .ia [LL a63 p1_c1] 0]), (5, .own 40 0), (6, .own 48 0), (7, .own 56 0), (8, .own 64 0), (9, I z0.2.2.2.2), (10, .own 80 0), (11, I z1.2.2.2.2.2), (12, I (subI .i64 (lenL z1.2.2.2.2.1) 1))] [(40, RR 3 1 I z1.1 0 false), (48, RR 3 1 I z1.2.1 0 false), (56, RR 64 4 a63 z1.2.2.1 0 false), (64, RR 64 4 a63 z1.2.2.2.1 0 false), (80, RR 64 4 a63 z1.2.2.2.2.1 0 false)] 149) ?_
        refine se (mkE [(1, .fn 219 [.ia [LL a63 p1_c0] 0, .ia [LL a63 p1_c1] 0]), (5, .own 40 0), (6, .own 48 0), (7, .own 56 0), (8, .own 64 0), (9, I z0.2.2.2.2), (10, .own 80 0), (11, I z1.2.2.2.2.2), (12, I (subI .i64 (lenL z1.2.2.2.2.1) 1)), (66, B (eqI (addI .i64 x9.f0 x11.f2) x13))] [(40, RR 3 1 I z1.1 0 false), (48, RR 3 1 I z1.2.1 0 false), (56, RR 64 4 a63 z1.2.2.1 0 false), (64, RR 64 4 a63 z1.2.2.2.1 0 false), (80, RR 64 4 a63 z1.2.2.2.2.1 0 false)] 149) ?_
        refine pN ?_
        refine pS ?_
        refine gC 66 (eqI (addI .i64 x9.f0 x11.f2) x13) ?_ ?_
        · refine gD 14 15 (rg Try.f215 14) [0, 1, 2, 3, 4, 5, 6, 7, 8, 9, 10, 11, 12, 13, 14, 15] ?_
          refine dg 5 [(some 67, qe (.own 80 0)), (some 68, qe (I (subI .i64 (lenL z1.2.2.2.2.1) 1))), (some 69, qe (.own 40 0)), (some 70, qe (I z1.2.2.2.2.2)), (some 71, qe (I (addI .i64 z1.2.2.2.2.2 1)))] ?_
          refine dv 72 (mkE [(71, I (addI .i64 z1.2.2.2.2.2 1)), (70, I z1.2.2.2.2.2), (69, .own 40 0), (1, .fn 219 [.ia [LL a63 p1_c0] 0, .ia [LL a63 p1_c1] 0]), (5, .own 40 0), (6, .own 48 0), (7, .own 56 0), (8, .own 64 0), (9, I z0.2.2.2.2), (10, .own 80 0), (11, I z1.2.2.2.2.2), (12, I (subI .i64 (lenL z1.2.2.2.2.1) 1)), (66, B (eqI (addI .i64 x9.f0 x11.f2) x13))] [(40, RR 3 1 I z1.1 0 false), (48, RR 3 1 I z1.2.1 0 false), (56, RR 64 4 a63 z1.2.2.1 0 false), (64, RR 64 4 a63 z1.2.2.2.1 0 false), (80, RR 64 4 a63 z1.2.2.2.2.1 0 false)] 149) (addrOE 104 3 1 40 0 false I .i64 z1.1 (addI .i64 z1.2.2.2.2.2 1)) (fun x14 => ?_)
          refine dv 73 (mkE [(72, .oa 40 0 x14 0), (71, I (addI .i64 z1.2.2.2.2.2 1)), (70, I z1.2.2.2.2.2), (69, .own 40 0), (1, .fn 219 [.ia [LL a63 p1_c0] 0, .ia [LL a63 p1_c1] 0]), (5, .own 40 0), (6, .own 48 0), (7, .own 56 0), (8, .own 64 0), (9, I z0.2.2.2.2), (10, .own 80 0), (11, I z1.2.2.2.2.2), (12, I (subI .i64 (lenL z1.2.2.2.2.1) 1)), (66, B (eqI (addI .i64 x9.f0 x11.f2) x13))] [(40, RR 3 1 I z1.1 0 false), (48, RR 3 1 I z1.2.1 0 false), (56, RR 64 4 a63 z1.2.2.1 0 false), (64, RR 64 4 a63 z1.2.2.2.1 0 false), (80, RR 64 4 a63 z1.2.2.2.2.1 0 false)] 149) (loadOE 3 40 0 x14 0 3 1 1 false false I (fun q : Int => I q) z1.1) (fun x15 => ?_)
          refine dg 9 [(some 67, qe (.own 80 0)), (some 68, qe (I (subI .i64 (lenL z1.2.2.2.2.1) 1))), (some 69, qe (.own 40 0)), (some 70, qe (I z1.2.2.2.2.2)), (some 71, qe (I (addI .i64 z1.2.2.2.2.2 1))), (some 72, qe (.oa 40 0 x14 0)), (some 73, qe (I x15)), (some 74, qe (.own 80 0)), (some 75, qe (I (subI .i64 (lenL z1.2.2.2.2.1) 1)))] ?_
          refine dv 76 (mkE [(75, I (subI .i64 (lenL z1.2.2.2.2.1) 1)), (74, .own 80 0), (1, .fn 219 [.ia [LL a63 p1_c0] 0, .ia [LL a63 p1_c1] 0]), (5, .own 40 0), (6, .own 48 0), (7, .own 56 0), (8, .own 64 0), (9, I z0.2.2.2.2), (10, .own 80 0), (11, I z1.2.2.2.2.2), (12, I (subI .i64 (lenL z1.2.2.2.2.1) 1)), (66, B (eqI (addI .i64 x9.f0 x11.f2) x13))] [(40, RR 3 1 I z1.1 0 false), (48, RR 3 1 I z1.2.1 0 false), (56, RR 64 4 a63 z1.2.2.1 0 false), (64, RR 64 4 a63 z1.2.2.2.1 0 false), (80, RR 64 4 a63 z1.2.2.2.2.1 0 false)] 149) (addrOE 65 64 4 80 0 false a63 .i64 z1.2.2.2.2.1 (subI .i64 (lenL z1.2.2.2.2.1) 1)) (fun x16 => ?_)
          refine dg 11 [(some 67, qe (.own 80 0)), (some 68, qe (I (subI .i64 (lenL z1.2.2.2.2.1) 1))), (some 69, qe (.own 40 0)), (some 70, qe (I z1.2.2.2.2.2)), (some 71, qe (I (addI .i64 z1.2.2.2.2.2 1))), (some 72, qe (.oa 40 0 x14 0)), (some 73, qe (I x15)), (some 74, qe (.own 80 0)), (some 75, qe (I (subI .i64 (lenL z1.2.2.2.2.1) 1))), (some 76, qe (.oa 80 0 x16 0)), (some 77, qe (.oa 80 0 x16 0))] ?_
          refine dv 78 (mkE [(77, .oa 80 0 x16 0), (76, .oa 80 0 x16 0), (75, I (subI .i64 (lenL z1.2.2.2.2.1) 1)), (74, .own 80 0), (1, .fn 219 [.ia [LL a63 p1_c0] 0, .ia [LL a63 p1_c1] 0]), (5, .own 40 0), (6, .own 48 0), (7, .own 56 0), (8, .own 64 0), (9, I z0.2.2.2.2), (10, .own 80 0), (11, I z1.2.2.2.2.2), (12, I (subI .i64 (lenL z1.2.2.2.2.1) 1)), (66, B (eqI (addI .i64 x9.f0 x11.f2) x13))] [(40, RR 3 1 I z1.1 0 false), (48, RR 3 1 I z1.2.1 0 false), (56, RR 64 4 a63 z1.2.2.1 0 false), (64, RR 64 4 a63 z1.2.2.2.1 0 false), (80, RR 64 4 a63 z1.2.2.2.2.1 0 false)] 149) (loadOE 3 80 0 x16 0 64 4 1 false false a63 (fun q : S63 => I q.f0) z1.2.2.2.2.1) (fun x17 => ?_)
          refine dg 13 [(some 67, qe (.own 80 0)), (some 68, qe (I (subI .i64 (lenL z1.2.2.2.2.1) 1))), (some 69, qe (.own 40 0)), (some 70, qe (I z1.2.2.2.2.2)), (some 71, qe (I (addI .i64 z1.2.2.2.2.2 1))), (some 72, qe (.oa 40 0 x14 0)), (some 73, qe (I x15)), (some 74, qe (.own 80 0)), (some 75, qe (I (subI .i64 (lenL z1.2.2.2.2.1) 1))), (some 76, qe (.oa 80 0 x16 0)), (some 77, qe (.oa 80 0 x16 0)), (some 78, qe (I x17.f0)), (some 79, qe (I (subI .i64 x15 x17.f0)))] ?_
          refine dv 80 (mkE [(79, I (subI .i64 x15 x17.f0)), (78, I x17.f0), (77, .oa 80 0 x16 0), (76, .oa 80 0 x16 0), (75, I (subI .i64 (lenL z1.2.2.2.2.1) 1)), (74, .own 80 0), (73, I x15), (72, .oa 40 0 x14 0), (71, I (addI .i64 z1.2.2.2.2.2 1)), (70, I z1.2.2.2.2.2), (69, .own 40 0), (68, I (subI .i64 (lenL z1.2.2.2.2.1) 1)), (67, .own 80 0), (1, .fn 219 [.ia [LL a63 p1_c0] 0, .ia [LL a63 p1_c1] 0]), (5, .own 40 0), (6, .own 48 0), (7, .own 56 0), (8, .own 64 0), (9, I z0.2.2.2.2), (10, .own 80 0), (11, I z1.2.2.2.2.2), (12, I (subI .i64 (lenL z1.2.2.2.2.1) 1)), (66, B (eqI (addI .i64 x9.f0 x11.f2) x13))] [(40, RR 3 1 I z1.1 0 false), (48, RR 3 1 I z1.2.1 0 false), (56, RR 64 4 a63 z1.2.2.1 0 false), (64, RR 64 4 a63 z1.2.2.2.1 0 false), (80, RR 64 4 a63 z1.2.2.2.2.1 0 false)] 149) (addrOE 65 64 4 80 0 false a63 .i64 z1.2.2.2.2.1 (subI .i64 (lenL z1.2.2.2.2.1) 1)) (fun x18 => ?_)
          refine dg 15 [(some 67, qe (.own 80 0)), (some 68, qe (I (subI .i64 (lenL z1.2.2.2.2.1) 1))), (some 69, qe (.own 40 0)), (some 70, qe (I z1.2.2.2.2.2)), (some 71, qe (I (addI .i64 z1.2.2.2.2.2 1))), (some 72, qe (.oa 40 0 x14 0)), (some 73, qe (I x15)), (some 74, qe (.own 80 0)), (some 75, qe (I (subI .i64 (lenL z1.2.2.2.2.1) 1))), (some 76, qe (.oa 80 0 x16 0)), (some 77, qe (.oa 80 0 x16 0)), (some 78, qe (I x17.f0)), (some 79, qe (I (subI .i64 x15 x17.f0))), (some 80, qe (.oa 80 0 x18 0)), (some 81, qe (.oa 80 0 x18 2))] ?_
          refine de (mkE [(81, .oa 80 0 x18 2), (80, .oa 80 0 x18 0), (79, I (subI .i64 x15 x17.f0)), (78, I x17.f0), (77, .oa 80 0 x16 0), (76, .oa 80 0 x16 0), (75, I (subI .i64 (lenL z1.2.2.2.2.1) 1)), (74, .own 80 0), (73, I x15), (72, .oa 40 0 x14 0), (71, I (addI .i64 z1.2.2.2.2.2 1)), (70, I z1.2.2.2.2.2), (69, .own 40 0), (68, I (subI .i64 (lenL z1.2.2.2.2.1) 1)), (67, .own 80 0), (1, .fn 219 [.ia [LL a63 p1_c0] 0, .ia [LL a63 p1_c1] 0]), (5, .own 40 0), (6, .own 48 0), (7, .own 56 0), (8, .own 64 0), (9, I z0.2.2.2.2), (10, .own 80 0), (11, I z1.2.2.2.2.2), (12, I (subI .i64 (lenL z1.2.2.2.2.1) 1)), (66, B (eqI (addI .i64 x9.f0 x11.f2) x13))] [(40, RR 3 1 I z1.1 0 false), (48, RR 3 1 I z1.2.1 0 false), (56, RR 64 4 a63 z1.2.2.1 0 false), (64, RR 64 4 a63 z1.2.2.2.1 0 false), (80, RR 64 4 a63 z1.2.2.2.2.1 0 false)] 149) ?_
          refine mo none (stO 64 4 80 0 x18 2 a63 z1.2.2.2.2.1 [] [I (subI .i64 x15 x17.f0)] (I (subI .i64 x15 x17.f0)) (fun q : S63 => (S63.mk q.f0 q.f1 (subI .i64 x15 x17.f0) q.f3)) 3 (.tmp 81) (.tmp 79) 1) (fun x19 => ?_)
          refine se (mkE [(1, .fn 219 [.ia [LL a63 p1_c0] 0, .ia [LL a63 p1_c1] 0]), (5, .own 40 0), (6, .own 48 0), (7, .own 56 0), (8, .own 64 0), (9, I z0.2.2.2.2), (10, .own 80 0), (11, I z1.2.2.2.2.2)] [(40, RR 3 1 I z1.1 0 false), (48, RR 3 1 I z1.2.1 0 false), (56, RR 64 4 a63 z1.2.2.1 0 false), (64, RR 64 4 a63 z1.2.2.2.1 0 false), (80, RR 64 4 a63 (List.set z1.2.2.2.2.1 x18 (S63.mk x19.f0 x19.f1 (subI .i64 x15 x17.f0) x19.f3)) 0 false)] 149) ?_
          refine pB ?_
          refine pN ?_
          refine pS ?_
          refine gR 10 (rg Try.f215 10) ?_
          refine se (mkE [(1, .fn 219 [.ia [LL a63 p1_c0] 0, .ia [LL a63 p1_c1] 0]), (5, .own 40 0), (6, .own 48 0), (7, .own 56 0), (8, .own 64 0), (9, I z0.2.2.2.2), (10, .own 80 0), (11, I (addI .i64 z1.2.2.2.2.2 1))] [(40, RR 3 1 I z1.1 0 false), (48, RR 3 1 I z1.2.1 0 false), (56, RR 64 4 a63 z1.2.2.1 0 false), (64, RR 64 4 a63 z1.2.2.2.1 0 false), (80, RR 64 4 a63 (List.set z1.2.2.2.2.1 x18 (S63.mk x19.f0 x19.f1 (subI .i64 x15 x17.f0) x19.f3)) 0 false)] 149) ?_
          exact pL
        · refine gD 15 31 (rg Try.f215 15) [0, 1, 2, 3, 4, 5, 6, 7, 8, 9, 10, 11, 12, 13, 14, 15, 16, 17, 18, 19, 20, 21, 22, 23, 24, 25, 26, 27, 28, 29, 30, 31, 32] ?_
          refine dg 3 [(some 82, qe (.own 80 0)), (some 83, qe (.own 40 0)), (some 84, qe (I z1.2.2.2.2.2))] ?_
          refine dv 85 (mkE [(84, I z1.2.2.2.2.2), (83, .own 40 0), (1, .fn 219 [.ia [LL a63 p1_c0] 0, .ia [LL a63 p1_c1] 0]), (5, .own 40 0), (6, .own 48 0), (7, .own 56 0), (8, .own 64 0), (9, I z0.2.2.2.2), (10, .own 80 0), (11, I z1.2.2.2.2.2), (12, I (subI .i64 (lenL z1.2.2.2.2.1) 1)), (66, B (eqI (addI .i64 x9.f0 x11.f2) x13))] [(40, RR 3 1 I z1.1 0 false), (48, RR 3 1 I z1.2.1 0 false), (56, RR 64 4 a63 z1.2.2.1 0 false), (64, RR 64 4 a63 z1.2.2.2.1 0 false), (80, RR 64 4 a63 z1.2.2.2.2.1 0 false)] 149) (addrOE 104 3 1 40 0 false I .i64 z1.1 z1.2.2.2.2.2) (fun x20 => ?_)
          refine dv 86 (mkE [(85, .oa 40 0 x20 0), (84, I z1.2.2.2.2.2), (83, .own 40 0), (1, .fn 219 [.ia [LL a63 p1_c0] 0, .ia [LL a63 p1_c1] 0]), (5, .own 40 0), (6, .own 48 0), (7, .own 56 0), (8, .own 64 0), (9, I z0.2.2.2.2), (10, .own 80 0), (11, I z1.2.2.2.2.2), (12, I (subI .i64 (lenL z1.2.2.2.2.1) 1)), (66, B (eqI (addI .i64 x9.f0 x11.f2) x13))] [(40, RR 3 1 I z1.1 0 false), (48, RR 3 1 I z1.2.1 0 false), (56, RR 64 4 a63 z1.2.2.1 0 false), (64, RR 64 4 a63 z1.2.2.2.1 0 false), (80, RR 64 4 a63 z1.2.2.2.2.1 0 false)] 149) (loadOE 3 40 0 x20 0 3 1 1 false false I (fun q : Int => I q) z1.1) (fun x21 => ?_)
          refine dg 7 [(some 82, qe (.own 80 0)), (some 83, qe (.own 40 0)), (some 84, qe (I z1.2.2.2.2.2)), (some 85, qe (.oa 40 0 x20 0)), (some 86, qe (I x21)), (some 87, qe (.own 48 0)), (some 88, qe (I z0.2.2.2.2))] ?_
          refine dv 89 (mkE [(88, I z0.2.2.2.2), (87, .own 48 0), (1, .fn 219 [.ia [LL a63 p1_c0] 0, .ia [LL a63 p1_c1] 0]), (5, .own 40 0), (6, .own 48 0), (7, .own 56 0), (8, .own 64 0), (9, I z0.2.2.2.2), (10, .own 80 0), (11, I z1.2.2.2.2.2), (12, I (subI .i64 (lenL z1.2.2.2.2.1) 1)), (66, B (eqI (addI .i64 x9.f0 x11.f2) x13))] [(40, RR 3 1 I z1.1 0 false), (48, RR 3 1 I z1.2.1 0 false), (56, RR 64 4 a63 z1.2.2.1 0 false), (64, RR 64 4 a63 z1.2.2.2.1 0 false), (80, RR 64 4 a63 z1.2.2.2.2.1 0 false)] 149) (addrOE 104 3 1 48 0 false I .i64 z1.2.1 z0.2.2.2.2) (fun x22 => ?_)
          refine dv 90 (mkE [(89, .oa 48 0 x22 0), (88, I z0.2.2.2.2), (87, .own 48 0), (1, .fn 219 [.ia [LL a63 p1_c0] 0, .ia [LL a63 p1_c1] 0]), (5, .own 40 0), (6, .own 48 0), (7, .own 56 0), (8, .own 64 0), (9, I z0.2.2.2.2), (10, .own 80 0), (11, I z1.2.2.2.2.2), (12, I (subI .i64 (lenL z1.2.2.2.2.1) 1)), (66, B (eqI (addI .i64 x9.f0 x11.f2) x13))] [(40, RR 3 1 I z1.1 0 false), (48, RR 3 1 I z1.2.1 0 false), (56, RR 64 4 a63 z1.2.2.1 0 false), (64, RR 64 4 a63 z1.2.2.2.1 0 false), (80, RR 64 4 a63 z1.2.2.2.2.1 0 false)] 149) (loadOE 3 48 0 x22 0 3 1 1 false false I (fun q : Int => I q) z1.2.1) (fun x23 => ?_)
          refine dg 12 [(some 82, qe (.own 80 0)), (some 83, qe (.own 40 0)), (some 84, qe (I z1.2.2.2.2.2)), (some 85, qe (.oa 40 0 x20 0)), (some 86, qe (I x21)), (some 87, qe (.own 48 0)), (some 88, qe (I z0.2.2.2.2)), (some 89, qe (.oa 48 0 x22 0)), (some 90, qe (I x23)), (some 91, qe (.own 40 0)), (some 92, qe (I z1.2.2.2.2.2)), (some 93, qe (I (addI .i64 z1.2.2.2.2.2 1)))] ?_
          refine dv 94 (mkE [(93, I (addI .i64 z1.2.2.2.2.2 1)), (92, I z1.2.2.2.2.2), (91, .own 40 0), (1, .fn 219 [.ia [LL a63 p1_c0] 0, .ia [LL a63 p1_c1] 0]), (5, .own 40 0), (6, .own 48 0), (7, .own 56 0), (8, .own 64 0), (9, I z0.2.2.2.2), (10, .own 80 0), (11, I z1.2.2.2.2.2), (12, I (subI .i64 (lenL z1.2.2.2.2.1) 1)), (66, B (eqI (addI .i64 x9.f0 x11.f2) x13))] [(40, RR 3 1 I z1.1 0 false), (48, RR 3 1 I z1.2.1 0 false), (56, RR 64 4 a63 z1.2.2.1 0 false), (64, RR 64 4 a63 z1.2.2.2.1 0 false), (80, RR 64 4 a63 z1.2.2.2.2.1 0 false)] 149) (addrOE 104 3 1 40 0 false I .i64 z1.1 (addI .i64 z1.2.2.2.2.2 1)) (fun x24 => ?_)
          refine dv 95 (mkE [(94, .oa 40 0 x24 0), (93, I (addI .i64 z1.2.2.2.2.2 1)), (92, I z1.2.2.2.2.2), (91, .own 40 0), (1, .fn 219 [.ia [LL a63 p1_c0] 0, .ia [LL a63 p1_c1] 0]), (5, .own 40 0), (6, .own 48 0), (7, .own 56 0), (8, .own 64 0), (9, I z0.2.2.2.2), (10, .own 80 0), (11, I z1.2.2.2.2.2), (12, I (subI .i64 (lenL z1.2.2.2.2.1) 1)), (66, B (eqI (addI .i64 x9.f0 x11.f2) x13))] [(40, RR 3 1 I z1.1 0 false), (48, RR 3 1 I z1.2.1 0 false), (56, RR 64 4 a63 z1.2.2.1 0 false), (64, RR 64 4 a63 z1.2.2.2.1 0 false), (80, RR 64 4 a63 z1.2.2.2.2.1 0 false)] 149) (loadOE 3 40 0 x24 0 3 1 1 false false I (fun q : Int => I q) z1.1) (fun x25 => ?_)
          refine dg 16 [(some 82, qe (.own 80 0)), (some 83, qe (.own 40 0)), (some 84, qe (I z1.2.2.2.2.2)), (some 85, qe (.oa 40 0 x20 0)), (some 86, qe (I x21)), (some 87, qe (.own 48 0)), (some 88, qe (I z0.2.2.2.2)), (some 89, qe (.oa 48 0 x22 0)), (some 90, qe (I x23)), (some 91, qe (.own 40 0)), (some 92, qe (I z1.2.2.2.2.2)), (some 93, qe (I (addI .i64 z1.2.2.2.2.2 1))), (some 94, qe (.oa 40 0 x24 0)), (some 95, qe (I x25)), (some 96, qe (.own 40 0)), (some 97, qe (I z1.2.2.2.2.2))] ?_
          refine dv 98 (mkE [(97, I z1.2.2.2.2.2), (96, .own 40 0), (1, .fn 219 [.ia [LL a63 p1_c0] 0, .ia [LL a63 p1_c1] 0]), (5, .own 40 0), (6, .own 48 0), (7, .own 56 0), (8, .own 64 0), (9, I z0.2.2.2.2), (10, .own 80 0), (11, I z1.2.2.2.2.2), (12, I (subI .i64 (lenL z1.2.2.2.2.1) 1)), (66, B (eqI (addI .i64 x9.f0 x11.f2) x13))] [(40, RR 3 1 I z1.1 0 false), (48, RR 3 1 I z1.2.1 0 false), (56, RR 64 4 a63 z1.2.2.1 0 false), (64, RR 64 4 a63 z1.2.2.2.1 0 false), (80, RR 64 4 a63 z1.2.2.2.2.1 0 false)] 149) (addrOE 104 3 1 40 0 false I .i64 z1.1 z1.2.2.2.2.2) (fun x26 => ?_)
          refine dv 99 (mkE [(98, .oa 40 0 x26 0), (97, I z1.2.2.2.2.2), (96, .own 40 0), (1, .fn 219 [.ia [LL a63 p1_c0] 0, .ia [LL a63 p1_c1] 0]), (5, .own 40 0), (6, .own 48 0), (7, .own 56 0), (8, .own 64 0), (9, I z0.2.2.2.2), (10, .own 80 0), (11, I z1.2.2.2.2.2), (12, I (subI .i64 (lenL z1.2.2.2.2.1) 1)), (66, B (eqI (addI .i64 x9.f0 x11.f2) x13))] [(40, RR 3 1 I z1.1 0 false), (48, RR 3 1 I z1.2.1 0 false), (56, RR 64 4 a63 z1.2.2.1 0 false), (64, RR 64 4 a63 z1.2.2.2.1 0 false), (80, RR 64 4 a63 z1.2.2.2.2.1 0 false)] 149) (loadOE 3 40 0 x26 0 3 1 1 false false I (fun q : Int => I q) z1.1) (fun x27 => ?_)
          refine dg 22 [(some 82, qe (.own 80 0)), (some 83, qe (.own 40 0)), (some 84, qe (I z1.2.2.2.2.2)), (some 85, qe (.oa 40 0 x20 0)), (some 86, qe (I x21)), (some 87, qe (.own 48 0)), (some 88, qe (I z0.2.2.2.2)), (some 89, qe (.oa 48 0 x22 0)), (some 90, qe (I x23)), (some 91, qe (.own 40 0)), (some 92, qe (I z1.2.2.2.2.2)), (some 93, qe (I (addI .i64 z1.2.2.2.2.2 1))), (some 94, qe (.oa 40 0 x24 0)), (some 95, qe (I x25)), (some 96, qe (.own 40 0)), (some 97, qe (I z1.2.2.2.2.2)), (some 98, qe (.oa 40 0 x26 0)), (some 99, qe (I x27)), (some 100, qe (I (subI .i64 x25 x27))), (some 101, qe (.own 48 0)), (some 102, qe (I z0.2.2.2.2)), (some 103, qe (I (addI .i64 z0.2.2.2.2 1)))] ?_
          refine dv 104 (mkE [(103, I (addI .i64 z0.2.2.2.2 1)), (102, I z0.2.2.2.2), (101, .own 48 0), (1, .fn 219 [.ia [LL a63 p1_c0] 0, .ia [LL a63 p1_c1] 0]), (5, .own 40 0), (6, .own 48 0), (7, .own 56 0), (8, .own 64 0), (9, I z0.2.2.2.2), (10, .own 80 0), (11, I z1.2.2.2.2.2), (12, I (subI .i64 (lenL z1.2.2.2.2.1) 1)), (66, B (eqI (addI .i64 x9.f0 x11.f2) x13))] [(40, RR 3 1 I z1.1 0 false), (48, RR 3 1 I z1.2.1 0 false), (56, RR 64 4 a63 z1.2.2.1 0 false), (64, RR 64 4 a63 z1.2.2.2.1 0 false), (80, RR 64 4 a63 z1.2.2.2.2.1 0 false)] 149) (addrOE 104 3 1 48 0 false I .i64 z1.2.1 (addI .i64 z0.2.2.2.2 1)) (fun x28 => ?_)
          refine dv 105 (mkE [(104, .oa 48 0 x28 0), (103, I (addI .i64 z0.2.2.2.2 1)), (102, I z0.2.2.2.2), (101, .own 48 0), (1, .fn 219 [.ia [LL a63 p1_c0] 0, .ia [LL a63 p1_c1] 0]), (5, .own 40 0), (6, .own 48 0), (7, .own 56 0), (8, .own 64 0), (9, I z0.2.2.2.2), (10, .own 80 0), (11, I z1.2.2.2.2.2), (12, I (subI .i64 (lenL z1.2.2.2.2.1) 1)), (66, B (eqI (addI .i64 x9.f0 x11.f2) x13))] [(40, RR 3 1 I z1.1 0 false), (48, RR 3 1 I z1.2.1 0 false), (56, RR 64 4 a63 z1.2.2.1 0 false), (64, RR 64 4 a63 z1.2.2.2.1 0 false), (80, RR 64 4 a63 z1.2.2.2.2.1 0 false)] 149) (loadOE 3 48 0 x28 0 3 1 1 false false I (fun q : Int => I q) z1.2.1) (fun x29 => ?_)
          refine dg 26 [(some 82, qe (.own 80 0)), (some 83, qe (.own 40 0)), (some 84, qe (I z1.2.2.2.2.2)), (some 85, qe (.oa 40 0 x20 0)), (some 86, qe (I x21)), (some 87, qe (.own 48 0)), (some 88, qe (I z0.2.2.2.2)), (some 89, qe (.oa 48 0 x22 0)), (some 90, qe (I x23)), (some 91, qe (.own 40 0)), (some 92, qe (I z1.2.2.2.2.2)), (some 93, qe (I (addI .i64 z1.2.2.2.2.2 1))), (some 94, qe (.oa 40 0 x24 0)), (some 95, qe (I x25)), (some 96, qe (.own 40 0)), (some 97, qe (I z1.2.2.2.2.2)), (some 98, qe (.oa 40 0 x26 0)), (some 99, qe (I x27)), (some 100, qe (I (subI .i64 x25 x27))), (some 101, qe (.own 48 0)), (some 102, qe (I z0.2.2.2.2)), (some 103, qe (I (addI .i64 z0.2.2.2.2 1))), (some 104, qe (.oa 48 0 x28 0)), (some 105, qe (I x29)), (some 106, qe (.own 48 0)), (some 107, qe (I z0.2.2.2.2))] ?_
          refine dv 108 (mkE [(107, I z0.2.2.2.2), (106, .own 48 0), (1, .fn 219 [.ia [LL a63 p1_c0] 0, .ia [LL a63 p1_c1] 0]), (5, .own 40 0), (6, .own 48 0), (7, .own 56 0), (8, .own 64 0), (9, I z0.2.2.2.2), (10, .own 80 0), (11, I z1.2.2.2.2.2), (12, I (subI .i64 (lenL z1.2.2.2.2.1) 1)), (66, B (eqI (addI .i64 x9.f0 x11.f2) x13))] [(40, RR 3 1 I z1.1 0 false), (48, RR 3 1 I z1.2.1 0 false), (56, RR 64 4 a63 z1.2.2.1 0 false), (64, RR 64 4 a63 z1.2.2.2.1 0 false), (80, RR 64 4 a63 z1.2.2.2.2.1 0 false)] 149) (addrOE 104 3 1 48 0 false I .i64 z1.2.1 z0.2.2.2.2) (fun x30 => ?_)
          refine dv 109 (mkE [(108, .oa 48 0 x30 0), (107, I z0.2.2.2.2), (106, .own 48 0), (1, .fn 219 [.ia [LL a63 p1_c0] 0, .ia [LL a63 p1_c1] 0]), (5, .own 40 0), (6, .own 48 0), (7, .own 56 0), (8, .own 64 0), (9, I z0.2.2.2.2), (10, .own 80 0), (11, I z1.2.2.2.2.2), (12, I (subI .i64 (lenL z1.2.2.2.2.1) 1)), (66, B (eqI (addI .i64 x9.f0 x11.f2) x13))] [(40, RR 3 1 I z1.1 0 false), (48, RR 3 1 I z1.2.1 0 false), (56, RR 64 4 a63 z1.2.2.1 0 false), (64, RR 64 4 a63 z1.2.2.2.1 0 false), (80, RR 64 4 a63 z1.2.2.2.2.1 0 false)] 149) (loadOE 3 48 0 x30 0 3 1 1 false false I (fun q : Int => I q) z1.2.1) (fun x31 => ?_)
          refine dg 31 [(some 82, qe (.own 80 0)), (some 83, qe (.own 40 0)), (some 84, qe (I z1.2.2.2.2.2)), (some 85, qe (.oa 40 0 x20 0)), (some 86, qe (I x21)), (some 87, qe (.own 48 0)), (some 88, qe (I z0.2.2.2.2)), (some 89, qe (.oa 48 0 x22 0)), (some 90, qe (I x23)), (some 91, qe (.own 40 0)), (some 92, qe (I z1.2.2.2.2.2)), (some 93, qe (I (addI .i64 z1.2.2.2.2.2 1))), (some 94, qe (.oa 40 0 x24 0)), (some 95, qe (I x25)), (some 96, qe (.own 40 0)), (some 97, qe (I z1.2.2.2.2.2)), (some 98, qe (.oa 40 0 x26 0)), (some 99, qe (I x27)), (some 100, qe (I (subI .i64 x25 x27))), (some 101, qe (.own 48 0)), (some 102, qe (I z0.2.2.2.2)), (some 103, qe (I (addI .i64 z0.2.2.2.2 1))), (some 104, qe (.oa 48 0 x28 0)), (some 105, qe (I x29)), (some 106, qe (.own 48 0)), (some 107, qe (I z0.2.2.2.2)), (some 108, qe (.oa 48 0 x30 0)), (some 109, qe (I x31)), (some 110, qe (I (subI .i64 x29 x31))), (some 111, qe (.agg [I x21, I x23, I (subI .i64 x25 x27), I (subI .i64 x29 x31)])), (some 112, { e := { val := .own 896 0, news := [(896, RR 64 4 a63 ([(S63.mk x21 x23 (subI .i64 x25 x27) (subI .i64 x29 x31))] : List S63) 0 false)] } })] ?_
          refine de (mkE [(112, .own 896 0), (111, .agg [I x21, I x23, I (subI .i64 x25 x27), I (subI .i64 x29 x31)]), (110, I (subI .i64 x29 x31)), (109, I x31), (108, .oa 48 0 x30 0), (107, I z0.2.2.2.2), (106, .own 48 0), (105, I x29), (104, .oa 48 0 x28 0), (103, I (addI .i64 z0.2.2.2.2 1)), (102, I z0.2.2.2.2), (101, .own 48 0), (100, I (subI .i64 x25 x27)), (99, I x27), (98, .oa 40 0 x26 0), (97, I z1.2.2.2.2.2), (96, .own 40 0), (95, I x25), (94, .oa 40 0 x24 0), (93, I (addI .i64 z1.2.2.2.2.2 1)), (92, I z1.2.2.2.2.2), (91, .own 40 0), (90, I x23), (89, .oa 48 0 x22 0), (88, I z0.2.2.2.2), (87, .own 48 0), (86, I x21), (85, .oa 40 0 x20 0), (84, I z1.2.2.2.2.2), (83, .own 40 0), (82, .own 80 0), (1, .fn 219 [.ia [LL a63 p1_c0] 0, .ia [LL a63 p1_c1] 0]), (5, .own 40 0), (6, .own 48 0), (7, .own 56 0), (8, .own 64 0), (9, I z0.2.2.2.2), (10, .own 80 0), (11, I z1.2.2.2.2.2), (12, I (subI .i64 (lenL z1.2.2.2.2.1) 1)), (66, B (eqI (addI .i64 x9.f0 x11.f2) x13))] [(896, RR 64 4 a63 ([(S63.mk x21 x23 (subI .i64 x25 x27) (subI .i64 x29 x31))] : List S63) 0 false), (40, RR 3 1 I z1.1 0 false), (48, RR 3 1 I z1.2.1 0 false), (56, RR 64 4 a63 z1.2.2.1 0 false), (64, RR 64 4 a63 z1.2.2.2.1 0 false), (80, RR 64 4 a63 z1.2.2.2.2.1 0 false)] 149) ?_
          refine mo (some 113) (apO 65 64 4 32 80 a63 0 [896] (y := .own 896 0) (l2 := ([(S63.mk x21 x23 (subI .i64 x25 x27) (subI .i64 x29 x31))] : List S63))) (fun x32 => ?_)
          refine se (mkE [(1, .fn 219 [.ia [LL a63 p1_c0] 0, .ia [LL a63 p1_c1] 0]), (5, .own 40 0), (6, .own 48 0), (7, .own 56 0), (8, .own 64 0), (9, I z0.2.2.2.2), (10, .own 80 1), (11, I z1.2.2.2.2.2)] [(40, RR 3 1 I z1.1 0 false), (48, RR 3 1 I z1.2.1 0 false), (56, RR 64 4 a63 z1.2.2.1 0 false), (64, RR 64 4 a63 z1.2.2.2.1 0 false), (80, RR 64 4 a63 x32 1 false)] 149) ?_
          refine pB ?_
          refine pN ?_
          refine pS ?_
          refine gR 10 (rg Try.f215 10) ?_
          refine se (mkE [(1, .fn 219 [.ia [LL a63 p1_c0] 0, .ia [LL a63 p1_c1] 0]), (5, .own 40 0), (6, .own 48 0), (7, .own 56 0), (8, .own 64 0), (9, I z0.2.2.2.2), (10, .own 80 1), (11, I (addI .i64 z1.2.2.2.2.2 1))] [(40, RR 3 1 I z1.1 0 false), (48, RR 3 1 I z1.2.1 0 false), (56, RR 64 4 a63 z1.2.2.1 0 false), (64, RR 64 4 a63 z1.2.2.2.1 0 false), (80, RR 64 4 a63 x32 1 false)] 149) ?_
          exact pL
      · refine dg 20 [(some 47, qe (I (subI .i64 (lenL z1.2.2.2.2.1) 1))), (some 48, qe (B (leI 0 (subI .i64 (lenL z1.2.2.2.2.1) 1)))), (some 49, qe (B false)), (some 50, qe (.und)), (some 51, qe (.und)), (some 52, qe (.und)), (some 53, qe (.und)), (some 54, qe (.und)), (some 55, qe (.und)), (some 56, qe (.und)), (some 57, qe (.und)), (some 58, qe (.und)), (some 59, qe (.und)), (some 60, qe (.und)), (some 61, qe (.und)), (some 62, qe (.und)), (some 63, qe (.und)), (some 64, qe (.und)), (some 65, qe (.und)), (some 66, qe (B false))] ?_
        refine de (mkE [(66, B false), (65, .und), (64, .und), (63, .und), (62, .und), (61, .und), (60, .und), (59, .und), (58, .und), (57, .und), (56, .und), (55, .und), (54, .und), (53, .und), (52, .und), (51, .und), (50, .und), (49, B false), (48, B (leI 0 (subI .i64 (lenL z1.2.2.2.2.1) 1))), (47, I (subI .i64 (lenL z1.2.2.2.2.1) 1)), (1, .fn 219 [.ia [LL a63 p1_c0] 0, .ia [LL a63 p1_c1] 0]), (5, .own 40 0), (6, .own 48 0), (7, .own 56 0), (8, .own 64 0), (9, I z0.2.2.2.2), (10, .own 80 0), (11, I z1.2.2.2.2.2), (12, I (subI .i64 (lenL z1.2.2.2.2.1) 1))] [(40, RR 3 1 I z1.1 0 false), (48, RR 3 1 I z1.2.1 0 false), (56, RR 64 4 a63 z1.2.2.1 0 false), (64, RR 64 4 a63 z1.2.2.2.1 0 false), (80, RR 64 4 a63 z1.2.2.2.2.1 0 false)] 149) ?_
        refine se (mkE [(1, .fn 219 [.ia [LL a63 p1_c0] 0, .ia [LL a63 p1_c1] 0]), (5, .own 40 0), (6, .own 48 0), (7, .own 56 0), (8, .own 64 0), (9, I z0.2.2.2.2), (10, .own 80 0), (11, I z1.2.2.2.2.2), (12, I (subI .i64 (lenL z1.2.2.2.2.1) 1)), (66, B false)] [(40, RR 3 1 I z1.1 0 false), (48, RR 3 1 I z1.2.1 0 false), (56, RR 64 4 a63 z1.2.2.1 0 false), (64, RR 64 4 a63 z1.2.2.2.1 0 false), (80, RR 64 4 a63 z1.2.2.2.2.1 0 false)] 149) ?_
        refine pN ?_
        refine pS ?_
        refine gF (.tmp 66) ?_
        refine gD 15 31 (rg Try.f215 15) [0, 1, 2, 3, 4, 5, 6, 7, 8, 9, 10, 11, 12, 13, 14, 15, 16, 17, 18, 19, 20, 21, 22, 23, 24, 25, 26, 27, 28, 29, 30, 31, 32] ?_
        refine dg 3 [(some 82, qe (.own 80 0)), (some 83, qe (.own 40 0)), (some 84, qe (I z1.2.2.2.2.2))] ?_
        refine dv 85 (mkE [(84, I z1.2.2.2.2.2), (83, .own 40 0), (1, .fn 219 [.ia [LL a63 p1_c0] 0, .ia [LL a63 p1_c1] 0]), (5, .own 40 0), (6, .own 48 0), (7, .own 56 0), (8, .own 64 0), (9, I z0.2.2.2.2), (10, .own 80 0), (11, I z1.2.2.2.2.2), (12, I (subI .i64 (lenL z1.2.2.2.2.1) 1)), (66, B false)] [(40, RR 3 1 I z1.1 0 false), (48, RR 3 1 I z1.2.1 0 false), (56, RR 64 4 a63 z1.2.2.1 0 false), (64, RR 64 4 a63 z1.2.2.2.1 0 false), (80, RR 64 4 a63 z1.2.2.2.2.1 0 false)] 149) (addrOE 104 3 1 40 0 false I .i64 z1.1 z1.2.2.2.2.2) (fun x33 => ?_)
        refine dv 86 (mkE [(85, .oa 40 0 x33 0), (84, I z1.2.2.2.2.2), (83, .own 40 0), (1, .fn 219 [.ia [LL a63 p1_c0] 0, .ia [LL a63 p1_c1] 0]), (5, .own 40 0), (6, .own 48 0), (7, .own 56 0), (8, .own 64 0), (9, I z0.2.2.2.2), (10, .own 80 0), (11, I z1.2.2.2.2.2), (12, I (subI .i64 (lenL z1.2.2.2.2.1) 1)), (66, B false)] [(40, RR 3 1 I z1.1 0 false), (48, RR 3 1 I z1.2.1 0 false), (56, RR 64 4 a63 z1.2.2.1 0 false), (64, RR 64 4 a63 z1.2.2.2.1 0 false), (80, RR 64 4 a63 z1.2.2.2.2.1 0 false)] 149) (loadOE 3 40 0 x33 0 3 1 1 false false I (fun q : Int => I q) z1.1) (fun x34 => ?_)
        refine dg 7 [(some 82, qe (.own 80 0)), (some 83, qe (.own 40 0)), (some 84, qe (I z1.2.2.2.2.2)), (some 85, qe (.oa 40 0 x33 0)), (some 86, qe (I x34)), (some 87, qe (.own 48 0)), (some 88, qe (I z0.2.2.2.2))] ?_
        refine dv 89 (mkE [(88, I z0.2.2.2.2), (87, .own 48 0), (1, .fn 219 [.ia [LL a63 p1_c0] 0, .ia [LL a63 p1_c1] 0]), (5, .own 40 0), (6, .own 48 0), (7, .own 56 0), (8, .own 64 0), (9, I z0.2.2.2.2), (10, .own 80 0), (11, I z1.2.2.2.2.2), (12, I (subI .i64 (lenL z1.2.2.2.2.1) 1)), (66, B false)] [(40, RR 3 1 I z1.1 0 false), (48, RR 3 1 I z1.2.1 0 false), (56, RR 64 4 a63 z1.2.2.1 0 false), (64, RR 64 4 a63 z1.2.2.2.1 0 false), (80, RR 64 4 a63 z1.2.2.2.2.1 0 false)] 149) (addrOE 104 3 1 48 0 false I .i64 z1.2.1 z0.2.2.2.2) (fun x35 => ?_)
        refine dv 90 (mkE [(89, .oa 48 0 x35 0), (88, I z0.2.2.2.2), (87, .own 48 0), (1, .fn 219 [.ia [LL a63 p1_c0] 0, .ia [LL a63 p1_c1] 0]), (5, .own 40 0), (6, .own 48 0), (7, .own 56 0), (8, .own 64 0), (9, I z0.2.2.2.2), (10, .own 80 0), (11, I z1.2.2.2.2.2), (12, I (subI .i64 (lenL z1.2.2.2.2.1) 1)), (66, B false)] [(40, RR 3 1 I z1.1 0 false), (48, RR 3 1 I z1.2.1 0 false), (56, RR 64 4 a63 z1.2.2.1 0 false), (64, RR 64 4 a63 z1.2.2.2.1 0 false), (80, RR 64 4 a63 z1.2.2.2.2.1 0 false)] 149) (loadOE 3 48 0 x35 0 3 1 1 false false I (fun q : Int => I q) z1.2.1) (fun x36 => ?_)
        refine dg 12 [(some 82, qe (.own 80 0)), (some 83, qe (.own 40 0)), (some 84, qe (I z1.2.2.2.2.2)), (some 85, qe (.oa 40 0 x33 0)), (some 86, qe (I x34)), (some 87, qe (.own 48 0)), (some 88, qe (I z0.2.2.2.2)), (some 89, qe (.oa 48 0 x35 0)), (some 90, qe (I x36)), (some 91, qe (.own 40 0)), (some 92, qe (I z1.2.2.2.2.2)), (some 93, qe (I (addI .i64 z1.2.2.2.2.2 1)))] ?_
        refine dv 94 (mkE [(93, I (addI .i64 z1.2.2.2.2.2 1)), (92, I z1.2.2.2.2.2), (91, .own 40 0), (1, .fn 219 [.ia [LL a63 p1_c0] 0, .ia [LL a63 p1_c1] 0]), (5, .own 40 0), (6, .own 48 0), (7, .own 56 0), (8, .own 64 0), (9, I z0.2.2.2.2), (10, .own 80 0), (11, I z1.2.2.2.2.2), (12, I (subI .i64 (lenL z1.2.2.2.2.1) 1)), (66, B false)] [(40, RR 3 1 I z1.1 0 false), (48, RR 3 1 I z1.2.1 0 false), (56, RR 64 4 a63 z1.2.2.1 0 false), (64, RR 64 4 a63 z1.2.2.2.1 0 false), (80, RR 64 4 a63 z1.2.2.2.2.1 0 false)] 149) (addrOE 104 3 1 40 0 false I .i64 z1.1 (addI .i64 z1.2.2.2.2.2 1)) (fun x37 => ?_)
        refine dv 95 (mkE [(94, .oa 40 0 x37 0), (93, I (addI .i64 z1.2.2.2.2.2 1)), (92, I z1.2.2.2.2.2), (91, .own 40 0), (1, .fn 219 [.ia [LL a63 p1_c0] 0, .ia [LL a63 p1_c1] 0]), (5, .own 40 0), (6, .own 48 0), (7, .own 56 0), (8, .own 64 0), (9, I z0.2.2.2.2), (10, .own 80 0), (11, I z1.2.2.2.2.2), (12, I (subI .i64 (lenL z1.2.2.2.2.1) 1)), (66, B false)] [(40, RR 3 1 I z1.1 0 false), (48, RR 3 1 I z1.2.1 0 false), (56, RR 64 4 a63 z1.2.2.1 0 false), (64, RR 64 4 a63 z1.2.2.2.1 0 false), (80, RR 64 4 a63 z1.2.2.2.2.1 0 false)] 149) (loadOE 3 40 0 x37 0 3 1 1 false false I (fun q : Int => I q) z1.1) (fun x38 => ?_)
        refine dg 16 [(some 82, qe (.own 80 0)), (some 83, qe (.own 40 0)), (some 84, qe (I z1.2.2.2.2.2)), (some 85, qe (.oa 40 0 x33 0)), (some 86, qe (I x34)), (some 87, qe (.own 48 0)), (some 88, qe (I z0.2.2.2.2)), (some 89, qe (.oa 48 0 x35 0)), (some 90, qe (I x36)), (some 91, qe (.own 40 0)), (some 92, qe (I z1.2.2.2.2.2)), (some 93, qe (I (addI .i64 z1.2.2.2.2.2 1))), (some 94, qe (.oa 40 0 x37 0)), (some 95, qe (I x38)), (some 96, qe (.own 40 0)), (some 97, qe (I z1.2.2.2.2.2))] ?_
        refine dv 98 (mkE [(97, I z1.2.2.2.2.2), (96, .own 40 0), (1, .fn 219 [.ia [LL a63 p1_c0] 0, .ia [LL a63 p1_c1] 0]), (5, .own 40 0), (6, .own 48 0), (7, .own 56 0), (8, .own 64 0), (9, I z0.2.2.2.2), (10, .own 80 0), (11, I z1.2.2.2.2.2), (12, I (subI .i64 (lenL z1.2.2.2.2.1) 1)), (66, B false)] [(40, RR 3 1 I z1.1 0 false), (48, RR 3 1 I z1.2.1 0 false), (56, RR 64 4 a63 z1.2.2.1 0 false), (64, RR 64 4 a63 z1.2.2.2.1 0 false), (80, RR 64 4 a63 z1.2.2.2.2.1 0 false)] 149) (addrOE 104 3 1 40 0 false I .i64 z1.1 z1.2.2.2.2.2) (fun x39 => ?_)
        refine dv 99 (mkE [(98, .oa 40 0 x39 0), (97, I z1.2.2.2.2.2), (96, .own 40 0), (1, .fn 219 [.ia [LL a63 p1_c0] 0, .ia [LL a63 p1_c1] 0]), (5, .own 40 0), (6, .own 48 0), (7, .own 56 0), (8, .own 64 0), (9, I z0.2.2.2.2), (10, .own 80 0), (11, I z1.2.2.2.2.2), (12, I (subI .i64 (lenL z1.2.2.2.2.1) 1)), (66, B false)] [(40, RR 3 1 I z1.1 0 false), (48, RR 3 1 I z1.2.1 0 false), (56, RR 64 4 a63 z1.2.2.1 0 false), (64, RR 64 4 a63 z1.2.2.2.1 0 false), (80, RR 64 4 a63 z1.2.2.2.2.1 0 false)] 149) (loadOE 3 40 0 x39 0 3 1 1 false false I (fun q : Int => I q) z1.1) (fun x40 => ?_)
        refine dg 22 [(some 82, qe (.own 80 0)), (some 83, qe (.own 40 0)), (some 84, qe (I z1.2.2.2.2.2)), (some 85, qe (.oa 40 0 x33 0)), (some 86, qe (I x34)), (some 87, qe (.own 48 0)), (some 88, qe (I z0.2.2.2.2)), (some 89, qe (.oa 48 0 x35 0)), (some 90, qe (I x36)), (some 91, qe (.own 40 0)), (some 92, qe (I z1.2.2.2.2.2)), (some 93, qe (I (addI .i64 z1.2.2.2.2.2 1))), (some 94, qe (.oa 40 0 x37 0)), (some 95, qe (I x38)), (some 96, qe (.own 40 0)), (some 97, qe (I z1.2.2.2.2.2)), (some 98, qe (.oa 40 0 x39 0)), (some 99, qe (I x40)), (some 100, qe (I (subI .i64 x38 x40))), (some 101, qe (.own 48 0)), (some 102, qe (I z0.2.2.2.2)), (some 103, qe (I (addI .i64 z0.2.2.2.2 1)))] ?_
        refine dv 104 (mkE [(103, I (addI .i64 z0.2.2.2.2 1)), (102, I z0.2.2.2.2), (101, .own 48 0), (1, .fn 219 [.ia [LL a63 p1_c0] 0, .ia [LL a63 p1_c1] 0]), (5, .own 40 0), (6, .own 48 0), (7, .own 56 0), (8, .own 64 0), (9, I z0.2.2.2.2), (10, .own 80 0), (11, I z1.2.2.2.2.2), (12, I (subI .i64 (lenL z1.2.2.2.2.1) 1)), (66, B false)] [(40, RR 3 1 I z1.1 0 false), (48, RR 3 1 I z1.2.1 0 false), (56, RR 64 4 a63 z1.2.2.1 0 false), (64, RR 64 4 a63 z1.2.2.2.1 0 false), (80, RR 64 4 a63 z1.2.2.2.2.1 0 false)] 149) (addrOE 104 3 1 48 0 false I .i64 z1.2.1 (addI .i64 z0.2.2.2.2 1)) (fun x41 => ?_)
        refine dv 105 (mkE [(104, .oa 48 0 x41 0), (103, I (addI .i64 z0.2.2.2.2 1)), (102, I z0.2.2.2.2), (101, .own 48 0), (1, .fn 219 [.ia [LL a63 p1_c0] 0, .ia [LL a63 p1_c1] 0]), (5, .own 40 0), (6, .own 48 0), (7, .own 56 0), (8, .own 64 0), (9, I z0.2.2.2.2), (10, .own 80 0), (11, I z1.2.2.2.2.2), (12, I (subI .i64 (lenL z1.2.2.2.2.1) 1)), (66, B false)] [(40, RR 3 1 I z1.1 0 false), (48, RR 3 1 I z1.2.1 0 false), (56, RR 64 4 a63 z1.2.2.1 0 false), (64, RR 64 4 a63 z1.2.2.2.1 0 false), (80, RR 64 4 a63 z1.2.2.2.2.1 0 false)] 149) (loadOE 3 48 0 x41 0 3 1 1 false false I (fun q : Int => I q) z1.2.1) (fun x42 => ?_)
        refine dg 26 [(some 82, qe (.own 80 0)), (some 83, qe (.own 40 0)), (some 84, qe (I z1.2.2.2.2.2)), (some 85, qe (.oa 40 0 x33 0)), (some 86, qe (I x34)), (some 87, qe (.own 48 0)), (some 88, qe (I z0.2.2.2.2)), (some 89, qe (.oa 48 0 x35 0)), (some 90, qe (I x36)), (some 91, qe (.own 40 0)), (some 92, qe (I z1.2.2.2.2.2)), (some 93, qe (I (addI .i64 z1.2.2.2.2.2 1))), (some 94, qe (.oa 40 0 x37 0)), (some 95, qe (I x38)), (some 96, qe (.own 40 0)), (some 97, qe (I z1.2.2.2.2.2)), (some 98, qe (.oa 40 0 x39 0)), (some 99, qe (I x40)), (some 100, qe (I (subI .i64 x38 x40))), (some 101, qe (.own 48 0)), (some 102, qe (I z0.2.2.2.2)), (some 103, qe (I (addI .i64 z0.2.2.2.2 1))), (some 104, qe (.oa 48 0 x41 0)), (some 105, qe (I x42)), (some 106, qe (.own 48 0)), (some 107, qe (I z0.2.2.2.2))] ?_
        refine dv 108 (mkE [(107, I z0.2.2.2.2), (106, .own 48 0), (1, .fn 219 [.ia [LL a63 p1_c0] 0, .ia [LL a63 p1_c1] 0]), (5, .own 40 0), (6, .own 48 0), (7, .own 56 0), (8, .own 64 0), (9, I z0.2.2.2.2), (10, .own 80 0), (11, I z1.2.2.2.2.2), (12, I (subI .i64 (lenL z1.2.2.2.2.1) 1)), (66, B false)] [(40, RR 3 1 I z1.1 0 false), (48, RR 3 1 I z1.2.1 0 false), (56, RR 64 4 a63 z1.2.2.1 0 false), (64, RR 64 4 a63 z1.2.2.2.1 0 false), (80, RR 64 4 a63 z1.2.2.2.2.1 0 false)] 149) (addrOE 104 3 1 48 0 false I .i64 z1.2.1 z0.2.2.2.2) (fun x43 => ?_)
        refine dv 109 (mkE [(108, .oa 48 0 x43 0), (107, I z0.2.2.2.2), (106, .own 48 0), (1, .fn 219 [.ia [LL a63 p1_c0] 0, .ia [LL a63 p1_c1] 0]), (5, .own 40 0), (6, .own 48 0), (7, .own 56 0), (8, .own 64 0), (9, I z0.2.2.2.2), (10, .own 80 0), (11, I z1.2.2.2.2.2), (12, I (subI .i64 (lenL z1.2.2.2.2.1) 1)), (66, B false)] [(40, RR 3 1 I z1.1 0 false), (48, RR 3 1 I z1.2.1 0 false), (56, RR 64 4 a63 z1.2.2.1 0 false), (64, RR 64 4 a63 z1.2.2.2.1 0 false), (80, RR 64 4 a63 z1.2.2.2.2.1 0 false)] 149) (loadOE 3 48 0 x43 0 3 1 1 false false I (fun q : Int => I q) z1.2.1) (fun x44 => ?_)
        refine dg 31 [(some 82, qe (.own 80 0)), (some 83, qe (.own 40 0)), (some 84, qe (I z1.2.2.2.2.2)), (some 85, qe (.oa 40 0 x33 0)), (some 86, qe (I x34)), (some 87, qe (.own 48 0)), (some 88, qe (I z0.2.2.2.2)), (some 89, qe (.oa 48 0 x35 0)), (some 90, qe (I x36)), (some 91, qe (.own 40 0)), (some 92, qe (I z1.2.2.2.2.2)), (some 93, qe (I (addI .i64 z1.2.2.2.2.2 1))), (some 94, qe (.oa 40 0 x37 0)), (some 95, qe (I x38)), (some 96, qe (.own 40 0)), (some 97, qe (I z1.2.2.2.2.2)), (some 98, qe (.oa 40 0 x39 0)), (some 99, qe (I x40)), (some 100, qe (I (subI .i64 x38 x40))), (some 101, qe (.own 48 0)), (some 102, qe (I z0.2.2.2.2)), (some 103, qe (I (addI .i64 z0.2.2.2.2 1))), (some 104, qe (.oa 48 0 x41 0)), (some 105, qe (I x42)), (some 106, qe (.own 48 0)), (some 107, qe (I z0.2.2.2.2)), (some 108, qe (.oa 48 0 x43 0)), (some 109, qe (I x44)), (some 110, qe (I (subI .i64 x42 x44))), (some 111, qe (.agg [I x34, I x36, I (subI .i64 x38 x40), I (subI .i64 x42 x44)])), (some 112, { e := { val := .own 896 0, news := [(896, RR 64 4 a63 ([(S63.mk x34 x36 (subI .i64 x38 x40) (subI .i64 x42 x44))] : List S63) 0 false)] } })] ?_
        refine de (mkE [(112, .own 896 0), (111, .agg [I x34, I x36, I (subI .i64 x38 x40), I (subI .i64 x42 x44)]), (110, I (subI .i64 x42 x44)), (109, I x44), (108, .oa 48 0 x43 0), (107, I z0.2.2.2.2), (106, .own 48 0), (105, I x42), (104, .oa 48 0 x41 0), (103, I (addI .i64 z0.2.2.2.2 1)), (102, I z0.2.2.2.2), (101, .own 48 0), (100, I (subI .i64 x38 x40)), (99, I x40), (98, .oa 40 0 x39 0), (97, I z1.2.2.2.2.2), (96, .own 40 0), (95, I x38), (94, .oa 40 0 x37 0), (93, I (addI .i64 z1.2.2.2.2.2 1)), (92, I z1.2.2.2.2.2), (91, .own 40 0), (90, I x36), (89, .oa 48 0 x35 0), (88, I z0.2.2.2.2), (87, .own 48 0), (86, I x34), (85, .oa 40 0 x33 0), (84, I z1.2.2.2.2.2), (83, .own 40 0), (82, .own 80 0), (1, .fn 219 [.ia [LL a63 p1_c0] 0, .ia [LL a63 p1_c1] 0]), (5, .own 40 0), (6, .own 48 0), (7, .own 56 0), (8, .own 64 0), (9, I z0.2.2.2.2), (10, .own 80 0), (11, I z1.2.2.2.2.2), (12, I (subI .i64 (lenL z1.2.2.2.2.1) 1)), (66, B false)] [(896, RR 64 4 a63 ([(S63.mk x34 x36 (subI .i64 x38 x40) (subI .i64 x42 x44))] : List S63) 0 false), (40, RR 3 1 I z1.1 0 false), (48, RR 3 1 I z1.2.1 0 false), (56, RR 64 4 a63 z1.2.2.1 0 false), (64, RR 64 4 a63 z1.2.2.2.1 0 false), (80, RR 64 4 a63 z1.2.2.2.2.1 0 false)] 149) ?_
        refine mo (some 113) (apO 65 64 4 32 80 a63 0 [896] (y := .own 896 0) (l2 := ([(S63.mk x34 x36 (subI .i64 x38 x40) (subI .i64 x42 x44))] : List S63))) (fun x45 => ?_)
        refine se (mkE [(1, .fn 219 [.ia [LL a63 p1_c0] 0, .ia [LL a63 p1_c1] 0]), (5, .own 40 0), (6, .own 48 0), (7, .own 56 0), (8, .own 64 0), (9, I z0.2.2.2.2), (10, .own 80 1), (11, I z1.2.2.2.2.2)] [(40, RR 3 1 I z1.1 0 false), (48, RR 3 1 I z1.2.1 0 false), (56, RR 64 4 a63 z1.2.2.1 0 false), (64, RR 64 4 a63 z1.2.2.2.1 0 false), (80, RR 64 4 a63 x45 1 false)] 149) ?_
        refine pB ?_
        refine pN ?_
        refine pS ?_
        refine gR 10 (rg Try.f215 10) ?_
        refine se (mkE [(1, .fn 219 [.ia [LL a63 p1_c0] 0, .ia [LL a63 p1_c1] 0]), (5, .own 40 0), (6, .own 48 0), (7, .own 56 0), (8, .own 64 0), (9, I z0.2.2.2.2), (10, .own 80 1), (11, I (addI .i64 z1.2.2.2.2.2 1))] [(40, RR 3 1 I z1.1 0 false), (48, RR 3 1 I z1.2.1 0 false), (56, RR 64 4 a63 z1.2.2.1 0 false), (64, RR 64 4 a63 z1.2.2.2.1 0 false), (80, RR 64 4 a63 x45 1 false)] 149) ?_
        exact pL
  · refine gX 2 ?_
    exact pL
noncomputable def L215_1_19 (p1_c0 : (List S63)) (p1_c1 : (List S63)) (z0 : ((List Int) × (List Int) × (List S63) × (List S63) × Int)) (y46 : (Int × Bool × (List Int) × (List Int) × (List S63) × (List S63) × (List S63))) (z2 : ((List Int) × (List Int) × (List S63) × (List S63) × (List S63) × Int)) : Option (((List Int) × (List Int) × (List S63) × (List S63) × (List S63) × Int) ⊕ (Int × Bool × (List Int) × (List Int) × (List S63) × (List S63) × (List S63))) := (bif (ltI z2.2.2.2.2.2 (lenL y46.2.2.2.2.2.1)) then ((idxO (List.length z2.2.2.2.1) z2.2.2.2.2.2).bind fun x48 => ((getN z2.2.2.2.1 x48).bind fun x49 => ((idxO (List.length z2.2.2.2.2.1) z2.2.2.2.2.2).bind fun x50 => ((getN z2.2.2.2.2.1 x50).bind fun x51 => ((idxO (List.length z2.2.2.2.1) z2.2.2.2.2.2).bind fun x52 => ((getN z2.2.2.2.1 x52).bind fun x53 => (some (.inl (z2.1, z2.2.1, z2.2.2.1, (List.set z2.2.2.2.1 x52 (S63.mk x53.f0 x53.f1 x53.f2 (addI .i64 x49.f3 x51.f3))), z2.2.2.2.2.1, (addI .i64 z2.2.2.2.2.2 1)))))))))) else (some (.inr (z2.2.2.2.2.2, (ltI z2.2.2.2.2.2 (lenL y46.2.2.2.2.2.1)), z2.1, z2.2.1, z2.2.2.1, z2.2.2.2.1, z2.2.2.2.2.1))))
theorem L215_1_19_ok (C : Callee) (p1_c0 : (List S63)) (p1_c1 : (List S63)) (z0 : ((List Int) × (List Int) × (List S63) × (List S63) × Int)) (y46 : (Int × Bool × (List Int) × (List Int) × (List S63) × (List S63) × (List S63))) (z2 : ((List Int) × (List Int) × (List S63) × (List S63) × (List S63) × Int)) : runs Try.prog C (cfg.fn 215) (finLoop ((cfg.fn 215).keep 19) ((cfg.fn 215).al 19)) [] (execA Try.prog C (cfg.fn 215) (nr Try.f215 [false, false, true, false, false, true, false, true, true, true, false, false, true, false, false, true, false, true, true, true, true]) ((fun z2 : ((List Int) × (List Int) × (List S63) × (List S63) × (List S63) × Int) => (mkE [(1, .fn 219 [.ia [LL a63 p1_c0] 0, .ia [LL a63 p1_c1] 0]), (5, .own 40 0), (6, .own 48 0), (7, .own 56 0), (8, .own 64 0), (9, I z0.2.2.2.2), (10, .own 80 0), (124, I (lenL y46.2.2.2.2.2.1)), (125, I z2.2.2.2.2.2)] [(40, RR 3 1 I z2.1 0 false), (48, RR 3 1 I z2.2.1 0 false), (56, RR 64 4 a63 z2.2.2.1 0 false), (64, RR 64 4 a63 z2.2.2.2.1 0 false), (80, RR 64 4 a63 z2.2.2.2.2.1 0 false)] 149)) z2)) = (L215_1_19 p1_c0 p1_c1 z0 y46 z2).map (Sum.elim (fun z => .inl ((fun z2 : ((List Int) × (List Int) × (List S63) × (List S63) × (List S63) × Int) => (mkE [(1, .fn 219 [.ia [LL a63 p1_c0] 0, .ia [LL a63 p1_c1] 0]), (5, .own 40 0), (6, .own 48 0), (7, .own 56 0), (8, .own 64 0), (9, I z0.2.2.2.2), (10, .own 80 0), (124, I (lenL y46.2.2.2.2.2.1)), (125, I z2.2.2.2.2.2)] [(40, RR 3 1 I z2.1 0 false), (48, RR 3 1 I z2.2.1 0 false), (56, RR 64 4 a63 z2.2.2.1 0 false), (64, RR 64 4 a63 z2.2.2.2.1 0 false), (80, RR 64 4 a63 z2.2.2.2.2.1 0 false)] 149)) z)) (fun x => .inr ((fun (x : (Int × Bool × (List Int) × (List Int) × (List S63) × (List S63) × (List S63))) => (.exit 4, (mkE [(1, .fn 219 [.ia [LL a63 p1_c0] 0, .ia [LL a63 p1_c1] 0]), (5, .own 40 0), (6, .own 48 0), (7, .own 56 0), (8, .own 64 0), (9, I z0.2.2.2.2), (10, .own 80 0), (124, I (lenL y46.2.2.2.2.2.1)), (125, I x.1), (126, B x.2.1)] [(40, RR 3 1 I x.2.2.1 0 false), (48, RR 3 1 I x.2.2.2.1 0 false), (56, RR 64 4 a63 x.2.2.2.2.1 0 false), (64, RR 64 4 a63 x.2.2.2.2.2.1 0 false), (80, RR 64 4 a63 x.2.2.2.2.2.2 0 false)] 149))) x))) := by
  unfold L215_1_19
  refine gS 0 ?_
  refine gR 19 (rg Try.f215 19) ?_
  refine se (mkE [(1, .fn 219 [.ia [LL a63 p1_c0] 0, .ia [LL a63 p1_c1] 0]), (5, .own 40 0), (6, .own 48 0), (7, .own 56 0), (8, .own 64 0), (9, I z0.2.2.2.2), (10, .own 80 0), (124, I (lenL y46.2.2.2.2.2.1)), (125, I z2.2.2.2.2.2), (126, B (ltI z2.2.2.2.2.2 (lenL y46.2.2.2.2.2.1)))] [(40, RR 3 1 I z2.1 0 false), (48, RR 3 1 I z2.2.1 0 false), (56, RR 64 4 a63 z2.2.2.1 0 false), (64, RR 64 4 a63 z2.2.2.2.1 0 false), (80, RR 64 4 a63 z2.2.2.2.2.1 0 false)] 149) ?_
  refine pN ?_
  refine pS ?_
  refine gS 20 ?_
  refine gC 126 (ltI z2.2.2.2.2.2 (lenL y46.2.2.2.2.2.1)) ?_ ?_
  · refine gK ?_
    refine pN ?_
    refine pS ?_
    refine gS 22 ?_
    refine gB 5 ?_
    refine gS 21 ?_
    refine gR 20 (rg Try.f215 20) ?_
    refine se (mkE [(1, .fn 219 [.ia [LL a63 p1_c0] 0, .ia [LL a63 p1_c1] 0]), (5, .own 40 0), (6, .own 48 0), (7, .own 56 0), (8, .own 64 0), (9, I z0.2.2.2.2), (10, .own 80 0), (14, I z2.2.2.2.2.2), (124, I (lenL y46.2.2.2.2.2.1)), (125, I z2.2.2.2.2.2)] [(40, RR 3 1 I z2.1 0 false), (48, RR 3 1 I z2.2.1 0 false), (56, RR 64 4 a63 z2.2.2.1 0 false), (64, RR 64 4 a63 z2.2.2.2.1 0 false), (80, RR 64 4 a63 z2.2.2.2.2.1 0 false)] 149) ?_
    refine pN ?_
    refine pS ?_
    refine gD 21 13 (rg Try.f215 21) [0, 1, 2, 3, 4, 5, 6, 7, 8, 9, 10, 11, 12, 13] ?_
    refine dg 2 [(some 128, qe (.own 64 0)), (some 129, qe (I z2.2.2.2.2.2))] ?_
    refine dv 130 (mkE [(129, I z2.2.2.2.2.2), (128, .own 64 0), (1, .fn 219 [.ia [LL a63 p1_c0] 0, .ia [LL a63 p1_c1] 0]), (5, .own 40 0), (6, .own 48 0), (7, .own 56 0), (8, .own 64 0), (9, I z0.2.2.2.2), (10, .own 80 0), (14, I z2.2.2.2.2.2), (124, I (lenL y46.2.2.2.2.2.1)), (125, I z2.2.2.2.2.2)] [(40, RR 3 1 I z2.1 0 false), (48, RR 3 1 I z2.2.1 0 false), (56, RR 64 4 a63 z2.2.2.1 0 false), (64, RR 64 4 a63 z2.2.2.2.1 0 false), (80, RR 64 4 a63 z2.2.2.2.2.1 0 false)] 149) (addrOE 65 64 4 64 0 false a63 .i64 z2.2.2.2.1 z2.2.2.2.2.2) (fun x48 => ?_)
    refine dg 4 [(some 128, qe (.own 64 0)), (some 129, qe (I z2.2.2.2.2.2)), (some 130, qe (.oa 64 0 x48 0)), (some 131, qe (.oa 64 0 x48 3))] ?_
    refine dv 132 (mkE [(131, .oa 64 0 x48 3), (130, .oa 64 0 x48 0), (129, I z2.2.2.2.2.2), (128, .own 64 0), (1, .fn 219 [.ia [LL a63 p1_c0] 0, .ia [LL a63 p1_c1] 0]), (5, .own 40 0), (6, .own 48 0), (7, .own 56 0), (8, .own 64 0), (9, I z0.2.2.2.2), (10, .own 80 0), (14, I z2.2.2.2.2.2), (124, I (lenL y46.2.2.2.2.2.1)), (125, I z2.2.2.2.2.2)] [(40, RR 3 1 I z2.1 0 false), (48, RR 3 1 I z2.2.1 0 false), (56, RR 64 4 a63 z2.2.2.1 0 false), (64, RR 64 4 a63 z2.2.2.2.1 0 false), (80, RR 64 4 a63 z2.2.2.2.2.1 0 false)] 149) (loadOE 3 64 0 x48 3 64 4 1 false false a63 (fun q : S63 => I q.f3) z2.2.2.2.1) (fun x49 => ?_)
    refine dg 7 [(some 128, qe (.own 64 0)), (some 129, qe (I z2.2.2.2.2.2)), (some 130, qe (.oa 64 0 x48 0)), (some 131, qe (.oa 64 0 x48 3)), (some 132, qe (I x49.f3)), (some 133, qe (.own 80 0)), (some 134, qe (I z2.2.2.2.2.2))] ?_
    refine dv 135 (mkE [(134, I z2.2.2.2.2.2), (133, .own 80 0), (1, .fn 219 [.ia [LL a63 p1_c0] 0, .ia [LL a63 p1_c1] 0]), (5, .own 40 0), (6, .own 48 0), (7, .own 56 0), (8, .own 64 0), (9, I z0.2.2.2.2), (10, .own 80 0), (14, I z2.2.2.2.2.2), (124, I (lenL y46.2.2.2.2.2.1)), (125, I z2.2.2.2.2.2)] [(40, RR 3 1 I z2.1 0 false), (48, RR 3 1 I z2.2.1 0 false), (56, RR 64 4 a63 z2.2.2.1 0 false), (64, RR 64 4 a63 z2.2.2.2.1 0 false), (80, RR 64 4 a63 z2.2.2.2.2.1 0 false)] 149) (addrOE 65 64 4 80 0 false a63 .i64 z2.2.2.2.2.1 z2.2.2.2.2.2) (fun x50 => ?_)
    refine dg 9 [(some 128, qe (.own 64 0)), (some 129, qe (I z2.2.2.2.2.2)), (some 130, qe (.oa 64 0 x48 0)), (some 131, qe (.oa 64 0 x48 3)), (some 132, qe (I x49.f3)), (some 133, qe (.own 80 0)), (some 134, qe (I z2.2.2.2.2.2)), (some 135, qe (.oa 80 0 x50 0)), (some 136, qe (.oa 80 0 x50 3))] ?_
    refine dv 137 (mkE [(136, .oa 80 0 x50 3), (135, .oa 80 0 x50 0), (134, I z2.2.2.2.2.2), (133, .own 80 0), (1, .fn 219 [.ia [LL a63 p1_c0] 0, .ia [LL a63 p1_c1] 0]), (5, .own 40 0), (6, .own 48 0), (7, .own 56 0), (8, .own 64 0), (9, I z0.2.2.2.2), (10, .own 80 0), (14, I z2.2.2.2.2.2), (124, I (lenL y46.2.2.2.2.2.1)), (125, I z2.2.2.2.2.2)] [(40, RR 3 1 I z2.1 0 false), (48, RR 3 1 I z2.2.1 0 false), (56, RR 64 4 a63 z2.2.2.1 0 false), (64, RR 64 4 a63 z2.2.2.2.1 0 false), (80, RR 64 4 a63 z2.2.2.2.2.1 0 false)] 149) (loadOE 3 80 0 x50 3 64 4 1 false false a63 (fun q : S63 => I q.f3) z2.2.2.2.2.1) (fun x51 => ?_)
    refine dg 11 [(some 128, qe (.own 64 0)), (some 129, qe (I z2.2.2.2.2.2)), (some 130, qe (.oa 64 0 x48 0)), (some 131, qe (.oa 64 0 x48 3)), (some 132, qe (I x49.f3)), (some 133, qe (.own 80 0)), (some 134, qe (I z2.2.2.2.2.2)), (some 135, qe (.oa 80 0 x50 0)), (some 136, qe (.oa 80 0 x50 3)), (some 137, qe (I x51.f3)), (some 138, qe (I (addI .i64 x49.f3 x51.f3)))] ?_
    refine dv 139 (mkE [(138, I (addI .i64 x49.f3 x51.f3)), (137, I x51.f3), (136, .oa 80 0 x50 3), (135, .oa 80 0 x50 0), (134, I z2.2.2.2.2.2), (133, .own 80 0), (132, I x49.f3), (131, .oa 64 0 x48 3), (130, .oa 64 0 x48 0), (129, I z2.2.2.2.2.2), (128, .own 64 0), (1, .fn 219 [.ia [LL a63 p1_c0] 0, .ia [LL a63 p1_c1] 0]), (5, .own 40 0), (6, .own 48 0), (7, .own 56 0), (8, .own 64 0), (9, I z0.2.2.2.2), (10, .own 80 0), (14, I z2.2.2.2.2.2), (124, I (lenL y46.2.2.2.2.2.1)), (125, I z2.2.2.2.2.2)] [(40, RR 3 1 I z2.1 0 false), (48, RR 3 1 I z2.2.1 0 false), (56, RR 64 4 a63 z2.2.2.1 0 false), (64, RR 64 4 a63 z2.2.2.2.1 0 false), (80, RR 64 4 a63 z2.2.2.2.2.1 0 false)] 149) (addrOE 65 64 4 64 0 false a63 .i64 z2.2.2.2.1 z2.2.2.2.2.2) (fun x52 => ?_)
    refine dg 13 [(some 128, qe (.own 64 0)), (some 129, qe (I z2.2.2.2.2.2)), (some 130, qe (.oa 64 0 x48 0)), (some 131, qe (.oa 64 0 x48 3)), (some 132, qe (I x49.f3)), (some 133, qe (.own 80 0)), (some 134, qe (I z2.2.2.2.2.2)), (some 135, qe (.oa 80 0 x50 0)), (some 136, qe (.oa 80 0 x50 3)), (some 137, qe (I x51.f3)), (some 138, qe (I (addI .i64 x49.f3 x51.f3))), (some 139, qe (.oa 64 0 x52 0)), (some 140, qe (.oa 64 0 x52 3))] ?_
    refine de (mkE [(140, .oa 64 0 x52 3), (139, .oa 64 0 x52 0), (138, I (addI .i64 x49.f3 x51.f3)), (137, I x51.f3), (136, .oa 80 0 x50 3), (135, .oa 80 0 x50 0), (134, I z2.2.2.2.2.2), (133, .own 80 0), (132, I x49.f3), (131, .oa 64 0 x48 3), (130, .oa 64 0 x48 0), (129, I z2.2.2.2.2.2), (128, .own 64 0), (1, .fn 219 [.ia [LL a63 p1_c0] 0, .ia [LL a63 p1_c1] 0]), (5, .own 40 0), (6, .own 48 0), (7, .own 56 0), (8, .own 64 0), (9, I z0.2.2.2.2), (10, .own 80 0), (14, I z2.2.2.2.2.2), (124, I (lenL y46.2.2.2.2.2.1)), (125, I z2.2.2.2.2.2)] [(40, RR 3 1 I z2.1 0 false), (48, RR 3 1 I z2.2.1 0 false), (56, RR 64 4 a63 z2.2.2.1 0 false), (64, RR 64 4 a63 z2.2.2.2.1 0 false), (80, RR 64 4 a63 z2.2.2.2.2.1 0 false)] 149) ?_
    refine mo none (stO 64 4 64 0 x52 3 a63 z2.2.2.2.1 [] [I (addI .i64 x49.f3 x51.f3)] (I (addI .i64 x49.f3 x51.f3)) (fun q : S63 => (S63.mk q.f0 q.f1 q.f2 (addI .i64 x49.f3 x51.f3))) 3 (.tmp 140) (.tmp 138) 1) (fun x53 => ?_)
    refine se (mkE [(1, .fn 219 [.ia [LL a63 p1_c0] 0, .ia [LL a63 p1_c1] 0]), (5, .own 40 0), (6, .own 48 0), (7, .own 56 0), (8, .own 64 0), (9, I z0.2.2.2.2), (10, .own 80 0), (124, I (lenL y46.2.2.2.2.2.1)), (125, I z2.2.2.2.2.2)] [(40, RR 3 1 I z2.1 0 false), (48, RR 3 1 I z2.2.1 0 false), (56, RR 64 4 a63 z2.2.2.1 0 false), (64, RR 64 4 a63 (List.set z2.2.2.2.1 x52 (S63.mk x53.f0 x53.f1 x53.f2 (addI .i64 x49.f3 x51.f3))) 0 false), (80, RR 64 4 a63 z2.2.2.2.2.1 0 false)] 149) ?_
    refine pB ?_
    refine pN ?_
    refine pS ?_
    refine gR 22 (rg Try.f215 22) ?_
    refine se (mkE [(1, .fn 219 [.ia [LL a63 p1_c0] 0, .ia [LL a63 p1_c1] 0]), (5, .own 40 0), (6, .own 48 0), (7, .own 56 0), (8, .own 64 0), (9, I z0.2.2.2.2), (10, .own 80 0), (124, I (lenL y46.2.2.2.2.2.1)), (125, I (addI .i64 z2.2.2.2.2.2 1))] [(40, RR 3 1 I z2.1 0 false), (48, RR 3 1 I z2.2.1 0 false), (56, RR 64 4 a63 z2.2.2.1 0 false), (64, RR 64 4 a63 (List.set z2.2.2.2.1 x52 (S63.mk x53.f0 x53.f1 x53.f2 (addI .i64 x49.f3 x51.f3))) 0 false), (80, RR 64 4 a63 z2.2.2.2.2.1 0 false)] 149) ?_
    exact pL
  · refine gX 4 ?_
    exact pL
noncomputable def L215_1_5 (p1_c0 : (List S63)) (p1_c1 : (List S63)) (z0 : ((List Int) × (List Int) × (List S63) × (List S63) × Int)) : Option (((List Int) × (List Int) × (List S63) × (List S63) × Int) ⊕ (Int × Bool × (List Int) × (List Int) × (List S63) × (List S63))) := (bif (ltI (addI .i64 z0.2.2.2.2 1) (lenL z0.2.1)) then ((iter (L215_1_9 p1_c0 p1_c1 z0) (z0.1, z0.2.1, z0.2.2.1, z0.2.2.2.1, [], 0)).bind fun y46 => ((T258 y46.2.2.2.2.2.2 y46.2.2.2.2.2.1).bind fun x47 => (bif x47 then (bif (ltI 0 (lenL y46.2.2.2.2.2.2)) then ((iter (L215_1_19 p1_c0 p1_c1 z0 y46) (y46.2.2.1, y46.2.2.2.1, y46.2.2.2.2.1, y46.2.2.2.2.2.1, y46.2.2.2.2.2.2, 0)).bind fun y54 => (some (.inl (y54.2.2.1, y54.2.2.2.1, y54.2.2.2.2.1, y54.2.2.2.2.2.1, (addI .i64 z0.2.2.2.2 1))))) else ((appO 32 y46.2.2.2.2.1 y46.2.2.2.2.2.1).bind fun x55 => (some (.inl (y46.2.2.1, y46.2.2.2.1, x55, y46.2.2.2.2.2.2, (addI .i64 z0.2.2.2.2 1)))))) else ((appO 32 y46.2.2.2.2.1 y46.2.2.2.2.2.1).bind fun x56 => (some (.inl (y46.2.2.1, y46.2.2.2.1, x56, y46.2.2.2.2.2.2, (addI .i64 z0.2.2.2.2 1)))))))) else (some (.inr (z0.2.2.2.2, (ltI (addI .i64 z0.2.2.2.2 1) (lenL z0.2.1)), z0.1, z0.2.1, z0.2.2.1, z0.2.2.2.1))))
theorem L215_1_5_ok (C : Callee) (h219 : ∀ (p0 : Int) (p1 : Int) (p2_c0 : (List S63)) (p3_c0 : (List S63)), C 219 [I p0, I p1, .ia [LL a63 p2_c0] 0, .ia [LL a63 p3_c0] 0] = (T219 p0 p1 p2_c0 p3_c0).map B) (h258 : ∀ (p0 : (List S63)) (p1 : (List S63)), C 258 [LL a63 p0, LL a63 p1, .fn 259 []] = (T258 p0 p1).map B) (p1_c0 : (List S63)) (p1_c1 : (List S63)) (z0 : ((List Int) × (List Int) × (List S63) × (List S63) × Int)) : runs Try.prog C (cfg.fn 215) (finLoop ((cfg.fn 215).keep 5) ((cfg.fn 215).al 5)) [] (execA Try.prog C (cfg.fn 215) (nr Try.f215 [false, false, true, false, true, true, true, true]) ((fun z0 : ((List Int) × (List Int) × (List S63) × (List S63) × Int) => (mkE [(1, .fn 219 [.ia [LL a63 p1_c0] 0, .ia [LL a63 p1_c1] 0]), (5, .own 40 0), (6, .own 48 0), (7, .own 56 0), (8, .own 64 0), (9, I z0.2.2.2.2)] [(40, RR 3 1 I z0.1 0 false), (48, RR 3 1 I z0.2.1 0 false), (56, RR 64 4 a63 z0.2.2.1 0 false), (64, RR 64 4 a63 z0.2.2.2.1 0 false)] 149)) z0)) = (L215_1_5 p1_c0 p1_c1 z0).map (Sum.elim (fun z => .inl ((fun z0 : ((List Int) × (List Int) × (List S63) × (List S63) × Int) => (mkE [(1, .fn 219 [.ia [LL a63 p1_c0] 0, .ia [LL a63 p1_c1] 0]), (5, .own 40 0), (6, .own 48 0), (7, .own 56 0), (8, .own 64 0), (9, I z0.2.2.2.2)] [(40, RR 3 1 I z0.1 0 false), (48, RR 3 1 I z0.2.1 0 false), (56, RR 64 4 a63 z0.2.2.1 0 false), (64, RR 64 4 a63 z0.2.2.2.1 0 false)] 149)) z)) (fun x => .inr ((fun (x : (Int × Bool × (List Int) × (List Int) × (List S63) × (List S63))) => (.exit 0, (mkE [(1, .fn 219 [.ia [LL a63 p1_c0] 0, .ia [LL a63 p1_c1] 0]), (5, .own 40 0), (6, .own 48 0), (7, .own 56 0), (8, .own 64 0), (9, I x.1), (23, B x.2.1)] [(40, RR 3 1 I x.2.2.1 0 false), (48, RR 3 1 I x.2.2.2.1 0 false), (56, RR 64 4 a63 x.2.2.2.2.1 0 false), (64, RR 64 4 a63 x.2.2.2.2.2 0 false)] 149))) x))) := by
  unfold L215_1_5
  refine gS 7 ?_
  refine gS 0 ?_
  refine gR 5 (rg Try.f215 5) ?_
  refine sg 3 (mkE [(21, .own 48 0), (20, I (addI .i64 z0.2.2.2.2 1)), (19, I z0.2.2.2.2), (1, .fn 219 [.ia [LL a63 p1_c0] 0, .ia [LL a63 p1_c1] 0]), (5, .own 40 0), (6, .own 48 0), (7, .own 56 0), (8, .own 64 0), (9, I z0.2.2.2.2)] [(40, RR 3 1 I z0.1 0 false), (48, RR 3 1 I z0.2.1 0 false), (56, RR 64 4 a63 z0.2.2.1 0 false), (64, RR 64 4 a63 z0.2.2.2.1 0 false)] 149) ?_
  refine eo 22 (I (lenL z0.2.1)) (lenOE 104 3 1 I z0.2.1) ?_
  refine se (mkE [(1, .fn 219 [.ia [LL a63 p1_c0] 0, .ia [LL a63 p1_c1] 0]), (5, .own 40 0), (6, .own 48 0), (7, .own 56 0), (8, .own 64 0), (9, I z0.2.2.2.2), (23, B (ltI (addI .i64 z0.2.2.2.2 1) (lenL z0.2.1)))] [(40, RR 3 1 I z0.1 0 false), (48, RR 3 1 I z0.2.1 0 false), (56, RR 64 4 a63 z0.2.2.1 0 false), (64, RR 64 4 a63 z0.2.2.2.1 0 false)] 149) ?_
  refine pN ?_
  refine pS ?_
  refine gC 23 (ltI (addI .i64 z0.2.2.2.2 1) (lenL z0.2.1)) ?_ ?_
  · refine gK ?_
    refine pN ?_
    refine pS ?_
    refine gS 6 ?_
    refine gB 1 ?_
    refine gS 8 ?_
    refine gR 7 (rg Try.f215 7) ?_
    refine se (mkE [(1, .fn 219 [.ia [LL a63 p1_c0] 0, .ia [LL a63 p1_c1] 0]), (5, .own 40 0), (6, .own 48 0), (7, .own 56 0), (8, .own 64 0), (9, I z0.2.2.2.2), (10, .nils)] [(40, RR 3 1 I z0.1 0 false), (48, RR 3 1 I z0.2.1 0 false), (56, RR 64 4 a63 z0.2.2.1 0 false), (64, RR 64 4 a63 z0.2.2.2.1 0 false)] 149) ?_
    refine pN ?_
    refine pS ?_
    refine gS 16 ?_
    refine gS 9 ?_
    refine gR 8 (rg Try.f215 8) ?_
    refine se (mkE [(1, .fn 219 [.ia [LL a63 p1_c0] 0, .ia [LL a63 p1_c1] 0]), (5, .own 40 0), (6, .own 48 0), (7, .own 56 0), (8, .own 64 0), (9, I z0.2.2.2.2), (10, .nils), (11, I 0)] [(40, RR 3 1 I z0.1 0 false), (48, RR 3 1 I z0.2.1 0 false), (56, RR 64 4 a63 z0.2.2.1 0 false), (64, RR 64 4 a63 z0.2.2.2.1 0 false)] 149) ?_
    refine pN ?_
    refine pS ?_
    refine gB 2 ?_
    refine lo [(1, none), (5, some (3, 1)), (6, some (3, 1)), (7, some (64, 4)), (8, some (64, 4)), (9, none), (10, some (64, 4)), (11, none)] [] (L215_1_9 p1_c0 p1_c1 z0) (fun z1 : ((List Int) × (List Int) × (List S63) × (List S63) × (List S63) × Int) => (mkE [(1, .fn 219 [.ia [LL a63 p1_c0] 0, .ia [LL a63 p1_c1] 0]), (5, .own 40 0), (6, .own 48 0), (7, .own 56 0), (8, .own 64 0), (9, I z0.2.2.2.2), (10, .own 80 0), (11, I z1.2.2.2.2.2)] [(40, RR 3 1 I z1.1 0 false), (48, RR 3 1 I z1.2.1 0 false), (56, RR 64 4 a63 z1.2.2.1 0 false), (64, RR 64 4 a63 z1.2.2.2.1 0 false), (80, RR 64 4 a63 z1.2.2.2.2.1 0 false)] 149)) (fun (x : (Int × Bool × (List Int) × (List Int) × (List S63) × (List S63) × (List S63))) => (.exit 2, (mkE [(1, .fn 219 [.ia [LL a63 p1_c0] 0, .ia [LL a63 p1_c1] 0]), (5, .own 40 0), (6, .own 48 0), (7, .own 56 0), (8, .own 64 0), (9, I z0.2.2.2.2), (10, .own 80 0), (11, I x.1), (30, B x.2.1)] [(40, RR 3 1 I x.2.2.1 0 false), (48, RR 3 1 I x.2.2.2.1 0 false), (56, RR 64 4 a63 x.2.2.2.2.1 0 false), (64, RR 64 4 a63 x.2.2.2.2.2.1 0 false), (80, RR 64 4 a63 x.2.2.2.2.2.2 0 false)] 149))) (z0.1, z0.2.1, z0.2.2.1, z0.2.2.2.1, [], 0) (fun z => L215_1_9_ok C h219 p1_c0 p1_c1 z0 z) ?_
    intro y46
    refine pH ?_
    refine pN ?_
    refine pS ?_
    refine gS 17 ?_
    refine gR 16 (rg Try.f215 16) ?_
    refine sg 2 (mkE [(115, .own 64 0), (114, .own 80 0), (1, .fn 219 [.ia [LL a63 p1_c0] 0, .ia [LL a63 p1_c1] 0]), (5, .own 40 0), (6, .own 48 0), (7, .own 56 0), (8, .own 64 0), (9, I z0.2.2.2.2), (10, .own 80 0), (11, I y46.1), (30, B y46.2.1)] [(40, RR 3 1 I y46.2.2.1 0 false), (48, RR 3 1 I y46.2.2.2.1 0 false), (56, RR 64 4 a63 y46.2.2.2.2.1 0 false), (64, RR 64 4 a63 y46.2.2.2.2.2.1 0 false), (80, RR 64 4 a63 y46.2.2.2.2.2.2 0 false)] 149) ?_
    refine co 116 [80, 64] (h258 y46.2.2.2.2.2.2 y46.2.2.2.2.2.1) (fun x47 => ?_)
    refine se (mkE [(1, .fn 219 [.ia [LL a63 p1_c0] 0, .ia [LL a63 p1_c1] 0]), (5, .own 40 0), (6, .own 48 0), (7, .own 56 0), (8, .own 64 0), (9, I z0.2.2.2.2), (10, .own 80 0), (13, B x47)] [(40, RR 3 1 I y46.2.2.1 0 false), (48, RR 3 1 I y46.2.2.2.1 0 false), (56, RR 64 4 a63 y46.2.2.2.2.1 0 false), (64, RR 64 4 a63 y46.2.2.2.2.2.1 0 false), (80, RR 64 4 a63 y46.2.2.2.2.2.2 0 false)] 149) ?_
    refine pN ?_
    refine pS ?_
    refine gS 23 ?_
    refine gS 0 ?_
    refine gR 17 (rg Try.f215 17) ?_
    refine sg 2 (mkE [(118, B x47), (117, B x47), (1, .fn 219 [.ia [LL a63 p1_c0] 0, .ia [LL a63 p1_c1] 0]), (5, .own 40 0), (6, .own 48 0), (7, .own 56 0), (8, .own 64 0), (9, I z0.2.2.2.2), (10, .own 80 0), (13, B x47)] [(40, RR 3 1 I y46.2.2.1 0 false), (48, RR 3 1 I y46.2.2.2.1 0 false), (56, RR 64 4 a63 y46.2.2.2.2.1 0 false), (64, RR 64 4 a63 y46.2.2.2.2.2.1 0 false), (80, RR 64 4 a63 y46.2.2.2.2.2.2 0 false)] 149) ?_
    refine sb 118 x47 ?_ ?_
    · refine sg 3 (mkE [(119, .own 80 0), (118, B true), (118, B x47), (117, B x47), (1, .fn 219 [.ia [LL a63 p1_c0] 0, .ia [LL a63 p1_c1] 0]), (5, .own 40 0), (6, .own 48 0), (7, .own 56 0), (8, .own 64 0), (9, I z0.2.2.2.2), (10, .own 80 0), (13, B x47)] [(40, RR 3 1 I y46.2.2.1 0 false), (48, RR 3 1 I y46.2.2.2.1 0 false), (56, RR 64 4 a63 y46.2.2.2.2.1 0 false), (64, RR 64 4 a63 y46.2.2.2.2.2.1 0 false), (80, RR 64 4 a63 y46.2.2.2.2.2.2 0 false)] 149) ?_
      refine eo 120 (I (lenL y46.2.2.2.2.2.2)) (lenOE 65 64 4 a63 y46.2.2.2.2.2.2) ?_
      refine se (mkE [(1, .fn 219 [.ia [LL a63 p1_c0] 0, .ia [LL a63 p1_c1] 0]), (5, .own 40 0), (6, .own 48 0), (7, .own 56 0), (8, .own 64 0), (9, I z0.2.2.2.2), (10, .own 80 0), (122, B (ltI 0 (lenL y46.2.2.2.2.2.2)))] [(40, RR 3 1 I y46.2.2.1 0 false), (48, RR 3 1 I y46.2.2.2.1 0 false), (56, RR 64 4 a63 y46.2.2.2.2.1 0 false), (64, RR 64 4 a63 y46.2.2.2.2.2.1 0 false), (80, RR 64 4 a63 y46.2.2.2.2.2.2 0 false)] 149) ?_
      refine pN ?_
      refine pS ?_
      refine gC 122 (ltI 0 (lenL y46.2.2.2.2.2.2)) ?_ ?_
      · refine gS 0 ?_
        refine gS 19 ?_
        refine gR 18 (rg Try.f215 18) ?_
        refine sg 1 (mkE [(123, .own 64 0), (1, .fn 219 [.ia [LL a63 p1_c0] 0, .ia [LL a63 p1_c1] 0]), (5, .own 40 0), (6, .own 48 0), (7, .own 56 0), (8, .own 64 0), (9, I z0.2.2.2.2), (10, .own 80 0), (122, B (ltI 0 (lenL y46.2.2.2.2.2.2)))] [(40, RR 3 1 I y46.2.2.1 0 false), (48, RR 3 1 I y46.2.2.2.1 0 false), (56, RR 64 4 a63 y46.2.2.2.2.1 0 false), (64, RR 64 4 a63 y46.2.2.2.2.2.1 0 false), (80, RR 64 4 a63 y46.2.2.2.2.2.2 0 false)] 149) ?_
        refine eo 124 (I (lenL y46.2.2.2.2.2.1)) (lenOE 65 64 4 a63 y46.2.2.2.2.2.1) ?_
        refine se (mkE [(1, .fn 219 [.ia [LL a63 p1_c0] 0, .ia [LL a63 p1_c1] 0]), (5, .own 40 0), (6, .own 48 0), (7, .own 56 0), (8, .own 64 0), (9, I z0.2.2.2.2), (10, .own 80 0), (124, I (lenL y46.2.2.2.2.2.1)), (125, I 0)] [(40, RR 3 1 I y46.2.2.1 0 false), (48, RR 3 1 I y46.2.2.2.1 0 false), (56, RR 64 4 a63 y46.2.2.2.2.1 0 false), (64, RR 64 4 a63 y46.2.2.2.2.2.1 0 false), (80, RR 64 4 a63 y46.2.2.2.2.2.2 0 false)] 149) ?_
        refine pN ?_
        refine pS ?_
        refine gB 4 ?_
        refine lo [(1, none), (5, some (3, 1)), (6, some (3, 1)), (7, some (64, 4)), (8, some (64, 4)), (9, none), (10, some (64, 4)), (124, none), (125, none)] [] (L215_1_19 p1_c0 p1_c1 z0 y46) (fun z2 : ((List Int) × (List Int) × (List S63) × (List S63) × (List S63) × Int) => (mkE [(1, .fn 219 [.ia [LL a63 p1_c0] 0, .ia [LL a63 p1_c1] 0]), (5, .own 40 0), (6, .own 48 0), (7, .own 56 0), (8, .own 64 0), (9, I z0.2.2.2.2), (10, .own 80 0), (124, I (lenL y46.2.2.2.2.2.1)), (125, I z2.2.2.2.2.2)] [(40, RR 3 1 I z2.1 0 false), (48, RR 3 1 I z2.2.1 0 false), (56, RR 64 4 a63 z2.2.2.1 0 false), (64, RR 64 4 a63 z2.2.2.2.1 0 false), (80, RR 64 4 a63 z2.2.2.2.2.1 0 false)] 149)) (fun (x : (Int × Bool × (List Int) × (List Int) × (List S63) × (List S63) × (List S63))) => (.exit 4, (mkE [(1, .fn 219 [.ia [LL a63 p1_c0] 0, .ia [LL a63 p1_c1] 0]), (5, .own 40 0), (6, .own 48 0), (7, .own 56 0), (8, .own 64 0), (9, I z0.2.2.2.2), (10, .own 80 0), (124, I (lenL y46.2.2.2.2.2.1)), (125, I x.1), (126, B x.2.1)] [(40, RR 3 1 I x.2.2.1 0 false), (48, RR 3 1 I x.2.2.2.1 0 false), (56, RR 64 4 a63 x.2.2.2.2.1 0 false), (64, RR 64 4 a63 x.2.2.2.2.2.1 0 false), (80, RR 64 4 a63 x.2.2.2.2.2.2 0 false)] 149))) (y46.2.2.1, y46.2.2.2.1, y46.2.2.2.2.1, y46.2.2.2.2.2.1, y46.2.2.2.2.2.2, 0) (fun z => L215_1_19_ok C p1_c0 p1_c1 z0 y46 z) ?_
        intro y54
        refine pH ?_
        refine pN ?_
        refine pS ?_
        refine gX 1 ?_
        refine pF ?_
        refine pO ?_
        refine pH ?_
        refine pN ?_
        refine pS ?_
        refine gR 6 (rg Try.f215 6) ?_
        refine se (mkE [(1, .fn 219 [.ia [LL a63 p1_c0] 0, .ia [LL a63 p1_c1] 0]), (5, .own 40 0), (6, .own 48 0), (7, .own 56 0), (8, .own 64 0), (9, I (addI .i64 z0.2.2.2.2 1))] [(40, RR 3 1 I y54.2.2.1 0 false), (48, RR 3 1 I y54.2.2.2.1 0 false), (56, RR 64 4 a63 y54.2.2.2.2.1 0 false), (64, RR 64 4 a63 y54.2.2.2.2.2.1 0 false), (80, RR 64 4 a63 y54.2.2.2.2.2.2 0 false)] 149) ?_
        exact pL
      · refine gK ?_
        refine pN ?_
        refine pS ?_
        refine gR 23 (rg Try.f215 23) ?_
        refine sg 2 (mkE [(143, .own 64 0), (142, .own 56 0), (1, .fn 219 [.ia [LL a63 p1_c0] 0, .ia [LL a63 p1_c1] 0]), (5, .own 40 0), (6, .own 48 0), (7, .own 56 0), (8, .own 64 0), (9, I z0.2.2.2.2), (10, .own 80 0), (122, B (ltI 0 (lenL y46.2.2.2.2.2.2)))] [(40, RR 3 1 I y46.2.2.1 0 false), (48, RR 3 1 I y46.2.2.2.1 0 false), (56, RR 64 4 a63 y46.2.2.2.2.1 0 false), (64, RR 64 4 a63 y46.2.2.2.2.2.1 0 false), (80, RR 64 4 a63 y46.2.2.2.2.2.2 0 false)] 149) ?_
        refine mo (some 144) (apO 65 64 4 32 56 a63 0 [64] (y := .own 64 0) (l2 := y46.2.2.2.2.2.1)) (fun x55 => ?_)
        refine se (mkE [(1, .fn 219 [.ia [LL a63 p1_c0] 0, .ia [LL a63 p1_c1] 0]), (5, .own 40 0), (6, .own 48 0), (7, .own 56 1), (8, .own 80 0), (9, I z0.2.2.2.2)] [(40, RR 3 1 I y46.2.2.1 0 false), (48, RR 3 1 I y46.2.2.2.1 0 false), (56, RR 64 4 a63 x55 1 false), (80, RR 64 4 a63 y46.2.2.2.2.2.2 0 false)] 149) ?_
        refine pB ?_
        refine pN ?_
        refine pS ?_
        refine gR 6 (rg Try.f215 6) ?_
        refine se (mkE [(1, .fn 219 [.ia [LL a63 p1_c0] 0, .ia [LL a63 p1_c1] 0]), (5, .own 40 0), (6, .own 48 0), (7, .own 56 1), (8, .own 80 0), (9, I (addI .i64 z0.2.2.2.2 1))] [(40, RR 3 1 I y46.2.2.1 0 false), (48, RR 3 1 I y46.2.2.2.1 0 false), (56, RR 64 4 a63 x55 1 false), (80, RR 64 4 a63 y46.2.2.2.2.2.2 0 false)] 149) ?_
        exact pL
    · refine se (mkE [(1, .fn 219 [.ia [LL a63 p1_c0] 0, .ia [LL a63 p1_c1] 0]), (5, .own 40 0), (6, .own 48 0), (7, .own 56 0), (8, .own 64 0), (9, I z0.2.2.2.2), (10, .own 80 0), (122, B false)] [(40, RR 3 1 I y46.2.2.1 0 false), (48, RR 3 1 I y46.2.2.2.1 0 false), (56, RR 64 4 a63 y46.2.2.2.2.1 0 false), (64, RR 64 4 a63 y46.2.2.2.2.2.1 0 false), (80, RR 64 4 a63 y46.2.2.2.2.2.2 0 false)] 149) ?_
      refine pN ?_
      refine pS ?_
      refine gF (.tmp 122) ?_
      refine gK ?_
      refine pN ?_
      refine pS ?_
      refine gR 23 (rg Try.f215 23) ?_
      refine sg 2 (mkE [(143, .own 64 0), (142, .own 56 0), (1, .fn 219 [.ia [LL a63 p1_c0] 0, .ia [LL a63 p1_c1] 0]), (5, .own 40 0), (6, .own 48 0), (7, .own 56 0), (8, .own 64 0), (9, I z0.2.2.2.2), (10, .own 80 0), (122, B false)] [(40, RR 3 1 I y46.2.2.1 0 false), (48, RR 3 1 I y46.2.2.2.1 0 false), (56, RR 64 4 a63 y46.2.2.2.2.1 0 false), (64, RR 64 4 a63 y46.2.2.2.2.2.1 0 false), (80, RR 64 4 a63 y46.2.2.2.2.2.2 0 false)] 149) ?_
      refine mo (some 144) (apO 65 64 4 32 56 a63 0 [64] (y := .own 64 0) (l2 := y46.2.2.2.2.2.1)) (fun x56 => ?_)
      refine se (mkE [(1, .fn 219 [.ia [LL a63 p1_c0] 0, .ia [LL a63 p1_c1] 0]), (5, .own 40 0), (6, .own 48 0), (7, .own 56 1), (8, .own 80 0), (9, I z0.2.2.2.2)] [(40, RR 3 1 I y46.2.2.1 0 false), (48, RR 3 1 I y46.2.2.2.1 0 false), (56, RR 64 4 a63 x56 1 false), (80, RR 64 4 a63 y46.2.2.2.2.2.2 0 false)] 149) ?_
      refine pB ?_
      refine pN ?_
      refine pS ?_
      refine gR 6 (rg Try.f215 6) ?_
      refine se (mkE [(1, .fn 219 [.ia [LL a63 p1_c0] 0, .ia [LL a63 p1_c1] 0]), (5, .own 40 0), (6, .own 48 0), (7, .own 56 1), (8, .own 80 0), (9, I (addI .i64 z0.2.2.2.2 1))] [(40, RR 3 1 I y46.2.2.1 0 false), (48, RR 3 1 I y46.2.2.2.1 0 false), (56, RR 64 4 a63 x56 1 false), (80, RR 64 4 a63 y46.2.2.2.2.2.2 0 false)] 149) ?_
      exact pL
  · refine gX 0 ?_
    exact pL
noncomputable def T215_1 (p0 : (List S63)) (p1_c0 : (List S63)) (p1_c1 : (List S63)) : Option (List S63) := ((T255 p0).bind fun x1 => ((T255_1 p0).bind fun x2 => ((iter (L215_1_5 p1_c0 p1_c1) (x1, x2, [], [], 0)).bind fun y57 => ((appO 32 y57.2.2.2.2.1 y57.2.2.2.2.2).bind fun x58 => (some x58)))))
theorem B215_1 (C : Callee) (h219 : ∀ (p0 : Int) (p1 : Int) (p2_c0 : (List S63)) (p3_c0 : (List S63)), C 219 [I p0, I p1, .ia [LL a63 p2_c0] 0, .ia [LL a63 p3_c0] 0] = (T219 p0 p1 p2_c0 p3_c0).map B) (h255 : ∀ (p0 : (List S63)), C 255 [LL a63 p0, .fn 256 []] = (T255 p0).map (fun l => AV.fr 3 1 (List.map I l))) (h255_1 : ∀ (p0 : (List S63)), C 255 [LL a63 p0, .fn 257 []] = (T255_1 p0).map (fun l => AV.fr 3 1 (List.map I l))) (h258 : ∀ (p0 : (List S63)) (p1 : (List S63)), C 258 [LL a63 p0, LL a63 p1, .fn 259 []] = (T258 p0 p1).map B) (p0 : (List S63)) (p1_c0 : (List S63)) (p1_c1 : (List S63)) : runs Try.prog C (cfg.fn 215) (finFn Try.prog (cfg.fn 215).byval Try.f215) [] (execA Try.prog C (cfg.fn 215) (nr Try.f215 []) (frame0 [LL a63 p0, .fn 219 [.ia [LL a63 p1_c0] 0, .ia [LL a63 p1_c1] 0]] 149 false)) = (T215_1 p0 p1_c0 p1_c1).map (fun l => AV.fr 64 4 (List.map a63 l)) := by
  unfold T215_1
  refine gS 1 ?_
  refine gR 0 (rg Try.f215 0) ?_
  refine se (mkE [(0, LL a63 p0), (1, .fn 219 [.ia [LL a63 p1_c0] 0, .ia [LL a63 p1_c1] 0])] [] 149) ?_
  refine pN ?_
  refine pS ?_
  refine gS 2 ?_
  refine gR 1 (rg Try.f215 1) ?_
  refine sg 1 (mkE [(15, LL a63 p0), (0, LL a63 p0), (1, .fn 219 [.ia [LL a63 p1_c0] 0, .ia [LL a63 p1_c1] 0])] [] 149) ?_
  refine co 16 [] (h255 p0) (fun x1 => ?_)
  refine se (mkE [(0, LL a63 p0), (1, .fn 219 [.ia [LL a63 p1_c0] 0, .ia [LL a63 p1_c1] 0]), (5, .own 128 0)] [(128, RR 3 1 I x1 0 false)] 149) ?_
  refine pN ?_
  refine pS ?_
  refine gS 3 ?_
  refine gR 2 (rg Try.f215 2) ?_
  refine sg 1 (mkE [(17, LL a63 p0), (0, LL a63 p0), (1, .fn 219 [.ia [LL a63 p1_c0] 0, .ia [LL a63 p1_c1] 0]), (5, .own 128 0)] [(128, RR 3 1 I x1 0 false)] 149) ?_
  refine co 18 [] (h255_1 p0) (fun x2 => ?_)
  refine se (mkE [(1, .fn 219 [.ia [LL a63 p1_c0] 0, .ia [LL a63 p1_c1] 0]), (5, .own 128 0), (6, .own 144 0)] [(128, RR 3 1 I x1 0 false), (144, RR 3 1 I x2 0 false)] 149) ?_
  refine pN ?_
  refine pS ?_
  refine gS 4 ?_
  refine gR 3 (rg Try.f215 3) ?_
  refine se (mkE [(1, .fn 219 [.ia [LL a63 p1_c0] 0, .ia [LL a63 p1_c1] 0]), (5, .own 128 0), (6, .own 144 0), (7, .nils), (8, .nils)] [(128, RR 3 1 I x1 0 false), (144, RR 3 1 I x2 0 false)] 149) ?_
  refine pN ?_
  refine pS ?_
  refine gS 24 ?_
  refine gS 5 ?_
  refine gR 4 (rg Try.f215 4) ?_
  refine se (mkE [(1, .fn 219 [.ia [LL a63 p1_c0] 0, .ia [LL a63 p1_c1] 0]), (5, .own 128 0), (6, .own 144 0), (7, .nils), (8, .nils), (9, I 0)] [(128, RR 3 1 I x1 0 false), (144, RR 3 1 I x2 0 false)] 149) ?_
  refine pN ?_
  refine pS ?_
  refine gB 0 ?_
  refine lo [(1, none), (5, some (3, 1)), (6, some (3, 1)), (7, some (64, 4)), (8, some (64, 4)), (9, none)] [] (L215_1_5 p1_c0 p1_c1) (fun z0 : ((List Int) × (List Int) × (List S63) × (List S63) × Int) => (mkE [(1, .fn 219 [.ia [LL a63 p1_c0] 0, .ia [LL a63 p1_c1] 0]), (5, .own 40 0), (6, .own 48 0), (7, .own 56 0), (8, .own 64 0), (9, I z0.2.2.2.2)] [(40, RR 3 1 I z0.1 0 false), (48, RR 3 1 I z0.2.1 0 false), (56, RR 64 4 a63 z0.2.2.1 0 false), (64, RR 64 4 a63 z0.2.2.2.1 0 false)] 149)) (fun (x : (Int × Bool × (List Int) × (List Int) × (List S63) × (List S63))) => (.exit 0, (mkE [(1, .fn 219 [.ia [LL a63 p1_c0] 0, .ia [LL a63 p1_c1] 0]), (5, .own 40 0), (6, .own 48 0), (7, .own 56 0), (8, .own 64 0), (9, I x.1), (23, B x.2.1)] [(40, RR 3 1 I x.2.2.1 0 false), (48, RR 3 1 I x.2.2.2.1 0 false), (56, RR 64 4 a63 x.2.2.2.2.1 0 false), (64, RR 64 4 a63 x.2.2.2.2.2 0 false)] 149))) (x1, x2, [], [], 0) (fun z => L215_1_5_ok C h219 h258 p1_c0 p1_c1 z) ?_
  intro y57
  refine pH ?_
  refine pN ?_
  refine pS ?_
  refine gS 0 ?_
  refine gR 24 (rg Try.f215 24) ?_
  refine sg 2 (mkE [(147, .own 64 0), (146, .own 56 0), (1, .fn 219 [.ia [LL a63 p1_c0] 0, .ia [LL a63 p1_c1] 0]), (5, .own 40 0), (6, .own 48 0), (7, .own 56 0), (8, .own 64 0), (9, I y57.1), (23, B y57.2.1)] [(40, RR 3 1 I y57.2.2.1 0 false), (48, RR 3 1 I y57.2.2.2.1 0 false), (56, RR 64 4 a63 y57.2.2.2.2.1 0 false), (64, RR 64 4 a63 y57.2.2.2.2.2 0 false)] 149) ?_
  refine mo (some 148) (apO 65 64 4 32 56 a63 0 [64] (y := .own 64 0) (l2 := y57.2.2.2.2.2)) (fun x58 => ?_)
  refine se (mkE [(4, .own 56 1)] [(56, RR 64 4 a63 x58 1 false)] 149) ?_
  refine pN ?_
  refine pS ?_
  refine gE ?_
  exact pL
theorem F215_1 (m : Nat) (hm : 8 ≤ m) (p0 : (List S63)) (p1_c0 : (List S63)) (p1_c1 : (List S63)) : callA Try.prog cfg m 215 [LL a63 p0, .fn 219 [.ia [LL a63 p1_c0] 0, .ia [LL a63 p1_c1] 0]] = (T215_1 p0 p1_c0 p1_c1).map (fun l => AV.fr 64 4 (List.map a63 l)) := by
  obtain ⟨q, rfl⟩ : ∃ q, m = q + 1 := ⟨m - 1, by omega⟩
  exact (callA_body (fn := Try.f215) (c := body_ Try.f215) q _ (by kernel_rfl) (by kernel_rfl) (by kernel_rfl)).trans (B215_1 _ (fun p0 p1 p2_c0 p3_c0 => F219 q (by omega) p0 p1 p2_c0 p3_c0) (fun p0 => F255 q (by omega) p0) (fun p0 => F255_1 q (by omega) p0) (fun p0 p1 => F258 q (by omega) p0 p1) p0 p1_c0 p1_c1)

noncomputable def T124 (p0 : (List S63)) (p1 : (List S63)) : Option (List S63) := ((T218 ([p0, p1] : List (List S63))).bind fun x1 => ((T215_1 x1 p0 p1).bind fun x2 => (some x2)))
theorem B124 (C : Callee) (h215_1 : ∀ (p0 : (List S63)) (p1_c0 : (List S63)) (p1_c1 : (List S63)), C 215 [LL a63 p0, .fn 219 [.ia [LL a63 p1_c0] 0, .ia [LL a63 p1_c1] 0]] = (T215_1 p0 p1_c0 p1_c1).map (fun l => AV.fr 64 4 (List.map a63 l))) (h218 : ∀ (p0 : (List (List S63))), C 218 [LL (LL a63) p0] = (T218 p0).map (fun l => AV.fr 64 4 (List.map a63 l))) (p0 : (List S63)) (p1 : (List S63)) : runs Try.prog C (cfg.fn 124) (finFn Try.prog (cfg.fn 124).byval Try.f124) [] (execA Try.prog C (cfg.fn 124) (nr Try.f124 []) (frame0 [LL a63 p0, LL a63 p1] 11 false)) = (T124 p0 p1).map (fun l => AV.fr 64 4 (List.map a63 l)) := by
  unfold T124
  refine gS 1 ?_
  refine gR 0 (rg Try.f124 0) ?_
  refine se (mkE [(2, .ba 16 0), (3, .ba 24 0)] [(16, .box [LL a63 p0] false), (24, .box [LL a63 p1] false)] 11) ?_
  refine pN ?_
  refine pS ?_
  refine gS 0 ?_
  refine gR 1 (rg Try.f124 1) ?_
  refine sg 3 (mkE [(7, .own 56 0), (6, LL a63 p1), (5, LL a63 p0), (2, .ba 16 0), (3, .ba 24 0)] [(56, RR 65 1 (LL a63) ([p0, p1] : List (List S63)) 0 false), (16, .box [LL a63 p0] false), (24, .box [LL a63 p1] false)] 11) ?_
  refine co 8 [56] (h218 ([p0, p1] : List (List S63))) (fun x1 => ?_)
  refine sg 5 (mkE [(9, .fn 219 [.ba 16 0, .ba 24 0]), (8, .own 64 0), (7, .own 56 0), (6, LL a63 p1), (5, LL a63 p0), (2, .ba 16 0), (3, .ba 24 0)] [(64, RR 64 4 a63 x1 0 false), (56, RR 65 1 (LL a63) ([p0, p1] : List (List S63)) 0 true), (56, RR 65 1 (LL a63) ([p0, p1] : List (List S63)) 0 false), (16, .box [LL a63 p0] false), (24, .box [LL a63 p1] false)] 11) ?_
  refine co 10 [64, 16, 24] (h215_1 x1 p0 p1) (fun x2 => ?_)
  refine se (mkE [(4, .own 80 0)] [(80, RR 64 4 a63 x2 0 false)] 11) ?_
  refine pN ?_
  refine pS ?_
  refine gE ?_
  exact pL
theorem F124 (m : Nat) (hm : 9 ≤ m) (p0 : (List S63)) (p1 : (List S63)) : callA Try.prog cfg m 124 [LL a63 p0, LL a63 p1] = (T124 p0 p1).map (fun l => AV.fr 64 4 (List.map a63 l)) := by
  obtain ⟨q, rfl⟩ : ∃ q, m = q + 1 := ⟨m - 1, by omega⟩
  exact (callA_body (fn := Try.f124) (c := body_ Try.f124) q _ (by kernel_rfl) (by kernel_rfl) (by kernel_rfl)).trans (B124 _ (fun p0 p1_c0 p1_c1 => F215_1 q (by omega) p0 p1_c0 p1_c1) (fun p0 => F218 q (by omega) p0) p0 p1)

noncomputable def L36_4 (p0 : (List S63)) (p1 : (List S63)) (z0 : Int) : Option (Int ⊕ ((Int × Bool) ⊕ Unit)) := (bif (ltI z0 (lenL p0)) then ((listAt p0 z0).bind fun x1 => ((listAt p1 z0).bind fun x2 => (bif (!allB [eqI x1.f0 x2.f0, eqI x1.f1 x2.f1, eqI x1.f2 x2.f2, eqI x1.f3 x2.f3]) then (some (.inr (.inr ()))) else (some (.inl (addI .i64 z0 1)))))) else (some (.inr (.inl (z0, (ltI z0 (lenL p0)))))))
theorem L36_4_ok (C : Callee) (p0 : (List S63)) (p1 : (List S63)) (z0 : Int) : runs Try.prog C (cfg.fn 36) (finLoop ((cfg.fn 36).keep 4) ((cfg.fn 36).al 4)) [] (execA Try.prog C (cfg.fn 36) (nr Try.f36 [false, false, true, false, true, true]) ((fun z0 : Int => (mkE [(0, LL a63 p0), (1, LL a63 p1), (12, I (lenL p0)), (13, I z0)] [] 26)) z0)) = (L36_4 p0 p1 z0).map (Sum.elim (fun z => .inl ((fun z0 : Int => (mkE [(0, LL a63 p0), (1, LL a63 p1), (12, I (lenL p0)), (13, I z0)] [] 26)) z)) (fun x => .inr ((Sum.elim (fun (x : (Int × Bool)) => (.exit 0, (mkE [(0, LL a63 p0), (1, LL a63 p1), (12, I (lenL p0)), (13, I x.1), (14, B x.2)] [] 26))) (fun (x : Unit) => (.ret, (mkE [(4, B false)] [] 26)))) x))) := by
  unfold L36_4
  refine gS 0 ?_
  refine gR 4 (rg Try.f36 4) ?_
  refine se (mkE [(0, LL a63 p0), (1, LL a63 p1), (12, I (lenL p0)), (13, I z0), (14, B (ltI z0 (lenL p0)))] [] 26) ?_
  refine pN ?_
  refine pS ?_
  refine gS 5 ?_
  refine gC 14 (ltI z0 (lenL p0)) ?_ ?_
  · refine gK ?_
    refine pN ?_
    refine pS ?_
    refine gS 8 ?_
    refine gB 1 ?_
    refine gS 6 ?_
    refine gR 5 (rg Try.f36 5) ?_
    refine se (mkE [(0, LL a63 p0), (1, LL a63 p1), (5, I z0), (12, I (lenL p0)), (13, I z0)] [] 26) ?_
    refine pN ?_
    refine pS ?_
    refine gS 0 ?_
    refine gD 6 9 (rg Try.f36 6) [0, 1, 2, 3, 4, 5, 6, 7, 8] ?_
    refine dg 2 [(some 16, qe (LL a63 p0)), (some 17, qe (I z0))] ?_
    refine dv 18 (mkE [(17, I z0), (16, LL a63 p0), (0, LL a63 p0), (1, LL a63 p1), (5, I z0), (12, I (lenL p0)), (13, I z0)] [] 26) (addrE 65 64 4 a63 .i64 p0 z0) (fun x1 => ?_)
    refine dg 6 [(some 16, qe (LL a63 p0)), (some 17, qe (I z0)), (some 18, qe (.ia [I x1.f0, I x1.f1, I x1.f2, I x1.f3] 0)), (some 19, qe (a63 x1)), (some 20, qe (LL a63 p1)), (some 21, qe (I z0))] ?_
    refine dv 22 (mkE [(21, I z0), (20, LL a63 p1), (0, LL a63 p0), (1, LL a63 p1), (5, I z0), (12, I (lenL p0)), (13, I z0)] [] 26) (addrE 65 64 4 a63 .i64 p1 z0) (fun x2 => ?_)
    refine dg 8 [(some 16, qe (LL a63 p0)), (some 17, qe (I z0)), (some 18, qe (.ia [I x1.f0, I x1.f1, I x1.f2, I x1.f3] 0)), (some 19, qe (a63 x1)), (some 20, qe (LL a63 p1)), (some 21, qe (I z0)), (some 22, qe (.ia [I x2.f0, I x2.f1, I x2.f2, I x2.f3] 0)), (some 23, qe (a63 x2))] ?_
    refine df 24 (B (!allB [eqI x1.f0 x2.f0, eqI x1.f1 x2.f1, eqI x1.f2 x2.f2, eqI x1.f3 x2.f3])) (mkE [(23, a63 x2), (22, .ia [I x2.f0, I x2.f1, I x2.f2, I x2.f3] 0), (21, I z0), (20, LL a63 p1), (19, a63 x1), (18, .ia [I x1.f0, I x1.f1, I x1.f2, I x1.f3] 0), (17, I z0), (16, LL a63 p0), (0, LL a63 p0), (1, LL a63 p1), (5, I z0), (12, I (lenL p0)), (13, I z0)] [] 26) (neqE 64 (.tmp 19) (.tmp 23) [I x1.f0, I x1.f1, I x1.f2, I x1.f3] [I x2.f0, I x2.f1, I x2.f2, I x2.f3] [.int .i64 x1.f0, .int .i64 x1.f1, .int .i64 x1.f2, .int .i64 x1.f3] [.int .i64 x2.f0, .int .i64 x2.f1, .int .i64 x2.f2, .int .i64 x2.f3] [eqI x1.f0 x2.f0, eqI x1.f1 x2.f1, eqI x1.f2 x2.f2, eqI x1.f3 x2.f3]) ?_
    refine de (mkE [(24, B (!allB [eqI x1.f0 x2.f0, eqI x1.f1 x2.f1, eqI x1.f2 x2.f2, eqI x1.f3 x2.f3])), (23, a63 x2), (22, .ia [I x2.f0, I x2.f1, I x2.f2, I x2.f3] 0), (21, I z0), (20, LL a63 p1), (19, a63 x1), (18, .ia [I x1.f0, I x1.f1, I x1.f2, I x1.f3] 0), (17, I z0), (16, LL a63 p0), (0, LL a63 p0), (1, LL a63 p1), (5, I z0), (12, I (lenL p0)), (13, I z0)] [] 26) ?_
    refine se (mkE [(0, LL a63 p0), (1, LL a63 p1), (12, I (lenL p0)), (13, I z0), (24, B (!allB [eqI x1.f0 x2.f0, eqI x1.f1 x2.f1, eqI x1.f2 x2.f2, eqI x1.f3 x2.f3]))] [] 26) ?_
    refine pN ?_
    refine pS ?_
    refine gC 24 (!allB [eqI x1.f0 x2.f0, eqI x1.f1 x2.f1, eqI x1.f2 x2.f2, eqI x1.f3 x2.f3]) ?_ ?_
    · refine gS 0 ?_
      refine gR 7 (rg Try.f36 7) ?_
      refine se (mkE [(4, B false)] [] 26) ?_
      refine pN ?_
      refine pS ?_
      refine gE ?_
      exact pL
    · refine gK ?_
      refine pB ?_
      refine pN ?_
      refine pS ?_
      refine gR 8 (rg Try.f36 8) ?_
      refine se (mkE [(0, LL a63 p0), (1, LL a63 p1), (12, I (lenL p0)), (13, I (addI .i64 z0 1))] [] 26) ?_
      exact pL
  · refine gX 0 ?_
    exact pL
noncomputable def T36 (p0 : (List S63)) (p1 : (List S63)) : Option Bool := (bif (neI (lenL p0) (lenL p1)) then (some false) else ((iter (L36_4 p0 p1) 0).bind fun y3 => (Sum.elim (fun y3a => (some true)) (fun y3b => (some false)) y3)))
theorem B36 (C : Callee) (p0 : (List S63)) (p1 : (List S63)) : runs Try.prog C (cfg.fn 36) (finFn Try.prog (cfg.fn 36).byval Try.f36) [] (execA Try.prog C (cfg.fn 36) (nr Try.f36 []) (frame0 [LL a63 p0, LL a63 p1] 26 false)) = (T36 p0 p1).map B := by
  unfold T36
  refine gS 1 ?_
  refine gR 0 (rg Try.f36 0) ?_
  refine se (mkE [(0, LL a63 p0), (1, LL a63 p1)] [] 26) ?_
  refine pN ?_
  refine pS ?_
  refine gS 3 ?_
  refine gS 0 ?_
  refine gR 1 (rg Try.f36 1) ?_
  refine sg 1 (mkE [(6, LL a63 p0), (0, LL a63 p0), (1, LL a63 p1)] [] 26) ?_
  refine eo 7 (I (lenL p0)) (lenE 65 a63 p0) ?_
  refine sg 3 (mkE [(8, LL a63 p1), (7, I (lenL p0)), (6, LL a63 p0), (0, LL a63 p0), (1, LL a63 p1)] [] 26) ?_
  refine eo 9 (I (lenL p1)) (lenE 65 a63 p1) ?_
  refine se (mkE [(0, LL a63 p0), (1, LL a63 p1), (10, B (neI (lenL p0) (lenL p1)))] [] 26) ?_
  refine pN ?_
  refine pS ?_
  refine gC 10 (neI (lenL p0) (lenL p1)) ?_ ?_
  · refine gS 0 ?_
    refine gR 2 (rg Try.f36 2) ?_
    refine se (mkE [(4, B false)] [] 26) ?_
    refine pN ?_
    refine pS ?_
    refine gE ?_
    exact pL
  · refine gK ?_
    refine pN ?_
    refine pS ?_
    refine gS 9 ?_
    refine gS 4 ?_
    refine gR 3 (rg Try.f36 3) ?_
    refine sg 1 (mkE [(11, LL a63 p0), (0, LL a63 p0), (1, LL a63 p1), (10, B (neI (lenL p0) (lenL p1)))] [] 26) ?_
    refine eo 12 (I (lenL p0)) (lenE 65 a63 p0) ?_
    refine se (mkE [(0, LL a63 p0), (1, LL a63 p1), (12, I (lenL p0)), (13, I 0)] [] 26) ?_
    refine pN ?_
    refine pS ?_
    refine gB 0 ?_
    refine lo [(0, none), (1, none), (12, none), (13, none)] [] (L36_4 p0 p1) (fun z0 : Int => (mkE [(0, LL a63 p0), (1, LL a63 p1), (12, I (lenL p0)), (13, I z0)] [] 26)) (Sum.elim (fun (x : (Int × Bool)) => (.exit 0, (mkE [(0, LL a63 p0), (1, LL a63 p1), (12, I (lenL p0)), (13, I x.1), (14, B x.2)] [] 26))) (fun (x : Unit) => (.ret, (mkE [(4, B false)] [] 26)))) 0 (fun z => L36_4_ok C p0 p1 z) ?_
    intro y3
    refine ss y3 (Z := (Sum.elim (fun (x : (Int × Bool)) => (.exit 0, (mkE [(0, LL a63 p0), (1, LL a63 p1), (12, I (lenL p0)), (13, I x.1), (14, B x.2)] [] 26))) (fun (x : Unit) => (.ret, (mkE [(4, B false)] [] 26))))) (fun y3a => ?_) (fun y3b => ?_)
    · refine pH ?_
      refine pN ?_
      refine pS ?_
      refine gS 0 ?_
      refine gR 9 (rg Try.f36 9) ?_
      refine se (mkE [(4, B true)] [] 26) ?_
      refine pN ?_
      refine pS ?_
      refine gE ?_
      exact pL
    · exact pL
theorem F36 (m : Nat) (hm : 1 ≤ m) (p0 : (List S63)) (p1 : (List S63)) : callA Try.prog cfg m 36 [LL a63 p0, LL a63 p1] = (T36 p0 p1).map B := by
  obtain ⟨q, rfl⟩ : ∃ q, m = q + 1 := ⟨m - 1, by omega⟩
  exact (callA_body (fn := Try.f36) (c := body_ Try.f36) q _ (by kernel_rfl) (by kernel_rfl) (by kernel_rfl)).trans (B36 _ p0 p1)

noncomputable def T43 : Option Bool := ((T116 ([(S63.mk 0 0 2 2), (S63.mk 1 1 2 2)] : List S63)).bind fun x1 => (bif (eqI x1.2 0) then (some (eqI x1.1 7)) else (some false)))
theorem B43 (C : Callee) (h116 : ∀ (p0 : (List S63)), C 116 [LL a63 p0] = (T116 p0).map (fun r => AV.tup [I r.1, I r.2])) : runs Try.prog C (cfg.fn 43) (finFn Try.prog (cfg.fn 43).byval Try.f43) [] (execA Try.prog C (cfg.fn 43) (nr Try.f43 []) (frame0 [] 16 false)) = (T43).map B := by
  unfold T43
  refine gS 1 ?_
  refine gR 0 (rg Try.f43 0) ?_
  refine se (mkE [] [] 16) ?_
  refine pN ?_
  refine pS ?_
  refine gS 2 ?_
  refine gR 1 (rg Try.f43 1) ?_
  refine sg 3 (mkE [(6, .own 48 0), (5, .agg [I 1, I 1, I 2, I 2]), (4, .agg [I 0, I 0, I 2, I 2])] [(48, RR 64 4 a63 ([(S63.mk 0 0 2 2), (S63.mk 1 1 2 2)] : List S63) 0 false)] 16) ?_
  refine co 7 [48] (h116 ([(S63.mk 0 0 2 2), (S63.mk 1 1 2 2)] : List S63)) (fun x1 => ?_)
  refine se (mkE [(1, I x1.1), (2, I x1.2)] [] 16) ?_
  refine pN ?_
  refine pS ?_
  refine gS 0 ?_
  refine gR 2 (rg Try.f43 2) ?_
  refine sg 3 (mkE [(12, B (eqI x1.2 0)), (11, B (eqI x1.2 0)), (10, I x1.2), (1, I x1.1), (2, I x1.2)] [] 16) ?_
  refine sb 12 (eqI x1.2 0) ?_ ?_
  · refine se (mkE [(0, B (eqI x1.1 7))] [] 16) ?_
    refine pN ?_
    refine pS ?_
    refine gE ?_
    exact pL
  · refine se (mkE [(0, B false)] [] 16) ?_
    refine pN ?_
    refine pS ?_
    refine gE ?_
    exact pL
theorem F43 (m : Nat) (hm : 6 ≤ m) : callA Try.prog cfg m 43 [] = (T43).map B := by
  obtain ⟨q, rfl⟩ : ∃ q, m = q + 1 := ⟨m - 1, by omega⟩
  exact (callA_body (fn := Try.f43) (c := body_ Try.f43) q _ (by kernel_rfl) (by kernel_rfl) (by kernel_rfl)).trans (B43 _ (fun p0 => F116 q (by omega) p0))

end Go.Abs.TR
