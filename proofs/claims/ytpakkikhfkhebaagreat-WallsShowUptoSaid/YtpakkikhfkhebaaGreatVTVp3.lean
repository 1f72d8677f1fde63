import Derived.Test.YtpakkikhfkhebaaGreatVTVp2
set_option maxRecDepth 100000
set_option linter.unusedVariables false
namespace Go.Abs.TV
open Go.RowKit Go.Proofs Go.Abs
noncomputable def L60_9 (p1_c0 : ByteArray) (p1_c1 : Int) (p1_c2 : Int) (p1_c3 : (List S64)) (p1_c4 : ByteArray) (p1_c5 : Int) (p1_c6 : Int) (p1_c7 : Int) (p1_c8 : Int) (p1_c9 : Int) (z0 : ((List Int) × (List Int) × (List S25) × (List S25) × Int)) (z1 : ((List Int) × (List Int) × (List S25) × (List S25) × (List S25) × Int)) : Option (((List Int) × (List Int) × (List S25) × (List S25) × (List S25) × Int) ⊕ (Int × Bool × (List Int) × (List Int) × (List S25) × (List S25) × (List S25))) := (bif (ltI (addI .i64 z1.2.2.2.2.2 1) (lenL z1.1)) then ((idxO (List.length z1.1) z1.2.2.2.2.2).bind fun x3 => ((getN z1.1 x3).bind fun x4 => ((idxO (List.length z1.2.1) z0.2.2.2.2).bind fun x5 => ((getN z1.2.1 x5).bind fun x6 => ((T61 x4 x6 p1_c0 p1_c1 p1_c2 p1_c3 p1_c4 p1_c5 p1_c6 p1_c7 p1_c8 p1_c9).bind fun x7 => (bif (!x7) then (some (.inl (z1.1, z1.2.1, z1.2.2.1, z1.2.2.2.1, z1.2.2.2.2.1, (addI .i64 z1.2.2.2.2.2 1)))) else (bif (leI 0 (subI .i64 (lenL z1.2.2.2.2.1) 1)) then ((idxO (List.length z1.2.2.2.2.1) (subI .i64 (lenL z1.2.2.2.2.1) 1)).bind fun x8 => ((getN z1.2.2.2.2.1 x8).bind fun x9 => ((idxO (List.length z1.2.2.2.2.1) (subI .i64 (lenL z1.2.2.2.2.1) 1)).bind fun x10 => ((getN z1.2.2.2.2.1 x10).bind fun x11 => ((idxO (List.length z1.1) z1.2.2.2.2.2).bind fun x12 => ((getN z1.1 x12).bind fun x13 => (bif (eqI (addI .i64 x9.f0 x11.f2) x13) then ((idxO (List.length z1.1) (addI .i64 z1.2.2.2.2.2 1)).bind fun x14 => ((getN z1.1 x14).bind fun x15 => ((idxO (List.length z1.2.2.2.2.1) (subI .i64 (lenL z1.2.2.2.2.1) 1)).bind fun x16 => ((getN z1.2.2.2.2.1 x16).bind fun x17 => ((idxO (List.length z1.2.2.2.2.1) (subI .i64 (lenL z1.2.2.2.2.1) 1)).bind fun x18 => ((getN z1.2.2.2.2.1 x18).bind fun x19 => (some (.inl (z1.1, z1.2.1, z1.2.2.1, z1.2.2.2.1, (List.set z1.2.2.2.2.1 x18 (S25.mk x19.f0 x19.f1 (subI .i64 x15 x17.f0) x19.f3)), (addI .i64 z1.2.2.2.2.2 1)))))))))) else ((idxO (List.length z1.1) z1.2.2.2.2.2).bind fun x20 => ((getN z1.1 x20).bind fun x21 => ((idxO (List.length z1.2.1) z0.2.2.2.2).bind fun x22 => ((getN z1.2.1 x22).bind fun x23 => ((idxO (List.length z1.1) (addI .i64 z1.2.2.2.2.2 1)).bind fun x24 => ((getN z1.1 x24).bind fun x25 => ((idxO (List.length z1.1) z1.2.2.2.2.2).bind fun x26 => ((getN z1.1 x26).bind fun x27 => ((idxO (List.length z1.2.1) (addI .i64 z0.2.2.2.2 1)).bind fun x28 => ((getN z1.2.1 x28).bind fun x29 => ((idxO (List.length z1.2.1) z0.2.2.2.2).bind fun x30 => ((getN z1.2.1 x30).bind fun x31 => ((appO 32 z1.2.2.2.2.1 ([(S25.mk x21 x23 (subI .i64 x25 x27) (subI .i64 x29 x31))] : List S25)).bind fun x32 => (some (.inl (z1.1, z1.2.1, z1.2.2.1, z1.2.2.2.1, x32, (addI .i64 z1.2.2.2.2.2 1)))))))))))))))))))))))) else ((idxO (List.length z1.1) z1.2.2.2.2.2).bind fun x33 => ((getN z1.1 x33).bind fun x34 => ((idxO (List.length z1.2.1) z0.2.2.2.2).bind fun x35 => ((getN z1.2.1 x35).bind fun x36 => ((idxO (List.length z1.1) (addI .i64 z1.2.2.2.2.2 1)).bind fun x37 => ((getN z1.1 x37).bind fun x38 => ((idxO (List.length z1.1) z1.2.2.2.2.2).bind fun x39 => ((getN z1.1 x39).bind fun x40 => ((idxO (List.length z1.2.1) (addI .i64 z0.2.2.2.2 1)).bind fun x41 => ((getN z1.2.1 x41).bind fun x42 => ((idxO (List.length z1.2.1) z0.2.2.2.2).bind fun x43 => ((getN z1.2.1 x43).bind fun x44 => ((appO 32 z1.2.2.2.2.1 ([(S25.mk x34 x36 (subI .i64 x38 x40) (subI .i64 x42 x44))] : List S25)).bind fun x45 => (some (.inl (z1.1, z1.2.1, z1.2.2.1, z1.2.2.2.1, x45, (addI .i64 z1.2.2.2.2.2 1)))))))))))))))))))))))) else (some (.inr (z1.2.2.2.2.2, (ltI (addI .i64 z1.2.2.2.2.2 1) (lenL z1.1)), z1.1, z1.2.1, z1.2.2.1, z1.2.2.2.1, z1.2.2.2.2.1))))
theorem L60_9_ok (C : Callee) (h61 : ∀ (p0 : Int) (p1 : Int) (p2_c0 : ByteArray) (p2_c1 : Int) (p2_c2 : Int) (p2_c3 : (List S64)) (p3_c0 : ByteArray) (p3_c1 : Int) (p3_c2 : Int) (p3_c3 : Int) (p3_c4 : Int) (p3_c5 : Int), C 61 [I p0, I p1, .ia [S p2_c0, I p2_c1, I p2_c2, LL a64 p2_c3] 0, .ia [S p3_c0, I p3_c1, I p3_c2, I p3_c3, I p3_c4, I p3_c5] 0] = (T61 p0 p1 p2_c0 p2_c1 p2_c2 p2_c3 p3_c0 p3_c1 p3_c2 p3_c3 p3_c4 p3_c5).map B) (p1_c0 : ByteArray) (p1_c1 : Int) (p1_c2 : Int) (p1_c3 : (List S64)) (p1_c4 : ByteArray) (p1_c5 : Int) (p1_c6 : Int) (p1_c7 : Int) (p1_c8 : Int) (p1_c9 : Int) (z0 : ((List Int) × (List Int) × (List S25) × (List S25) × Int)) (z1 : ((List Int) × (List Int) × (List S25) × (List S25) × (List S25) × Int)) : runs Tryz.prog C (cfg.fn 60) (finLoop ((cfg.fn 60).keep 9) ((cfg.fn 60).al 9)) [] (execA Tryz.prog C (cfg.fn 60) (nr Tryz.f60 [false, false, true, false, true, false, false, true, false, false, true, false, true, true, true, true]) ((fun z1 : ((List Int) × (List Int) × (List S25) × (List S25) × (List S25) × Int) => (mkE [(1, .fn 61 [.ia [S p1_c0, I p1_c1, I p1_c2, LL a64 p1_c3] 0, .ia [S p1_c4, I p1_c5, I p1_c6, I p1_c7, I p1_c8, I p1_c9] 0]), (5, .own 40 0), (6, .own 48 0), (7, .own 56 0), (8, .own 64 0), (9, I z0.2.2.2.2), (10, .own 80 0), (11, I z1.2.2.2.2.2)] [(40, RR 3 1 I z1.1 0 false), (48, RR 3 1 I z1.2.1 0 false), (56, RR 26 4 a25 z1.2.2.1 0 false), (64, RR 26 4 a25 z1.2.2.2.1 0 false), (80, RR 26 4 a25 z1.2.2.2.2.1 0 false)] 149)) z1)) = (L60_9 p1_c0 p1_c1 p1_c2 p1_c3 p1_c4 p1_c5 p1_c6 p1_c7 p1_c8 p1_c9 z0 z1).map (Sum.elim (fun z => .inl ((fun z1 : ((List Int) × (List Int) × (List S25) × (List S25) × (List S25) × Int) => (mkE [(1, .fn 61 [.ia [S p1_c0, I p1_c1, I p1_c2, LL a64 p1_c3] 0, .ia [S p1_c4, I p1_c5, I p1_c6, I p1_c7, I p1_c8, I p1_c9] 0]), (5, .own 40 0), (6, .own 48 0), (7, .own 56 0), (8, .own 64 0), (9, I z0.2.2.2.2), (10, .own 80 0), (11, I z1.2.2.2.2.2)] [(40, RR 3 1 I z1.1 0 false), (48, RR 3 1 I z1.2.1 0 false), (56, RR 26 4 a25 z1.2.2.1 0 false), (64, RR 26 4 a25 z1.2.2.2.1 0 false), (80, RR 26 4 a25 z1.2.2.2.2.1 0 false)] 149)) z)) (fun x => .inr ((fun (x : (Int × Bool × (List Int) × (List Int) × (List S25) × (List S25) × (List S25))) => (.exit 2, (mkE [(1, .fn 61 [.ia [S p1_c0, I p1_c1, I p1_c2, LL a64 p1_c3] 0, .ia [S p1_c4, I p1_c5, I p1_c6, I p1_c7, I p1_c8, I p1_c9] 0]), (5, .own 40 0), (6, .own 48 0), (7, .own 56 0), (8, .own 64 0), (9, I z0.2.2.2.2), (10, .own 80 0), (11, I x.1), (30, B x.2.1)] [(40, RR 3 1 I x.2.2.1 0 false), (48, RR 3 1 I x.2.2.2.1 0 false), (56, RR 26 4 a25 x.2.2.2.2.1 0 false), (64, RR 26 4 a25 x.2.2.2.2.2.1 0 false), (80, RR 26 4 a25 x.2.2.2.2.2.2 0 false)] 149))) x))) := by
  unfold L60_9
  let d_0 : List (Option Nat × REff) := [(some 47, qe (I (subI .i64 (lenL z1.2.2.2.2.1) 1))), (some 48, qe (B (leI 0 (subI .i64 (lenL z1.2.2.2.2.1) 1)))), (some 49, qe (B true)), (some 50, qe (.own 80 0)), (some 51, qe (I (subI .i64 (lenL z1.2.2.2.2.1) 1)))]
  let d_1 : List (Option Nat × REff) := [(some 82, qe (.own 80 0)), (some 83, qe (.own 40 0)), (some 84, qe (I z1.2.2.2.2.2))]
  let d_2 : List (Option Nat × REff) := [(some 91, qe (.own 40 0)), (some 92, qe (I z1.2.2.2.2.2)), (some 93, qe (I (addI .i64 z1.2.2.2.2.2 1)))]
  let d_3 : List (Option Nat × REff) := [(some 67, qe (.own 80 0)), (some 68, qe (I (subI .i64 (lenL z1.2.2.2.2.1) 1))), (some 69, qe (.own 40 0)), (some 70, qe (I z1.2.2.2.2.2)), (some 71, qe (I (addI .i64 z1.2.2.2.2.2 1)))]
  let d_4 : List (Option Nat × REff) := [(some 87, qe (.own 48 0)), (some 88, qe (I z0.2.2.2.2))]
  let d_5 : List (Option Nat × REff) := [(some 101, qe (.own 48 0)), (some 102, qe (I z0.2.2.2.2)), (some 103, qe (I (addI .i64 z0.2.2.2.2 1)))]
  let d_6 : List (Option Nat × REff) := [(some 33, qe (.fn 61 [.ia [S p1_c0, I p1_c1, I p1_c2, LL a64 p1_c3] 0, .ia [S p1_c4, I p1_c5, I p1_c6, I p1_c7, I p1_c8, I p1_c9] 0])), (some 34, qe (.own 40 0)), (some 35, qe (I z1.2.2.2.2.2))]
  let d_7 : List (Option Nat × REff) := [(some 96, qe (.own 40 0)), (some 97, qe (I z1.2.2.2.2.2))]
  let s_0 : List (Nat × AV) := [(1, .fn 61 [.ia [S p1_c0, I p1_c1, I p1_c2, LL a64 p1_c3] 0, .ia [S p1_c4, I p1_c5, I p1_c6, I p1_c7, I p1_c8, I p1_c9] 0]), (5, .own 40 0), (6, .own 48 0), (7, .own 56 0), (8, .own 64 0), (9, I z0.2.2.2.2), (10, .own 80 0), (11, I z1.2.2.2.2.2)]
  let s_1 : List (Nat × AV) := [(12, I (subI .i64 (lenL z1.2.2.2.2.1) 1))]
  let s_2 : List (Nat × AV) := [(1, .fn 61 [.ia [S p1_c0, I p1_c1, I p1_c2, LL a64 p1_c3] 0, .ia [S p1_c4, I p1_c5, I p1_c6, I p1_c7, I p1_c8, I p1_c9] 0]), (5, .own 40 0), (6, .own 48 0), (7, .own 56 0), (8, .own 64 0), (9, I z0.2.2.2.2)]
  let s_3 : List (Nat × AV) := [(48, B (leI 0 (subI .i64 (lenL z1.2.2.2.2.1) 1))), (47, I (subI .i64 (lenL z1.2.2.2.2.1) 1))]
  let s_4 : List (Nat × AV) := [(93, I (addI .i64 z1.2.2.2.2.2 1)), (92, I z1.2.2.2.2.2), (91, .own 40 0)]
  let s_5 : List (Nat × AV) := [(103, I (addI .i64 z0.2.2.2.2 1)), (102, I z0.2.2.2.2), (101, .own 48 0)]
  let s_6 : List (Nat × AV) := [(30, B (ltI (addI .i64 z1.2.2.2.2.2 1) (lenL z1.1)))]
  let s_7 : List (Nat × AV) := [(71, I (addI .i64 z1.2.2.2.2.2 1)), (70, I z1.2.2.2.2.2), (69, .own 40 0)]
  let o_0 : List (Nat × AObj) := [(40, RR 3 1 I z1.1 0 false), (48, RR 3 1 I z1.2.1 0 false), (56, RR 26 4 a25 z1.2.2.1 0 false), (64, RR 26 4 a25 z1.2.2.2.1 0 false), (80, RR 26 4 a25 z1.2.2.2.2.1 0 false)]
  let o_1 : List (Nat × AObj) := [(40, RR 3 1 I z1.1 0 false), (48, RR 3 1 I z1.2.1 0 false), (56, RR 26 4 a25 z1.2.2.1 0 false), (64, RR 26 4 a25 z1.2.2.2.1 0 false)]
  refine gS 11 ?_
  refine gS 0 ?_
  refine gR 9 (rg Tryz.f60 9) ?_
  refine sg 3 (mkE ((28, .own 40 0) :: ((27, I (addI .i64 z1.2.2.2.2.2 1)) :: ((26, I z1.2.2.2.2.2) :: s_0))) o_0 149) ?_
  refine eo 29 (I (lenL z1.1)) (lenOE 102 3 1 I z1.1) ?_
  refine se (mkE (s_0.append s_6) o_0 149) ?_
  refine pN ?_
  refine pS ?_
  refine gC 30 (ltI (addI .i64 z1.2.2.2.2.2 1) (lenL z1.1)) ?_ ?_
  · refine gK ?_
    refine pN ?_
    refine pS ?_
    refine gS 10 ?_
    refine gB 3 ?_
    refine gS 12 ?_
    refine gS 0 ?_
    refine gD 11 11 (rg Tryz.f60 11) [0, 1, 2, 3, 4, 5, 6, 7, 8, 9, 10] ?_
    refine dg 3 d_6 ?_
    refine dv 36 (mkE ((35, I z1.2.2.2.2.2) :: ((34, .own 40 0) :: (s_0.append s_6))) o_0 149) (addrOE 102 3 1 40 0 false I .i64 z1.1 z1.2.2.2.2.2) (fun x3 => ?_)
    refine dv 37 (mkE ((36, .oa 40 0 x3 0) :: ((35, I z1.2.2.2.2.2) :: ((34, .own 40 0) :: (s_0.append s_6)))) o_0 149) (loadOE 3 40 0 x3 0 3 1 1 false false I (fun q : Int => I q) z1.1) (fun x4 => ?_)
    refine dg 7 (d_6.append ((some 36, qe (.oa 40 0 x3 0)) :: ((some 37, qe (I x4)) :: ((some 38, qe (.own 48 0)) :: [(some 39, qe (I z0.2.2.2.2))])))) ?_
    refine dv 40 (mkE ((39, I z0.2.2.2.2) :: ((38, .own 48 0) :: (s_0.append s_6))) o_0 149) (addrOE 102 3 1 48 0 false I .i64 z1.2.1 z0.2.2.2.2) (fun x5 => ?_)
    refine dv 41 (mkE ((40, .oa 48 0 x5 0) :: ((39, I z0.2.2.2.2) :: ((38, .own 48 0) :: (s_0.append s_6)))) o_0 149) (loadOE 3 48 0 x5 0 3 1 1 false false I (fun q : Int => I q) z1.2.1) (fun x6 => ?_)
    refine dc 42 [] (mkE ((41, I x6) :: ((40, .oa 48 0 x5 0) :: ((39, I z0.2.2.2.2) :: ((38, .own 48 0) :: ((37, I x4) :: ((36, .oa 40 0 x3 0) :: ((35, I z1.2.2.2.2.2) :: ((34, .own 40 0) :: ((33, .fn 61 [.ia [S p1_c0, I p1_c1, I p1_c2, LL a64 p1_c3] 0, .ia [S p1_c4, I p1_c5, I p1_c6, I p1_c7, I p1_c8, I p1_c9] 0]) :: (s_0.append s_6)))))))))) o_0 149) (h61 x4 x6 p1_c0 p1_c1 p1_c2 p1_c3 p1_c4 p1_c5 p1_c6 p1_c7 p1_c8 p1_c9) (fun x7 => ?_)
    refine dg 11 (d_6.append ((some 36, qe (.oa 40 0 x3 0)) :: ((some 37, qe (I x4)) :: ((some 38, qe (.own 48 0)) :: ((some 39, qe (I z0.2.2.2.2)) :: ((some 40, qe (.oa 48 0 x5 0)) :: ((some 41, qe (I x6)) :: ((some 42, qe (B x7)) :: [(some 43, qe (B (!x7)))])))))))) ?_
    refine de (mkE ((43, B (!x7)) :: ((42, B x7) :: ((41, I x6) :: ((40, .oa 48 0 x5 0) :: ((39, I z0.2.2.2.2) :: ((38, .own 48 0) :: ((37, I x4) :: ((36, .oa 40 0 x3 0) :: ((35, I z1.2.2.2.2.2) :: ((34, .own 40 0) :: ((33, .fn 61 [.ia [S p1_c0, I p1_c1, I p1_c2, LL a64 p1_c3] 0, .ia [S p1_c4, I p1_c5, I p1_c6, I p1_c7, I p1_c8, I p1_c9] 0]) :: (s_0.append s_6)))))))))))) o_0 149) ?_
    refine se (mkE (s_0.append [(43, B (!x7))]) o_0 149) ?_
    refine pN ?_
    refine pS ?_
    refine gC 43 (!x7) ?_ ?_
    · refine gX 3 ?_
      refine pF ?_
      refine pO ?_
      refine pH ?_
      refine pN ?_
      refine pS ?_
      refine gR 10 (rg Tryz.f60 10) ?_
      refine se (mkE (s_2.append ((10, .own 80 0) :: [(11, I (addI .i64 z1.2.2.2.2.2 1))])) o_0 149) ?_
      exact pL
    · refine gK ?_
      refine pN ?_
      refine pS ?_
      refine gS 13 ?_
      refine gR 12 (rg Tryz.f60 12) ?_
      refine sg 1 (mkE ((44, .own 80 0) :: (s_0.append [(43, B (!x7))])) o_0 149) ?_
      refine eo 45 (I (lenL z1.2.2.2.2.1)) (lenOE 42 26 4 a25 z1.2.2.2.2.1) ?_
      refine se (mkE (s_0.append s_1) o_0 149) ?_
      refine pN ?_
      refine pS ?_
      refine gS 0 ?_
      refine gD 13 20 (rg Tryz.f60 13) [0, 1, 2, 3, 4, 5, 6, 7, 8, 9, 10, 11, 12, 13, 14, 15, 16, 17, 18, 19] ?_
      refine dg 3 [(some 47, qe (I (subI .i64 (lenL z1.2.2.2.2.1) 1))), (some 48, qe (B (leI 0 (subI .i64 (lenL z1.2.2.2.2.1) 1)))), (some 49, qe (B (leI 0 (subI .i64 (lenL z1.2.2.2.2.1) 1))))] ?_
      refine db 2 49 (leI 0 (subI .i64 (lenL z1.2.2.2.2.1) 1)) ?_ ?_
      · refine dg 5 d_0 ?_
        refine dv 52 (mkE ((51, I (subI .i64 (lenL z1.2.2.2.2.1) 1)) :: ((50, .own 80 0) :: ((49, B true) :: (s_3.append (s_0.append s_1))))) o_0 149) (addrOE 42 26 4 80 0 false a25 .i64 z1.2.2.2.2.1 (subI .i64 (lenL z1.2.2.2.2.1) 1)) (fun x8 => ?_)
        refine dg 7 (d_0.append ((some 52, qe (.oa 80 0 x8 0)) :: [(some 53, qe (.oa 80 0 x8 0))])) ?_
        refine dv 54 (mkE ((53, .oa 80 0 x8 0) :: ((52, .oa 80 0 x8 0) :: ((51, I (subI .i64 (lenL z1.2.2.2.2.1) 1)) :: ((50, .own 80 0) :: ((49, B true) :: (s_3.append (s_0.append s_1))))))) o_0 149) (loadOE 3 80 0 x8 0 26 4 1 false false a25 (fun q : S25 => I q.f0) z1.2.2.2.2.1) (fun x9 => ?_)
        refine dg 10 (d_0.append ((some 52, qe (.oa 80 0 x8 0)) :: ((some 53, qe (.oa 80 0 x8 0)) :: ((some 54, qe (I x9.f0)) :: ((some 55, qe (.own 80 0)) :: [(some 56, qe (I (subI .i64 (lenL z1.2.2.2.2.1) 1)))]))))) ?_
        refine dv 57 (mkE ((56, I (subI .i64 (lenL z1.2.2.2.2.1) 1)) :: ((55, .own 80 0) :: ((49, B true) :: (s_3.append (s_0.append s_1))))) o_0 149) (addrOE 42 26 4 80 0 false a25 .i64 z1.2.2.2.2.1 (subI .i64 (lenL z1.2.2.2.2.1) 1)) (fun x10 => ?_)
        refine dg 12 (d_0.append ((some 52, qe (.oa 80 0 x8 0)) :: ((some 53, qe (.oa 80 0 x8 0)) :: ((some 54, qe (I x9.f0)) :: ((some 55, qe (.own 80 0)) :: ((some 56, qe (I (subI .i64 (lenL z1.2.2.2.2.1) 1))) :: ((some 57, qe (.oa 80 0 x10 0)) :: [(some 58, qe (.oa 80 0 x10 2))]))))))) ?_
        refine dv 59 (mkE ((58, .oa 80 0 x10 2) :: ((57, .oa 80 0 x10 0) :: ((56, I (subI .i64 (lenL z1.2.2.2.2.1) 1)) :: ((55, .own 80 0) :: ((49, B true) :: (s_3.append (s_0.append s_1))))))) o_0 149) (loadOE 3 80 0 x10 2 26 4 1 false false a25 (fun q : S25 => I q.f2) z1.2.2.2.2.1) (fun x11 => ?_)
        refine dg 16 (d_0.append ((some 52, qe (.oa 80 0 x8 0)) :: ((some 53, qe (.oa 80 0 x8 0)) :: ((some 54, qe (I x9.f0)) :: ((some 55, qe (.own 80 0)) :: ((some 56, qe (I (subI .i64 (lenL z1.2.2.2.2.1) 1))) :: ((some 57, qe (.oa 80 0 x10 0)) :: ((some 58, qe (.oa 80 0 x10 2)) :: ((some 59, qe (I x11.f2)) :: ((some 60, qe (I (addI .i64 x9.f0 x11.f2))) :: ((some 61, qe (.own 40 0)) :: [(some 62, qe (I z1.2.2.2.2.2))]))))))))))) ?_
        refine dv 63 (mkE ((62, I z1.2.2.2.2.2) :: ((61, .own 40 0) :: ((49, B true) :: (s_3.append (s_0.append s_1))))) o_0 149) (addrOE 102 3 1 40 0 false I .i64 z1.1 z1.2.2.2.2.2) (fun x12 => ?_)
        refine dv 64 (mkE ((63, .oa 40 0 x12 0) :: ((62, I z1.2.2.2.2.2) :: ((61, .own 40 0) :: ((49, B true) :: (s_3.append (s_0.append s_1)))))) o_0 149) (loadOE 3 40 0 x12 0 3 1 1 false false I (fun q : Int => I q) z1.1) (fun x13 => ?_)
        refine dg 20 (d_0.append ((some 52, qe (.oa 80 0 x8 0)) :: ((some 53, qe (.oa 80 0 x8 0)) :: ((some 54, qe (I x9.f0)) :: ((some 55, qe (.own 80 0)) :: ((some 56, qe (I (subI .i64 (lenL z1.2.2.2.2.1) 1))) :: ((some 57, qe (.oa 80 0 x10 0)) :: ((some 58, qe (.oa 80 0 x10 2)) :: ((some 59, qe (I x11.f2)) :: ((some 60, qe (I (addI .i64 x9.f0 x11.f2))) :: ((some 61, qe (.own 40 0)) :: ((some 62, qe (I z1.2.2.2.2.2)) :: ((some 63, qe (.oa 40 0 x12 0)) :: ((some 64, qe (I x13)) :: ((some 65, qe (B (eqI (addI .i64 x9.f0 x11.f2) x13))) :: [(some 66, qe (B (eqI (addI .i64 x9.f0 x11.f2) x13)))]))))))))))))))) ?_
        refine de (mkE ((66, B (eqI (addI .i64 x9.f0 x11.f2) x13)) :: ((65, B (eqI (addI .i64 x9.f0 x11.f2) x13)) :: ((64, I x13) :: ((63, .oa 40 0 x12 0) :: ((62, I z1.2.2.2.2.2) :: ((61, .own 40 0) :: ((60, I (addI .i64 x9.f0 x11.f2)) :: ((59, I x11.f2) :: ((58, .oa 80 0 x10 2) :: ((57, .oa 80 0 x10 0) :: ((56, I (subI .i64 (lenL z1.2.2.2.2.1) 1)) :: ((55, .own 80 0) :: ((54, I x9.f0) :: ((53, .oa 80 0 x8 0) :: ((52, .oa 80 0 x8 0) :: ((51, I (subI .i64 (lenL z1.2.2.2.2.1) 1)) :: ((50, .own 80 0) :: ((49, B true) :: (s_3.append (s_0.append s_1)))))))))))))))))))) o_0 149) ?_
        refine se (mkE (s_0.append (s_1.append [(66, B (eqI (addI .i64 x9.f0 x11.f2) x13))])) o_0 149) ?_
        refine pN ?_
        refine pS ?_
        refine gC 66 (eqI (addI .i64 x9.f0 x11.f2) x13) ?_ ?_
        · refine gD 14 15 (rg Tryz.f60 14) [0, 1, 2, 3, 4, 5, 6, 7, 8, 9, 10, 11, 12, 13, 14, 15] ?_
          refine dg 5 d_3 ?_
          refine dv 72 (mkE (s_7.append (s_0.append (s_1.append [(66, B (eqI (addI .i64 x9.f0 x11.f2) x13))]))) o_0 149) (addrOE 102 3 1 40 0 false I .i64 z1.1 (addI .i64 z1.2.2.2.2.2 1)) (fun x14 => ?_)
          refine dv 73 (mkE ((72, .oa 40 0 x14 0) :: (s_7.append (s_0.append (s_1.append [(66, B (eqI (addI .i64 x9.f0 x11.f2) x13))])))) o_0 149) (loadOE 3 40 0 x14 0 3 1 1 false false I (fun q : Int => I q) z1.1) (fun x15 => ?_)
          refine dg 9 (d_3.append ((some 72, qe (.oa 40 0 x14 0)) :: ((some 73, qe (I x15)) :: ((some 74, qe (.own 80 0)) :: [(some 75, qe (I (subI .i64 (lenL z1.2.2.2.2.1) 1)))])))) ?_
          refine dv 76 (mkE ((75, I (subI .i64 (lenL z1.2.2.2.2.1) 1)) :: ((74, .own 80 0) :: (s_0.append (s_1.append [(66, B (eqI (addI .i64 x9.f0 x11.f2) x13))])))) o_0 149) (addrOE 42 26 4 80 0 false a25 .i64 z1.2.2.2.2.1 (subI .i64 (lenL z1.2.2.2.2.1) 1)) (fun x16 => ?_)
          refine dg 11 (d_3.append ((some 72, qe (.oa 40 0 x14 0)) :: ((some 73, qe (I x15)) :: ((some 74, qe (.own 80 0)) :: ((some 75, qe (I (subI .i64 (lenL z1.2.2.2.2.1) 1))) :: ((some 76, qe (.oa 80 0 x16 0)) :: [(some 77, qe (.oa 80 0 x16 0))])))))) ?_
          refine dv 78 (mkE ((77, .oa 80 0 x16 0) :: ((76, .oa 80 0 x16 0) :: ((75, I (subI .i64 (lenL z1.2.2.2.2.1) 1)) :: ((74, .own 80 0) :: (s_0.append (s_1.append [(66, B (eqI (addI .i64 x9.f0 x11.f2) x13))])))))) o_0 149) (loadOE 3 80 0 x16 0 26 4 1 false false a25 (fun q : S25 => I q.f0) z1.2.2.2.2.1) (fun x17 => ?_)
          refine dg 13 (d_3.append ((some 72, qe (.oa 40 0 x14 0)) :: ((some 73, qe (I x15)) :: ((some 74, qe (.own 80 0)) :: ((some 75, qe (I (subI .i64 (lenL z1.2.2.2.2.1) 1))) :: ((some 76, qe (.oa 80 0 x16 0)) :: ((some 77, qe (.oa 80 0 x16 0)) :: ((some 78, qe (I x17.f0)) :: [(some 79, qe (I (subI .i64 x15 x17.f0)))])))))))) ?_
          refine dv 80 (mkE ((79, I (subI .i64 x15 x17.f0)) :: ((78, I x17.f0) :: ((77, .oa 80 0 x16 0) :: ((76, .oa 80 0 x16 0) :: ((75, I (subI .i64 (lenL z1.2.2.2.2.1) 1)) :: ((74, .own 80 0) :: ((73, I x15) :: ((72, .oa 40 0 x14 0) :: (s_7.append ((68, I (subI .i64 (lenL z1.2.2.2.2.1) 1)) :: ((67, .own 80 0) :: (s_0.append (s_1.append [(66, B (eqI (addI .i64 x9.f0 x11.f2) x13))]))))))))))))) o_0 149) (addrOE 42 26 4 80 0 false a25 .i64 z1.2.2.2.2.1 (subI .i64 (lenL z1.2.2.2.2.1) 1)) (fun x18 => ?_)
          refine dg 15 (d_3.append ((some 72, qe (.oa 40 0 x14 0)) :: ((some 73, qe (I x15)) :: ((some 74, qe (.own 80 0)) :: ((some 75, qe (I (subI .i64 (lenL z1.2.2.2.2.1) 1))) :: ((some 76, qe (.oa 80 0 x16 0)) :: ((some 77, qe (.oa 80 0 x16 0)) :: ((some 78, qe (I x17.f0)) :: ((some 79, qe (I (subI .i64 x15 x17.f0))) :: ((some 80, qe (.oa 80 0 x18 0)) :: [(some 81, qe (.oa 80 0 x18 2))])))))))))) ?_
          refine de (mkE ((81, .oa 80 0 x18 2) :: ((80, .oa 80 0 x18 0) :: ((79, I (subI .i64 x15 x17.f0)) :: ((78, I x17.f0) :: ((77, .oa 80 0 x16 0) :: ((76, .oa 80 0 x16 0) :: ((75, I (subI .i64 (lenL z1.2.2.2.2.1) 1)) :: ((74, .own 80 0) :: ((73, I x15) :: ((72, .oa 40 0 x14 0) :: (s_7.append ((68, I (subI .i64 (lenL z1.2.2.2.2.1) 1)) :: ((67, .own 80 0) :: (s_0.append (s_1.append [(66, B (eqI (addI .i64 x9.f0 x11.f2) x13))]))))))))))))))) o_0 149) ?_
          refine mo none (stO 26 4 80 0 x18 2 a25 z1.2.2.2.2.1 [] [I (subI .i64 x15 x17.f0)] (I (subI .i64 x15 x17.f0)) (fun q : S25 => (S25.mk q.f0 q.f1 (subI .i64 x15 x17.f0) q.f3)) 3 (.tmp 81) (.tmp 79) 1) (fun x19 => ?_)
          refine se (mkE s_0 (o_1.append [(80, RR 26 4 a25 (List.set z1.2.2.2.2.1 x18 (S25.mk x19.f0 x19.f1 (subI .i64 x15 x17.f0) x19.f3)) 0 false)]) 149) ?_
          refine pB ?_
          refine pN ?_
          refine pS ?_
          refine gR 10 (rg Tryz.f60 10) ?_
          refine se (mkE (s_2.append ((10, .own 80 0) :: [(11, I (addI .i64 z1.2.2.2.2.2 1))])) (o_1.append [(80, RR 26 4 a25 (List.set z1.2.2.2.2.1 x18 (S25.mk x19.f0 x19.f1 (subI .i64 x15 x17.f0) x19.f3)) 0 false)]) 149) ?_
          exact pL
        · refine gD 15 31 (rg Tryz.f60 15) [0, 1, 2, 3, 4, 5, 6, 7, 8, 9, 10, 11, 12, 13, 14, 15, 16, 17, 18, 19, 20, 21, 22, 23, 24, 25, 26, 27, 28, 29, 30, 31, 32] ?_
          refine dg 3 d_1 ?_
          refine dv 85 (mkE ((84, I z1.2.2.2.2.2) :: ((83, .own 40 0) :: (s_0.append (s_1.append [(66, B (eqI (addI .i64 x9.f0 x11.f2) x13))])))) o_0 149) (addrOE 102 3 1 40 0 false I .i64 z1.1 z1.2.2.2.2.2) (fun x20 => ?_)
          refine dv 86 (mkE ((85, .oa 40 0 x20 0) :: ((84, I z1.2.2.2.2.2) :: ((83, .own 40 0) :: (s_0.append (s_1.append [(66, B (eqI (addI .i64 x9.f0 x11.f2) x13))]))))) o_0 149) (loadOE 3 40 0 x20 0 3 1 1 false false I (fun q : Int => I q) z1.1) (fun x21 => ?_)
          refine dg 7 (d_1.append ((some 85, qe (.oa 40 0 x20 0)) :: ((some 86, qe (I x21)) :: d_4))) ?_
          refine dv 89 (mkE ((88, I z0.2.2.2.2) :: ((87, .own 48 0) :: (s_0.append (s_1.append [(66, B (eqI (addI .i64 x9.f0 x11.f2) x13))])))) o_0 149) (addrOE 102 3 1 48 0 false I .i64 z1.2.1 z0.2.2.2.2) (fun x22 => ?_)
          refine dv 90 (mkE ((89, .oa 48 0 x22 0) :: ((88, I z0.2.2.2.2) :: ((87, .own 48 0) :: (s_0.append (s_1.append [(66, B (eqI (addI .i64 x9.f0 x11.f2) x13))]))))) o_0 149) (loadOE 3 48 0 x22 0 3 1 1 false false I (fun q : Int => I q) z1.2.1) (fun x23 => ?_)
          refine dg 12 (d_1.append ((some 85, qe (.oa 40 0 x20 0)) :: ((some 86, qe (I x21)) :: (d_4.append ((some 89, qe (.oa 48 0 x22 0)) :: ((some 90, qe (I x23)) :: d_2)))))) ?_
          refine dv 94 (mkE (s_4.append (s_0.append (s_1.append [(66, B (eqI (addI .i64 x9.f0 x11.f2) x13))]))) o_0 149) (addrOE 102 3 1 40 0 false I .i64 z1.1 (addI .i64 z1.2.2.2.2.2 1)) (fun x24 => ?_)
          refine dv 95 (mkE ((94, .oa 40 0 x24 0) :: (s_4.append (s_0.append (s_1.append [(66, B (eqI (addI .i64 x9.f0 x11.f2) x13))])))) o_0 149) (loadOE 3 40 0 x24 0 3 1 1 false false I (fun q : Int => I q) z1.1) (fun x25 => ?_)
          refine dg 16 (d_1.append ((some 85, qe (.oa 40 0 x20 0)) :: ((some 86, qe (I x21)) :: (d_4.append ((some 89, qe (.oa 48 0 x22 0)) :: ((some 90, qe (I x23)) :: (d_2.append ((some 94, qe (.oa 40 0 x24 0)) :: ((some 95, qe (I x25)) :: d_7))))))))) ?_
          refine dv 98 (mkE ((97, I z1.2.2.2.2.2) :: ((96, .own 40 0) :: (s_0.append (s_1.append [(66, B (eqI (addI .i64 x9.f0 x11.f2) x13))])))) o_0 149) (addrOE 102 3 1 40 0 false I .i64 z1.1 z1.2.2.2.2.2) (fun x26 => ?_)
          refine dv 99 (mkE ((98, .oa 40 0 x26 0) :: ((97, I z1.2.2.2.2.2) :: ((96, .own 40 0) :: (s_0.append (s_1.append [(66, B (eqI (addI .i64 x9.f0 x11.f2) x13))]))))) o_0 149) (loadOE 3 40 0 x26 0 3 1 1 false false I (fun q : Int => I q) z1.1) (fun x27 => ?_)
          refine dg 22 (d_1.append ((some 85, qe (.oa 40 0 x20 0)) :: ((some 86, qe (I x21)) :: (d_4.append ((some 89, qe (.oa 48 0 x22 0)) :: ((some 90, qe (I x23)) :: (d_2.append ((some 94, qe (.oa 40 0 x24 0)) :: ((some 95, qe (I x25)) :: (d_7.append ((some 98, qe (.oa 40 0 x26 0)) :: ((some 99, qe (I x27)) :: ((some 100, qe (I (subI .i64 x25 x27))) :: d_5))))))))))))) ?_
          refine dv 104 (mkE (s_5.append (s_0.append (s_1.append [(66, B (eqI (addI .i64 x9.f0 x11.f2) x13))]))) o_0 149) (addrOE 102 3 1 48 0 false I .i64 z1.2.1 (addI .i64 z0.2.2.2.2 1)) (fun x28 => ?_)
          refine dv 105 (mkE ((104, .oa 48 0 x28 0) :: (s_5.append (s_0.append (s_1.append [(66, B (eqI (addI .i64 x9.f0 x11.f2) x13))])))) o_0 149) (loadOE 3 48 0 x28 0 3 1 1 false false I (fun q : Int => I q) z1.2.1) (fun x29 => ?_)
          refine dg 26 (d_1.append ((some 85, qe (.oa 40 0 x20 0)) :: ((some 86, qe (I x21)) :: (d_4.append ((some 89, qe (.oa 48 0 x22 0)) :: ((some 90, qe (I x23)) :: (d_2.append ((some 94, qe (.oa 40 0 x24 0)) :: ((some 95, qe (I x25)) :: (d_7.append ((some 98, qe (.oa 40 0 x26 0)) :: ((some 99, qe (I x27)) :: ((some 100, qe (I (subI .i64 x25 x27))) :: (d_5.append ((some 104, qe (.oa 48 0 x28 0)) :: ((some 105, qe (I x29)) :: ((some 106, qe (.own 48 0)) :: [(some 107, qe (I z0.2.2.2.2))]))))))))))))))))) ?_
          refine dv 108 (mkE ((107, I z0.2.2.2.2) :: ((106, .own 48 0) :: (s_0.append (s_1.append [(66, B (eqI (addI .i64 x9.f0 x11.f2) x13))])))) o_0 149) (addrOE 102 3 1 48 0 false I .i64 z1.2.1 z0.2.2.2.2) (fun x30 => ?_)
          refine dv 109 (mkE ((108, .oa 48 0 x30 0) :: ((107, I z0.2.2.2.2) :: ((106, .own 48 0) :: (s_0.append (s_1.append [(66, B (eqI (addI .i64 x9.f0 x11.f2) x13))]))))) o_0 149) (loadOE 3 48 0 x30 0 3 1 1 false false I (fun q : Int => I q) z1.2.1) (fun x31 => ?_)
          refine dg 31 (d_1.append ((some 85, qe (.oa 40 0 x20 0)) :: ((some 86, qe (I x21)) :: (d_4.append ((some 89, qe (.oa 48 0 x22 0)) :: ((some 90, qe (I x23)) :: (d_2.append ((some 94, qe (.oa 40 0 x24 0)) :: ((some 95, qe (I x25)) :: (d_7.append ((some 98, qe (.oa 40 0 x26 0)) :: ((some 99, qe (I x27)) :: ((some 100, qe (I (subI .i64 x25 x27))) :: (d_5.append ((some 104, qe (.oa 48 0 x28 0)) :: ((some 105, qe (I x29)) :: ((some 106, qe (.own 48 0)) :: ((some 107, qe (I z0.2.2.2.2)) :: ((some 108, qe (.oa 48 0 x30 0)) :: ((some 109, qe (I x31)) :: ((some 110, qe (I (subI .i64 x29 x31))) :: ((some 111, qe (.agg [I x21, I x23, I (subI .i64 x25 x27), I (subI .i64 x29 x31)])) :: [(some 112, { e := { val := .own 896 0, news := [(896, RR 26 4 a25 ([(S25.mk x21 x23 (subI .i64 x25 x27) (subI .i64 x29 x31))] : List S25) 0 false)] } })])))))))))))))))))))))) ?_
          refine de (mkE ((112, .own 896 0) :: ((111, .agg [I x21, I x23, I (subI .i64 x25 x27), I (subI .i64 x29 x31)]) :: ((110, I (subI .i64 x29 x31)) :: ((109, I x31) :: ((108, .oa 48 0 x30 0) :: ((107, I z0.2.2.2.2) :: ((106, .own 48 0) :: ((105, I x29) :: ((104, .oa 48 0 x28 0) :: (s_5.append ((100, I (subI .i64 x25 x27)) :: ((99, I x27) :: ((98, .oa 40 0 x26 0) :: ((97, I z1.2.2.2.2.2) :: ((96, .own 40 0) :: ((95, I x25) :: ((94, .oa 40 0 x24 0) :: (s_4.append ((90, I x23) :: ((89, .oa 48 0 x22 0) :: ((88, I z0.2.2.2.2) :: ((87, .own 48 0) :: ((86, I x21) :: ((85, .oa 40 0 x20 0) :: ((84, I z1.2.2.2.2.2) :: ((83, .own 40 0) :: ((82, .own 80 0) :: (s_0.append (s_1.append [(66, B (eqI (addI .i64 x9.f0 x11.f2) x13))]))))))))))))))))))))))))))))) ((896, RR 26 4 a25 ([(S25.mk x21 x23 (subI .i64 x25 x27) (subI .i64 x29 x31))] : List S25) 0 false) :: o_0) 149) ?_
          refine mo (some 113) (apO 42 26 4 32 80 a25 0 [896] (y := .own 896 0) (l2 := ([(S25.mk x21 x23 (subI .i64 x25 x27) (subI .i64 x29 x31))] : List S25))) (fun x32 => ?_)
          refine se (mkE (s_2.append ((10, .own 80 1) :: [(11, I z1.2.2.2.2.2)])) (o_1.append [(80, RR 26 4 a25 x32 1 false)]) 149) ?_
          refine pB ?_
          refine pN ?_
          refine pS ?_
          refine gR 10 (rg Tryz.f60 10) ?_
          refine se (mkE (s_2.append ((10, .own 80 1) :: [(11, I (addI .i64 z1.2.2.2.2.2 1))])) (o_1.append [(80, RR 26 4 a25 x32 1 false)]) 149) ?_
          exact pL
      · refine dg 20 [(some 47, qe (I (subI .i64 (lenL z1.2.2.2.2.1) 1))), (some 48, qe (B (leI 0 (subI .i64 (lenL z1.2.2.2.2.1) 1)))), (some 49, qe (B false)), (some 50, qe (.und)), (some 51, qe (.und)), (some 52, qe (.und)), (some 53, qe (.und)), (some 54, qe (.und)), (some 55, qe (.und)), (some 56, qe (.und)), (some 57, qe (.und)), (some 58, qe (.und)), (some 59, qe (.und)), (some 60, qe (.und)), (some 61, qe (.und)), (some 62, qe (.und)), (some 63, qe (.und)), (some 64, qe (.und)), (some 65, qe (.und)), (some 66, qe (B false))] ?_
        refine de (mkE ((66, B false) :: ((65, .und) :: ((64, .und) :: ((63, .und) :: ((62, .und) :: ((61, .und) :: ((60, .und) :: ((59, .und) :: ((58, .und) :: ((57, .und) :: ((56, .und) :: ((55, .und) :: ((54, .und) :: ((53, .und) :: ((52, .und) :: ((51, .und) :: ((50, .und) :: ((49, B false) :: (s_3.append (s_0.append s_1)))))))))))))))))))) o_0 149) ?_
        refine se (mkE (s_0.append (s_1.append [(66, B false)])) o_0 149) ?_
        refine pN ?_
        refine pS ?_
        refine gF (.tmp 66) ?_
        refine gD 15 31 (rg Tryz.f60 15) [0, 1, 2, 3, 4, 5, 6, 7, 8, 9, 10, 11, 12, 13, 14, 15, 16, 17, 18, 19, 20, 21, 22, 23, 24, 25, 26, 27, 28, 29, 30, 31, 32] ?_
        refine dg 3 d_1 ?_
        refine dv 85 (mkE ((84, I z1.2.2.2.2.2) :: ((83, .own 40 0) :: (s_0.append (s_1.append [(66, B false)])))) o_0 149) (addrOE 102 3 1 40 0 false I .i64 z1.1 z1.2.2.2.2.2) (fun x33 => ?_)
        refine dv 86 (mkE ((85, .oa 40 0 x33 0) :: ((84, I z1.2.2.2.2.2) :: ((83, .own 40 0) :: (s_0.append (s_1.append [(66, B false)]))))) o_0 149) (loadOE 3 40 0 x33 0 3 1 1 false false I (fun q : Int => I q) z1.1) (fun x34 => ?_)
        refine dg 7 (d_1.append ((some 85, qe (.oa 40 0 x33 0)) :: ((some 86, qe (I x34)) :: d_4))) ?_
        refine dv 89 (mkE ((88, I z0.2.2.2.2) :: ((87, .own 48 0) :: (s_0.append (s_1.append [(66, B false)])))) o_0 149) (addrOE 102 3 1 48 0 false I .i64 z1.2.1 z0.2.2.2.2) (fun x35 => ?_)
        refine dv 90 (mkE ((89, .oa 48 0 x35 0) :: ((88, I z0.2.2.2.2) :: ((87, .own 48 0) :: (s_0.append (s_1.append [(66, B false)]))))) o_0 149) (loadOE 3 48 0 x35 0 3 1 1 false false I (fun q : Int => I q) z1.2.1) (fun x36 => ?_)
        refine dg 12 (d_1.append ((some 85, qe (.oa 40 0 x33 0)) :: ((some 86, qe (I x34)) :: (d_4.append ((some 89, qe (.oa 48 0 x35 0)) :: ((some 90, qe (I x36)) :: d_2)))))) ?_
        refine dv 94 (mkE (s_4.append (s_0.append (s_1.append [(66, B false)]))) o_0 149) (addrOE 102 3 1 40 0 false I .i64 z1.1 (addI .i64 z1.2.2.2.2.2 1)) (fun x37 => ?_)
        refine dv 95 (mkE ((94, .oa 40 0 x37 0) :: (s_4.append (s_0.append (s_1.append [(66, B false)])))) o_0 149) (loadOE 3 40 0 x37 0 3 1 1 false false I (fun q : Int => I q) z1.1) (fun x38 => ?_)
        refine dg 16 (d_1.append ((some 85, qe (.oa 40 0 x33 0)) :: ((some 86, qe (I x34)) :: (d_4.append ((some 89, qe (.oa 48 0 x35 0)) :: ((some 90, qe (I x36)) :: (d_2.append ((some 94, qe (.oa 40 0 x37 0)) :: ((some 95, qe (I x38)) :: d_7))))))))) ?_
        refine dv 98 (mkE ((97, I z1.2.2.2.2.2) :: ((96, .own 40 0) :: (s_0.append (s_1.append [(66, B false)])))) o_0 149) (addrOE 102 3 1 40 0 false I .i64 z1.1 z1.2.2.2.2.2) (fun x39 => ?_)
        refine dv 99 (mkE ((98, .oa 40 0 x39 0) :: ((97, I z1.2.2.2.2.2) :: ((96, .own 40 0) :: (s_0.append (s_1.append [(66, B false)]))))) o_0 149) (loadOE 3 40 0 x39 0 3 1 1 false false I (fun q : Int => I q) z1.1) (fun x40 => ?_)
        refine dg 22 (d_1.append ((some 85, qe (.oa 40 0 x33 0)) :: ((some 86, qe (I x34)) :: (d_4.append ((some 89, qe (.oa 48 0 x35 0)) :: ((some 90, qe (I x36)) :: (d_2.append ((some 94, qe (.oa 40 0 x37 0)) :: ((some 95, qe (I x38)) :: (d_7.append ((some 98, qe (.oa 40 0 x39 0)) :: ((some 99, qe (I x40)) :: ((some 100, qe (I (subI .i64 x38 x40))) :: d_5))))))))))))) ?_
        refine dv 104 (mkE (s_5.append (s_0.append (s_1.append [(66, B false)]))) o_0 149) (addrOE 102 3 1 48 0 false I .i64 z1.2.1 (addI .i64 z0.2.2.2.2 1)) (fun x41 => ?_)
        refine dv 105 (mkE ((104, .oa 48 0 x41 0) :: (s_5.append (s_0.append (s_1.append [(66, B false)])))) o_0 149) (loadOE 3 48 0 x41 0 3 1 1 false false I (fun q : Int => I q) z1.2.1) (fun x42 => ?_)
        refine dg 26 (d_1.append ((some 85, qe (.oa 40 0 x33 0)) :: ((some 86, qe (I x34)) :: (d_4.append ((some 89, qe (.oa 48 0 x35 0)) :: ((some 90, qe (I x36)) :: (d_2.append ((some 94, qe (.oa 40 0 x37 0)) :: ((some 95, qe (I x38)) :: (d_7.append ((some 98, qe (.oa 40 0 x39 0)) :: ((some 99, qe (I x40)) :: ((some 100, qe (I (subI .i64 x38 x40))) :: (d_5.append ((some 104, qe (.oa 48 0 x41 0)) :: ((some 105, qe (I x42)) :: ((some 106, qe (.own 48 0)) :: [(some 107, qe (I z0.2.2.2.2))]))))))))))))))))) ?_
        refine dv 108 (mkE ((107, I z0.2.2.2.2) :: ((106, .own 48 0) :: (s_0.append (s_1.append [(66, B false)])))) o_0 149) (addrOE 102 3 1 48 0 false I .i64 z1.2.1 z0.2.2.2.2) (fun x43 => ?_)
        refine dv 109 (mkE ((108, .oa 48 0 x43 0) :: ((107, I z0.2.2.2.2) :: ((106, .own 48 0) :: (s_0.append (s_1.append [(66, B false)]))))) o_0 149) (loadOE 3 48 0 x43 0 3 1 1 false false I (fun q : Int => I q) z1.2.1) (fun x44 => ?_)
        refine dg 31 (d_1.append ((some 85, qe (.oa 40 0 x33 0)) :: ((some 86, qe (I x34)) :: (d_4.append ((some 89, qe (.oa 48 0 x35 0)) :: ((some 90, qe (I x36)) :: (d_2.append ((some 94, qe (.oa 40 0 x37 0)) :: ((some 95, qe (I x38)) :: (d_7.append ((some 98, qe (.oa 40 0 x39 0)) :: ((some 99, qe (I x40)) :: ((some 100, qe (I (subI .i64 x38 x40))) :: (d_5.append ((some 104, qe (.oa 48 0 x41 0)) :: ((some 105, qe (I x42)) :: ((some 106, qe (.own 48 0)) :: ((some 107, qe (I z0.2.2.2.2)) :: ((some 108, qe (.oa 48 0 x43 0)) :: ((some 109, qe (I x44)) :: ((some 110, qe (I (subI .i64 x42 x44))) :: ((some 111, qe (.agg [I x34, I x36, I (subI .i64 x38 x40), I (subI .i64 x42 x44)])) :: [(some 112, { e := { val := .own 896 0, news := [(896, RR 26 4 a25 ([(S25.mk x34 x36 (subI .i64 x38 x40) (subI .i64 x42 x44))] : List S25) 0 false)] } })])))))))))))))))))))))) ?_
        refine de (mkE ((112, .own 896 0) :: ((111, .agg [I x34, I x36, I (subI .i64 x38 x40), I (subI .i64 x42 x44)]) :: ((110, I (subI .i64 x42 x44)) :: ((109, I x44) :: ((108, .oa 48 0 x43 0) :: ((107, I z0.2.2.2.2) :: ((106, .own 48 0) :: ((105, I x42) :: ((104, .oa 48 0 x41 0) :: (s_5.append ((100, I (subI .i64 x38 x40)) :: ((99, I x40) :: ((98, .oa 40 0 x39 0) :: ((97, I z1.2.2.2.2.2) :: ((96, .own 40 0) :: ((95, I x38) :: ((94, .oa 40 0 x37 0) :: (s_4.append ((90, I x36) :: ((89, .oa 48 0 x35 0) :: ((88, I z0.2.2.2.2) :: ((87, .own 48 0) :: ((86, I x34) :: ((85, .oa 40 0 x33 0) :: ((84, I z1.2.2.2.2.2) :: ((83, .own 40 0) :: ((82, .own 80 0) :: (s_0.append (s_1.append [(66, B false)]))))))))))))))))))))))))))))) ((896, RR 26 4 a25 ([(S25.mk x34 x36 (subI .i64 x38 x40) (subI .i64 x42 x44))] : List S25) 0 false) :: o_0) 149) ?_
        refine mo (some 113) (apO 42 26 4 32 80 a25 0 [896] (y := .own 896 0) (l2 := ([(S25.mk x34 x36 (subI .i64 x38 x40) (subI .i64 x42 x44))] : List S25))) (fun x45 => ?_)
        refine se (mkE (s_2.append ((10, .own 80 1) :: [(11, I z1.2.2.2.2.2)])) (o_1.append [(80, RR 26 4 a25 x45 1 false)]) 149) ?_
        refine pB ?_
        refine pN ?_
        refine pS ?_
        refine gR 10 (rg Tryz.f60 10) ?_
        refine se (mkE (s_2.append ((10, .own 80 1) :: [(11, I (addI .i64 z1.2.2.2.2.2 1))])) (o_1.append [(80, RR 26 4 a25 x45 1 false)]) 149) ?_
        exact pL
  · refine gX 2 ?_
    exact pL
noncomputable def L60_19 (p1_c0 : ByteArray) (p1_c1 : Int) (p1_c2 : Int) (p1_c3 : (List S64)) (p1_c4 : ByteArray) (p1_c5 : Int) (p1_c6 : Int) (p1_c7 : Int) (p1_c8 : Int) (p1_c9 : Int) (z0 : ((List Int) × (List Int) × (List S25) × (List S25) × Int)) (y46 : (Int × Bool × (List Int) × (List Int) × (List S25) × (List S25) × (List S25))) (z2 : ((List Int) × (List Int) × (List S25) × (List S25) × (List S25) × Int)) : Option (((List Int) × (List Int) × (List S25) × (List S25) × (List S25) × Int) ⊕ (Int × Bool × (List Int) × (List Int) × (List S25) × (List S25) × (List S25))) := (bif (ltI z2.2.2.2.2.2 (lenL y46.2.2.2.2.2.1)) then ((idxO (List.length z2.2.2.2.1) z2.2.2.2.2.2).bind fun x48 => ((getN z2.2.2.2.1 x48).bind fun x49 => ((idxO (List.length z2.2.2.2.2.1) z2.2.2.2.2.2).bind fun x50 => ((getN z2.2.2.2.2.1 x50).bind fun x51 => ((idxO (List.length z2.2.2.2.1) z2.2.2.2.2.2).bind fun x52 => ((getN z2.2.2.2.1 x52).bind fun x53 => (some (.inl (z2.1, z2.2.1, z2.2.2.1, (List.set z2.2.2.2.1 x52 (S25.mk x53.f0 x53.f1 x53.f2 (addI .i64 x49.f3 x51.f3))), z2.2.2.2.2.1, (addI .i64 z2.2.2.2.2.2 1)))))))))) else (some (.inr (z2.2.2.2.2.2, (ltI z2.2.2.2.2.2 (lenL y46.2.2.2.2.2.1)), z2.1, z2.2.1, z2.2.2.1, z2.2.2.2.1, z2.2.2.2.2.1))))
theorem L60_19_ok (C : Callee) (p1_c0 : ByteArray) (p1_c1 : Int) (p1_c2 : Int) (p1_c3 : (List S64)) (p1_c4 : ByteArray) (p1_c5 : Int) (p1_c6 : Int) (p1_c7 : Int) (p1_c8 : Int) (p1_c9 : Int) (z0 : ((List Int) × (List Int) × (List S25) × (List S25) × Int)) (y46 : (Int × Bool × (List Int) × (List Int) × (List S25) × (List S25) × (List S25))) (z2 : ((List Int) × (List Int) × (List S25) × (List S25) × (List S25) × Int)) : runs Tryz.prog C (cfg.fn 60) (finLoop ((cfg.fn 60).keep 19) ((cfg.fn 60).al 19)) [] (execA Tryz.prog C (cfg.fn 60) (nr Tryz.f60 [false, false, true, false, false, true, false, true, true, true, false, false, true, false, false, true, false, true, true, true, true]) ((fun z2 : ((List Int) × (List Int) × (List S25) × (List S25) × (List S25) × Int) => (mkE [(1, .fn 61 [.ia [S p1_c0, I p1_c1, I p1_c2, LL a64 p1_c3] 0, .ia [S p1_c4, I p1_c5, I p1_c6, I p1_c7, I p1_c8, I p1_c9] 0]), (5, .own 40 0), (6, .own 48 0), (7, .own 56 0), (8, .own 64 0), (9, I z0.2.2.2.2), (10, .own 80 0), (124, I (lenL y46.2.2.2.2.2.1)), (125, I z2.2.2.2.2.2)] [(40, RR 3 1 I z2.1 0 false), (48, RR 3 1 I z2.2.1 0 false), (56, RR 26 4 a25 z2.2.2.1 0 false), (64, RR 26 4 a25 z2.2.2.2.1 0 false), (80, RR 26 4 a25 z2.2.2.2.2.1 0 false)] 149)) z2)) = (L60_19 p1_c0 p1_c1 p1_c2 p1_c3 p1_c4 p1_c5 p1_c6 p1_c7 p1_c8 p1_c9 z0 y46 z2).map (Sum.elim (fun z => .inl ((fun z2 : ((List Int) × (List Int) × (List S25) × (List S25) × (List S25) × Int) => (mkE [(1, .fn 61 [.ia [S p1_c0, I p1_c1, I p1_c2, LL a64 p1_c3] 0, .ia [S p1_c4, I p1_c5, I p1_c6, I p1_c7, I p1_c8, I p1_c9] 0]), (5, .own 40 0), (6, .own 48 0), (7, .own 56 0), (8, .own 64 0), (9, I z0.2.2.2.2), (10, .own 80 0), (124, I (lenL y46.2.2.2.2.2.1)), (125, I z2.2.2.2.2.2)] [(40, RR 3 1 I z2.1 0 false), (48, RR 3 1 I z2.2.1 0 false), (56, RR 26 4 a25 z2.2.2.1 0 false), (64, RR 26 4 a25 z2.2.2.2.1 0 false), (80, RR 26 4 a25 z2.2.2.2.2.1 0 false)] 149)) z)) (fun x => .inr ((fun (x : (Int × Bool × (List Int) × (List Int) × (List S25) × (List S25) × (List S25))) => (.exit 4, (mkE [(1, .fn 61 [.ia [S p1_c0, I p1_c1, I p1_c2, LL a64 p1_c3] 0, .ia [S p1_c4, I p1_c5, I p1_c6, I p1_c7, I p1_c8, I p1_c9] 0]), (5, .own 40 0), (6, .own 48 0), (7, .own 56 0), (8, .own 64 0), (9, I z0.2.2.2.2), (10, .own 80 0), (124, I (lenL y46.2.2.2.2.2.1)), (125, I x.1), (126, B x.2.1)] [(40, RR 3 1 I x.2.2.1 0 false), (48, RR 3 1 I x.2.2.2.1 0 false), (56, RR 26 4 a25 x.2.2.2.2.1 0 false), (64, RR 26 4 a25 x.2.2.2.2.2.1 0 false), (80, RR 26 4 a25 x.2.2.2.2.2.2 0 false)] 149))) x))) := by
  unfold L60_19
  let d_0 : List (Option Nat × REff) := [(some 128, qe (.own 64 0)), (some 129, qe (I z2.2.2.2.2.2))]
  let d_1 : List (Option Nat × REff) := [(some 133, qe (.own 80 0)), (some 134, qe (I z2.2.2.2.2.2))]
  let s_0 : List (Nat × AV) := [(1, .fn 61 [.ia [S p1_c0, I p1_c1, I p1_c2, LL a64 p1_c3] 0, .ia [S p1_c4, I p1_c5, I p1_c6, I p1_c7, I p1_c8, I p1_c9] 0]), (5, .own 40 0), (6, .own 48 0), (7, .own 56 0), (8, .own 64 0), (9, I z0.2.2.2.2), (10, .own 80 0)]
  let s_1 : List (Nat × AV) := [(14, I z2.2.2.2.2.2), (124, I (lenL y46.2.2.2.2.2.1)), (125, I z2.2.2.2.2.2)]
  let o_0 : List (Nat × AObj) := [(40, RR 3 1 I z2.1 0 false), (48, RR 3 1 I z2.2.1 0 false), (56, RR 26 4 a25 z2.2.2.1 0 false), (64, RR 26 4 a25 z2.2.2.2.1 0 false), (80, RR 26 4 a25 z2.2.2.2.2.1 0 false)]
  refine gS 0 ?_
  refine gR 19 (rg Tryz.f60 19) ?_
  refine se (mkE (s_0.append ((124, I (lenL y46.2.2.2.2.2.1)) :: ((125, I z2.2.2.2.2.2) :: [(126, B (ltI z2.2.2.2.2.2 (lenL y46.2.2.2.2.2.1)))]))) o_0 149) ?_
  refine pN ?_
  refine pS ?_
  refine gS 20 ?_
  refine gC 126 (ltI z2.2.2.2.2.2 (lenL y46.2.2.2.2.2.1)) ?_ ?_
  · refine gK ?_
    refine pN ?_
    refine pS ?_
    refine gS 22 ?_
    refine gB 5 ?_
    refine gS 21 ?_
    refine gR 20 (rg Tryz.f60 20) ?_
    refine se (mkE (s_0.append s_1) o_0 149) ?_
    refine pN ?_
    refine pS ?_
    refine gD 21 13 (rg Tryz.f60 21) [0, 1, 2, 3, 4, 5, 6, 7, 8, 9, 10, 11, 12, 13] ?_
    refine dg 2 d_0 ?_
    refine dv 130 (mkE ((129, I z2.2.2.2.2.2) :: ((128, .own 64 0) :: (s_0.append s_1))) o_0 149) (addrOE 42 26 4 64 0 false a25 .i64 z2.2.2.2.1 z2.2.2.2.2.2) (fun x48 => ?_)
    refine dg 4 (d_0.append ((some 130, qe (.oa 64 0 x48 0)) :: [(some 131, qe (.oa 64 0 x48 3))])) ?_
    refine dv 132 (mkE ((131, .oa 64 0 x48 3) :: ((130, .oa 64 0 x48 0) :: ((129, I z2.2.2.2.2.2) :: ((128, .own 64 0) :: (s_0.append s_1))))) o_0 149) (loadOE 3 64 0 x48 3 26 4 1 false false a25 (fun q : S25 => I q.f3) z2.2.2.2.1) (fun x49 => ?_)
    refine dg 7 (d_0.append ((some 130, qe (.oa 64 0 x48 0)) :: ((some 131, qe (.oa 64 0 x48 3)) :: ((some 132, qe (I x49.f3)) :: d_1)))) ?_
    refine dv 135 (mkE ((134, I z2.2.2.2.2.2) :: ((133, .own 80 0) :: (s_0.append s_1))) o_0 149) (addrOE 42 26 4 80 0 false a25 .i64 z2.2.2.2.2.1 z2.2.2.2.2.2) (fun x50 => ?_)
    refine dg 9 (d_0.append ((some 130, qe (.oa 64 0 x48 0)) :: ((some 131, qe (.oa 64 0 x48 3)) :: ((some 132, qe (I x49.f3)) :: (d_1.append ((some 135, qe (.oa 80 0 x50 0)) :: [(some 136, qe (.oa 80 0 x50 3))])))))) ?_
    refine dv 137 (mkE ((136, .oa 80 0 x50 3) :: ((135, .oa 80 0 x50 0) :: ((134, I z2.2.2.2.2.2) :: ((133, .own 80 0) :: (s_0.append s_1))))) o_0 149) (loadOE 3 80 0 x50 3 26 4 1 false false a25 (fun q : S25 => I q.f3) z2.2.2.2.2.1) (fun x51 => ?_)
    refine dg 11 (d_0.append ((some 130, qe (.oa 64 0 x48 0)) :: ((some 131, qe (.oa 64 0 x48 3)) :: ((some 132, qe (I x49.f3)) :: (d_1.append ((some 135, qe (.oa 80 0 x50 0)) :: ((some 136, qe (.oa 80 0 x50 3)) :: ((some 137, qe (I x51.f3)) :: [(some 138, qe (I (addI .i64 x49.f3 x51.f3)))])))))))) ?_
    refine dv 139 (mkE ((138, I (addI .i64 x49.f3 x51.f3)) :: ((137, I x51.f3) :: ((136, .oa 80 0 x50 3) :: ((135, .oa 80 0 x50 0) :: ((134, I z2.2.2.2.2.2) :: ((133, .own 80 0) :: ((132, I x49.f3) :: ((131, .oa 64 0 x48 3) :: ((130, .oa 64 0 x48 0) :: ((129, I z2.2.2.2.2.2) :: ((128, .own 64 0) :: (s_0.append s_1)))))))))))) o_0 149) (addrOE 42 26 4 64 0 false a25 .i64 z2.2.2.2.1 z2.2.2.2.2.2) (fun x52 => ?_)
    refine dg 13 (d_0.append ((some 130, qe (.oa 64 0 x48 0)) :: ((some 131, qe (.oa 64 0 x48 3)) :: ((some 132, qe (I x49.f3)) :: (d_1.append ((some 135, qe (.oa 80 0 x50 0)) :: ((some 136, qe (.oa 80 0 x50 3)) :: ((some 137, qe (I x51.f3)) :: ((some 138, qe (I (addI .i64 x49.f3 x51.f3))) :: ((some 139, qe (.oa 64 0 x52 0)) :: [(some 140, qe (.oa 64 0 x52 3))])))))))))) ?_
    refine de (mkE ((140, .oa 64 0 x52 3) :: ((139, .oa 64 0 x52 0) :: ((138, I (addI .i64 x49.f3 x51.f3)) :: ((137, I x51.f3) :: ((136, .oa 80 0 x50 3) :: ((135, .oa 80 0 x50 0) :: ((134, I z2.2.2.2.2.2) :: ((133, .own 80 0) :: ((132, I x49.f3) :: ((131, .oa 64 0 x48 3) :: ((130, .oa 64 0 x48 0) :: ((129, I z2.2.2.2.2.2) :: ((128, .own 64 0) :: (s_0.append s_1)))))))))))))) o_0 149) ?_
    refine mo none (stO 26 4 64 0 x52 3 a25 z2.2.2.2.1 [] [I (addI .i64 x49.f3 x51.f3)] (I (addI .i64 x49.f3 x51.f3)) (fun q : S25 => (S25.mk q.f0 q.f1 q.f2 (addI .i64 x49.f3 x51.f3))) 3 (.tmp 140) (.tmp 138) 1) (fun x53 => ?_)
    refine se (mkE (s_0.append ((124, I (lenL y46.2.2.2.2.2.1)) :: [(125, I z2.2.2.2.2.2)])) [(40, RR 3 1 I z2.1 0 false), (48, RR 3 1 I z2.2.1 0 false), (56, RR 26 4 a25 z2.2.2.1 0 false), (64, RR 26 4 a25 (List.set z2.2.2.2.1 x52 (S25.mk x53.f0 x53.f1 x53.f2 (addI .i64 x49.f3 x51.f3))) 0 false), (80, RR 26 4 a25 z2.2.2.2.2.1 0 false)] 149) ?_
    refine pB ?_
    refine pN ?_
    refine pS ?_
    refine gR 22 (rg Tryz.f60 22) ?_
    refine se (mkE (s_0.append ((124, I (lenL y46.2.2.2.2.2.1)) :: [(125, I (addI .i64 z2.2.2.2.2.2 1))])) [(40, RR 3 1 I z2.1 0 false), (48, RR 3 1 I z2.2.1 0 false), (56, RR 26 4 a25 z2.2.2.1 0 false), (64, RR 26 4 a25 (List.set z2.2.2.2.1 x52 (S25.mk x53.f0 x53.f1 x53.f2 (addI .i64 x49.f3 x51.f3))) 0 false), (80, RR 26 4 a25 z2.2.2.2.2.1 0 false)] 149) ?_
    exact pL
  · refine gX 4 ?_
    exact pL
noncomputable def L60_5 (p1_c0 : ByteArray) (p1_c1 : Int) (p1_c2 : Int) (p1_c3 : (List S64)) (p1_c4 : ByteArray) (p1_c5 : Int) (p1_c6 : Int) (p1_c7 : Int) (p1_c8 : Int) (p1_c9 : Int) (z0 : ((List Int) × (List Int) × (List S25) × (List S25) × Int)) : Option (((List Int) × (List Int) × (List S25) × (List S25) × Int) ⊕ (Int × Bool × (List Int) × (List Int) × (List S25) × (List S25))) := (bif (ltI (addI .i64 z0.2.2.2.2 1) (lenL z0.2.1)) then ((iter (L60_9 p1_c0 p1_c1 p1_c2 p1_c3 p1_c4 p1_c5 p1_c6 p1_c7 p1_c8 p1_c9 z0) (z0.1, z0.2.1, z0.2.2.1, z0.2.2.2.1, [], 0)).bind fun y46 => ((T82 y46.2.2.2.2.2.2 y46.2.2.2.2.2.1).bind fun x47 => (bif x47 then (bif (ltI 0 (lenL y46.2.2.2.2.2.2)) then ((iter (L60_19 p1_c0 p1_c1 p1_c2 p1_c3 p1_c4 p1_c5 p1_c6 p1_c7 p1_c8 p1_c9 z0 y46) (y46.2.2.1, y46.2.2.2.1, y46.2.2.2.2.1, y46.2.2.2.2.2.1, y46.2.2.2.2.2.2, 0)).bind fun y54 => (some (.inl (y54.2.2.1, y54.2.2.2.1, y54.2.2.2.2.1, y54.2.2.2.2.2.1, (addI .i64 z0.2.2.2.2 1))))) else ((appO 32 y46.2.2.2.2.1 y46.2.2.2.2.2.1).bind fun x55 => (some (.inl (y46.2.2.1, y46.2.2.2.1, x55, y46.2.2.2.2.2.2, (addI .i64 z0.2.2.2.2 1)))))) else ((appO 32 y46.2.2.2.2.1 y46.2.2.2.2.2.1).bind fun x56 => (some (.inl (y46.2.2.1, y46.2.2.2.1, x56, y46.2.2.2.2.2.2, (addI .i64 z0.2.2.2.2 1)))))))) else (some (.inr (z0.2.2.2.2, (ltI (addI .i64 z0.2.2.2.2 1) (lenL z0.2.1)), z0.1, z0.2.1, z0.2.2.1, z0.2.2.2.1))))
theorem L60_5_ok (C : Callee) (h61 : ∀ (p0 : Int) (p1 : Int) (p2_c0 : ByteArray) (p2_c1 : Int) (p2_c2 : Int) (p2_c3 : (List S64)) (p3_c0 : ByteArray) (p3_c1 : Int) (p3_c2 : Int) (p3_c3 : Int) (p3_c4 : Int) (p3_c5 : Int), C 61 [I p0, I p1, .ia [S p2_c0, I p2_c1, I p2_c2, LL a64 p2_c3] 0, .ia [S p3_c0, I p3_c1, I p3_c2, I p3_c3, I p3_c4, I p3_c5] 0] = (T61 p0 p1 p2_c0 p2_c1 p2_c2 p2_c3 p3_c0 p3_c1 p3_c2 p3_c3 p3_c4 p3_c5).map B) (h82 : ∀ (p0 : (List S25)) (p1 : (List S25)), C 82 [LL a25 p0, LL a25 p1, .fn 83 []] = (T82 p0 p1).map B) (p1_c0 : ByteArray) (p1_c1 : Int) (p1_c2 : Int) (p1_c3 : (List S64)) (p1_c4 : ByteArray) (p1_c5 : Int) (p1_c6 : Int) (p1_c7 : Int) (p1_c8 : Int) (p1_c9 : Int) (z0 : ((List Int) × (List Int) × (List S25) × (List S25) × Int)) : runs Tryz.prog C (cfg.fn 60) (finLoop ((cfg.fn 60).keep 5) ((cfg.fn 60).al 5)) [] (execA Tryz.prog C (cfg.fn 60) (nr Tryz.f60 [false, false, true, false, true, true, true, true]) ((fun z0 : ((List Int) × (List Int) × (List S25) × (List S25) × Int) => (mkE [(1, .fn 61 [.ia [S p1_c0, I p1_c1, I p1_c2, LL a64 p1_c3] 0, .ia [S p1_c4, I p1_c5, I p1_c6, I p1_c7, I p1_c8, I p1_c9] 0]), (5, .own 40 0), (6, .own 48 0), (7, .own 56 0), (8, .own 64 0), (9, I z0.2.2.2.2)] [(40, RR 3 1 I z0.1 0 false), (48, RR 3 1 I z0.2.1 0 false), (56, RR 26 4 a25 z0.2.2.1 0 false), (64, RR 26 4 a25 z0.2.2.2.1 0 false)] 149)) z0)) = (L60_5 p1_c0 p1_c1 p1_c2 p1_c3 p1_c4 p1_c5 p1_c6 p1_c7 p1_c8 p1_c9 z0).map (Sum.elim (fun z => .inl ((fun z0 : ((List Int) × (List Int) × (List S25) × (List S25) × Int) => (mkE [(1, .fn 61 [.ia [S p1_c0, I p1_c1, I p1_c2, LL a64 p1_c3] 0, .ia [S p1_c4, I p1_c5, I p1_c6, I p1_c7, I p1_c8, I p1_c9] 0]), (5, .own 40 0), (6, .own 48 0), (7, .own 56 0), (8, .own 64 0), (9, I z0.2.2.2.2)] [(40, RR 3 1 I z0.1 0 false), (48, RR 3 1 I z0.2.1 0 false), (56, RR 26 4 a25 z0.2.2.1 0 false), (64, RR 26 4 a25 z0.2.2.2.1 0 false)] 149)) z)) (fun x => .inr ((fun (x : (Int × Bool × (List Int) × (List Int) × (List S25) × (List S25))) => (.exit 0, (mkE [(1, .fn 61 [.ia [S p1_c0, I p1_c1, I p1_c2, LL a64 p1_c3] 0, .ia [S p1_c4, I p1_c5, I p1_c6, I p1_c7, I p1_c8, I p1_c9] 0]), (5, .own 40 0), (6, .own 48 0), (7, .own 56 0), (8, .own 64 0), (9, I x.1), (23, B x.2.1)] [(40, RR 3 1 I x.2.2.1 0 false), (48, RR 3 1 I x.2.2.2.1 0 false), (56, RR 26 4 a25 x.2.2.2.2.1 0 false), (64, RR 26 4 a25 x.2.2.2.2.2 0 false)] 149))) x))) := by
  unfold L60_5
  let s_0 : List (Nat × AV) := [(1, .fn 61 [.ia [S p1_c0, I p1_c1, I p1_c2, LL a64 p1_c3] 0, .ia [S p1_c4, I p1_c5, I p1_c6, I p1_c7, I p1_c8, I p1_c9] 0]), (5, .own 40 0), (6, .own 48 0), (7, .own 56 0), (8, .own 64 0), (9, I z0.2.2.2.2)]
  let s_1 : List (Nat × AV) := [(1, .fn 61 [.ia [S p1_c0, I p1_c1, I p1_c2, LL a64 p1_c3] 0, .ia [S p1_c4, I p1_c5, I p1_c6, I p1_c7, I p1_c8, I p1_c9] 0]), (5, .own 40 0), (6, .own 48 0)]
  let o_0 : List (Nat × AObj) := [(40, RR 3 1 I z0.1 0 false), (48, RR 3 1 I z0.2.1 0 false), (56, RR 26 4 a25 z0.2.2.1 0 false), (64, RR 26 4 a25 z0.2.2.2.1 0 false)]
  refine gS 7 ?_
  refine gS 0 ?_
  refine gR 5 (rg Tryz.f60 5) ?_
  refine sg 3 (mkE ((21, .own 48 0) :: ((20, I (addI .i64 z0.2.2.2.2 1)) :: ((19, I z0.2.2.2.2) :: s_0))) o_0 149) ?_
  refine eo 22 (I (lenL z0.2.1)) (lenOE 102 3 1 I z0.2.1) ?_
  refine se (mkE (s_0.append [(23, B (ltI (addI .i64 z0.2.2.2.2 1) (lenL z0.2.1)))]) o_0 149) ?_
  refine pN ?_
  refine pS ?_
  refine gC 23 (ltI (addI .i64 z0.2.2.2.2 1) (lenL z0.2.1)) ?_ ?_
  · refine gK ?_
    refine pN ?_
    refine pS ?_
    refine gS 6 ?_
    refine gB 1 ?_
    refine gS 8 ?_
    refine gR 7 (rg Tryz.f60 7) ?_
    refine se (mkE (s_0.append [(10, .nils)]) o_0 149) ?_
    refine pN ?_
    refine pS ?_
    refine gS 16 ?_
    refine gS 9 ?_
    refine gR 8 (rg Tryz.f60 8) ?_
    refine se (mkE (s_0.append ((10, .nils) :: [(11, I 0)])) o_0 149) ?_
    refine pN ?_
    refine pS ?_
    refine gB 2 ?_
    refine lo [(1, none), (5, some (3, 1)), (6, some (3, 1)), (7, some (26, 4)), (8, some (26, 4)), (9, none), (10, some (26, 4)), (11, none)] [] (L60_9 p1_c0 p1_c1 p1_c2 p1_c3 p1_c4 p1_c5 p1_c6 p1_c7 p1_c8 p1_c9 z0) (fun z1 : ((List Int) × (List Int) × (List S25) × (List S25) × (List S25) × Int) => (mkE (s_0.append ((10, .own 80 0) :: [(11, I z1.2.2.2.2.2)])) [(40, RR 3 1 I z1.1 0 false), (48, RR 3 1 I z1.2.1 0 false), (56, RR 26 4 a25 z1.2.2.1 0 false), (64, RR 26 4 a25 z1.2.2.2.1 0 false), (80, RR 26 4 a25 z1.2.2.2.2.1 0 false)] 149)) (fun (x : (Int × Bool × (List Int) × (List Int) × (List S25) × (List S25) × (List S25))) => (.exit 2, (mkE (s_0.append ((10, .own 80 0) :: ((11, I x.1) :: [(30, B x.2.1)]))) [(40, RR 3 1 I x.2.2.1 0 false), (48, RR 3 1 I x.2.2.2.1 0 false), (56, RR 26 4 a25 x.2.2.2.2.1 0 false), (64, RR 26 4 a25 x.2.2.2.2.2.1 0 false), (80, RR 26 4 a25 x.2.2.2.2.2.2 0 false)] 149))) (z0.1, z0.2.1, z0.2.2.1, z0.2.2.2.1, [], 0) (fun z => L60_9_ok C h61 p1_c0 p1_c1 p1_c2 p1_c3 p1_c4 p1_c5 p1_c6 p1_c7 p1_c8 p1_c9 z0 z) ?_
    intro y46
    refine pH ?_
    refine pN ?_
    refine pS ?_
    refine gS 17 ?_
    refine gR 16 (rg Tryz.f60 16) ?_
    refine sg 2 (mkE ((115, .own 64 0) :: ((114, .own 80 0) :: (s_0.append ((10, .own 80 0) :: ((11, I y46.1) :: [(30, B y46.2.1)]))))) [(40, RR 3 1 I y46.2.2.1 0 false), (48, RR 3 1 I y46.2.2.2.1 0 false), (56, RR 26 4 a25 y46.2.2.2.2.1 0 false), (64, RR 26 4 a25 y46.2.2.2.2.2.1 0 false), (80, RR 26 4 a25 y46.2.2.2.2.2.2 0 false)] 149) ?_
    refine co 116 [80, 64] (h82 y46.2.2.2.2.2.2 y46.2.2.2.2.2.1) (fun x47 => ?_)
    refine se (mkE (s_0.append ((10, .own 80 0) :: [(13, B x47)])) [(40, RR 3 1 I y46.2.2.1 0 false), (48, RR 3 1 I y46.2.2.2.1 0 false), (56, RR 26 4 a25 y46.2.2.2.2.1 0 false), (64, RR 26 4 a25 y46.2.2.2.2.2.1 0 false), (80, RR 26 4 a25 y46.2.2.2.2.2.2 0 false)] 149) ?_
    refine pN ?_
    refine pS ?_
    refine gS 23 ?_
    refine gS 0 ?_
    refine gR 17 (rg Tryz.f60 17) ?_
    refine sg 2 (mkE ((118, B x47) :: ((117, B x47) :: (s_0.append ((10, .own 80 0) :: [(13, B x47)])))) [(40, RR 3 1 I y46.2.2.1 0 false), (48, RR 3 1 I y46.2.2.2.1 0 false), (56, RR 26 4 a25 y46.2.2.2.2.1 0 false), (64, RR 26 4 a25 y46.2.2.2.2.2.1 0 false), (80, RR 26 4 a25 y46.2.2.2.2.2.2 0 false)] 149) ?_
    refine sb 118 x47 ?_ ?_
    · refine sg 3 (mkE ((119, .own 80 0) :: ((118, B true) :: ((118, B x47) :: ((117, B x47) :: (s_0.append ((10, .own 80 0) :: [(13, B x47)])))))) [(40, RR 3 1 I y46.2.2.1 0 false), (48, RR 3 1 I y46.2.2.2.1 0 false), (56, RR 26 4 a25 y46.2.2.2.2.1 0 false), (64, RR 26 4 a25 y46.2.2.2.2.2.1 0 false), (80, RR 26 4 a25 y46.2.2.2.2.2.2 0 false)] 149) ?_
      refine eo 120 (I (lenL y46.2.2.2.2.2.2)) (lenOE 42 26 4 a25 y46.2.2.2.2.2.2) ?_
      refine se (mkE (s_0.append ((10, .own 80 0) :: [(122, B (ltI 0 (lenL y46.2.2.2.2.2.2)))])) [(40, RR 3 1 I y46.2.2.1 0 false), (48, RR 3 1 I y46.2.2.2.1 0 false), (56, RR 26 4 a25 y46.2.2.2.2.1 0 false), (64, RR 26 4 a25 y46.2.2.2.2.2.1 0 false), (80, RR 26 4 a25 y46.2.2.2.2.2.2 0 false)] 149) ?_
      refine pN ?_
      refine pS ?_
      refine gC 122 (ltI 0 (lenL y46.2.2.2.2.2.2)) ?_ ?_
      · refine gS 0 ?_
        refine gS 19 ?_
        refine gR 18 (rg Tryz.f60 18) ?_
        refine sg 1 (mkE ((123, .own 64 0) :: (s_0.append ((10, .own 80 0) :: [(122, B (ltI 0 (lenL y46.2.2.2.2.2.2)))]))) [(40, RR 3 1 I y46.2.2.1 0 false), (48, RR 3 1 I y46.2.2.2.1 0 false), (56, RR 26 4 a25 y46.2.2.2.2.1 0 false), (64, RR 26 4 a25 y46.2.2.2.2.2.1 0 false), (80, RR 26 4 a25 y46.2.2.2.2.2.2 0 false)] 149) ?_
        refine eo 124 (I (lenL y46.2.2.2.2.2.1)) (lenOE 42 26 4 a25 y46.2.2.2.2.2.1) ?_
        refine se (mkE (s_0.append ((10, .own 80 0) :: ((124, I (lenL y46.2.2.2.2.2.1)) :: [(125, I 0)]))) [(40, RR 3 1 I y46.2.2.1 0 false), (48, RR 3 1 I y46.2.2.2.1 0 false), (56, RR 26 4 a25 y46.2.2.2.2.1 0 false), (64, RR 26 4 a25 y46.2.2.2.2.2.1 0 false), (80, RR 26 4 a25 y46.2.2.2.2.2.2 0 false)] 149) ?_
        refine pN ?_
        refine pS ?_
        refine gB 4 ?_
        refine lo [(1, none), (5, some (3, 1)), (6, some (3, 1)), (7, some (26, 4)), (8, some (26, 4)), (9, none), (10, some (26, 4)), (124, none), (125, none)] [] (L60_19 p1_c0 p1_c1 p1_c2 p1_c3 p1_c4 p1_c5 p1_c6 p1_c7 p1_c8 p1_c9 z0 y46) (fun z2 : ((List Int) × (List Int) × (List S25) × (List S25) × (List S25) × Int) => (mkE (s_0.append ((10, .own 80 0) :: ((124, I (lenL y46.2.2.2.2.2.1)) :: [(125, I z2.2.2.2.2.2)]))) [(40, RR 3 1 I z2.1 0 false), (48, RR 3 1 I z2.2.1 0 false), (56, RR 26 4 a25 z2.2.2.1 0 false), (64, RR 26 4 a25 z2.2.2.2.1 0 false), (80, RR 26 4 a25 z2.2.2.2.2.1 0 false)] 149)) (fun (x : (Int × Bool × (List Int) × (List Int) × (List S25) × (List S25) × (List S25))) => (.exit 4, (mkE (s_0.append ((10, .own 80 0) :: ((124, I (lenL y46.2.2.2.2.2.1)) :: ((125, I x.1) :: [(126, B x.2.1)])))) [(40, RR 3 1 I x.2.2.1 0 false), (48, RR 3 1 I x.2.2.2.1 0 false), (56, RR 26 4 a25 x.2.2.2.2.1 0 false), (64, RR 26 4 a25 x.2.2.2.2.2.1 0 false), (80, RR 26 4 a25 x.2.2.2.2.2.2 0 false)] 149))) (y46.2.2.1, y46.2.2.2.1, y46.2.2.2.2.1, y46.2.2.2.2.2.1, y46.2.2.2.2.2.2, 0) (fun z => L60_19_ok C p1_c0 p1_c1 p1_c2 p1_c3 p1_c4 p1_c5 p1_c6 p1_c7 p1_c8 p1_c9 z0 y46 z) ?_
        intro y54
        refine pH ?_
        refine pN ?_
        refine pS ?_
        refine gX 1 ?_
        refine pF ?_
        refine pO ?_
        refine pH ?_
        refine pN ?_
        refine pS ?_
        refine gR 6 (rg Tryz.f60 6) ?_
        refine se (mkE (s_1.append ((7, .own 56 0) :: ((8, .own 64 0) :: [(9, I (addI .i64 z0.2.2.2.2 1))]))) [(40, RR 3 1 I y54.2.2.1 0 false), (48, RR 3 1 I y54.2.2.2.1 0 false), (56, RR 26 4 a25 y54.2.2.2.2.1 0 false), (64, RR 26 4 a25 y54.2.2.2.2.2.1 0 false), (80, RR 26 4 a25 y54.2.2.2.2.2.2 0 false)] 149) ?_
        exact pL
      · refine gK ?_
        refine pN ?_
        refine pS ?_
        refine gR 23 (rg Tryz.f60 23) ?_
        refine sg 2 (mkE ((143, .own 64 0) :: ((142, .own 56 0) :: (s_0.append ((10, .own 80 0) :: [(122, B (ltI 0 (lenL y46.2.2.2.2.2.2)))])))) [(40, RR 3 1 I y46.2.2.1 0 false), (48, RR 3 1 I y46.2.2.2.1 0 false), (56, RR 26 4 a25 y46.2.2.2.2.1 0 false), (64, RR 26 4 a25 y46.2.2.2.2.2.1 0 false), (80, RR 26 4 a25 y46.2.2.2.2.2.2 0 false)] 149) ?_
        refine mo (some 144) (apO 42 26 4 32 56 a25 0 [64] (y := .own 64 0) (l2 := y46.2.2.2.2.2.1)) (fun x55 => ?_)
        refine se (mkE (s_1.append ((7, .own 56 1) :: ((8, .own 80 0) :: [(9, I z0.2.2.2.2)]))) [(40, RR 3 1 I y46.2.2.1 0 false), (48, RR 3 1 I y46.2.2.2.1 0 false), (56, RR 26 4 a25 x55 1 false), (80, RR 26 4 a25 y46.2.2.2.2.2.2 0 false)] 149) ?_
        refine pB ?_
        refine pN ?_
        refine pS ?_
        refine gR 6 (rg Tryz.f60 6) ?_
        refine se (mkE (s_1.append ((7, .own 56 1) :: ((8, .own 80 0) :: [(9, I (addI .i64 z0.2.2.2.2 1))]))) [(40, RR 3 1 I y46.2.2.1 0 false), (48, RR 3 1 I y46.2.2.2.1 0 false), (56, RR 26 4 a25 x55 1 false), (80, RR 26 4 a25 y46.2.2.2.2.2.2 0 false)] 149) ?_
        exact pL
    · refine se (mkE (s_0.append ((10, .own 80 0) :: [(122, B false)])) [(40, RR 3 1 I y46.2.2.1 0 false), (48, RR 3 1 I y46.2.2.2.1 0 false), (56, RR 26 4 a25 y46.2.2.2.2.1 0 false), (64, RR 26 4 a25 y46.2.2.2.2.2.1 0 false), (80, RR 26 4 a25 y46.2.2.2.2.2.2 0 false)] 149) ?_
      refine pN ?_
      refine pS ?_
      refine gF (.tmp 122) ?_
      refine gK ?_
      refine pN ?_
      refine pS ?_
      refine gR 23 (rg Tryz.f60 23) ?_
      refine sg 2 (mkE ((143, .own 64 0) :: ((142, .own 56 0) :: (s_0.append ((10, .own 80 0) :: [(122, B false)])))) [(40, RR 3 1 I y46.2.2.1 0 false), (48, RR 3 1 I y46.2.2.2.1 0 false), (56, RR 26 4 a25 y46.2.2.2.2.1 0 false), (64, RR 26 4 a25 y46.2.2.2.2.2.1 0 false), (80, RR 26 4 a25 y46.2.2.2.2.2.2 0 false)] 149) ?_
      refine mo (some 144) (apO 42 26 4 32 56 a25 0 [64] (y := .own 64 0) (l2 := y46.2.2.2.2.2.1)) (fun x56 => ?_)
      refine se (mkE (s_1.append ((7, .own 56 1) :: ((8, .own 80 0) :: [(9, I z0.2.2.2.2)]))) [(40, RR 3 1 I y46.2.2.1 0 false), (48, RR 3 1 I y46.2.2.2.1 0 false), (56, RR 26 4 a25 x56 1 false), (80, RR 26 4 a25 y46.2.2.2.2.2.2 0 false)] 149) ?_
      refine pB ?_
      refine pN ?_
      refine pS ?_
      refine gR 6 (rg Tryz.f60 6) ?_
      refine se (mkE (s_1.append ((7, .own 56 1) :: ((8, .own 80 0) :: [(9, I (addI .i64 z0.2.2.2.2 1))]))) [(40, RR 3 1 I y46.2.2.1 0 false), (48, RR 3 1 I y46.2.2.2.1 0 false), (56, RR 26 4 a25 x56 1 false), (80, RR 26 4 a25 y46.2.2.2.2.2.2 0 false)] 149) ?_
      exact pL
  · refine gX 0 ?_
    exact pL
noncomputable def T60 (p0 : (List S25)) (p1_c0 : ByteArray) (p1_c1 : Int) (p1_c2 : Int) (p1_c3 : (List S64)) (p1_c4 : ByteArray) (p1_c5 : Int) (p1_c6 : Int) (p1_c7 : Int) (p1_c8 : Int) (p1_c9 : Int) : Option (List S25) := ((T79 p0).bind fun x1 => ((T79_1 p0).bind fun x2 => ((iter (L60_5 p1_c0 p1_c1 p1_c2 p1_c3 p1_c4 p1_c5 p1_c6 p1_c7 p1_c8 p1_c9) (x1, x2, [], [], 0)).bind fun y57 => ((appO 32 y57.2.2.2.2.1 y57.2.2.2.2.2).bind fun x58 => (some x58)))))
theorem B60 (C : Callee) (h61 : ∀ (p0 : Int) (p1 : Int) (p2_c0 : ByteArray) (p2_c1 : Int) (p2_c2 : Int) (p2_c3 : (List S64)) (p3_c0 : ByteArray) (p3_c1 : Int) (p3_c2 : Int) (p3_c3 : Int) (p3_c4 : Int) (p3_c5 : Int), C 61 [I p0, I p1, .ia [S p2_c0, I p2_c1, I p2_c2, LL a64 p2_c3] 0, .ia [S p3_c0, I p3_c1, I p3_c2, I p3_c3, I p3_c4, I p3_c5] 0] = (T61 p0 p1 p2_c0 p2_c1 p2_c2 p2_c3 p3_c0 p3_c1 p3_c2 p3_c3 p3_c4 p3_c5).map B) (h79 : ∀ (p0 : (List S25)), C 79 [LL a25 p0, .fn 80 []] = (T79 p0).map (fun l => AV.fr 3 1 (List.map I l))) (h79_1 : ∀ (p0 : (List S25)), C 79 [LL a25 p0, .fn 81 []] = (T79_1 p0).map (fun l => AV.fr 3 1 (List.map I l))) (h82 : ∀ (p0 : (List S25)) (p1 : (List S25)), C 82 [LL a25 p0, LL a25 p1, .fn 83 []] = (T82 p0 p1).map B) (p0 : (List S25)) (p1_c0 : ByteArray) (p1_c1 : Int) (p1_c2 : Int) (p1_c3 : (List S64)) (p1_c4 : ByteArray) (p1_c5 : Int) (p1_c6 : Int) (p1_c7 : Int) (p1_c8 : Int) (p1_c9 : Int) : runs Tryz.prog C (cfg.fn 60) (finFn Tryz.prog (cfg.fn 60).byval Tryz.f60) [] (execA Tryz.prog C (cfg.fn 60) (nr Tryz.f60 []) (frame0 [LL a25 p0, .fn 61 [.ia [S p1_c0, I p1_c1, I p1_c2, LL a64 p1_c3] 0, .ia [S p1_c4, I p1_c5, I p1_c6, I p1_c7, I p1_c8, I p1_c9] 0]] 149 false)) = (T60 p0 p1_c0 p1_c1 p1_c2 p1_c3 p1_c4 p1_c5 p1_c6 p1_c7 p1_c8 p1_c9).map (fun l => AV.fr 26 4 (List.map a25 l)) := by
  unfold T60
  let s_0 : List (Nat × AV) := [(1, .fn 61 [.ia [S p1_c0, I p1_c1, I p1_c2, LL a64 p1_c3] 0, .ia [S p1_c4, I p1_c5, I p1_c6, I p1_c7, I p1_c8, I p1_c9] 0])]
  refine gS 1 ?_
  refine gR 0 (rg Tryz.f60 0) ?_
  refine se (mkE ((0, LL a25 p0) :: s_0) [] 149) ?_
  refine pN ?_
  refine pS ?_
  refine gS 2 ?_
  refine gR 1 (rg Tryz.f60 1) ?_
  refine sg 1 (mkE ((15, LL a25 p0) :: ((0, LL a25 p0) :: s_0)) [] 149) ?_
  refine co 16 [] (h79 p0) (fun x1 => ?_)
  refine se (mkE ((0, LL a25 p0) :: (s_0.append [(5, .own 128 0)])) [(128, RR 3 1 I x1 0 false)] 149) ?_
  refine pN ?_
  refine pS ?_
  refine gS 3 ?_
  refine gR 2 (rg Tryz.f60 2) ?_
  refine sg 1 (mkE ((17, LL a25 p0) :: ((0, LL a25 p0) :: (s_0.append [(5, .own 128 0)]))) [(128, RR 3 1 I x1 0 false)] 149) ?_
  refine co 18 [] (h79_1 p0) (fun x2 => ?_)
  refine se (mkE (s_0.append ((5, .own 128 0) :: [(6, .own 144 0)])) [(128, RR 3 1 I x1 0 false), (144, RR 3 1 I x2 0 false)] 149) ?_
  refine pN ?_
  refine pS ?_
  refine gS 4 ?_
  refine gR 3 (rg Tryz.f60 3) ?_
  refine se (mkE (s_0.append ((5, .own 128 0) :: ((6, .own 144 0) :: ((7, .nils) :: [(8, .nils)])))) [(128, RR 3 1 I x1 0 false), (144, RR 3 1 I x2 0 false)] 149) ?_
  refine pN ?_
  refine pS ?_
  refine gS 24 ?_
  refine gS 5 ?_
  refine gR 4 (rg Tryz.f60 4) ?_
  refine se (mkE (s_0.append ((5, .own 128 0) :: ((6, .own 144 0) :: ((7, .nils) :: ((8, .nils) :: [(9, I 0)]))))) [(128, RR 3 1 I x1 0 false), (144, RR 3 1 I x2 0 false)] 149) ?_
  refine pN ?_
  refine pS ?_
  refine gB 0 ?_
  refine lo [(1, none), (5, some (3, 1)), (6, some (3, 1)), (7, some (26, 4)), (8, some (26, 4)), (9, none)] [] (L60_5 p1_c0 p1_c1 p1_c2 p1_c3 p1_c4 p1_c5 p1_c6 p1_c7 p1_c8 p1_c9) (fun z0 : ((List Int) × (List Int) × (List S25) × (List S25) × Int) => (mkE (s_0.append ((5, .own 40 0) :: ((6, .own 48 0) :: ((7, .own 56 0) :: ((8, .own 64 0) :: [(9, I z0.2.2.2.2)]))))) [(40, RR 3 1 I z0.1 0 false), (48, RR 3 1 I z0.2.1 0 false), (56, RR 26 4 a25 z0.2.2.1 0 false), (64, RR 26 4 a25 z0.2.2.2.1 0 false)] 149)) (fun (x : (Int × Bool × (List Int) × (List Int) × (List S25) × (List S25))) => (.exit 0, (mkE (s_0.append ((5, .own 40 0) :: ((6, .own 48 0) :: ((7, .own 56 0) :: ((8, .own 64 0) :: ((9, I x.1) :: [(23, B x.2.1)])))))) [(40, RR 3 1 I x.2.2.1 0 false), (48, RR 3 1 I x.2.2.2.1 0 false), (56, RR 26 4 a25 x.2.2.2.2.1 0 false), (64, RR 26 4 a25 x.2.2.2.2.2 0 false)] 149))) (x1, x2, [], [], 0) (fun z => L60_5_ok C h61 h82 p1_c0 p1_c1 p1_c2 p1_c3 p1_c4 p1_c5 p1_c6 p1_c7 p1_c8 p1_c9 z) ?_
  intro y57
  refine pH ?_
  refine pN ?_
  refine pS ?_
  refine gS 0 ?_
  refine gR 24 (rg Tryz.f60 24) ?_
  refine sg 2 (mkE ((147, .own 64 0) :: ((146, .own 56 0) :: (s_0.append ((5, .own 40 0) :: ((6, .own 48 0) :: ((7, .own 56 0) :: ((8, .own 64 0) :: ((9, I y57.1) :: [(23, B y57.2.1)])))))))) [(40, RR 3 1 I y57.2.2.1 0 false), (48, RR 3 1 I y57.2.2.2.1 0 false), (56, RR 26 4 a25 y57.2.2.2.2.1 0 false), (64, RR 26 4 a25 y57.2.2.2.2.2 0 false)] 149) ?_
  refine mo (some 148) (apO 42 26 4 32 56 a25 0 [64] (y := .own 64 0) (l2 := y57.2.2.2.2.2)) (fun x58 => ?_)
  refine se (mkE [(4, .own 56 1)] [(56, RR 26 4 a25 x58 1 false)] 149) ?_
  refine pN ?_
  refine pS ?_
  refine gE ?_
  exact pL
theorem F60 (m : Nat) (hm : 5 ≤ m) (p0 : (List S25)) (p1_c0 : ByteArray) (p1_c1 : Int) (p1_c2 : Int) (p1_c3 : (List S64)) (p1_c4 : ByteArray) (p1_c5 : Int) (p1_c6 : Int) (p1_c7 : Int) (p1_c8 : Int) (p1_c9 : Int) : callA Tryz.prog cfg m 60 [LL a25 p0, .fn 61 [.ia [S p1_c0, I p1_c1, I p1_c2, LL a64 p1_c3] 0, .ia [S p1_c4, I p1_c5, I p1_c6, I p1_c7, I p1_c8, I p1_c9] 0]] = (T60 p0 p1_c0 p1_c1 p1_c2 p1_c3 p1_c4 p1_c5 p1_c6 p1_c7 p1_c8 p1_c9).map (fun l => AV.fr 26 4 (List.map a25 l)) := by
  obtain ⟨q, rfl⟩ : ∃ q, m = q + 1 := ⟨m - 1, by omega⟩
  exact (callA_body (fn := Tryz.f60) (c := body_ Tryz.f60) q _ (by kernel_rfl) (by kernel_rfl) (by kernel_rfl)).trans (B60 _ (fun p0 p1 p2_c0 p2_c1 p2_c2 p2_c3 p3_c0 p3_c1 p3_c2 p3_c3 p3_c4 p3_c5 => F61 q (by omega) p0 p1 p2_c0 p2_c1 p2_c2 p2_c3 p3_c0 p3_c1 p3_c2 p3_c3 p3_c4 p3_c5) (fun p0 => F79 q (by omega) p0) (fun p0 => F79_1 q (by omega) p0) (fun p0 p1 => F82 q (by omega) p0 p1) p0 p1_c0 p1_c1 p1_c2 p1_c3 p1_c4 p1_c5 p1_c6 p1_c7 p1_c8 p1_c9)

noncomputable def L33_3 (p0 : S31) (z0 : ((List S25) × Int)) : Option (((List S25) × Int) ⊕ (Int × Bool × (List S25))) := (bif (ltI z0.2 (lenL p0.f3)) then ((listAt p0.f3 z0.2).bind fun x1 => ((appO 32 z0.1 ([x1.f1] : List S25)).bind fun x2 => (some (.inl (x2, (addI .i64 z0.2 1)))))) else (some (.inr (z0.2, (ltI z0.2 (lenL p0.f3)), z0.1))))
theorem L33_3_ok (C : Callee) (p0 : S31) (z0 : ((List S25) × Int)) : runs Tryz.prog C (cfg.fn 33) (finLoop ((cfg.fn 33).keep 3) ((cfg.fn 33).al 3)) [] (execA Tryz.prog C (cfg.fn 33) (nr Tryz.f33 [false, false, true, false, true, true]) ((fun z0 : ((List S25) × Int) => (mkE [(1, .ba 8 0), (3, .own 24 0), (12, LL a64 p0.f3), (13, I (lenL p0.f3)), (14, I z0.2)] [(8, .box [S p0.f0, I p0.f1, I p0.f2, LL a64 p0.f3] false), (24, RR 26 4 a25 z0.1 0 false)] 49)) z0)) = (L33_3 p0 z0).map (Sum.elim (fun z => .inl ((fun z0 : ((List S25) × Int) => (mkE [(1, .ba 8 0), (3, .own 24 0), (12, LL a64 p0.f3), (13, I (lenL p0.f3)), (14, I z0.2)] [(8, .box [S p0.f0, I p0.f1, I p0.f2, LL a64 p0.f3] false), (24, RR 26 4 a25 z0.1 0 false)] 49)) z)) (fun x => .inr ((fun (x : (Int × Bool × (List S25))) => (.exit 0, (mkE [(1, .ba 8 0), (3, .own 24 0), (12, LL a64 p0.f3), (13, I (lenL p0.f3)), (14, I x.1), (15, B x.2.1)] [(8, .box [S p0.f0, I p0.f1, I p0.f2, LL a64 p0.f3] false), (24, RR 26 4 a25 x.2.2 0 false)] 49))) x))) := by
  unfold L33_3
  let s_0 : List (Nat × AV) := [(12, LL a64 p0.f3), (13, I (lenL p0.f3)), (14, I z0.2)]
  let o_0 : List (Nat × AObj) := [(8, .box [S p0.f0, I p0.f1, I p0.f2, LL a64 p0.f3] false)]
  refine gS 0 ?_
  refine gR 3 (rg Tryz.f33 3) ?_
  refine se (mkE ((1, .ba 8 0) :: ((3, .own 24 0) :: (s_0.append [(15, B (ltI z0.2 (lenL p0.f3)))]))) (o_0.append [(24, RR 26 4 a25 z0.1 0 false)]) 49) ?_
  refine pN ?_
  refine pS ?_
  refine gS 4 ?_
  refine gC 15 (ltI z0.2 (lenL p0.f3)) ?_ ?_
  · refine gK ?_
    refine pN ?_
    refine pS ?_
    refine gS 6 ?_
    refine gB 1 ?_
    refine gS 5 ?_
    refine gR 4 (rg Tryz.f33 4) ?_
    refine vo 16 (addrE 30 65 6 a64 .i64 p0.f3 z0.2) (fun x1 => ?_)
    refine se (mkE ((1, .ba 8 0) :: ((3, .own 24 0) :: ((5, .ba 40 0) :: s_0))) (o_0.append ((24, RR 26 4 a25 z0.1 0 false) :: [(40, .box [S x1.f0, I x1.f1.f0, I x1.f1.f1, I x1.f1.f2, I x1.f1.f3, I x1.f2] false)])) 49) ?_
    refine pN ?_
    refine pS ?_
    refine gR 5 (rg Tryz.f33 5) ?_
    refine sg 4 (mkE ((21, .own 168 0) :: ((20, a25 x1.f1) :: ((19, .ba 40 1) :: ((18, .own 24 0) :: ((1, .ba 8 0) :: ((3, .own 24 0) :: ((5, .ba 40 0) :: s_0))))))) ((168, RR 26 4 a25 ([x1.f1] : List S25) 0 false) :: (o_0.append ((24, RR 26 4 a25 z0.1 0 false) :: [(40, .box [S x1.f0, I x1.f1.f0, I x1.f1.f1, I x1.f1.f2, I x1.f1.f3, I x1.f2] false)]))) 49) ?_
    refine mo (some 22) (apO 42 26 4 32 24 a25 0 [168] (y := .own 168 0) (l2 := ([x1.f1] : List S25))) (fun x2 => ?_)
    refine se (mkE ((1, .ba 8 0) :: ((3, .own 24 1) :: s_0)) (o_0.append [(24, RR 26 4 a25 x2 1 false)]) 49) ?_
    refine pB ?_
    refine pN ?_
    refine pS ?_
    refine gR 6 (rg Tryz.f33 6) ?_
    refine se (mkE [(1, .ba 8 0), (3, .own 24 1), (12, LL a64 p0.f3), (13, I (lenL p0.f3)), (14, I (addI .i64 z0.2 1))] (o_0.append [(24, RR 26 4 a25 x2 1 false)]) 49) ?_
    exact pL
  · refine gX 0 ?_
    exact pL
noncomputable def L33_12 (p0 : S31) (y3 : (Int × Bool × (List S25))) (z1 : ((List S75) × Int)) (x4 : S64) (x5 : (List S25)) (z2 : ((List S75) × (List S25) × Int)) : Option (((List S75) × (List S25) × Int) ⊕ (Int × Bool × (List S75) × (List S25))) := (bif (ltI z2.2.2 (lenL x5)) then ((idxO (List.length z2.2.1) z2.2.2).bind fun x6 => ((getN z2.2.1 x6).bind fun x7 => ((appO 48 z2.1 ([(S75.mk x4.f0 x7)] : List S75)).bind fun x8 => (some (.inl (x8, z2.2.1, (addI .i64 z2.2.2 1))))))) else (some (.inr (z2.2.2, (ltI z2.2.2 (lenL x5)), z2.1, z2.2.1))))
theorem L33_12_ok (C : Callee) (p0 : S31) (y3 : (Int × Bool × (List S25))) (z1 : ((List S75) × Int)) (x4 : S64) (x5 : (List S25)) (z2 : ((List S75) × (List S25) × Int)) : runs Tryz.prog C (cfg.fn 33) (finLoop ((cfg.fn 33).keep 12) ((cfg.fn 33).al 12)) [] (execA Tryz.prog C (cfg.fn 33) (nr Tryz.f33 [false, false, true, true, false, false, true, true, false, false, true, false, true, true, true, true]) ((fun z2 : ((List S75) × (List S25) × Int) => (mkE [(1, .ba 8 0), (3, LL a25 y3.2.2), (6, .own 48 0), (8, .ba 64 0), (25, LL a64 p0.f3), (26, I (lenL p0.f3)), (27, I z1.2), (33, .own 264 0), (34, I (lenL x5)), (35, I z2.2.2)] [(8, .box [S p0.f0, I p0.f1, I p0.f2, LL a64 p0.f3] true), (48, RR 76 5 a75 z2.1 0 false), (64, .box [S x4.f0, I x4.f1.f0, I x4.f1.f1, I x4.f1.f2, I x4.f1.f3, I x4.f2] true), (264, RR 26 4 a25 z2.2.1 0 false)] 49)) z2)) = (L33_12 p0 y3 z1 x4 x5 z2).map (Sum.elim (fun z => .inl ((fun z2 : ((List S75) × (List S25) × Int) => (mkE [(1, .ba 8 0), (3, LL a25 y3.2.2), (6, .own 48 0), (8, .ba 64 0), (25, LL a64 p0.f3), (26, I (lenL p0.f3)), (27, I z1.2), (33, .own 264 0), (34, I (lenL x5)), (35, I z2.2.2)] [(8, .box [S p0.f0, I p0.f1, I p0.f2, LL a64 p0.f3] true), (48, RR 76 5 a75 z2.1 0 false), (64, .box [S x4.f0, I x4.f1.f0, I x4.f1.f1, I x4.f1.f2, I x4.f1.f3, I x4.f2] true), (264, RR 26 4 a25 z2.2.1 0 false)] 49)) z)) (fun x => .inr ((fun (x : (Int × Bool × (List S75) × (List S25))) => (.exit 4, (mkE [(1, .ba 8 0), (3, LL a25 y3.2.2), (6, .own 48 0), (8, .ba 64 0), (25, LL a64 p0.f3), (26, I (lenL p0.f3)), (27, I z1.2), (33, .own 264 0), (34, I (lenL x5)), (35, I x.1), (36, B x.2.1)] [(8, .box [S p0.f0, I p0.f1, I p0.f2, LL a64 p0.f3] true), (48, RR 76 5 a75 x.2.2.1 0 false), (64, .box [S x4.f0, I x4.f1.f0, I x4.f1.f1, I x4.f1.f2, I x4.f1.f3, I x4.f2] true), (264, RR 26 4 a25 x.2.2.2 0 false)] 49))) x))) := by
  unfold L33_12
  let s_0 : List (Nat × AV) := [(25, LL a64 p0.f3), (26, I (lenL p0.f3)), (27, I z1.2), (33, .own 264 0), (34, I (lenL x5))]
  let o_0 : List (Nat × AObj) := [(8, .box [S p0.f0, I p0.f1, I p0.f2, LL a64 p0.f3] true), (48, RR 76 5 a75 z2.1 0 false), (64, .box [S x4.f0, I x4.f1.f0, I x4.f1.f1, I x4.f1.f2, I x4.f1.f3, I x4.f2] true)]
  refine gS 0 ?_
  refine gR 12 (rg Tryz.f33 12) ?_
  refine se (mkE ((1, .ba 8 0) :: ((3, LL a25 y3.2.2) :: ((6, .own 48 0) :: ((8, .ba 64 0) :: (s_0.append ((35, I z2.2.2) :: [(36, B (ltI z2.2.2 (lenL x5)))])))))) (o_0.append [(264, RR 26 4 a25 z2.2.1 0 false)]) 49) ?_
  refine pN ?_
  refine pS ?_
  refine gS 13 ?_
  refine gC 36 (ltI z2.2.2 (lenL x5)) ?_ ?_
  · refine gK ?_
    refine pN ?_
    refine pS ?_
    refine gS 15 ?_
    refine gB 5 ?_
    refine gS 14 ?_
    refine gR 13 (rg Tryz.f33 13) ?_
    refine vo 37 (addrOE 42 26 4 264 0 false a25 .i64 z2.2.1 z2.2.2) (fun x6 => ?_)
    refine vo 38 (loadOE 26 264 0 x6 0 26 4 4 true false a25 (fun q : S25 => a25 q) z2.2.1) (fun x7 => ?_)
    refine se (mkE ((1, .ba 8 0) :: ((3, LL a25 y3.2.2) :: ((6, .own 48 0) :: ((8, .ba 64 0) :: ((10, .ba 80 0) :: (s_0.append [(35, I z2.2.2)])))))) (o_0.append ((80, .box [I x7.f0, I x7.f1, I x7.f2, I x7.f3] false) :: [(264, RR 26 4 a25 z2.2.1 0 false)])) 49) ?_
    refine pN ?_
    refine pS ?_
    refine gR 14 (rg Tryz.f33 14) ?_
    refine sg 6 (mkE ((44, .own 352 0) :: ((43, .agg [S x4.f0, I x7.f0, I x7.f1, I x7.f2, I x7.f3]) :: ((42, a25 x7) :: ((41, S x4.f0) :: ((40, .ba 64 0) :: ((39, .own 48 0) :: ((1, .ba 8 0) :: ((3, LL a25 y3.2.2) :: ((6, .own 48 0) :: ((8, .ba 64 0) :: ((10, .ba 80 0) :: (s_0.append [(35, I z2.2.2)])))))))))))) ((352, RR 76 5 a75 ([(S75.mk x4.f0 x7)] : List S75) 0 false) :: (o_0.append ((80, .box [I x7.f0, I x7.f1, I x7.f2, I x7.f3] false) :: [(264, RR 26 4 a25 z2.2.1 0 false)]))) 49) ?_
    refine mo (some 45) (apO 72 76 5 48 48 a75 0 [352] (y := .own 352 0) (l2 := ([(S75.mk x4.f0 x7)] : List S75))) (fun x8 => ?_)
    refine se (mkE ((1, .ba 8 0) :: ((3, LL a25 y3.2.2) :: ((6, .own 48 1) :: ((8, .ba 64 0) :: (s_0.append [(35, I z2.2.2)]))))) [(8, .box [S p0.f0, I p0.f1, I p0.f2, LL a64 p0.f3] true), (48, RR 76 5 a75 x8 1 false), (64, .box [S x4.f0, I x4.f1.f0, I x4.f1.f1, I x4.f1.f2, I x4.f1.f3, I x4.f2] true), (264, RR 26 4 a25 z2.2.1 0 false)] 49) ?_
    refine pB ?_
    refine pN ?_
    refine pS ?_
    refine gR 15 (rg Tryz.f33 15) ?_
    refine se (mkE ((1, .ba 8 0) :: ((3, LL a25 y3.2.2) :: ((6, .own 48 1) :: ((8, .ba 64 0) :: (s_0.append [(35, I (addI .i64 z2.2.2 1))]))))) [(8, .box [S p0.f0, I p0.f1, I p0.f2, LL a64 p0.f3] true), (48, RR 76 5 a75 x8 1 false), (64, .box [S x4.f0, I x4.f1.f0, I x4.f1.f1, I x4.f1.f2, I x4.f1.f3, I x4.f2] true), (264, RR 26 4 a25 z2.2.1 0 false)] 49) ?_
    exact pL
  · refine gX 4 ?_
    exact pL
noncomputable def L33_9 (p0 : S31) (y3 : (Int × Bool × (List S25))) (z1 : ((List S75) × Int)) : Option (((List S75) × Int) ⊕ (Int × Bool × (List S75))) := (bif (ltI z1.2 (lenL p0.f3)) then ((listAt p0.f3 z1.2).bind fun x4 => ((T60 y3.2.2 p0.f0 p0.f1 p0.f2 p0.f3 x4.f0 x4.f1.f0 x4.f1.f1 x4.f1.f2 x4.f1.f3 x4.f2).bind fun x5 => ((iter (L33_12 p0 y3 z1 x4 x5) (z1.1, x5, 0)).bind fun y9 => (some (.inl (y9.2.2.1, (addI .i64 z1.2 1))))))) else (some (.inr (z1.2, (ltI z1.2 (lenL p0.f3)), z1.1))))
theorem L33_9_ok (C : Callee) (h60 : ∀ (p0 : (List S25)) (p1_c0 : ByteArray) (p1_c1 : Int) (p1_c2 : Int) (p1_c3 : (List S64)) (p1_c4 : ByteArray) (p1_c5 : Int) (p1_c6 : Int) (p1_c7 : Int) (p1_c8 : Int) (p1_c9 : Int), C 60 [LL a25 p0, .fn 61 [.ia [S p1_c0, I p1_c1, I p1_c2, LL a64 p1_c3] 0, .ia [S p1_c4, I p1_c5, I p1_c6, I p1_c7, I p1_c8, I p1_c9] 0]] = (T60 p0 p1_c0 p1_c1 p1_c2 p1_c3 p1_c4 p1_c5 p1_c6 p1_c7 p1_c8 p1_c9).map (fun l => AV.fr 26 4 (List.map a25 l))) (p0 : S31) (y3 : (Int × Bool × (List S25))) (z1 : ((List S75) × Int)) : runs Tryz.prog C (cfg.fn 33) (finLoop ((cfg.fn 33).keep 9) ((cfg.fn 33).al 9)) [] (execA Tryz.prog C (cfg.fn 33) (nr Tryz.f33 [false, false, true, false, true, true, true, true]) ((fun z1 : ((List S75) × Int) => (mkE [(1, .ba 8 0), (3, LL a25 y3.2.2), (6, .own 48 0), (25, LL a64 p0.f3), (26, I (lenL p0.f3)), (27, I z1.2)] [(8, .box [S p0.f0, I p0.f1, I p0.f2, LL a64 p0.f3] true), (48, RR 76 5 a75 z1.1 0 false)] 49)) z1)) = (L33_9 p0 y3 z1).map (Sum.elim (fun z => .inl ((fun z1 : ((List S75) × Int) => (mkE [(1, .ba 8 0), (3, LL a25 y3.2.2), (6, .own 48 0), (25, LL a64 p0.f3), (26, I (lenL p0.f3)), (27, I z1.2)] [(8, .box [S p0.f0, I p0.f1, I p0.f2, LL a64 p0.f3] true), (48, RR 76 5 a75 z1.1 0 false)] 49)) z)) (fun x => .inr ((fun (x : (Int × Bool × (List S75))) => (.exit 2, (mkE [(1, .ba 8 0), (3, LL a25 y3.2.2), (6, .own 48 0), (25, LL a64 p0.f3), (26, I (lenL p0.f3)), (27, I x.1), (28, B x.2.1)] [(8, .box [S p0.f0, I p0.f1, I p0.f2, LL a64 p0.f3] true), (48, RR 76 5 a75 x.2.2 0 false)] 49))) x))) := by
  unfold L33_9
  let s_0 : List (Nat × AV) := [(1, .ba 8 0), (3, LL a25 y3.2.2), (6, .own 48 0), (8, .ba 64 0), (25, LL a64 p0.f3), (26, I (lenL p0.f3)), (27, I z1.2)]
  let o_0 : List (Nat × AObj) := [(8, .box [S p0.f0, I p0.f1, I p0.f2, LL a64 p0.f3] true)]
  refine gS 0 ?_
  refine gR 9 (rg Tryz.f33 9) ?_
  refine se (mkE [(1, .ba 8 0), (3, LL a25 y3.2.2), (6, .own 48 0), (25, LL a64 p0.f3), (26, I (lenL p0.f3)), (27, I z1.2), (28, B (ltI z1.2 (lenL p0.f3)))] (o_0.append [(48, RR 76 5 a75 z1.1 0 false)]) 49) ?_
  refine pN ?_
  refine pS ?_
  refine gS 10 ?_
  refine gC 28 (ltI z1.2 (lenL p0.f3)) ?_ ?_
  · refine gK ?_
    refine pN ?_
    refine pS ?_
    refine gS 16 ?_
    refine gB 3 ?_
    refine gS 11 ?_
    refine gR 10 (rg Tryz.f33 10) ?_
    refine vo 29 (addrE 30 65 6 a64 .i64 p0.f3 z1.2) (fun x4 => ?_)
    refine se (mkE s_0 (o_0.append ((48, RR 76 5 a75 z1.1 0 false) :: [(64, .box [S x4.f0, I x4.f1.f0, I x4.f1.f1, I x4.f1.f2, I x4.f1.f3, I x4.f2] false)])) 49) ?_
    refine pN ?_
    refine pS ?_
    refine gS 12 ?_
    refine gR 11 (rg Tryz.f33 11) ?_
    refine sg 2 (mkE ((32, .fn 61 [.ba 8 0, .ba 64 0]) :: ((31, LL a25 y3.2.2) :: s_0)) (o_0.append ((48, RR 76 5 a75 z1.1 0 false) :: [(64, .box [S x4.f0, I x4.f1.f0, I x4.f1.f1, I x4.f1.f2, I x4.f1.f3, I x4.f2] false)])) 49) ?_
    refine co 33 [8, 64] (h60 y3.2.2 p0.f0 p0.f1 p0.f2 p0.f3 x4.f0 x4.f1.f0 x4.f1.f1 x4.f1.f2 x4.f1.f3 x4.f2) (fun x5 => ?_)
    refine eo 34 (I (lenL x5)) (lenOE 42 26 4 a25 x5) ?_
    refine se (mkE (s_0.append ((33, .own 264 0) :: ((34, I (lenL x5)) :: [(35, I 0)]))) (o_0.append ((48, RR 76 5 a75 z1.1 0 false) :: ((64, .box [S x4.f0, I x4.f1.f0, I x4.f1.f1, I x4.f1.f2, I x4.f1.f3, I x4.f2] true) :: [(264, RR 26 4 a25 x5 0 false)]))) 49) ?_
    refine pN ?_
    refine pS ?_
    refine gB 4 ?_
    refine lo [(1, none), (3, none), (6, some (76, 5)), (8, none), (25, none), (26, none), (27, none), (33, some (26, 4)), (34, none), (35, none)] [] (L33_12 p0 y3 z1 x4 x5) (fun z2 : ((List S75) × (List S25) × Int) => (mkE (s_0.append ((33, .own 264 0) :: ((34, I (lenL x5)) :: [(35, I z2.2.2)]))) (o_0.append ((48, RR 76 5 a75 z2.1 0 false) :: ((64, .box [S x4.f0, I x4.f1.f0, I x4.f1.f1, I x4.f1.f2, I x4.f1.f3, I x4.f2] true) :: [(264, RR 26 4 a25 z2.2.1 0 false)]))) 49)) (fun (x : (Int × Bool × (List S75) × (List S25))) => (.exit 4, (mkE (s_0.append ((33, .own 264 0) :: ((34, I (lenL x5)) :: ((35, I x.1) :: [(36, B x.2.1)])))) (o_0.append ((48, RR 76 5 a75 x.2.2.1 0 false) :: ((64, .box [S x4.f0, I x4.f1.f0, I x4.f1.f1, I x4.f1.f2, I x4.f1.f3, I x4.f2] true) :: [(264, RR 26 4 a25 x.2.2.2 0 false)]))) 49))) (z1.1, x5, 0) (fun z => L33_12_ok C p0 y3 z1 x4 x5 z) ?_
    intro y9
    refine pH ?_
    refine pB ?_
    refine pN ?_
    refine pS ?_
    refine gR 16 (rg Tryz.f33 16) ?_
    refine se (mkE [(1, .ba 8 0), (3, LL a25 y3.2.2), (6, .own 48 0), (25, LL a64 p0.f3), (26, I (lenL p0.f3)), (27, I (addI .i64 z1.2 1))] (o_0.append [(48, RR 76 5 a75 y9.2.2.1 0 false)]) 49) ?_
    exact pL
  · refine gX 2 ?_
    exact pL
noncomputable def T33 (p0 : S31) : Option (List S75) := ((iter (L33_3 p0) ([], 0)).bind fun y3 => ((iter (L33_9 p0 y3) ([], 0)).bind fun y10 => (some y10.2.2)))
theorem B33 (C : Callee) (h60 : ∀ (p0 : (List S25)) (p1_c0 : ByteArray) (p1_c1 : Int) (p1_c2 : Int) (p1_c3 : (List S64)) (p1_c4 : ByteArray) (p1_c5 : Int) (p1_c6 : Int) (p1_c7 : Int) (p1_c8 : Int) (p1_c9 : Int), C 60 [LL a25 p0, .fn 61 [.ia [S p1_c0, I p1_c1, I p1_c2, LL a64 p1_c3] 0, .ia [S p1_c4, I p1_c5, I p1_c6, I p1_c7, I p1_c8, I p1_c9] 0]] = (T60 p0 p1_c0 p1_c1 p1_c2 p1_c3 p1_c4 p1_c5 p1_c6 p1_c7 p1_c8 p1_c9).map (fun l => AV.fr 26 4 (List.map a25 l))) (p0 : S31) : runs Tryz.prog C (cfg.fn 33) (finFn Tryz.prog (cfg.fn 33).byval Tryz.f33) [] (execA Tryz.prog C (cfg.fn 33) (nr Tryz.f33 []) (frame0 [a31 p0] 49 false)) = (T33 p0).map (fun l => AV.fr 76 5 (List.map a75 l)) := by
  unfold T33
  let o_0 : List (Nat × AObj) := [(8, .box [S p0.f0, I p0.f1, I p0.f2, LL a64 p0.f3] false)]
  refine gS 1 ?_
  refine gR 0 (rg Tryz.f33 0) ?_
  refine se (mkE [(1, .ba 8 0)] o_0 49) ?_
  refine pN ?_
  refine pS ?_
  refine gS 2 ?_
  refine gR 1 (rg Tryz.f33 1) ?_
  refine se (mkE [(1, .ba 8 0), (3, .nils)] o_0 49) ?_
  refine pN ?_
  refine pS ?_
  refine gS 7 ?_
  refine gS 3 ?_
  refine gR 2 (rg Tryz.f33 2) ?_
  refine sg 2 (mkE [(12, LL a64 p0.f3), (11, .ba 8 3), (1, .ba 8 0), (3, .nils)] o_0 49) ?_
  refine eo 13 (I (lenL p0.f3)) (lenE 30 a64 p0.f3) ?_
  refine se (mkE [(1, .ba 8 0), (3, .nils), (12, LL a64 p0.f3), (13, I (lenL p0.f3)), (14, I 0)] o_0 49) ?_
  refine pN ?_
  refine pS ?_
  refine gB 0 ?_
  refine lo [(1, none), (3, some (26, 4)), (12, none), (13, none), (14, none)] [] (L33_3 p0) (fun z0 : ((List S25) × Int) => (mkE [(1, .ba 8 0), (3, .own 24 0), (12, LL a64 p0.f3), (13, I (lenL p0.f3)), (14, I z0.2)] (o_0.append [(24, RR 26 4 a25 z0.1 0 false)]) 49)) (fun (x : (Int × Bool × (List S25))) => (.exit 0, (mkE [(1, .ba 8 0), (3, .own 24 0), (12, LL a64 p0.f3), (13, I (lenL p0.f3)), (14, I x.1), (15, B x.2.1)] (o_0.append [(24, RR 26 4 a25 x.2.2 0 false)]) 49))) ([], 0) (fun z => L33_3_ok C p0 z) ?_
  intro y3
  refine pH ?_
  refine pN ?_
  refine pS ?_
  refine gS 8 ?_
  refine gR 7 (rg Tryz.f33 7) ?_
  refine se (mkE [(1, .ba 8 0), (3, .own 24 0), (6, .nils)] (o_0.append [(24, RR 26 4 a25 y3.2.2 0 false)]) 49) ?_
  refine pN ?_
  refine pS ?_
  refine gS 17 ?_
  refine gS 9 ?_
  refine gR 8 (rg Tryz.f33 8) ?_
  refine sg 2 (mkE [(25, LL a64 p0.f3), (24, .ba 8 3), (1, .ba 8 0), (3, .own 24 0), (6, .nils)] (o_0.append [(24, RR 26 4 a25 y3.2.2 0 false)]) 49) ?_
  refine eo 26 (I (lenL p0.f3)) (lenE 30 a64 p0.f3) ?_
  refine se (mkE [(1, .ba 8 0), (3, .own 24 0), (6, .nils), (25, LL a64 p0.f3), (26, I (lenL p0.f3)), (27, I 0)] (o_0.append [(24, RR 26 4 a25 y3.2.2 0 false)]) 49) ?_
  refine pN ?_
  refine pS ?_
  refine gB 2 ?_
  refine lo [(1, some (0, 0)), (3, none), (6, some (76, 5)), (25, none), (26, none), (27, none)] [] (L33_9 p0 y3) (fun z1 : ((List S75) × Int) => (mkE [(1, .ba 8 0), (3, LL a25 y3.2.2), (6, .own 48 0), (25, LL a64 p0.f3), (26, I (lenL p0.f3)), (27, I z1.2)] [(8, .box [S p0.f0, I p0.f1, I p0.f2, LL a64 p0.f3] true), (48, RR 76 5 a75 z1.1 0 false)] 49)) (fun (x : (Int × Bool × (List S75))) => (.exit 2, (mkE [(1, .ba 8 0), (3, LL a25 y3.2.2), (6, .own 48 0), (25, LL a64 p0.f3), (26, I (lenL p0.f3)), (27, I x.1), (28, B x.2.1)] [(8, .box [S p0.f0, I p0.f1, I p0.f2, LL a64 p0.f3] true), (48, RR 76 5 a75 x.2.2 0 false)] 49))) ([], 0) (fun z => L33_9_ok C h60 p0 y3 z) ?_
  intro y10
  refine pH ?_
  refine pN ?_
  refine pS ?_
  refine gS 0 ?_
  refine gR 17 (rg Tryz.f33 17) ?_
  refine se (mkE [(2, .own 48 0)] [(48, RR 76 5 a75 y10.2.2 0 false)] 49) ?_
  refine pN ?_
  refine pS ?_
  refine gE ?_
  exact pL
theorem F33 (m : Nat) (hm : 6 ≤ m) (p0 : S31) : callA Tryz.prog cfg m 33 [a31 p0] = (T33 p0).map (fun l => AV.fr 76 5 (List.map a75 l)) := by
  obtain ⟨q, rfl⟩ : ∃ q, m = q + 1 := ⟨m - 1, by omega⟩
  exact (callA_body (fn := Tryz.f33) (c := body_ Tryz.f33) q _ (by kernel_rfl) (by kernel_rfl) (by kernel_rfl)).trans (B33 _ (fun p0 p1_c0 p1_c1 p1_c2 p1_c3 p1_c4 p1_c5 p1_c6 p1_c7 p1_c8 p1_c9 => F60 q (by omega) p0 p1_c0 p1_c1 p1_c2 p1_c3 p1_c4 p1_c5 p1_c6 p1_c7 p1_c8 p1_c9) p0)

noncomputable def T32 (p0 : (List S75)) : Option ((List S75) × Int) := (bif (ltI 2000 (lenL p0)) then (some ([], 2)) else (some (p0, 0)))
theorem B32 (C : Callee) (p0 : (List S75)) : runs Tryz.prog C (cfg.fn 32) (finFn Tryz.prog (cfg.fn 32).byval Tryz.f32) [] (execA Tryz.prog C (cfg.fn 32) (nr Tryz.f32 []) (frame0 [LL a75 p0] 8 false)) = (T32 p0).map (fun r => AV.tup [(LL a75) r.1, I r.2]) := by
  unfold T32
  refine gS 1 ?_
  refine gR 0 (rg Tryz.f32 0) ?_
  refine se (mkE [(0, LL a75 p0)] [] 8) ?_
  refine pN ?_
  refine pS ?_
  refine gS 3 ?_
  refine gS 0 ?_
  refine gR 1 (rg Tryz.f32 1) ?_
  refine sg 1 (mkE [(4, LL a75 p0), (0, LL a75 p0)] [] 8) ?_
  refine eo 5 (I (lenL p0)) (lenE 72 a75 p0) ?_
  refine se (mkE [(0, LL a75 p0), (6, B (ltI 2000 (lenL p0)))] [] 8) ?_
  refine pN ?_
  refine pS ?_
  refine gC 6 (ltI 2000 (lenL p0)) ?_ ?_
  · refine gS 0 ?_
    refine gR 2 (rg Tryz.f32 2) ?_
    refine se (mkE [(2, .nils), (3, I 2)] [] 8) ?_
    refine pN ?_
    refine pS ?_
    refine gE ?_
    exact pL
  · refine gK ?_
    refine pN ?_
    refine pS ?_
    refine gS 0 ?_
    refine gR 3 (rg Tryz.f32 3) ?_
    refine se (mkE [(2, LL a75 p0), (3, I 0)] [] 8) ?_
    refine pN ?_
    refine pS ?_
    refine gE ?_
    exact pL
theorem F32 (m : Nat) (hm : 1 ≤ m) (p0 : (List S75)) : callA Tryz.prog cfg m 32 [LL a75 p0] = (T32 p0).map (fun r => AV.tup [(LL a75) r.1, I r.2]) := by
  obtain ⟨q, rfl⟩ : ∃ q, m = q + 1 := ⟨m - 1, by omega⟩
  exact (callA_body (fn := Tryz.f32) (c := body_ Tryz.f32) q _ (by kernel_rfl) (by kernel_rfl) (by kernel_rfl)).trans (B32 _ p0)

noncomputable def L75_4 (p0 : (List S25)) (z0 : Int) : Option (Int ⊕ ((Int × Bool) ⊕ Int)) := (bif (ltI z0 (lenL p0)) then ((listAt p0 z0).bind fun x1 => ((T43 x1).bind fun x2 => (bif (neI x2 0) then (some (.inr (.inr x2))) else (some (.inl (addI .i64 z0 1)))))) else (some (.inr (.inl (z0, (ltI z0 (lenL p0)))))))
theorem L75_4_ok (C : Callee) (h43 : ∀ (p0 : S25), C 43 [a25 p0] = (T43 p0).map I) (p0 : (List S25)) (z0 : Int) : runs Tryz.prog C (cfg.fn 75) (finLoop ((cfg.fn 75).keep 4) ((cfg.fn 75).al 4)) [] (execA Tryz.prog C (cfg.fn 75) (nr Tryz.f75 [false, false, true, false, true, true]) ((fun z0 : Int => (mkE [(9, LL a25 p0), (10, I (lenL p0)), (11, I z0)] [] 21)) z0)) = (L75_4 p0 z0).map (Sum.elim (fun z => .inl ((fun z0 : Int => (mkE [(9, LL a25 p0), (10, I (lenL p0)), (11, I z0)] [] 21)) z)) (fun x => .inr ((Sum.elim (fun (x : (Int × Bool)) => (.exit 0, (mkE [(9, LL a25 p0), (10, I (lenL p0)), (11, I x.1), (12, B x.2)] [] 21))) (fun (x : Int) => (.ret, (mkE [(2, I x)] [] 21)))) x))) := by
  unfold L75_4
  let s_0 : List (Nat × AV) := [(9, LL a25 p0), (10, I (lenL p0)), (11, I z0)]
  refine gS 0 ?_
  refine gR 4 (rg Tryz.f75 4) ?_
  refine se (mkE (s_0.append [(12, B (ltI z0 (lenL p0)))]) [] 21) ?_
  refine pN ?_
  refine pS ?_
  refine gS 5 ?_
  refine gC 12 (ltI z0 (lenL p0)) ?_ ?_
  · refine gK ?_
    refine pN ?_
    refine pS ?_
    refine gS 9 ?_
    refine gB 1 ?_
    refine gS 6 ?_
    refine gR 5 (rg Tryz.f75 5) ?_
    refine vo 13 (addrE 42 26 4 a25 .i64 p0 z0) (fun x1 => ?_)
    refine se (mkE ((4, .ba 32 0) :: s_0) [(32, .box [I x1.f0, I x1.f1, I x1.f2, I x1.f3] false)] 21) ?_
    refine pN ?_
    refine pS ?_
    refine gS 7 ?_
    refine gR 6 (rg Tryz.f75 6) ?_
    refine sg 1 (mkE ((15, a25 x1) :: ((4, .ba 32 0) :: s_0)) [(32, .box [I x1.f0, I x1.f1, I x1.f2, I x1.f3] false)] 21) ?_
    refine co 16 [] (h43 x1) (fun x2 => ?_)
    refine se (mkE ((5, I x2) :: s_0) [] 21) ?_
    refine pN ?_
    refine pS ?_
    refine gS 0 ?_
    refine gR 7 (rg Tryz.f75 7) ?_
    refine se (mkE ((5, I x2) :: (s_0.append [(18, B (neI x2 0))])) [] 21) ?_
    refine pN ?_
    refine pS ?_
    refine gC 18 (neI x2 0) ?_ ?_
    · refine gS 0 ?_
      refine gR 8 (rg Tryz.f75 8) ?_
      refine se (mkE [(2, I x2)] [] 21) ?_
      refine pN ?_
      refine pS ?_
      refine gE ?_
      exact pL
    · refine gK ?_
      refine pB ?_
      refine pN ?_
      refine pS ?_
      refine gR 9 (rg Tryz.f75 9) ?_
      refine se (mkE [(9, LL a25 p0), (10, I (lenL p0)), (11, I (addI .i64 z0 1))] [] 21) ?_
      exact pL
  · refine gX 0 ?_
    exact pL
noncomputable def T75 (p0 : (List S25)) : Option Int := (bif (ltI 2000 (lenL p0)) then (some 2) else ((iter (L75_4 p0) 0).bind fun y3 => (Sum.elim (fun y3a => (some 0)) (fun y3b => (some y3b)) y3)))
theorem B75 (C : Callee) (h43 : ∀ (p0 : S25), C 43 [a25 p0] = (T43 p0).map I) (p0 : (List S25)) : runs Tryz.prog C (cfg.fn 75) (finFn Tryz.prog (cfg.fn 75).byval Tryz.f75) [] (execA Tryz.prog C (cfg.fn 75) (nr Tryz.f75 []) (frame0 [LL a25 p0] 21 false)) = (T75 p0).map I := by
  unfold T75
  refine gS 1 ?_
  refine gR 0 (rg Tryz.f75 0) ?_
  refine se (mkE [(0, LL a25 p0)] [] 21) ?_
  refine pN ?_
  refine pS ?_
  refine gS 3 ?_
  refine gS 0 ?_
  refine gR 1 (rg Tryz.f75 1) ?_
  refine sg 1 (mkE [(6, LL a25 p0), (0, LL a25 p0)] [] 21) ?_
  refine eo 7 (I (lenL p0)) (lenE 42 a25 p0) ?_
  refine se (mkE [(0, LL a25 p0), (8, B (ltI 2000 (lenL p0)))] [] 21) ?_
  refine pN ?_
  refine pS ?_
  refine gC 8 (ltI 2000 (lenL p0)) ?_ ?_
  · refine gS 0 ?_
    refine gR 2 (rg Tryz.f75 2) ?_
    refine se (mkE [(2, I 2)] [] 21) ?_
    refine pN ?_
    refine pS ?_
    refine gE ?_
    exact pL
  · refine gK ?_
    refine pN ?_
    refine pS ?_
    refine gS 10 ?_
    refine gS 4 ?_
    refine gR 3 (rg Tryz.f75 3) ?_
    refine sg 1 (mkE [(9, LL a25 p0), (0, LL a25 p0), (8, B (ltI 2000 (lenL p0)))] [] 21) ?_
    refine eo 10 (I (lenL p0)) (lenE 42 a25 p0) ?_
    refine se (mkE [(9, LL a25 p0), (10, I (lenL p0)), (11, I 0)] [] 21) ?_
    refine pN ?_
    refine pS ?_
    refine gB 0 ?_
    refine lo [(9, none), (10, none), (11, none)] [] (L75_4 p0) (fun z0 : Int => (mkE [(9, LL a25 p0), (10, I (lenL p0)), (11, I z0)] [] 21)) (Sum.elim (fun (x : (Int × Bool)) => (.exit 0, (mkE [(9, LL a25 p0), (10, I (lenL p0)), (11, I x.1), (12, B x.2)] [] 21))) (fun (x : Int) => (.ret, (mkE [(2, I x)] [] 21)))) 0 (fun z => L75_4_ok C h43 p0 z) ?_
    intro y3
    refine ss y3 (Z := (Sum.elim (fun (x : (Int × Bool)) => (.exit 0, (mkE [(9, LL a25 p0), (10, I (lenL p0)), (11, I x.1), (12, B x.2)] [] 21))) (fun (x : Int) => (.ret, (mkE [(2, I x)] [] 21))))) (fun y3a => ?_) (fun y3b => ?_)
    · refine pH ?_
      refine pN ?_
      refine pS ?_
      refine gS 0 ?_
      refine gR 10 (rg Tryz.f75 10) ?_
      refine se (mkE [(2, I 0)] [] 21) ?_
      refine pN ?_
      refine pS ?_
      refine gE ?_
      exact pL
    · exact pL
theorem F75 (m : Nat) (hm : 3 ≤ m) (p0 : (List S25)) : callA Tryz.prog cfg m 75 [LL a25 p0] = (T75 p0).map I := by
  obtain ⟨q, rfl⟩ : ∃ q, m = q + 1 := ⟨m - 1, by omega⟩
  exact (callA_body (fn := Tryz.f75) (c := body_ Tryz.f75) q _ (by kernel_rfl) (by kernel_rfl) (by kernel_rfl)).trans (B75 _ (fun p0 => F43 q (by omega) p0) p0)

noncomputable def T57 (p0 : (List S25)) : Option (Int × Int) := ((T75 p0).bind fun x1 => (bif (neI x1 0) then (some (0, x1)) else ((T41 p0 []).bind fun x2 => ((T59 x2).bind fun x3 => (some (x3, 0))))))
theorem B57 (C : Callee) (h41 : ∀ (p0 : (List S25)) (p1 : (List S25)), C 41 [LL a25 p0, LL a25 p1] = (T41 p0 p1).map (fun l => AV.fr 26 4 (List.map a25 l))) (h59 : ∀ (p0 : (List S25)), C 59 [LL a25 p0] = (T59 p0).map I) (h75 : ∀ (p0 : (List S25)), C 75 [LL a25 p0] = (T75 p0).map I) (p0 : (List S25)) : runs Tryz.prog C (cfg.fn 57) (finFn Tryz.prog (cfg.fn 57).byval Tryz.f57) [] (execA Tryz.prog C (cfg.fn 57) (nr Tryz.f57 []) (frame0 [LL a25 p0] 13 false)) = (T57 p0).map (fun r => AV.tup [I r.1, I r.2]) := by
  unfold T57
  refine gS 1 ?_
  refine gR 0 (rg Tryz.f57 0) ?_
  refine se (mkE [(0, LL a25 p0)] [] 13) ?_
  refine pN ?_
  refine pS ?_
  refine gS 4 ?_
  refine gS 2 ?_
  refine gR 1 (rg Tryz.f57 1) ?_
  refine sg 1 (mkE [(5, LL a25 p0), (0, LL a25 p0)] [] 13) ?_
  refine co 6 [] (h75 p0) (fun x1 => ?_)
  refine se (mkE [(0, LL a25 p0), (4, I x1)] [] 13) ?_
  refine pN ?_
  refine pS ?_
  refine gS 0 ?_
  refine gR 2 (rg Tryz.f57 2) ?_
  refine se (mkE [(0, LL a25 p0), (4, I x1), (8, B (neI x1 0))] [] 13) ?_
  refine pN ?_
  refine pS ?_
  refine gC 8 (neI x1 0) ?_ ?_
  · refine gS 0 ?_
    refine gR 3 (rg Tryz.f57 3) ?_
    refine se (mkE [(2, I 0), (3, I x1)] [] 13) ?_
    refine pN ?_
    refine pS ?_
    refine gE ?_
    exact pL
  · refine gK ?_
    refine pN ?_
    refine pS ?_
    refine gS 0 ?_
    refine gR 4 (rg Tryz.f57 4) ?_
    refine sg 1 (mkE [(10, LL a25 p0), (0, LL a25 p0), (4, I x1), (8, B (neI x1 0))] [] 13) ?_
    refine co 11 [] (h41 p0 []) (fun x2 => ?_)
    refine co 12 [88] (h59 x2) (fun x3 => ?_)
    refine se (mkE [(2, I x3), (3, I 0)] [] 13) ?_
    refine pN ?_
    refine pS ?_
    refine gE ?_
    exact pL
theorem F57 (m : Nat) (hm : 5 ≤ m) (p0 : (List S25)) : callA Tryz.prog cfg m 57 [LL a25 p0] = (T57 p0).map (fun r => AV.tup [I r.1, I r.2]) := by
  obtain ⟨q, rfl⟩ : ∃ q, m = q + 1 := ⟨m - 1, by omega⟩
  exact (callA_body (fn := Tryz.f57) (c := body_ Tryz.f57) q _ (by kernel_rfl) (by kernel_rfl) (by kernel_rfl)).trans (B57 _ (fun p0 p1 => F41 q (by omega) p0 p1) (fun p0 => F59 q (by omega) p0) (fun p0 => F75 q (by omega) p0) p0)

noncomputable def T26 : Option Bool := ((T57 ([(S25.mk 0 0 2 2), (S25.mk 1 1 2 2)] : List S25)).bind fun x1 => (bif (eqI x1.2 0) then (some (eqI x1.1 7)) else (some false)))
theorem B26 (C : Callee) (h57 : ∀ (p0 : (List S25)), C 57 [LL a25 p0] = (T57 p0).map (fun r => AV.tup [I r.1, I r.2])) : runs Tryz.prog C (cfg.fn 26) (finFn Tryz.prog (cfg.fn 26).byval Tryz.f26) [] (execA Tryz.prog C (cfg.fn 26) (nr Tryz.f26 []) (frame0 [] 16 false)) = (T26).map B := by
  unfold T26
  refine gS 1 ?_
  refine gR 0 (rg Tryz.f26 0) ?_
  refine se (mkE [] [] 16) ?_
  refine pN ?_
  refine pS ?_
  refine gS 2 ?_
  refine gR 1 (rg Tryz.f26 1) ?_
  refine sg 3 (mkE [(6, .own 48 0), (5, .agg [I 1, I 1, I 2, I 2]), (4, .agg [I 0, I 0, I 2, I 2])] [(48, RR 26 4 a25 ([(S25.mk 0 0 2 2), (S25.mk 1 1 2 2)] : List S25) 0 false)] 16) ?_
  refine co 7 [48] (h57 ([(S25.mk 0 0 2 2), (S25.mk 1 1 2 2)] : List S25)) (fun x1 => ?_)
  refine se (mkE [(1, I x1.1), (2, I x1.2)] [] 16) ?_
  refine pN ?_
  refine pS ?_
  refine gS 0 ?_
  refine gR 2 (rg Tryz.f26 2) ?_
  refine sg 3 (mkE [(12, B (eqI x1.2 0)), (11, B (eqI x1.2 0)), (10, I x1.2), (1, I x1.1), (2, I x1.2)] [] 16) ?_
  refine sb 12 (eqI x1.2 0) ?_ ?_
  · refine se (mkE [(0, B (eqI x1.1 7))] [] 16) ?_
    refine pN ?_
    refine pS ?_
    refine gE ?_
    exact pL
  · refine se (mkE [(0, B false)] [] 16) ?_
    refine pN ?_
    refine pS ?_
    refine gE ?_
    exact pL
theorem F26 (m : Nat) (hm : 6 ≤ m) : callA Tryz.prog cfg m 26 [] = (T26).map B := by
  obtain ⟨q, rfl⟩ : ∃ q, m = q + 1 := ⟨m - 1, by omega⟩
  exact (callA_body (fn := Tryz.f26) (c := body_ Tryz.f26) q _ (by kernel_rfl) (by kernel_rfl) (by kernel_rfl)).trans (B26 _ (fun p0 => F57 q (by omega) p0))

noncomputable def T63 (p0 : S25) (p1 : Int) (p2 : Int) (p3 : Int) (p4 : Int) : Option S25 := ((quoO .i64 (mulI .i64 p0.f0 p3) p1).bind fun x1 => ((quoO .i64 (mulI .i64 p0.f1 p4) p2).bind fun x2 => ((quoO .i64 (mulI .i64 (addI .i64 p0.f0 p0.f2) p3) p1).bind fun x3 => ((quoO .i64 (mulI .i64 (addI .i64 p0.f1 p0.f3) p4) p2).bind fun x4 => (bif (eqI (subI .i64 x3 x1) 0) then (some (S25.mk 0 0 0 0)) else (bif (eqI (subI .i64 x4 x2) 0) then (some (S25.mk 0 0 0 0)) else (some (S25.mk x1 x2 (subI .i64 x3 x1) (subI .i64 x4 x2)))))))))
theorem B63 (C : Callee) (p0 : S25) (p1 : Int) (p2 : Int) (p3 : Int) (p4 : Int) : runs Tryz.prog C (cfg.fn 63) (finFn Tryz.prog (cfg.fn 63).byval Tryz.f63) [] (execA Tryz.prog C (cfg.fn 63) (nr Tryz.f63 []) (frame0 [a25 p0, I p1, I p2, I p3, I p4] 61 false)) = (T63 p0 p1 p2 p3 p4).map a25 := by
  unfold T63
  let d_0 : List (Option Nat × REff) := [(some 28, qe (.ba 40 0)), (some 29, qe (I p0.f0)), (some 30, qe (.ba 40 2)), (some 31, qe (I p0.f2)), (some 32, qe (I (addI .i64 p0.f0 p0.f2))), (some 33, qe (I p3)), (some 34, qe (I (mulI .i64 (addI .i64 p0.f0 p0.f2) p3))), (some 35, qe (I p1))]
  let d_1 : List (Option Nat × REff) := [(some 14, qe (.ba 40 0)), (some 15, qe (I p0.f0)), (some 16, qe (I p3)), (some 17, qe (I (mulI .i64 p0.f0 p3))), (some 18, qe (I p1))]
  let d_2 : List (Option Nat × REff) := [(some 39, qe (.ba 40 1)), (some 40, qe (I p0.f1)), (some 41, qe (.ba 40 3)), (some 42, qe (I p0.f3)), (some 43, qe (I (addI .i64 p0.f1 p0.f3))), (some 44, qe (I p4)), (some 45, qe (I (mulI .i64 (addI .i64 p0.f1 p0.f3) p4))), (some 46, qe (I p2))]
  let d_3 : List (Option Nat × REff) := [(some 20, qe (.ba 40 1)), (some 21, qe (I p0.f1)), (some 22, qe (I p4)), (some 23, qe (I (mulI .i64 p0.f1 p4))), (some 24, qe (I p2))]
  let s_0 : List (Nat × AV) := [(1, I p1), (2, I p2), (3, I p3), (4, I p4), (5, .ba 40 0), (10, .ba 80 0)]
  let s_1 : List (Nat × AV) := [(35, I p1), (34, I (mulI .i64 (addI .i64 p0.f0 p0.f2) p3)), (33, I p3), (32, I (addI .i64 p0.f0 p0.f2)), (31, I p0.f2), (30, .ba 40 2), (29, I p0.f0), (28, .ba 40 0)]
  let s_2 : List (Nat × AV) := [(46, I p2), (45, I (mulI .i64 (addI .i64 p0.f1 p0.f3) p4)), (44, I p4), (43, I (addI .i64 p0.f1 p0.f3)), (42, I p0.f3), (41, .ba 40 3), (40, I p0.f1), (39, .ba 40 1)]
  let o_0 : List (Nat × AObj) := [(40, .box [I p0.f0, I p0.f1, I p0.f2, I p0.f3] false), (80, .box [I 0, I 0, I 0, I 0] false)]
  let o_1 : List (Nat × AObj) := [(80, .box [I 0, I 0, I 0, I 0] false)]
  refine gS 1 ?_
  refine gR 0 (rg Tryz.f63 0) ?_
  refine se (mkE s_0 o_0 61) ?_
  refine pN ?_
  refine pS ?_
  refine gS 2 ?_
  refine gD 1 14 (rg Tryz.f63 1) [0, 1, 2, 3, 4, 5, 6, 7, 8, 9, 10, 11, 12, 13] ?_
  refine dg 5 d_1 ?_
  refine dv 19 (mkE ((18, I p1) :: ((17, I (mulI .i64 p0.f0 p3)) :: ((16, I p3) :: ((15, I p0.f0) :: ((14, .ba 40 0) :: s_0))))) o_0 61) (quoE 3 .i64 (.tmp 17) (.tmp 18) (mulI .i64 p0.f0 p3) p1) (fun x1 => ?_)
  refine dg 11 (d_1.append ((some 19, qe (I x1)) :: d_3)) ?_
  refine dv 25 (mkE ((24, I p2) :: ((23, I (mulI .i64 p0.f1 p4)) :: ((22, I p4) :: ((21, I p0.f1) :: ((20, .ba 40 1) :: s_0))))) o_0 61) (quoE 3 .i64 (.tmp 23) (.tmp 24) (mulI .i64 p0.f1 p4) p2) (fun x2 => ?_)
  refine dg 14 (d_1.append ((some 19, qe (I x1)) :: (d_3.append ((some 25, qe (I x2)) :: ((some 11, qe (I x1)) :: [(some 12, qe (I x2))]))))) ?_
  refine de (mkE ((12, I x2) :: ((11, I x1) :: ((25, I x2) :: ((24, I p2) :: ((23, I (mulI .i64 p0.f1 p4)) :: ((22, I p4) :: ((21, I p0.f1) :: ((20, .ba 40 1) :: ((19, I x1) :: ((18, I p1) :: ((17, I (mulI .i64 p0.f0 p3)) :: ((16, I p3) :: ((15, I p0.f0) :: ((14, .ba 40 0) :: s_0)))))))))))))) o_0 61) ?_
  refine se (mkE (s_0.append ((11, I x1) :: [(12, I x2)])) o_0 61) ?_
  refine pN ?_
  refine pS ?_
  refine gS 3 ?_
  refine gD 2 26 (rg Tryz.f63 2) [0, 1, 2, 3, 4, 5, 6, 7, 8, 9, 10, 11, 12, 13, 14, 15, 16, 17, 18, 19, 20, 21, 22, 23, 24, 25, 26] ?_
  refine dg 10 ((some 26, qe (I x1)) :: ((some 27, qe (I x2)) :: d_0)) ?_
  refine dv 36 (mkE (s_1.append (s_0.append ((11, I x1) :: [(12, I x2)]))) o_0 61) (quoE 3 .i64 (.tmp 34) (.tmp 35) (mulI .i64 (addI .i64 p0.f0 p0.f2) p3) p1) (fun x3 => ?_)
  refine dg 21 ((some 26, qe (I x1)) :: ((some 27, qe (I x2)) :: (d_0.append ((some 36, qe (I x3)) :: ((some 37, qe (I x1)) :: ((some 38, qe (I (subI .i64 x3 x1))) :: d_2)))))) ?_
  refine dv 47 (mkE (s_2.append (s_0.append ((11, I x1) :: [(12, I x2)]))) o_0 61) (quoE 3 .i64 (.tmp 45) (.tmp 46) (mulI .i64 (addI .i64 p0.f1 p0.f3) p4) p2) (fun x4 => ?_)
  refine dg 26 ((some 26, qe (I x1)) :: ((some 27, qe (I x2)) :: (d_0.append ((some 36, qe (I x3)) :: ((some 37, qe (I x1)) :: ((some 38, qe (I (subI .i64 x3 x1))) :: (d_2.append ((some 47, qe (I x4)) :: ((some 48, qe (I x2)) :: ((some 49, qe (I (subI .i64 x4 x2))) :: ((some 50, qe (.agg [I x1, I x2, I (subI .i64 x3 x1), I (subI .i64 x4 x2)])) :: [(some 13, { e := { val := .ba 104 0, news := [(104, .box [I 0, I 0, I 0, I 0] false)] } })]))))))))))) ?_
  refine de (mkE ((13, .ba 104 0) :: ((50, .agg [I x1, I x2, I (subI .i64 x3 x1), I (subI .i64 x4 x2)]) :: ((49, I (subI .i64 x4 x2)) :: ((48, I x2) :: ((47, I x4) :: (s_2.append ((38, I (subI .i64 x3 x1)) :: ((37, I x1) :: ((36, I x3) :: (s_1.append ((27, I x2) :: ((26, I x1) :: (s_0.append ((11, I x1) :: [(12, I x2)])))))))))))))) ((104, .box [I 0, I 0, I 0, I 0] false) :: o_0) 61) ?_
  refine se (mkE [(10, .ba 80 0), (13, .ba 104 0)] (o_1.append [(104, .box [I x1, I x2, I (subI .i64 x3 x1), I (subI .i64 x4 x2)] false)]) 61) ?_
  refine pN ?_
  refine pS ?_
  refine gS 5 ?_
  refine gS 0 ?_
  refine gR 3 (rg Tryz.f63 3) ?_
  refine sg 4 (mkE [(54, B (eqI (subI .i64 x3 x1) 0)), (53, B (eqI (subI .i64 x3 x1) 0)), (52, I (subI .i64 x3 x1)), (51, .ba 104 2), (10, .ba 80 0), (13, .ba 104 0)] (o_1.append [(104, .box [I x1, I x2, I (subI .i64 x3 x1), I (subI .i64 x4 x2)] false)]) 61) ?_
  refine sb 54 (eqI (subI .i64 x3 x1) 0) ?_ ?_
  · refine se (mkE [(10, .ba 80 0), (13, .ba 104 0), (58, B true)] (o_1.append [(104, .box [I x1, I x2, I (subI .i64 x3 x1), I (subI .i64 x4 x2)] false)]) 61) ?_
    refine pN ?_
    refine pS ?_
    refine gT (.tmp 58) ?_
    refine gS 0 ?_
    refine gR 4 (rg Tryz.f63 4) ?_
    refine se (mkE [(10, .ba 80 0)] o_1 61) ?_
    refine pN ?_
    refine pS ?_
    refine gE ?_
    exact pL
  · refine se (mkE [(10, .ba 80 0), (13, .ba 104 0), (58, B (eqI (subI .i64 x4 x2) 0))] (o_1.append [(104, .box [I x1, I x2, I (subI .i64 x3 x1), I (subI .i64 x4 x2)] false)]) 61) ?_
    refine pN ?_
    refine pS ?_
    refine gC 58 (eqI (subI .i64 x4 x2) 0) ?_ ?_
    · refine gS 0 ?_
      refine gR 4 (rg Tryz.f63 4) ?_
      refine se (mkE [(10, .ba 80 0)] o_1 61) ?_
      refine pN ?_
      refine pS ?_
      refine gE ?_
      exact pL
    · refine gK ?_
      refine pN ?_
      refine pS ?_
      refine gS 0 ?_
      refine gR 5 (rg Tryz.f63 5) ?_
      refine se (mkE [(10, .ba 80 0)] [(80, .box [I x1, I x2, I (subI .i64 x3 x1), I (subI .i64 x4 x2)] false)] 61) ?_
      refine pN ?_
      refine pS ?_
      refine gE ?_
      exact pL
theorem F63 (m : Nat) (hm : 1 ≤ m) (p0 : S25) (p1 : Int) (p2 : Int) (p3 : Int) (p4 : Int) : callA Tryz.prog cfg m 63 [a25 p0, I p1, I p2, I p3, I p4] = (T63 p0 p1 p2 p3 p4).map a25 := by
  obtain ⟨q, rfl⟩ : ∃ q, m = q + 1 := ⟨m - 1, by omega⟩
  exact (callA_body (fn := Tryz.f63) (c := body_ Tryz.f63) q _ (by kernel_rfl) (by kernel_rfl) (by kernel_rfl)).trans (B63 _ p0 p1 p2 p3 p4)

noncomputable def L35_6 (p0 : S23) (p1 : S31) (z0 : ((List S79) × Int)) (x1 : S37) (x2 : (List S75)) (z1 : ((List S79) × (List S75) × Int)) : Option (((List S79) × (List S75) × Int) ⊕ (Int × Bool × (List S79) × (List S75))) := (bif (ltI z1.2.2 (lenL x2)) then ((idxO (List.length z1.2.1) z1.2.2).bind fun x3 => ((getN z1.2.1 x3).bind fun x4 => ((T63 x4.f1 p1.f1 p1.f2 p0.f1 p0.f2).bind fun x5 => ((T49 x1.f1 x5).bind fun x6 => (bif x6.2 then ((appO 64 z1.1 ([(S79.mk x1.f0 x4.f0 (S25.mk (subI .i64 x6.1.f0 x1.f1.f0) (subI .i64 x6.1.f1 x1.f1.f1) x6.1.f2 x6.1.f3))] : List S79)).bind fun x7 => (some (.inl (x7, z1.2.1, (addI .i64 z1.2.2 1))))) else (some (.inl (z1.1, z1.2.1, (addI .i64 z1.2.2 1))))))))) else (some (.inr (z1.2.2, (ltI z1.2.2 (lenL x2)), z1.1, z1.2.1))))
theorem L35_6_ok (C : Callee) (h49 : ∀ (p0 : S25) (p1 : S25), C 49 [a25 p0, a25 p1] = (T49 p0 p1).map (fun r => AV.tup [a25 r.1, B r.2])) (h63 : ∀ (p0 : S25) (p1 : Int) (p2 : Int) (p3 : Int) (p4 : Int), C 63 [a25 p0, I p1, I p2, I p3, I p4] = (T63 p0 p1 p2 p3 p4).map a25) (p0 : S23) (p1 : S31) (z0 : ((List S79) × Int)) (x1 : S37) (x2 : (List S75)) (z1 : ((List S79) × (List S75) × Int)) : runs Tryz.prog C (cfg.fn 35) (finLoop ((cfg.fn 35).keep 6) ((cfg.fn 35).al 6)) [] (execA Tryz.prog C (cfg.fn 35) (nr Tryz.f35 [false, false, true, true, false, false, true, true, false, false, true, false, true, true]) ((fun z1 : ((List S79) × (List S75) × Int) => (mkE [(2, .ba 16 0), (3, .ba 24 0), (5, .own 40 0), (7, .ba 56 0), (14, LL a37 p0.f3), (15, I (lenL p0.f3)), (16, I z0.2), (21, .own 168 0), (22, I (lenL x2)), (23, I z1.2.2)] [(16, .box [S p0.f0, I p0.f1, I p0.f2, LL a37 p0.f3] false), (24, .box [S p1.f0, I p1.f1, I p1.f2, LL a64 p1.f3] false), (40, RR 80 6 a79 z1.1 0 false), (56, .box [S x1.f0, I x1.f1.f0, I x1.f1.f1, I x1.f1.f2, I x1.f1.f3] false), (168, RR 76 5 a75 z1.2.1 0 false)] 72)) z1)) = (L35_6 p0 p1 z0 x1 x2 z1).map (Sum.elim (fun z => .inl ((fun z1 : ((List S79) × (List S75) × Int) => (mkE [(2, .ba 16 0), (3, .ba 24 0), (5, .own 40 0), (7, .ba 56 0), (14, LL a37 p0.f3), (15, I (lenL p0.f3)), (16, I z0.2), (21, .own 168 0), (22, I (lenL x2)), (23, I z1.2.2)] [(16, .box [S p0.f0, I p0.f1, I p0.f2, LL a37 p0.f3] false), (24, .box [S p1.f0, I p1.f1, I p1.f2, LL a64 p1.f3] false), (40, RR 80 6 a79 z1.1 0 false), (56, .box [S x1.f0, I x1.f1.f0, I x1.f1.f1, I x1.f1.f2, I x1.f1.f3] false), (168, RR 76 5 a75 z1.2.1 0 false)] 72)) z)) (fun x => .inr ((fun (x : (Int × Bool × (List S79) × (List S75))) => (.exit 2, (mkE [(2, .ba 16 0), (3, .ba 24 0), (5, .own 40 0), (7, .ba 56 0), (14, LL a37 p0.f3), (15, I (lenL p0.f3)), (16, I z0.2), (21, .own 168 0), (22, I (lenL x2)), (23, I x.1), (24, B x.2.1)] [(16, .box [S p0.f0, I p0.f1, I p0.f2, LL a37 p0.f3] false), (24, .box [S p1.f0, I p1.f1, I p1.f2, LL a64 p1.f3] false), (40, RR 80 6 a79 x.2.2.1 0 false), (56, .box [S x1.f0, I x1.f1.f0, I x1.f1.f1, I x1.f1.f2, I x1.f1.f3] false), (168, RR 76 5 a75 x.2.2.2 0 false)] 72))) x))) := by
  unfold L35_6
  let s_0 : List (Nat × AV) := [(14, LL a37 p0.f3), (15, I (lenL p0.f3)), (16, I z0.2), (21, .own 168 0), (22, I (lenL x2))]
  let s_1 : List (Nat × AV) := [(2, .ba 16 0), (3, .ba 24 0), (5, .own 40 0), (7, .ba 56 0), (9, .ba 72 0)]
  let o_0 : List (Nat × AObj) := [(16, .box [S p0.f0, I p0.f1, I p0.f2, LL a37 p0.f3] false), (24, .box [S p1.f0, I p1.f1, I p1.f2, LL a64 p1.f3] false), (40, RR 80 6 a79 z1.1 0 false), (56, .box [S x1.f0, I x1.f1.f0, I x1.f1.f1, I x1.f1.f2, I x1.f1.f3] false)]
  let o_1 : List (Nat × AObj) := [(168, RR 76 5 a75 z1.2.1 0 false)]
  refine gS 0 ?_
  refine gR 6 (rg Tryz.f35 6) ?_
  refine se (mkE ((2, .ba 16 0) :: ((3, .ba 24 0) :: ((5, .own 40 0) :: ((7, .ba 56 0) :: (s_0.append ((23, I z1.2.2) :: [(24, B (ltI z1.2.2 (lenL x2)))])))))) (o_0.append o_1) 72) ?_
  refine pN ?_
  refine pS ?_
  refine gS 7 ?_
  refine gC 24 (ltI z1.2.2 (lenL x2)) ?_ ?_
  · refine gK ?_
    refine pN ?_
    refine pS ?_
    refine gS 13 ?_
    refine gB 3 ?_
    refine gS 8 ?_
    refine gR 7 (rg Tryz.f35 7) ?_
    refine vo 25 (addrOE 72 76 5 168 0 false a75 .i64 z1.2.1 z1.2.2) (fun x3 => ?_)
    refine vo 26 (loadOE 76 168 0 x3 0 76 5 5 true false a75 (fun q : S75 => a75 q) z1.2.1) (fun x4 => ?_)
    refine se (mkE (s_1.append (s_0.append [(23, I z1.2.2)])) (o_0.append ((72, .box [S x4.f0, I x4.f1.f0, I x4.f1.f1, I x4.f1.f2, I x4.f1.f3] false) :: o_1)) 72) ?_
    refine pN ?_
    refine pS ?_
    refine gS 9 ?_
    refine gR 8 (rg Tryz.f35 8) ?_
    refine sg 10 (mkE ((36, I p0.f2) :: ((35, .ba 16 2) :: ((34, I p0.f1) :: ((33, .ba 16 1) :: ((32, I p1.f2) :: ((31, .ba 24 2) :: ((30, I p1.f1) :: ((29, .ba 24 1) :: ((28, a25 x4.f1) :: ((27, .ba 72 1) :: (s_1.append (s_0.append [(23, I z1.2.2)])))))))))))) (o_0.append ((72, .box [S x4.f0, I x4.f1.f0, I x4.f1.f1, I x4.f1.f2, I x4.f1.f3] false) :: o_1)) 72) ?_
    refine co 37 [] (h63 x4.f1 p1.f1 p1.f2 p0.f1 p0.f2) (fun x5 => ?_)
    refine se (mkE (s_1.append ((10, .ba 80 0) :: (s_0.append [(23, I z1.2.2)]))) (o_0.append ((72, .box [S x4.f0, I x4.f1.f0, I x4.f1.f1, I x4.f1.f2, I x4.f1.f3] false) :: ((80, .box [I x5.f0, I x5.f1, I x5.f2, I x5.f3] false) :: o_1))) 72) ?_
    refine pN ?_
    refine pS ?_
    refine gS 10 ?_
    refine gR 9 (rg Tryz.f35 9) ?_
    refine sg 3 (mkE ((41, a25 x5) :: ((40, a25 x1.f1) :: ((39, .ba 56 1) :: (s_1.append ((10, .ba 80 0) :: (s_0.append [(23, I z1.2.2)])))))) (o_0.append ((72, .box [S x4.f0, I x4.f1.f0, I x4.f1.f1, I x4.f1.f2, I x4.f1.f3] false) :: ((80, .box [I x5.f0, I x5.f1, I x5.f2, I x5.f3] false) :: o_1))) 72) ?_
    refine co 42 [] (h49 x1.f1 x5) (fun x6 => ?_)
    refine se (mkE (s_1.append ((11, .ba 88 0) :: ((12, B x6.2) :: (s_0.append [(23, I z1.2.2)])))) (o_0.append ((72, .box [S x4.f0, I x4.f1.f0, I x4.f1.f1, I x4.f1.f2, I x4.f1.f3] false) :: ((88, .box [I x6.1.f0, I x6.1.f1, I x6.1.f2, I x6.1.f3] false) :: o_1))) 72) ?_
    refine pN ?_
    refine pS ?_
    refine gS 0 ?_
    refine gR 10 (rg Tryz.f35 10) ?_
    refine se (mkE (s_1.append ((11, .ba 88 0) :: (s_0.append ((23, I z1.2.2) :: [(45, B x6.2)])))) (o_0.append ((72, .box [S x4.f0, I x4.f1.f0, I x4.f1.f1, I x4.f1.f2, I x4.f1.f3] false) :: ((88, .box [I x6.1.f0, I x6.1.f1, I x6.1.f2, I x6.1.f3] false) :: o_1))) 72) ?_
    refine pN ?_
    refine pS ?_
    refine gC 45 x6.2 ?_ ?_
    · refine gS 12 ?_
      refine gD 11 14 (rg Tryz.f35 11) [0, 1, 2, 3, 4, 5, 6, 7, 8, 9, 10, 11, 12, 13, 14, 15] ?_
      refine dg 14 [(some 46, qe (.ba 88 0)), (some 47, qe (I x6.1.f0)), (some 48, qe (.ba 56 1)), (some 49, qe (.ba 56 1)), (some 50, qe (I x1.f1.f0)), (some 51, qe (I (subI .i64 x6.1.f0 x1.f1.f0))), (some 52, qe (.ba 88 1)), (some 53, qe (I x6.1.f1)), (some 54, qe (.ba 56 1)), (some 55, qe (.ba 56 2)), (some 56, qe (I x1.f1.f1)), (some 57, qe (I (subI .i64 x6.1.f1 x1.f1.f1))), (some 58, qe (.ba 88 0)), (none, { e := { val := .und }, st := some (88, .box [I (subI .i64 x6.1.f0 x1.f1.f0), I x6.1.f1, I x6.1.f2, I x6.1.f3] false, 0, 1) })] ?_
      refine de (mkE ((58, .ba 88 0) :: ((57, I (subI .i64 x6.1.f1 x1.f1.f1)) :: ((56, I x1.f1.f1) :: ((55, .ba 56 2) :: ((54, .ba 56 1) :: ((53, I x6.1.f1) :: ((52, .ba 88 1) :: ((51, I (subI .i64 x6.1.f0 x1.f1.f0)) :: ((50, I x1.f1.f0) :: ((49, .ba 56 1) :: ((48, .ba 56 1) :: ((47, I x6.1.f0) :: ((46, .ba 88 0) :: (s_1.append ((11, .ba 88 0) :: (s_0.append ((23, I z1.2.2) :: [(45, B x6.2)]))))))))))))))))) ((88, .box [I (subI .i64 x6.1.f0 x1.f1.f0), I x6.1.f1, I x6.1.f2, I x6.1.f3] false) :: (o_0.append ((72, .box [S x4.f0, I x4.f1.f0, I x4.f1.f1, I x4.f1.f2, I x4.f1.f3] false) :: ((88, .box [I x6.1.f0, I x6.1.f1, I x6.1.f2, I x6.1.f3] false) :: o_1)))) 72) ?_
      refine se (mkE (s_1.append ((11, .ba 88 0) :: (s_0.append [(23, I z1.2.2)]))) (o_0.append ((72, .box [S x4.f0, I x4.f1.f0, I x4.f1.f1, I x4.f1.f2, I x4.f1.f3] false) :: ((88, .box [I (subI .i64 x6.1.f0 x1.f1.f0), I (subI .i64 x6.1.f1 x1.f1.f1), I x6.1.f2, I x6.1.f3] false) :: o_1))) 72) ?_
      refine pN ?_
      refine pS ?_
      refine gR 12 (rg Tryz.f35 12) ?_
      refine sg 8 (mkE ((67, .own 536 0) :: ((66, .agg [S x1.f0, S x4.f0, I (subI .i64 x6.1.f0 x1.f1.f0), I (subI .i64 x6.1.f1 x1.f1.f1), I x6.1.f2, I x6.1.f3]) :: ((65, .agg [I (subI .i64 x6.1.f0 x1.f1.f0), I (subI .i64 x6.1.f1 x1.f1.f1), I x6.1.f2, I x6.1.f3]) :: ((64, S x4.f0) :: ((63, .ba 72 0) :: ((62, S x1.f0) :: ((61, .ba 56 0) :: ((60, .own 40 0) :: (s_1.append ((11, .ba 88 0) :: (s_0.append [(23, I z1.2.2)]))))))))))) ((536, RR 80 6 a79 ([(S79.mk x1.f0 x4.f0 (S25.mk (subI .i64 x6.1.f0 x1.f1.f0) (subI .i64 x6.1.f1 x1.f1.f1) x6.1.f2 x6.1.f3))] : List S79) 0 false) :: (o_0.append ((72, .box [S x4.f0, I x4.f1.f0, I x4.f1.f1, I x4.f1.f2, I x4.f1.f3] false) :: ((88, .box [I (subI .i64 x6.1.f0 x1.f1.f0), I (subI .i64 x6.1.f1 x1.f1.f1), I x6.1.f2, I x6.1.f3] false) :: o_1)))) 72) ?_
      refine mo (some 68) (apO 66 80 6 64 40 a79 0 [536] (y := .own 536 0) (l2 := ([(S79.mk x1.f0 x4.f0 (S25.mk (subI .i64 x6.1.f0 x1.f1.f0) (subI .i64 x6.1.f1 x1.f1.f1) x6.1.f2 x6.1.f3))] : List S79))) (fun x7 => ?_)
      refine se (mkE ((2, .ba 16 0) :: ((3, .ba 24 0) :: ((5, .own 40 1) :: ((7, .ba 56 0) :: (s_0.append [(23, I z1.2.2)]))))) ((16, .box [S p0.f0, I p0.f1, I p0.f2, LL a37 p0.f3] false) :: ((24, .box [S p1.f0, I p1.f1, I p1.f2, LL a64 p1.f3] false) :: ((40, RR 80 6 a79 x7 1 false) :: ((56, .box [S x1.f0, I x1.f1.f0, I x1.f1.f1, I x1.f1.f2, I x1.f1.f3] false) :: o_1)))) 72) ?_
      refine pB ?_
      refine pN ?_
      refine pS ?_
      refine gR 13 (rg Tryz.f35 13) ?_
      refine se (mkE ((2, .ba 16 0) :: ((3, .ba 24 0) :: ((5, .own 40 1) :: ((7, .ba 56 0) :: (s_0.append [(23, I (addI .i64 z1.2.2 1))]))))) ((16, .box [S p0.f0, I p0.f1, I p0.f2, LL a37 p0.f3] false) :: ((24, .box [S p1.f0, I p1.f1, I p1.f2, LL a64 p1.f3] false) :: ((40, RR 80 6 a79 x7 1 false) :: ((56, .box [S x1.f0, I x1.f1.f0, I x1.f1.f1, I x1.f1.f2, I x1.f1.f3] false) :: o_1)))) 72) ?_
      exact pL
    · refine gK ?_
      refine pB ?_
      refine pN ?_
      refine pS ?_
      refine gR 13 (rg Tryz.f35 13) ?_
      refine se (mkE ((2, .ba 16 0) :: ((3, .ba 24 0) :: ((5, .own 40 0) :: ((7, .ba 56 0) :: (s_0.append [(23, I (addI .i64 z1.2.2 1))]))))) (o_0.append o_1) 72) ?_
      exact pL
  · refine gX 2 ?_
    exact pL
noncomputable def L35_3 (p0 : S23) (p1 : S31) (z0 : ((List S79) × Int)) : Option (((List S79) × Int) ⊕ (Int × Bool × (List S79))) := (bif (ltI z0.2 (lenL p0.f3)) then ((listAt p0.f3 z0.2).bind fun x1 => ((T33 p1).bind fun x2 => ((iter (L35_6 p0 p1 z0 x1 x2) (z0.1, x2, 0)).bind fun y8 => (some (.inl (y8.2.2.1, (addI .i64 z0.2 1))))))) else (some (.inr (z0.2, (ltI z0.2 (lenL p0.f3)), z0.1))))
theorem L35_3_ok (C : Callee) (h33 : ∀ (p0 : S31), C 33 [a31 p0] = (T33 p0).map (fun l => AV.fr 76 5 (List.map a75 l))) (h49 : ∀ (p0 : S25) (p1 : S25), C 49 [a25 p0, a25 p1] = (T49 p0 p1).map (fun r => AV.tup [a25 r.1, B r.2])) (h63 : ∀ (p0 : S25) (p1 : Int) (p2 : Int) (p3 : Int) (p4 : Int), C 63 [a25 p0, I p1, I p2, I p3, I p4] = (T63 p0 p1 p2 p3 p4).map a25) (p0 : S23) (p1 : S31) (z0 : ((List S79) × Int)) : runs Tryz.prog C (cfg.fn 35) (finLoop ((cfg.fn 35).keep 3) ((cfg.fn 35).al 3)) [] (execA Tryz.prog C (cfg.fn 35) (nr Tryz.f35 [false, false, true, false, true, true]) ((fun z0 : ((List S79) × Int) => (mkE [(2, .ba 16 0), (3, .ba 24 0), (5, .own 40 0), (14, LL a37 p0.f3), (15, I (lenL p0.f3)), (16, I z0.2)] [(16, .box [S p0.f0, I p0.f1, I p0.f2, LL a37 p0.f3] false), (24, .box [S p1.f0, I p1.f1, I p1.f2, LL a64 p1.f3] false), (40, RR 80 6 a79 z0.1 0 false)] 72)) z0)) = (L35_3 p0 p1 z0).map (Sum.elim (fun z => .inl ((fun z0 : ((List S79) × Int) => (mkE [(2, .ba 16 0), (3, .ba 24 0), (5, .own 40 0), (14, LL a37 p0.f3), (15, I (lenL p0.f3)), (16, I z0.2)] [(16, .box [S p0.f0, I p0.f1, I p0.f2, LL a37 p0.f3] false), (24, .box [S p1.f0, I p1.f1, I p1.f2, LL a64 p1.f3] false), (40, RR 80 6 a79 z0.1 0 false)] 72)) z)) (fun x => .inr ((fun (x : (Int × Bool × (List S79))) => (.exit 0, (mkE [(2, .ba 16 0), (3, .ba 24 0), (5, .own 40 0), (14, LL a37 p0.f3), (15, I (lenL p0.f3)), (16, I x.1), (17, B x.2.1)] [(16, .box [S p0.f0, I p0.f1, I p0.f2, LL a37 p0.f3] false), (24, .box [S p1.f0, I p1.f1, I p1.f2, LL a64 p1.f3] false), (40, RR 80 6 a79 x.2.2 0 false)] 72))) x))) := by
  unfold L35_3
  let s_0 : List (Nat × AV) := [(2, .ba 16 0), (3, .ba 24 0), (5, .own 40 0), (7, .ba 56 0), (14, LL a37 p0.f3), (15, I (lenL p0.f3)), (16, I z0.2)]
  let o_0 : List (Nat × AObj) := [(16, .box [S p0.f0, I p0.f1, I p0.f2, LL a37 p0.f3] false), (24, .box [S p1.f0, I p1.f1, I p1.f2, LL a64 p1.f3] false)]
  refine gS 0 ?_
  refine gR 3 (rg Tryz.f35 3) ?_
  refine se (mkE [(2, .ba 16 0), (3, .ba 24 0), (5, .own 40 0), (14, LL a37 p0.f3), (15, I (lenL p0.f3)), (16, I z0.2), (17, B (ltI z0.2 (lenL p0.f3)))] (o_0.append [(40, RR 80 6 a79 z0.1 0 false)]) 72) ?_
  refine pN ?_
  refine pS ?_
  refine gS 4 ?_
  refine gC 17 (ltI z0.2 (lenL p0.f3)) ?_ ?_
  · refine gK ?_
    refine pN ?_
    refine pS ?_
    refine gS 14 ?_
    refine gB 1 ?_
    refine gS 5 ?_
    refine gR 4 (rg Tryz.f35 4) ?_
    refine vo 18 (addrE 22 38 5 a37 .i64 p0.f3 z0.2) (fun x1 => ?_)
    refine se (mkE s_0 (o_0.append ((40, RR 80 6 a79 z0.1 0 false) :: [(56, .box [S x1.f0, I x1.f1.f0, I x1.f1.f1, I x1.f1.f2, I x1.f1.f3] false)])) 72) ?_
    refine pN ?_
    refine pS ?_
    refine gS 6 ?_
    refine gR 5 (rg Tryz.f35 5) ?_
    refine sg 1 (mkE ((20, a31 p1) :: s_0) (o_0.append ((40, RR 80 6 a79 z0.1 0 false) :: [(56, .box [S x1.f0, I x1.f1.f0, I x1.f1.f1, I x1.f1.f2, I x1.f1.f3] false)])) 72) ?_
    refine co 21 [] (h33 p1) (fun x2 => ?_)
    refine eo 22 (I (lenL x2)) (lenOE 72 76 5 a75 x2) ?_
    refine se (mkE (s_0.append ((21, .own 168 0) :: ((22, I (lenL x2)) :: [(23, I 0)]))) (o_0.append ((40, RR 80 6 a79 z0.1 0 false) :: ((56, .box [S x1.f0, I x1.f1.f0, I x1.f1.f1, I x1.f1.f2, I x1.f1.f3] false) :: [(168, RR 76 5 a75 x2 0 false)]))) 72) ?_
    refine pN ?_
    refine pS ?_
    refine gB 2 ?_
    refine lo [(2, none), (3, none), (5, some (80, 6)), (7, none), (14, none), (15, none), (16, none), (21, some (76, 5)), (22, none), (23, none)] [] (L35_6 p0 p1 z0 x1 x2) (fun z1 : ((List S79) × (List S75) × Int) => (mkE (s_0.append ((21, .own 168 0) :: ((22, I (lenL x2)) :: [(23, I z1.2.2)]))) (o_0.append ((40, RR 80 6 a79 z1.1 0 false) :: ((56, .box [S x1.f0, I x1.f1.f0, I x1.f1.f1, I x1.f1.f2, I x1.f1.f3] false) :: [(168, RR 76 5 a75 z1.2.1 0 false)]))) 72)) (fun (x : (Int × Bool × (List S79) × (List S75))) => (.exit 2, (mkE (s_0.append ((21, .own 168 0) :: ((22, I (lenL x2)) :: ((23, I x.1) :: [(24, B x.2.1)])))) (o_0.append ((40, RR 80 6 a79 x.2.2.1 0 false) :: ((56, .box [S x1.f0, I x1.f1.f0, I x1.f1.f1, I x1.f1.f2, I x1.f1.f3] false) :: [(168, RR 76 5 a75 x.2.2.2 0 false)]))) 72))) (z0.1, x2, 0) (fun z => L35_6_ok C h49 h63 p0 p1 z0 x1 x2 z) ?_
    intro y8
    refine pH ?_
    refine pB ?_
    refine pN ?_
    refine pS ?_
    refine gR 14 (rg Tryz.f35 14) ?_
    refine se (mkE [(2, .ba 16 0), (3, .ba 24 0), (5, .own 40 0), (14, LL a37 p0.f3), (15, I (lenL p0.f3)), (16, I (addI .i64 z0.2 1))] (o_0.append [(40, RR 80 6 a79 y8.2.2.1 0 false)]) 72) ?_
    exact pL
  · refine gX 0 ?_
    exact pL
noncomputable def T35 (p0 : S23) (p1 : S31) : Option (List S79) := ((iter (L35_3 p0 p1) ([], 0)).bind fun y9 => (some y9.2.2))
theorem B35 (C : Callee) (h33 : ∀ (p0 : S31), C 33 [a31 p0] = (T33 p0).map (fun l => AV.fr 76 5 (List.map a75 l))) (h49 : ∀ (p0 : S25) (p1 : S25), C 49 [a25 p0, a25 p1] = (T49 p0 p1).map (fun r => AV.tup [a25 r.1, B r.2])) (h63 : ∀ (p0 : S25) (p1 : Int) (p2 : Int) (p3 : Int) (p4 : Int), C 63 [a25 p0, I p1, I p2, I p3, I p4] = (T63 p0 p1 p2 p3 p4).map a25) (p0 : S23) (p1 : S31) : runs Tryz.prog C (cfg.fn 35) (finFn Tryz.prog (cfg.fn 35).byval Tryz.f35) [] (execA Tryz.prog C (cfg.fn 35) (nr Tryz.f35 []) (frame0 [a23 p0, a31 p1] 72 false)) = (T35 p0 p1).map (fun l => AV.fr 80 6 (List.map a79 l)) := by
  unfold T35
  let o_0 : List (Nat × AObj) := [(16, .box [S p0.f0, I p0.f1, I p0.f2, LL a37 p0.f3] false), (24, .box [S p1.f0, I p1.f1, I p1.f2, LL a64 p1.f3] false)]
  refine gS 1 ?_
  refine gR 0 (rg Tryz.f35 0) ?_
  refine se (mkE [(2, .ba 16 0), (3, .ba 24 0)] o_0 72) ?_
  refine pN ?_
  refine pS ?_
  refine gS 2 ?_
  refine gR 1 (rg Tryz.f35 1) ?_
  refine se (mkE [(2, .ba 16 0), (3, .ba 24 0), (5, .nils)] o_0 72) ?_
  refine pN ?_
  refine pS ?_
  refine gS 15 ?_
  refine gS 3 ?_
  refine gR 2 (rg Tryz.f35 2) ?_
  refine sg 2 (mkE [(14, LL a37 p0.f3), (13, .ba 16 3), (2, .ba 16 0), (3, .ba 24 0), (5, .nils)] o_0 72) ?_
  refine eo 15 (I (lenL p0.f3)) (lenE 22 a37 p0.f3) ?_
  refine se (mkE [(2, .ba 16 0), (3, .ba 24 0), (5, .nils), (14, LL a37 p0.f3), (15, I (lenL p0.f3)), (16, I 0)] o_0 72) ?_
  refine pN ?_
  refine pS ?_
  refine gB 0 ?_
  refine lo [(2, none), (3, none), (5, some (80, 6)), (14, none), (15, none), (16, none)] [] (L35_3 p0 p1) (fun z0 : ((List S79) × Int) => (mkE [(2, .ba 16 0), (3, .ba 24 0), (5, .own 40 0), (14, LL a37 p0.f3), (15, I (lenL p0.f3)), (16, I z0.2)] (o_0.append [(40, RR 80 6 a79 z0.1 0 false)]) 72)) (fun (x : (Int × Bool × (List S79))) => (.exit 0, (mkE [(2, .ba 16 0), (3, .ba 24 0), (5, .own 40 0), (14, LL a37 p0.f3), (15, I (lenL p0.f3)), (16, I x.1), (17, B x.2.1)] (o_0.append [(40, RR 80 6 a79 x.2.2 0 false)]) 72))) ([], 0) (fun z => L35_3_ok C h33 h49 h63 p0 p1 z) ?_
  intro y9
  refine pH ?_
  refine pN ?_
  refine pS ?_
  refine gS 0 ?_
  refine gR 15 (rg Tryz.f35 15) ?_
  refine se (mkE [(4, .own 40 0)] [(40, RR 80 6 a79 y9.2.2 0 false)] 72) ?_
  refine pN ?_
  refine pS ?_
  refine gE ?_
  exact pL
theorem F35 (m : Nat) (hm : 7 ≤ m) (p0 : S23) (p1 : S31) : callA Tryz.prog cfg m 35 [a23 p0, a31 p1] = (T35 p0 p1).map (fun l => AV.fr 80 6 (List.map a79 l)) := by
  obtain ⟨q, rfl⟩ : ∃ q, m = q + 1 := ⟨m - 1, by omega⟩
  exact (callA_body (fn := Tryz.f35) (c := body_ Tryz.f35) q _ (by kernel_rfl) (by kernel_rfl) (by kernel_rfl)).trans (B35 _ (fun p0 => F33 q (by omega) p0) (fun p0 p1 => F49 q (by omega) p0 p1) (fun p0 p1 p2 p3 p4 => F63 q (by omega) p0 p1 p2 p3 p4) p0 p1)

noncomputable def L34_4 (p0 : (List S79)) (p1 : (List S79)) (z0 : Int) : Option (Int ⊕ ((Int × Bool) ⊕ Unit)) := (bif (ltI z0 (lenL p0)) then ((listAt p0 z0).bind fun x1 => ((listAt p1 z0).bind fun x2 => (bif (!allB [eqB x1.f0 x2.f0, eqB x1.f1 x2.f1, allB [eqI x1.f2.f0 x2.f2.f0, eqI x1.f2.f1 x2.f2.f1, eqI x1.f2.f2 x2.f2.f2, eqI x1.f2.f3 x2.f2.f3]]) then (some (.inr (.inr ()))) else (some (.inl (addI .i64 z0 1)))))) else (some (.inr (.inl (z0, (ltI z0 (lenL p0)))))))
theorem L34_4_ok (C : Callee) (p0 : (List S79)) (p1 : (List S79)) (z0 : Int) : runs Tryz.prog C (cfg.fn 34) (finLoop ((cfg.fn 34).keep 4) ((cfg.fn 34).al 4)) [] (execA Tryz.prog C (cfg.fn 34) (nr Tryz.f34 [false, false, true, false, true, true]) ((fun z0 : Int => (mkE [(0, LL a79 p0), (1, LL a79 p1), (12, I (lenL p0)), (13, I z0)] [] 26)) z0)) = (L34_4 p0 p1 z0).map (Sum.elim (fun z => .inl ((fun z0 : Int => (mkE [(0, LL a79 p0), (1, LL a79 p1), (12, I (lenL p0)), (13, I z0)] [] 26)) z)) (fun x => .inr ((Sum.elim (fun (x : (Int × Bool)) => (.exit 0, (mkE [(0, LL a79 p0), (1, LL a79 p1), (12, I (lenL p0)), (13, I x.1), (14, B x.2)] [] 26))) (fun (x : Unit) => (.ret, (mkE [(4, B false)] [] 26)))) x))) := by
  unfold L34_4
  let s_0 : List (Nat × AV) := [(0, LL a79 p0), (1, LL a79 p1), (5, I z0), (12, I (lenL p0)), (13, I z0)]
  refine gS 0 ?_
  refine gR 4 (rg Tryz.f34 4) ?_
  refine se (mkE [(0, LL a79 p0), (1, LL a79 p1), (12, I (lenL p0)), (13, I z0), (14, B (ltI z0 (lenL p0)))] [] 26) ?_
  refine pN ?_
  refine pS ?_
  refine gS 5 ?_
  refine gC 14 (ltI z0 (lenL p0)) ?_ ?_
  · refine gK ?_
    refine pN ?_
    refine pS ?_
    refine gS 8 ?_
    refine gB 1 ?_
    refine gS 6 ?_
    refine gR 5 (rg Tryz.f34 5) ?_
    refine se (mkE s_0 [] 26) ?_
    refine pN ?_
    refine pS ?_
    refine gS 0 ?_
    refine gD 6 9 (rg Tryz.f34 6) [0, 1, 2, 3, 4, 5, 6, 7, 8] ?_
    refine dg 2 [(some 16, qe (LL a79 p0)), (some 17, qe (I z0))] ?_
    refine dv 18 (mkE ((17, I z0) :: ((16, LL a79 p0) :: s_0)) [] 26) (addrE 66 80 6 a79 .i64 p0 z0) (fun x1 => ?_)
    refine dg 6 [(some 16, qe (LL a79 p0)), (some 17, qe (I z0)), (some 18, qe (.ia [S x1.f0, S x1.f1, I x1.f2.f0, I x1.f2.f1, I x1.f2.f2, I x1.f2.f3] 0)), (some 19, qe (a79 x1)), (some 20, qe (LL a79 p1)), (some 21, qe (I z0))] ?_
    refine dv 22 (mkE ((21, I z0) :: ((20, LL a79 p1) :: s_0)) [] 26) (addrE 66 80 6 a79 .i64 p1 z0) (fun x2 => ?_)
    refine dg 8 [(some 16, qe (LL a79 p0)), (some 17, qe (I z0)), (some 18, qe (.ia [S x1.f0, S x1.f1, I x1.f2.f0, I x1.f2.f1, I x1.f2.f2, I x1.f2.f3] 0)), (some 19, qe (a79 x1)), (some 20, qe (LL a79 p1)), (some 21, qe (I z0)), (some 22, qe (.ia [S x2.f0, S x2.f1, I x2.f2.f0, I x2.f2.f1, I x2.f2.f2, I x2.f2.f3] 0)), (some 23, qe (a79 x2))] ?_
    refine df 24 (B (!allB [eqB x1.f0 x2.f0, eqB x1.f1 x2.f1, allB [eqI x1.f2.f0 x2.f2.f0, eqI x1.f2.f1 x2.f2.f1, eqI x1.f2.f2 x2.f2.f2, eqI x1.f2.f3 x2.f2.f3]])) (mkE ((23, a79 x2) :: ((22, .ia [S x2.f0, S x2.f1, I x2.f2.f0, I x2.f2.f1, I x2.f2.f2, I x2.f2.f3] 0) :: ((21, I z0) :: ((20, LL a79 p1) :: ((19, a79 x1) :: ((18, .ia [S x1.f0, S x1.f1, I x1.f2.f0, I x1.f2.f1, I x1.f2.f2, I x1.f2.f3] 0) :: ((17, I z0) :: ((16, LL a79 p0) :: s_0)))))))) [] 26) (neqE 80 (.tmp 19) (.tmp 23) [S x1.f0, S x1.f1, I x1.f2.f0, I x1.f2.f1, I x1.f2.f2, I x1.f2.f3] [S x2.f0, S x2.f1, I x2.f2.f0, I x2.f2.f1, I x2.f2.f2, I x2.f2.f3] [.string x1.f0, .string x1.f1, .int .i64 x1.f2.f0, .int .i64 x1.f2.f1, .int .i64 x1.f2.f2, .int .i64 x1.f2.f3] [.string x2.f0, .string x2.f1, .int .i64 x2.f2.f0, .int .i64 x2.f2.f1, .int .i64 x2.f2.f2, .int .i64 x2.f2.f3] [eqB x1.f0 x2.f0, eqB x1.f1 x2.f1, allB [eqI x1.f2.f0 x2.f2.f0, eqI x1.f2.f1 x2.f2.f1, eqI x1.f2.f2 x2.f2.f2, eqI x1.f2.f3 x2.f2.f3]] (hb := (hb_of (hb_step 0 (by kernel_rfl) (by kernel_rfl) (hb_step 1 (by kernel_rfl) (by kernel_rfl) (hb_step 2 (by kernel_rfl) (fieldEq_sub 9998 [.int .i64 x1.f2.f0, .int .i64 x1.f2.f1, .int .i64 x1.f2.f2, .int .i64 x1.f2.f3] [.int .i64 x2.f2.f0, .int .i64 x2.f2.f1, .int .i64 x2.f2.f2, .int .i64 x2.f2.f3] [eqI x1.f2.f0 x2.f2.f0, eqI x1.f2.f1 x2.f2.f1, eqI x1.f2.f2 x2.f2.f2, eqI x1.f2.f3 x2.f2.f3] (by kernel_rfl) (by kernel_rfl) (by kernel_rfl) (by kernel_rfl) (by kernel_rfl) (by kernel_rfl)) (hb_end 3 (by kernel_rfl)))))))) ?_
    refine de (mkE ((24, B (!allB [eqB x1.f0 x2.f0, eqB x1.f1 x2.f1, allB [eqI x1.f2.f0 x2.f2.f0, eqI x1.f2.f1 x2.f2.f1, eqI x1.f2.f2 x2.f2.f2, eqI x1.f2.f3 x2.f2.f3]])) :: ((23, a79 x2) :: ((22, .ia [S x2.f0, S x2.f1, I x2.f2.f0, I x2.f2.f1, I x2.f2.f2, I x2.f2.f3] 0) :: ((21, I z0) :: ((20, LL a79 p1) :: ((19, a79 x1) :: ((18, .ia [S x1.f0, S x1.f1, I x1.f2.f0, I x1.f2.f1, I x1.f2.f2, I x1.f2.f3] 0) :: ((17, I z0) :: ((16, LL a79 p0) :: s_0))))))))) [] 26) ?_
    refine se (mkE [(0, LL a79 p0), (1, LL a79 p1), (12, I (lenL p0)), (13, I z0), (24, B (!allB [eqB x1.f0 x2.f0, eqB x1.f1 x2.f1, allB [eqI x1.f2.f0 x2.f2.f0, eqI x1.f2.f1 x2.f2.f1, eqI x1.f2.f2 x2.f2.f2, eqI x1.f2.f3 x2.f2.f3]]))] [] 26) ?_
    refine pN ?_
    refine pS ?_
    refine gC 24 (!allB [eqB x1.f0 x2.f0, eqB x1.f1 x2.f1, allB [eqI x1.f2.f0 x2.f2.f0, eqI x1.f2.f1 x2.f2.f1, eqI x1.f2.f2 x2.f2.f2, eqI x1.f2.f3 x2.f2.f3]]) ?_ ?_
    · refine gS 0 ?_
      refine gR 7 (rg Tryz.f34 7) ?_
      refine se (mkE [(4, B false)] [] 26) ?_
      refine pN ?_
      refine pS ?_
      refine gE ?_
      exact pL
    · refine gK ?_
      refine pB ?_
      refine pN ?_
      refine pS ?_
      refine gR 8 (rg Tryz.f34 8) ?_
      refine se (mkE [(0, LL a79 p0), (1, LL a79 p1), (12, I (lenL p0)), (13, I (addI .i64 z0 1))] [] 26) ?_
      exact pL
  · refine gX 0 ?_
    exact pL
noncomputable def T34 (p0 : (List S79)) (p1 : (List S79)) : Option Bool := (bif (neI (lenL p0) (lenL p1)) then (some false) else ((iter (L34_4 p0 p1) 0).bind fun y3 => (Sum.elim (fun y3a => (some true)) (fun y3b => (some false)) y3)))
theorem B34 (C : Callee) (p0 : (List S79)) (p1 : (List S79)) : runs Tryz.prog C (cfg.fn 34) (finFn Tryz.prog (cfg.fn 34).byval Tryz.f34) [] (execA Tryz.prog C (cfg.fn 34) (nr Tryz.f34 []) (frame0 [LL a79 p0, LL a79 p1] 26 false)) = (T34 p0 p1).map B := by
  unfold T34
  let s_0 : List (Nat × AV) := [(0, LL a79 p0), (1, LL a79 p1)]
  refine gS 1 ?_
  refine gR 0 (rg Tryz.f34 0) ?_
  refine se (mkE s_0 [] 26) ?_
  refine pN ?_
  refine pS ?_
  refine gS 3 ?_
  refine gS 0 ?_
  refine gR 1 (rg Tryz.f34 1) ?_
  refine sg 1 (mkE ((6, LL a79 p0) :: s_0) [] 26) ?_
  refine eo 7 (I (lenL p0)) (lenE 66 a79 p0) ?_
  refine sg 3 (mkE ((8, LL a79 p1) :: ((7, I (lenL p0)) :: ((6, LL a79 p0) :: s_0))) [] 26) ?_
  refine eo 9 (I (lenL p1)) (lenE 66 a79 p1) ?_
  refine se (mkE (s_0.append [(10, B (neI (lenL p0) (lenL p1)))]) [] 26) ?_
  refine pN ?_
  refine pS ?_
  refine gC 10 (neI (lenL p0) (lenL p1)) ?_ ?_
  · refine gS 0 ?_
    refine gR 2 (rg Tryz.f34 2) ?_
    refine se (mkE [(4, B false)] [] 26) ?_
    refine pN ?_
    refine pS ?_
    refine gE ?_
    exact pL
  · refine gK ?_
    refine pN ?_
    refine pS ?_
    refine gS 9 ?_
    refine gS 4 ?_
    refine gR 3 (rg Tryz.f34 3) ?_
    refine sg 1 (mkE ((11, LL a79 p0) :: (s_0.append [(10, B (neI (lenL p0) (lenL p1)))])) [] 26) ?_
    refine eo 12 (I (lenL p0)) (lenE 66 a79 p0) ?_
    refine se (mkE (s_0.append ((12, I (lenL p0)) :: [(13, I 0)])) [] 26) ?_
    refine pN ?_
    refine pS ?_
    refine gB 0 ?_
    refine lo [(0, none), (1, none), (12, none), (13, none)] [] (L34_4 p0 p1) (fun z0 : Int => (mkE (s_0.append ((12, I (lenL p0)) :: [(13, I z0)])) [] 26)) (Sum.elim (fun (x : (Int × Bool)) => (.exit 0, (mkE (s_0.append ((12, I (lenL p0)) :: ((13, I x.1) :: [(14, B x.2)]))) [] 26))) (fun (x : Unit) => (.ret, (mkE [(4, B false)] [] 26)))) 0 (fun z => L34_4_ok C p0 p1 z) ?_
    intro y3
    refine ss y3 (Z := (Sum.elim (fun (x : (Int × Bool)) => (.exit 0, (mkE (s_0.append ((12, I (lenL p0)) :: ((13, I x.1) :: [(14, B x.2)]))) [] 26))) (fun (x : Unit) => (.ret, (mkE [(4, B false)] [] 26))))) (fun y3a => ?_) (fun y3b => ?_)
    · refine pH ?_
      refine pN ?_
      refine pS ?_
      refine gS 0 ?_
      refine gR 9 (rg Tryz.f34 9) ?_
      refine se (mkE [(4, B true)] [] 26) ?_
      refine pN ?_
      refine pS ?_
      refine gE ?_
      exact pL
    · exact pL
theorem F34 (m : Nat) (hm : 1 ≤ m) (p0 : (List S79)) (p1 : (List S79)) : callA Tryz.prog cfg m 34 [LL a79 p0, LL a79 p1] = (T34 p0 p1).map B := by
  obtain ⟨q, rfl⟩ : ∃ q, m = q + 1 := ⟨m - 1, by omega⟩
  exact (callA_body (fn := Tryz.f34) (c := body_ Tryz.f34) q _ (by kernel_rfl) (by kernel_rfl) (by kernel_rfl)).trans (B34 _ p0 p1)

noncomputable def L36_3 (p0 : S23) (p1 : S31) (x1 : (List S75)) (z0 : (Int × (List S75) × Int)) : Option ((Int × (List S75) × Int) ⊕ (Int × Int × Bool × (List S75))) := (bif (ltI z0.2.2 (lenL x1)) then ((idxO (List.length z0.2.1) z0.2.2).bind fun x2 => ((getN z0.2.1 x2).bind fun x3 => ((T63 x3.f1 p1.f1 p1.f2 p0.f1 p0.f2).bind fun x4 => (some (.inl ((addI .i64 z0.1 (mulI .i64 x4.f2 x4.f3)), z0.2.1, (addI .i64 z0.2.2 1))))))) else (some (.inr (z0.1, z0.2.2, (ltI z0.2.2 (lenL x1)), z0.2.1))))
theorem L36_3_ok (C : Callee) (h63 : ∀ (p0 : S25) (p1 : Int) (p2 : Int) (p3 : Int) (p4 : Int), C 63 [a25 p0, I p1, I p2, I p3, I p4] = (T63 p0 p1 p2 p3 p4).map a25) (p0 : S23) (p1 : S31) (x1 : (List S75)) (z0 : (Int × (List S75) × Int)) : runs Tryz.prog C (cfg.fn 36) (finLoop ((cfg.fn 36).keep 3) ((cfg.fn 36).al 3)) [] (execA Tryz.prog C (cfg.fn 36) (nr Tryz.f36 [false, false, true, false, true, true]) ((fun z0 : (Int × (List S75) × Int) => (mkE [(2, .ba 16 0), (3, .ba 24 0), (5, I z0.1), (12, .own 96 0), (13, I (lenL x1)), (14, I z0.2.2)] [(16, .box [S p0.f0, I p0.f1, I p0.f2, LL a37 p0.f3] false), (24, .box [S p1.f0, I p1.f1, I p1.f2, LL a64 p1.f3] false), (96, RR 76 5 a75 z0.2.1 0 false)] 56)) z0)) = (L36_3 p0 p1 x1 z0).map (Sum.elim (fun z => .inl ((fun z0 : (Int × (List S75) × Int) => (mkE [(2, .ba 16 0), (3, .ba 24 0), (5, I z0.1), (12, .own 96 0), (13, I (lenL x1)), (14, I z0.2.2)] [(16, .box [S p0.f0, I p0.f1, I p0.f2, LL a37 p0.f3] false), (24, .box [S p1.f0, I p1.f1, I p1.f2, LL a64 p1.f3] false), (96, RR 76 5 a75 z0.2.1 0 false)] 56)) z)) (fun x => .inr ((fun (x : (Int × Int × Bool × (List S75))) => (.exit 0, (mkE [(2, .ba 16 0), (3, .ba 24 0), (5, I x.1), (12, .own 96 0), (13, I (lenL x1)), (14, I x.2.1), (15, B x.2.2.1)] [(16, .box [S p0.f0, I p0.f1, I p0.f2, LL a37 p0.f3] false), (24, .box [S p1.f0, I p1.f1, I p1.f2, LL a64 p1.f3] false), (96, RR 76 5 a75 x.2.2.2 0 false)] 56))) x))) := by
  unfold L36_3
  let s_0 : List (Nat × AV) := [(12, .own 96 0), (13, I (lenL x1)), (14, I z0.2.2)]
  let o_0 : List (Nat × AObj) := [(16, .box [S p0.f0, I p0.f1, I p0.f2, LL a37 p0.f3] false), (24, .box [S p1.f0, I p1.f1, I p1.f2, LL a64 p1.f3] false)]
  let o_1 : List (Nat × AObj) := [(96, RR 76 5 a75 z0.2.1 0 false)]
  refine gS 0 ?_
  refine gR 3 (rg Tryz.f36 3) ?_
  refine se (mkE ((2, .ba 16 0) :: ((3, .ba 24 0) :: ((5, I z0.1) :: (s_0.append [(15, B (ltI z0.2.2 (lenL x1)))])))) (o_0.append o_1) 56) ?_
  refine pN ?_
  refine pS ?_
  refine gS 4 ?_
  refine gC 15 (ltI z0.2.2 (lenL x1)) ?_ ?_
  · refine gK ?_
    refine pN ?_
    refine pS ?_
    refine gS 7 ?_
    refine gB 1 ?_
    refine gS 5 ?_
    refine gR 4 (rg Tryz.f36 4) ?_
    refine vo 16 (addrOE 72 76 5 96 0 false a75 .i64 z0.2.1 z0.2.2) (fun x2 => ?_)
    refine vo 17 (loadOE 76 96 0 x2 0 76 5 5 true false a75 (fun q : S75 => a75 q) z0.2.1) (fun x3 => ?_)
    refine se (mkE ((2, .ba 16 0) :: ((3, .ba 24 0) :: ((5, I z0.1) :: ((7, .ba 56 0) :: s_0)))) (o_0.append ((56, .box [S x3.f0, I x3.f1.f0, I x3.f1.f1, I x3.f1.f2, I x3.f1.f3] false) :: o_1)) 56) ?_
    refine pN ?_
    refine pS ?_
    refine gS 6 ?_
    refine gR 5 (rg Tryz.f36 5) ?_
    refine sg 10 (mkE ((27, I p0.f2) :: ((26, .ba 16 2) :: ((25, I p0.f1) :: ((24, .ba 16 1) :: ((23, I p1.f2) :: ((22, .ba 24 2) :: ((21, I p1.f1) :: ((20, .ba 24 1) :: ((19, a25 x3.f1) :: ((18, .ba 56 1) :: ((2, .ba 16 0) :: ((3, .ba 24 0) :: ((5, I z0.1) :: ((7, .ba 56 0) :: s_0)))))))))))))) (o_0.append ((56, .box [S x3.f0, I x3.f1.f0, I x3.f1.f1, I x3.f1.f2, I x3.f1.f3] false) :: o_1)) 56) ?_
    refine co 28 [] (h63 x3.f1 p1.f1 p1.f2 p0.f1 p0.f2) (fun x4 => ?_)
    refine se (mkE ((2, .ba 16 0) :: ((3, .ba 24 0) :: ((5, I z0.1) :: ((8, .ba 64 0) :: s_0)))) (o_0.append ((64, .box [I x4.f0, I x4.f1, I x4.f2, I x4.f3] false) :: o_1)) 56) ?_
    refine pN ?_
    refine pS ?_
    refine gR 6 (rg Tryz.f36 6) ?_
    refine se (mkE ((2, .ba 16 0) :: ((3, .ba 24 0) :: ((5, I (addI .i64 z0.1 (mulI .i64 x4.f2 x4.f3))) :: s_0))) (o_0.append o_1) 56) ?_
    refine pB ?_
    refine pN ?_
    refine pS ?_
    refine gR 7 (rg Tryz.f36 7) ?_
    refine se (mkE [(2, .ba 16 0), (3, .ba 24 0), (5, I (addI .i64 z0.1 (mulI .i64 x4.f2 x4.f3))), (12, .own 96 0), (13, I (lenL x1)), (14, I (addI .i64 z0.2.2 1))] (o_0.append o_1) 56) ?_
    exact pL
  · refine gX 0 ?_
    exact pL
noncomputable def L36_9 (x6 : (List S79)) (z1 : (Int × (List S79) × Int)) : Option ((Int × (List S79) × Int) ⊕ (Int × Int × Bool × (List S79))) := (bif (ltI z1.2.2 (lenL x6)) then ((idxO (List.length z1.2.1) z1.2.2).bind fun x7 => ((getN z1.2.1 x7).bind fun x8 => (some (.inl ((subI .i64 z1.1 (mulI .i64 x8.f2.f2 x8.f2.f3)), z1.2.1, (addI .i64 z1.2.2 1)))))) else (some (.inr (z1.1, z1.2.2, (ltI z1.2.2 (lenL x6)), z1.2.1))))
theorem L36_9_ok (C : Callee) (x6 : (List S79)) (z1 : (Int × (List S79) × Int)) : runs Tryz.prog C (cfg.fn 36) (finLoop ((cfg.fn 36).keep 9) ((cfg.fn 36).al 9)) [] (execA Tryz.prog C (cfg.fn 36) (nr Tryz.f36 [false, false, true, false, true, true, true]) ((fun z1 : (Int × (List S79) × Int) => (mkE [(5, I z1.1), (39, .own 312 0), (40, I (lenL x6)), (41, I z1.2.2)] [(312, RR 80 6 a79 z1.2.1 0 false)] 56)) z1)) = (L36_9 x6 z1).map (Sum.elim (fun z => .inl ((fun z1 : (Int × (List S79) × Int) => (mkE [(5, I z1.1), (39, .own 312 0), (40, I (lenL x6)), (41, I z1.2.2)] [(312, RR 80 6 a79 z1.2.1 0 false)] 56)) z)) (fun x => .inr ((fun (x : (Int × Int × Bool × (List S79))) => (.exit 2, (mkE [(5, I x.1), (39, .own 312 0), (40, I (lenL x6)), (41, I x.2.1), (42, B x.2.2.1)] [(312, RR 80 6 a79 x.2.2.2 0 false)] 56))) x))) := by
  unfold L36_9
  refine gS 0 ?_
  refine gR 9 (rg Tryz.f36 9) ?_
  refine se (mkE [(5, I z1.1), (39, .own 312 0), (40, I (lenL x6)), (41, I z1.2.2), (42, B (ltI z1.2.2 (lenL x6)))] [(312, RR 80 6 a79 z1.2.1 0 false)] 56) ?_
  refine pN ?_
  refine pS ?_
  refine gS 10 ?_
  refine gC 42 (ltI z1.2.2 (lenL x6)) ?_ ?_
  · refine gK ?_
    refine pN ?_
    refine pS ?_
    refine gS 12 ?_
    refine gB 3 ?_
    refine gS 11 ?_
    refine gR 10 (rg Tryz.f36 10) ?_
    refine vo 43 (addrOE 66 80 6 312 0 false a79 .i64 z1.2.1 z1.2.2) (fun x7 => ?_)
    refine vo 44 (loadOE 80 312 0 x7 0 80 6 6 true false a79 (fun q : S79 => a79 q) z1.2.1) (fun x8 => ?_)
    refine se (mkE [(5, I z1.1), (10, .ba 80 0), (39, .own 312 0), (40, I (lenL x6)), (41, I z1.2.2)] [(80, .box [S x8.f0, S x8.f1, I x8.f2.f0, I x8.f2.f1, I x8.f2.f2, I x8.f2.f3] false), (312, RR 80 6 a79 z1.2.1 0 false)] 56) ?_
    refine pN ?_
    refine pS ?_
    refine gR 11 (rg Tryz.f36 11) ?_
    refine se (mkE [(5, I (subI .i64 z1.1 (mulI .i64 x8.f2.f2 x8.f2.f3))), (39, .own 312 0), (40, I (lenL x6)), (41, I z1.2.2)] [(312, RR 80 6 a79 z1.2.1 0 false)] 56) ?_
    refine pB ?_
    refine pN ?_
    refine pS ?_
    refine gR 12 (rg Tryz.f36 12) ?_
    refine se (mkE [(5, I (subI .i64 z1.1 (mulI .i64 x8.f2.f2 x8.f2.f3))), (39, .own 312 0), (40, I (lenL x6)), (41, I (addI .i64 z1.2.2 1))] [(312, RR 80 6 a79 z1.2.1 0 false)] 56) ?_
    exact pL
  · refine gX 2 ?_
    exact pL
noncomputable def T36 (p0 : S23) (p1 : S31) : Option Int := ((T33 p1).bind fun x1 => ((iter (L36_3 p0 p1 x1) (0, x1, 0)).bind fun y5 => ((T35 p0 p1).bind fun x6 => ((iter (L36_9 x6) (y5.1, x6, 0)).bind fun y9 => (some y9.1)))))
theorem B36 (C : Callee) (h33 : ∀ (p0 : S31), C 33 [a31 p0] = (T33 p0).map (fun l => AV.fr 76 5 (List.map a75 l))) (h35 : ∀ (p0 : S23) (p1 : S31), C 35 [a23 p0, a31 p1] = (T35 p0 p1).map (fun l => AV.fr 80 6 (List.map a79 l))) (h63 : ∀ (p0 : S25) (p1 : Int) (p2 : Int) (p3 : Int) (p4 : Int), C 63 [a25 p0, I p1, I p2, I p3, I p4] = (T63 p0 p1 p2 p3 p4).map a25) (p0 : S23) (p1 : S31) : runs Tryz.prog C (cfg.fn 36) (finFn Tryz.prog (cfg.fn 36).byval Tryz.f36) [] (execA Tryz.prog C (cfg.fn 36) (nr Tryz.f36 []) (frame0 [a23 p0, a31 p1] 56 false)) = (T36 p0 p1).map I := by
  unfold T36
  let s_0 : List (Nat × AV) := [(2, .ba 16 0), (3, .ba 24 0)]
  let o_0 : List (Nat × AObj) := [(16, .box [S p0.f0, I p0.f1, I p0.f2, LL a37 p0.f3] false), (24, .box [S p1.f0, I p1.f1, I p1.f2, LL a64 p1.f3] false)]
  refine gS 1 ?_
  refine gR 0 (rg Tryz.f36 0) ?_
  refine se (mkE s_0 o_0 56) ?_
  refine pN ?_
  refine pS ?_
  refine gS 2 ?_
  refine gR 1 (rg Tryz.f36 1) ?_
  refine se (mkE (s_0.append [(5, I 0)]) o_0 56) ?_
  refine pN ?_
  refine pS ?_
  refine gS 8 ?_
  refine gS 3 ?_
  refine gR 2 (rg Tryz.f36 2) ?_
  refine sg 1 (mkE ((11, a31 p1) :: (s_0.append [(5, I 0)])) o_0 56) ?_
  refine co 12 [] (h33 p1) (fun x1 => ?_)
  refine eo 13 (I (lenL x1)) (lenOE 72 76 5 a75 x1) ?_
  refine se (mkE (s_0.append ((5, I 0) :: ((12, .own 96 0) :: ((13, I (lenL x1)) :: [(14, I 0)])))) (o_0.append [(96, RR 76 5 a75 x1 0 false)]) 56) ?_
  refine pN ?_
  refine pS ?_
  refine gB 0 ?_
  refine lo [(2, none), (3, none), (5, none), (12, some (76, 5)), (13, none), (14, none)] [] (L36_3 p0 p1 x1) (fun z0 : (Int × (List S75) × Int) => (mkE (s_0.append ((5, I z0.1) :: ((12, .own 96 0) :: ((13, I (lenL x1)) :: [(14, I z0.2.2)])))) (o_0.append [(96, RR 76 5 a75 z0.2.1 0 false)]) 56)) (fun (x : (Int × Int × Bool × (List S75))) => (.exit 0, (mkE (s_0.append ((5, I x.1) :: ((12, .own 96 0) :: ((13, I (lenL x1)) :: ((14, I x.2.1) :: [(15, B x.2.2.1)]))))) (o_0.append [(96, RR 76 5 a75 x.2.2.2 0 false)]) 56))) (0, x1, 0) (fun z => L36_3_ok C h63 p0 p1 x1 z) ?_
  intro y5
  refine pH ?_
  refine pN ?_
  refine pS ?_
  refine gS 13 ?_
  refine gS 9 ?_
  refine gR 8 (rg Tryz.f36 8) ?_
  refine sg 2 (mkE ((38, a31 p1) :: ((37, a23 p0) :: (s_0.append ((5, I y5.1) :: ((12, .own 96 0) :: ((13, I (lenL x1)) :: ((14, I y5.2.1) :: [(15, B y5.2.2.1)]))))))) (o_0.append [(96, RR 76 5 a75 y5.2.2.2 0 false)]) 56) ?_
  refine co 39 [] (h35 p0 p1) (fun x6 => ?_)
  refine eo 40 (I (lenL x6)) (lenOE 66 80 6 a79 x6) ?_
  refine se (mkE [(5, I y5.1), (39, .own 312 0), (40, I (lenL x6)), (41, I 0)] [(312, RR 80 6 a79 x6 0 false)] 56) ?_
  refine pN ?_
  refine pS ?_
  refine gB 2 ?_
  refine lo [(5, none), (39, some (80, 6)), (40, none), (41, none)] [] (L36_9 x6) (fun z1 : (Int × (List S79) × Int) => (mkE [(5, I z1.1), (39, .own 312 0), (40, I (lenL x6)), (41, I z1.2.2)] [(312, RR 80 6 a79 z1.2.1 0 false)] 56)) (fun (x : (Int × Int × Bool × (List S79))) => (.exit 2, (mkE [(5, I x.1), (39, .own 312 0), (40, I (lenL x6)), (41, I x.2.1), (42, B x.2.2.1)] [(312, RR 80 6 a79 x.2.2.2 0 false)] 56))) (y5.1, x6, 0) (fun z => L36_9_ok C x6 z) ?_
  intro y9
  refine pH ?_
  refine pN ?_
  refine pS ?_
  refine gS 0 ?_
  refine gR 13 (rg Tryz.f36 13) ?_
  refine se (mkE [(4, I y9.1)] [] 56) ?_
  refine pN ?_
  refine pS ?_
  refine gE ?_
  exact pL
theorem F36 (m : Nat) (hm : 8 ≤ m) (p0 : S23) (p1 : S31) : callA Tryz.prog cfg m 36 [a23 p0, a31 p1] = (T36 p0 p1).map I := by
  obtain ⟨q, rfl⟩ : ∃ q, m = q + 1 := ⟨m - 1, by omega⟩
  exact (callA_body (fn := Tryz.f36) (c := body_ Tryz.f36) q _ (by kernel_rfl) (by kernel_rfl) (by kernel_rfl)).trans (B36 _ (fun p0 => F33 q (by omega) p0) (fun p0 p1 => F35 q (by omega) p0 p1) (fun p0 p1 p2 p3 p4 => F63 q (by omega) p0 p1 p2 p3 p4) p0 p1)

noncomputable def T9 (p0 : S23) (p1 : S31) : Option Bool := ((T29 p0 p1).bind fun x1 => ((T30 p0 p1).bind fun x2 => ((T15 p0).bind fun x3 => ((T31 p1).bind fun x4 => ((T17 ([x3, x4] : List Int)).bind fun x5 => (bif (eqI x5 0) then ((T33 p1).bind fun x6 => ((T32 x6).bind fun x7 => (bif (neI x7.2 0) then (bif (eqI x1.2 x7.2) then (bif (eqI x2.2 x7.2) then (bif (eqI (lenL x1.1) 0) then (bif (eqI x2.1 0) then ((T26).bind fun x8 => (some x8)) else (some false)) else (some false)) else (some false)) else (some false)) else (bif (eqI x1.2 0) then (bif (eqI x2.2 0) then ((T35 p0 p1).bind fun x9 => ((T34 x1.1 x9).bind fun x10 => (bif x10 then ((T36 p0 p1).bind fun x11 => (bif (eqI x2.1 x11) then ((T26).bind fun x12 => (some x12)) else (some false))) else (some false)))) else (some false)) else (some false))))) else (bif (neI x5 0) then (bif (eqI x1.2 x5) then (bif (eqI x2.2 x5) then (bif (eqI (lenL x1.1) 0) then (bif (eqI x2.1 0) then ((T26).bind fun x13 => (some x13)) else (some false)) else (some false)) else (some false)) else (some false)) else (bif (eqI x1.2 0) then (bif (eqI x2.2 0) then ((T35 p0 p1).bind fun x14 => ((T34 x1.1 x14).bind fun x15 => (bif x15 then ((T36 p0 p1).bind fun x16 => (bif (eqI x2.1 x16) then ((T26).bind fun x17 => (some x17)) else (some false))) else (some false)))) else (some false)) else (some false)))))))))
theorem B9 (C : Callee) (h15 : ∀ (p0 : S23), C 15 [a23 p0] = (T15 p0).map I) (h17 : ∀ (p0 : (List Int)), C 17 [LL I p0] = (T17 p0).map I) (h26 : C 26 [] = (T26).map B) (h29 : ∀ (p0 : S23) (p1 : S31), C 29 [a23 p0, a31 p1] = (T29 p0 p1).map (fun r => AV.tup [(fun l => AV.fr 80 6 (List.map a79 l)) r.1, I r.2])) (h30 : ∀ (p0 : S23) (p1 : S31), C 30 [a23 p0, a31 p1] = (T30 p0 p1).map (fun r => AV.tup [I r.1, I r.2])) (h31 : ∀ (p0 : S31), C 31 [a31 p0] = (T31 p0).map I) (h32 : ∀ (p0 : (List S75)), C 32 [LL a75 p0] = (T32 p0).map (fun r => AV.tup [(LL a75) r.1, I r.2])) (h33 : ∀ (p0 : S31), C 33 [a31 p0] = (T33 p0).map (fun l => AV.fr 76 5 (List.map a75 l))) (h34 : ∀ (p0 : (List S79)) (p1 : (List S79)), C 34 [LL a79 p0, LL a79 p1] = (T34 p0 p1).map B) (h35 : ∀ (p0 : S23) (p1 : S31), C 35 [a23 p0, a31 p1] = (T35 p0 p1).map (fun l => AV.fr 80 6 (List.map a79 l))) (h36 : ∀ (p0 : S23) (p1 : S31), C 36 [a23 p0, a31 p1] = (T36 p0 p1).map I) (p0 : S23) (p1 : S31) : runs Tryz.prog C (cfg.fn 9) (finFn Tryz.prog (cfg.fn 9).byval Tryz.f9) [] (execA Tryz.prog C (cfg.fn 9) (nr Tryz.f9 []) (frame0 [a23 p0, a31 p1] 81 false)) = (T9 p0 p1).map B := by
  unfold T9
  let s_0 : List (Nat × AV) := [(2, .ba 16 0), (3, .ba 24 0), (5, .own 104 0)]
  let s_1 : List (Nat × AV) := [(67, a31 p1), (66, a23 p0), (65, .own 104 0), (64, B true)]
  let s_2 : List (Nat × AV) := [(47, .own 104 0), (46, B true)]
  let o_0 : List (Nat × AObj) := [(16, .box [S p0.f0, I p0.f1, I p0.f2, LL a37 p0.f3] false), (24, .box [S p1.f0, I p1.f1, I p1.f2, LL a64 p1.f3] false)]
  refine gS 1 ?_
  refine gR 0 (rg Tryz.f9 0) ?_
  refine se (mkE [(2, .ba 16 0), (3, .ba 24 0)] o_0 81) ?_
  refine pN ?_
  refine pS ?_
  refine gS 2 ?_
  refine gR 1 (rg Tryz.f9 1) ?_
  refine sg 2 (mkE [(12, a31 p1), (11, a23 p0), (2, .ba 16 0), (3, .ba 24 0)] o_0 81) ?_
  refine co 13 [] (h29 p0 p1) (fun x1 => ?_)
  refine se (mkE (s_0.append [(6, I x1.2)]) (o_0.append [(104, RR 80 6 a79 x1.1 0 false)]) 81) ?_
  refine pN ?_
  refine pS ?_
  refine gS 3 ?_
  refine gR 2 (rg Tryz.f9 2) ?_
  refine sg 2 (mkE ((18, a31 p1) :: ((17, a23 p0) :: (s_0.append [(6, I x1.2)]))) (o_0.append [(104, RR 80 6 a79 x1.1 0 false)]) 81) ?_
  refine co 19 [] (h30 p0 p1) (fun x2 => ?_)
  refine se (mkE (s_0.append ((6, I x1.2) :: ((7, I x2.1) :: [(8, I x2.2)]))) (o_0.append [(104, RR 80 6 a79 x1.1 0 false)]) 81) ?_
  refine pN ?_
  refine pS ?_
  refine gS 4 ?_
  refine gD 3 7 (rg Tryz.f9 3) [0, 1, 2, 3, 4, 5, 6] ?_
  refine dg 1 [(some 22, qe (a23 p0))] ?_
  refine dc 23 [] (mkE ((22, a23 p0) :: (s_0.append ((6, I x1.2) :: ((7, I x2.1) :: [(8, I x2.2)])))) (o_0.append [(104, RR 80 6 a79 x1.1 0 false)]) 81) (h15 p0) (fun x3 => ?_)
  refine dg 3 [(some 22, qe (a23 p0)), (some 23, qe (I x3)), (some 24, qe (a31 p1))] ?_
  refine dc 25 [] (mkE ((24, a31 p1) :: ((23, I x3) :: ((22, a23 p0) :: (s_0.append ((6, I x1.2) :: ((7, I x2.1) :: [(8, I x2.2)])))))) (o_0.append [(104, RR 80 6 a79 x1.1 0 false)]) 81) (h31 p1) (fun x4 => ?_)
  refine dg 5 [(some 22, qe (a23 p0)), (some 23, qe (I x3)), (some 24, qe (a31 p1)), (some 25, qe (I x4)), (some 26, { e := { val := .own 208 0, news := [(208, RR 39 1 I ([x3, x4] : List Int) 0 false)] } })] ?_
  refine dc 27 [208] (mkE ((26, .own 208 0) :: ((25, I x4) :: ((24, a31 p1) :: ((23, I x3) :: ((22, a23 p0) :: (s_0.append ((6, I x1.2) :: ((7, I x2.1) :: [(8, I x2.2)])))))))) ((208, RR 39 1 I ([x3, x4] : List Int) 0 false) :: (o_0.append [(104, RR 80 6 a79 x1.1 0 false)])) 81) (h17 ([x3, x4] : List Int)) (fun x5 => ?_)
  refine dg 7 [(some 22, qe (a23 p0)), (some 23, qe (I x3)), (some 24, qe (a31 p1)), (some 25, qe (I x4)), (some 26, { e := { val := .own 208 0, news := [(208, RR 39 1 I ([x3, x4] : List Int) 0 false)] } }), (some 27, qe (I x5)), (some 9, qe (I x5))] ?_
  refine de (mkE ((9, I x5) :: ((27, I x5) :: ((26, .own 208 0) :: ((25, I x4) :: ((24, a31 p1) :: ((23, I x3) :: ((22, a23 p0) :: (s_0.append ((6, I x1.2) :: ((7, I x2.1) :: [(8, I x2.2)])))))))))) ((208, RR 39 1 I ([x3, x4] : List Int) 0 false) :: (o_0.append [(104, RR 80 6 a79 x1.1 0 false)])) 81) ?_
  refine se (mkE (s_0.append ((6, I x1.2) :: ((7, I x2.1) :: ((8, I x2.2) :: [(9, I x5)])))) (o_0.append [(104, RR 80 6 a79 x1.1 0 false)]) 81) ?_
  refine pN ?_
  refine pS ?_
  refine gS 6 ?_
  refine gS 0 ?_
  refine gR 4 (rg Tryz.f9 4) ?_
  refine se (mkE (s_0.append ((6, I x1.2) :: ((7, I x2.1) :: ((8, I x2.2) :: ((9, I x5) :: [(29, B (eqI x5 0))]))))) (o_0.append [(104, RR 80 6 a79 x1.1 0 false)]) 81) ?_
  refine pN ?_
  refine pS ?_
  refine gC 29 (eqI x5 0) ?_ ?_
  · refine gR 5 (rg Tryz.f9 5) ?_
    refine sg 1 (mkE ((31, a31 p1) :: (s_0.append ((6, I x1.2) :: ((7, I x2.1) :: ((8, I x2.2) :: ((9, I x5) :: [(29, B (eqI x5 0))])))))) (o_0.append [(104, RR 80 6 a79 x1.1 0 false)]) 81) ?_
    refine co 32 [] (h33 p1) (fun x6 => ?_)
    refine co 33 [256] (h32 x6) (fun x7 => ?_)
    refine se (mkE (s_0.append ((6, I x1.2) :: ((7, I x2.1) :: ((8, I x2.2) :: [(9, I x7.2)])))) (o_0.append [(104, RR 80 6 a79 x1.1 0 false)]) 81) ?_
    refine pN ?_
    refine pS ?_
    refine gS 8 ?_
    refine gS 0 ?_
    refine gR 6 (rg Tryz.f9 6) ?_
    refine se (mkE (s_0.append ((6, I x1.2) :: ((7, I x2.1) :: ((8, I x2.2) :: ((9, I x7.2) :: [(37, B (neI x7.2 0))]))))) (o_0.append [(104, RR 80 6 a79 x1.1 0 false)]) 81) ?_
    refine pN ?_
    refine pS ?_
    refine gC 37 (neI x7.2 0) ?_ ?_
    · refine gS 0 ?_
      refine gR 7 (rg Tryz.f9 7) ?_
      refine sg 4 (mkE ((41, B (eqI x1.2 x7.2)) :: ((40, B (eqI x1.2 x7.2)) :: ((39, I x7.2) :: ((38, I x1.2) :: (s_0.append ((6, I x1.2) :: ((7, I x2.1) :: ((8, I x2.2) :: ((9, I x7.2) :: [(37, B (neI x7.2 0))]))))))))) (o_0.append [(104, RR 80 6 a79 x1.1 0 false)]) 81) ?_
      refine sb 41 (eqI x1.2 x7.2) ?_ ?_
      · refine sg 9 (mkE ((46, B (eqI x2.2 x7.2)) :: ((45, B (eqI x2.2 x7.2)) :: ((44, B (eqI x2.2 x7.2)) :: ((43, I x7.2) :: ((42, I x2.2) :: ((41, B true) :: ((41, B (eqI x1.2 x7.2)) :: ((40, B (eqI x1.2 x7.2)) :: ((39, I x7.2) :: ((38, I x1.2) :: (s_0.append ((6, I x1.2) :: ((7, I x2.1) :: ((8, I x2.2) :: ((9, I x7.2) :: [(37, B (neI x7.2 0))]))))))))))))))) (o_0.append [(104, RR 80 6 a79 x1.1 0 false)]) 81) ?_
        refine sb 46 (eqI x2.2 x7.2) ?_ ?_
        · refine sg 10 (mkE (s_2.append ((46, B (eqI x2.2 x7.2)) :: ((45, B (eqI x2.2 x7.2)) :: ((44, B (eqI x2.2 x7.2)) :: ((43, I x7.2) :: ((42, I x2.2) :: ((41, B true) :: ((41, B (eqI x1.2 x7.2)) :: ((40, B (eqI x1.2 x7.2)) :: ((39, I x7.2) :: ((38, I x1.2) :: (s_0.append ((6, I x1.2) :: ((7, I x2.1) :: ((8, I x2.2) :: ((9, I x7.2) :: [(37, B (neI x7.2 0))])))))))))))))))) (o_0.append [(104, RR 80 6 a79 x1.1 0 false)]) 81) ?_
          refine eo 48 (I (lenL x1.1)) (lenOE 66 80 6 a79 x1.1) ?_
          refine sg 14 (mkE ((51, B (eqI (lenL x1.1) 0)) :: ((50, B (eqI (lenL x1.1) 0)) :: ((49, B (eqI (lenL x1.1) 0)) :: ((48, I (lenL x1.1)) :: (s_2.append ((46, B (eqI x2.2 x7.2)) :: ((45, B (eqI x2.2 x7.2)) :: ((44, B (eqI x2.2 x7.2)) :: ((43, I x7.2) :: ((42, I x2.2) :: ((41, B true) :: ((41, B (eqI x1.2 x7.2)) :: ((40, B (eqI x1.2 x7.2)) :: ((39, I x7.2) :: ((38, I x1.2) :: (s_0.append ((6, I x1.2) :: ((7, I x2.1) :: ((8, I x2.2) :: ((9, I x7.2) :: [(37, B (neI x7.2 0))])))))))))))))))))))) (o_0.append [(104, RR 80 6 a79 x1.1 0 false)]) 81) ?_
          refine sb 51 (eqI (lenL x1.1) 0) ?_ ?_
          · refine sg 18 (mkE ((55, B (eqI x2.1 0)) :: ((54, B (eqI x2.1 0)) :: ((53, B (eqI x2.1 0)) :: ((52, I x2.1) :: ((51, B true) :: ((51, B (eqI (lenL x1.1) 0)) :: ((50, B (eqI (lenL x1.1) 0)) :: ((49, B (eqI (lenL x1.1) 0)) :: ((48, I (lenL x1.1)) :: (s_2.append ((46, B (eqI x2.2 x7.2)) :: ((45, B (eqI x2.2 x7.2)) :: ((44, B (eqI x2.2 x7.2)) :: ((43, I x7.2) :: ((42, I x2.2) :: ((41, B true) :: ((41, B (eqI x1.2 x7.2)) :: ((40, B (eqI x1.2 x7.2)) :: ((39, I x7.2) :: ((38, I x1.2) :: (s_0.append ((6, I x1.2) :: ((7, I x2.1) :: ((8, I x2.2) :: ((9, I x7.2) :: [(37, B (neI x7.2 0))]))))))))))))))))))))))))) (o_0.append [(104, RR 80 6 a79 x1.1 0 false)]) 81) ?_
            refine sb 55 (eqI x2.1 0) ?_ ?_
            · refine co 56 [] (h26) (fun x8 => ?_)
              refine se (mkE [(4, B x8)] [] 81) ?_
              refine pN ?_
              refine pS ?_
              refine gE ?_
              exact pL
            · refine se (mkE [(4, B false)] [] 81) ?_
              refine pN ?_
              refine pS ?_
              refine gE ?_
              exact pL
          · refine se (mkE [(4, B false)] [] 81) ?_
            refine pN ?_
            refine pS ?_
            refine gE ?_
            exact pL
        · refine se (mkE [(4, B false)] [] 81) ?_
          refine pN ?_
          refine pS ?_
          refine gE ?_
          exact pL
      · refine se (mkE [(4, B false)] [] 81) ?_
        refine pN ?_
        refine pS ?_
        refine gE ?_
        exact pL
    · refine gK ?_
      refine pN ?_
      refine pS ?_
      refine gS 0 ?_
      refine gR 8 (rg Tryz.f9 8) ?_
      refine sg 3 (mkE ((60, B (eqI x1.2 0)) :: ((59, B (eqI x1.2 0)) :: ((58, I x1.2) :: (s_0.append ((6, I x1.2) :: ((7, I x2.1) :: ((8, I x2.2) :: ((9, I x7.2) :: [(37, B (neI x7.2 0))])))))))) (o_0.append [(104, RR 80 6 a79 x1.1 0 false)]) 81) ?_
      refine sb 60 (eqI x1.2 0) ?_ ?_
      · refine sg 7 (mkE ((64, B (eqI x2.2 0)) :: ((63, B (eqI x2.2 0)) :: ((62, B (eqI x2.2 0)) :: ((61, I x2.2) :: ((60, B true) :: ((60, B (eqI x1.2 0)) :: ((59, B (eqI x1.2 0)) :: ((58, I x1.2) :: (s_0.append ((6, I x1.2) :: ((7, I x2.1) :: ((8, I x2.2) :: ((9, I x7.2) :: [(37, B (neI x7.2 0))]))))))))))))) (o_0.append [(104, RR 80 6 a79 x1.1 0 false)]) 81) ?_
        refine sb 64 (eqI x2.2 0) ?_ ?_
        · refine sg 10 (mkE (s_1.append ((64, B (eqI x2.2 0)) :: ((63, B (eqI x2.2 0)) :: ((62, B (eqI x2.2 0)) :: ((61, I x2.2) :: ((60, B true) :: ((60, B (eqI x1.2 0)) :: ((59, B (eqI x1.2 0)) :: ((58, I x1.2) :: (s_0.append ((6, I x1.2) :: ((7, I x2.1) :: ((8, I x2.2) :: ((9, I x7.2) :: [(37, B (neI x7.2 0))])))))))))))))) (o_0.append [(104, RR 80 6 a79 x1.1 0 false)]) 81) ?_
          refine co 68 [] (h35 p0 p1) (fun x9 => ?_)
          refine co 69 [104, 544] (h34 x1.1 x9) (fun x10 => ?_)
          refine sg 14 (mkE ((71, B x10) :: ((70, B x10) :: ((69, B x10) :: ((68, .own 544 0) :: (s_1.append ((64, B (eqI x2.2 0)) :: ((63, B (eqI x2.2 0)) :: ((62, B (eqI x2.2 0)) :: ((61, I x2.2) :: ((60, B true) :: ((60, B (eqI x1.2 0)) :: ((59, B (eqI x1.2 0)) :: ((58, I x1.2) :: (s_0.append ((6, I x1.2) :: ((7, I x2.1) :: ((8, I x2.2) :: ((9, I x7.2) :: [(37, B (neI x7.2 0))])))))))))))))))))) ((544, RR 80 6 a79 x9 0 false) :: (o_0.append [(104, RR 80 6 a79 x1.1 0 false)])) 81) ?_
          refine sb 71 x10 ?_ ?_
          · refine sg 17 (mkE ((74, a31 p1) :: ((73, a23 p0) :: ((72, I x2.1) :: ((71, B true) :: ((71, B x10) :: ((70, B x10) :: ((69, B x10) :: ((68, .own 544 0) :: (s_1.append ((64, B (eqI x2.2 0)) :: ((63, B (eqI x2.2 0)) :: ((62, B (eqI x2.2 0)) :: ((61, I x2.2) :: ((60, B true) :: ((60, B (eqI x1.2 0)) :: ((59, B (eqI x1.2 0)) :: ((58, I x1.2) :: (s_0.append ((6, I x1.2) :: ((7, I x2.1) :: ((8, I x2.2) :: ((9, I x7.2) :: [(37, B (neI x7.2 0))])))))))))))))))))))))) ((544, RR 80 6 a79 x9 0 false) :: (o_0.append [(104, RR 80 6 a79 x1.1 0 false)])) 81) ?_
            refine co 75 [] (h36 p0 p1) (fun x11 => ?_)
            refine sg 21 (mkE ((78, B (eqI x2.1 x11)) :: ((77, B (eqI x2.1 x11)) :: ((76, B (eqI x2.1 x11)) :: ((75, I x11) :: ((74, a31 p1) :: ((73, a23 p0) :: ((72, I x2.1) :: ((71, B true) :: ((71, B x10) :: ((70, B x10) :: ((69, B x10) :: ((68, .own 544 0) :: (s_1.append ((64, B (eqI x2.2 0)) :: ((63, B (eqI x2.2 0)) :: ((62, B (eqI x2.2 0)) :: ((61, I x2.2) :: ((60, B true) :: ((60, B (eqI x1.2 0)) :: ((59, B (eqI x1.2 0)) :: ((58, I x1.2) :: (s_0.append ((6, I x1.2) :: ((7, I x2.1) :: ((8, I x2.2) :: ((9, I x7.2) :: [(37, B (neI x7.2 0))])))))))))))))))))))))))))) ((544, RR 80 6 a79 x9 0 false) :: (o_0.append [(104, RR 80 6 a79 x1.1 0 false)])) 81) ?_
            refine sb 78 (eqI x2.1 x11) ?_ ?_
            · refine co 79 [] (h26) (fun x12 => ?_)
              refine se (mkE [(4, B x12)] [] 81) ?_
              refine pN ?_
              refine pS ?_
              refine gE ?_
              exact pL
            · refine se (mkE [(4, B false)] [] 81) ?_
              refine pN ?_
              refine pS ?_
              refine gE ?_
              exact pL
          · refine se (mkE [(4, B false)] [] 81) ?_
            refine pN ?_
            refine pS ?_
            refine gE ?_
            exact pL
        · refine se (mkE [(4, B false)] [] 81) ?_
          refine pN ?_
          refine pS ?_
          refine gE ?_
          exact pL
      · refine se (mkE [(4, B false)] [] 81) ?_
        refine pN ?_
        refine pS ?_
        refine gE ?_
        exact pL
  · refine gK ?_
    refine pN ?_
    refine pS ?_
    refine gS 8 ?_
    refine gS 0 ?_
    refine gR 6 (rg Tryz.f9 6) ?_
    refine se (mkE (s_0.append ((6, I x1.2) :: ((7, I x2.1) :: ((8, I x2.2) :: ((9, I x5) :: [(37, B (neI x5 0))]))))) (o_0.append [(104, RR 80 6 a79 x1.1 0 false)]) 81) ?_
    refine pN ?_
    refine pS ?_
    refine gC 37 (neI x5 0) ?_ ?_
    · refine gS 0 ?_
      refine gR 7 (rg Tryz.f9 7) ?_
      refine sg 4 (mkE ((41, B (eqI x1.2 x5)) :: ((40, B (eqI x1.2 x5)) :: ((39, I x5) :: ((38, I x1.2) :: (s_0.append ((6, I x1.2) :: ((7, I x2.1) :: ((8, I x2.2) :: ((9, I x5) :: [(37, B (neI x5 0))]))))))))) (o_0.append [(104, RR 80 6 a79 x1.1 0 false)]) 81) ?_
      refine sb 41 (eqI x1.2 x5) ?_ ?_
      · refine sg 9 (mkE ((46, B (eqI x2.2 x5)) :: ((45, B (eqI x2.2 x5)) :: ((44, B (eqI x2.2 x5)) :: ((43, I x5) :: ((42, I x2.2) :: ((41, B true) :: ((41, B (eqI x1.2 x5)) :: ((40, B (eqI x1.2 x5)) :: ((39, I x5) :: ((38, I x1.2) :: (s_0.append ((6, I x1.2) :: ((7, I x2.1) :: ((8, I x2.2) :: ((9, I x5) :: [(37, B (neI x5 0))]))))))))))))))) (o_0.append [(104, RR 80 6 a79 x1.1 0 false)]) 81) ?_
        refine sb 46 (eqI x2.2 x5) ?_ ?_
        · refine sg 10 (mkE (s_2.append ((46, B (eqI x2.2 x5)) :: ((45, B (eqI x2.2 x5)) :: ((44, B (eqI x2.2 x5)) :: ((43, I x5) :: ((42, I x2.2) :: ((41, B true) :: ((41, B (eqI x1.2 x5)) :: ((40, B (eqI x1.2 x5)) :: ((39, I x5) :: ((38, I x1.2) :: (s_0.append ((6, I x1.2) :: ((7, I x2.1) :: ((8, I x2.2) :: ((9, I x5) :: [(37, B (neI x5 0))])))))))))))))))) (o_0.append [(104, RR 80 6 a79 x1.1 0 false)]) 81) ?_
          refine eo 48 (I (lenL x1.1)) (lenOE 66 80 6 a79 x1.1) ?_
          refine sg 14 (mkE ((51, B (eqI (lenL x1.1) 0)) :: ((50, B (eqI (lenL x1.1) 0)) :: ((49, B (eqI (lenL x1.1) 0)) :: ((48, I (lenL x1.1)) :: (s_2.append ((46, B (eqI x2.2 x5)) :: ((45, B (eqI x2.2 x5)) :: ((44, B (eqI x2.2 x5)) :: ((43, I x5) :: ((42, I x2.2) :: ((41, B true) :: ((41, B (eqI x1.2 x5)) :: ((40, B (eqI x1.2 x5)) :: ((39, I x5) :: ((38, I x1.2) :: (s_0.append ((6, I x1.2) :: ((7, I x2.1) :: ((8, I x2.2) :: ((9, I x5) :: [(37, B (neI x5 0))])))))))))))))))))))) (o_0.append [(104, RR 80 6 a79 x1.1 0 false)]) 81) ?_
          refine sb 51 (eqI (lenL x1.1) 0) ?_ ?_
          · refine sg 18 (mkE ((55, B (eqI x2.1 0)) :: ((54, B (eqI x2.1 0)) :: ((53, B (eqI x2.1 0)) :: ((52, I x2.1) :: ((51, B true) :: ((51, B (eqI (lenL x1.1) 0)) :: ((50, B (eqI (lenL x1.1) 0)) :: ((49, B (eqI (lenL x1.1) 0)) :: ((48, I (lenL x1.1)) :: (s_2.append ((46, B (eqI x2.2 x5)) :: ((45, B (eqI x2.2 x5)) :: ((44, B (eqI x2.2 x5)) :: ((43, I x5) :: ((42, I x2.2) :: ((41, B true) :: ((41, B (eqI x1.2 x5)) :: ((40, B (eqI x1.2 x5)) :: ((39, I x5) :: ((38, I x1.2) :: (s_0.append ((6, I x1.2) :: ((7, I x2.1) :: ((8, I x2.2) :: ((9, I x5) :: [(37, B (neI x5 0))]))))))))))))))))))))))))) (o_0.append [(104, RR 80 6 a79 x1.1 0 false)]) 81) ?_
            refine sb 55 (eqI x2.1 0) ?_ ?_
            · refine co 56 [] (h26) (fun x13 => ?_)
              refine se (mkE [(4, B x13)] [] 81) ?_
              refine pN ?_
              refine pS ?_
              refine gE ?_
              exact pL
            · refine se (mkE [(4, B false)] [] 81) ?_
              refine pN ?_
              refine pS ?_
              refine gE ?_
              exact pL
          · refine se (mkE [(4, B false)] [] 81) ?_
            refine pN ?_
            refine pS ?_
            refine gE ?_
            exact pL
        · refine se (mkE [(4, B false)] [] 81) ?_
          refine pN ?_
          refine pS ?_
          refine gE ?_
          exact pL
      · refine se (mkE [(4, B false)] [] 81) ?_
        refine pN ?_
        refine pS ?_
        refine gE ?_
        exact pL
    · refine gK ?_
      refine pN ?_
      refine pS ?_
      refine gS 0 ?_
      refine gR 8 (rg Tryz.f9 8) ?_
      refine sg 3 (mkE ((60, B (eqI x1.2 0)) :: ((59, B (eqI x1.2 0)) :: ((58, I x1.2) :: (s_0.append ((6, I x1.2) :: ((7, I x2.1) :: ((8, I x2.2) :: ((9, I x5) :: [(37, B (neI x5 0))])))))))) (o_0.append [(104, RR 80 6 a79 x1.1 0 false)]) 81) ?_
      refine sb 60 (eqI x1.2 0) ?_ ?_
      · refine sg 7 (mkE ((64, B (eqI x2.2 0)) :: ((63, B (eqI x2.2 0)) :: ((62, B (eqI x2.2 0)) :: ((61, I x2.2) :: ((60, B true) :: ((60, B (eqI x1.2 0)) :: ((59, B (eqI x1.2 0)) :: ((58, I x1.2) :: (s_0.append ((6, I x1.2) :: ((7, I x2.1) :: ((8, I x2.2) :: ((9, I x5) :: [(37, B (neI x5 0))]))))))))))))) (o_0.append [(104, RR 80 6 a79 x1.1 0 false)]) 81) ?_
        refine sb 64 (eqI x2.2 0) ?_ ?_
        · refine sg 10 (mkE (s_1.append ((64, B (eqI x2.2 0)) :: ((63, B (eqI x2.2 0)) :: ((62, B (eqI x2.2 0)) :: ((61, I x2.2) :: ((60, B true) :: ((60, B (eqI x1.2 0)) :: ((59, B (eqI x1.2 0)) :: ((58, I x1.2) :: (s_0.append ((6, I x1.2) :: ((7, I x2.1) :: ((8, I x2.2) :: ((9, I x5) :: [(37, B (neI x5 0))])))))))))))))) (o_0.append [(104, RR 80 6 a79 x1.1 0 false)]) 81) ?_
          refine co 68 [] (h35 p0 p1) (fun x14 => ?_)
          refine co 69 [104, 544] (h34 x1.1 x14) (fun x15 => ?_)
          refine sg 14 (mkE ((71, B x15) :: ((70, B x15) :: ((69, B x15) :: ((68, .own 544 0) :: (s_1.append ((64, B (eqI x2.2 0)) :: ((63, B (eqI x2.2 0)) :: ((62, B (eqI x2.2 0)) :: ((61, I x2.2) :: ((60, B true) :: ((60, B (eqI x1.2 0)) :: ((59, B (eqI x1.2 0)) :: ((58, I x1.2) :: (s_0.append ((6, I x1.2) :: ((7, I x2.1) :: ((8, I x2.2) :: ((9, I x5) :: [(37, B (neI x5 0))])))))))))))))))))) ((544, RR 80 6 a79 x14 0 false) :: (o_0.append [(104, RR 80 6 a79 x1.1 0 false)])) 81) ?_
          refine sb 71 x15 ?_ ?_
          · refine sg 17 (mkE ((74, a31 p1) :: ((73, a23 p0) :: ((72, I x2.1) :: ((71, B true) :: ((71, B x15) :: ((70, B x15) :: ((69, B x15) :: ((68, .own 544 0) :: (s_1.append ((64, B (eqI x2.2 0)) :: ((63, B (eqI x2.2 0)) :: ((62, B (eqI x2.2 0)) :: ((61, I x2.2) :: ((60, B true) :: ((60, B (eqI x1.2 0)) :: ((59, B (eqI x1.2 0)) :: ((58, I x1.2) :: (s_0.append ((6, I x1.2) :: ((7, I x2.1) :: ((8, I x2.2) :: ((9, I x5) :: [(37, B (neI x5 0))])))))))))))))))))))))) ((544, RR 80 6 a79 x14 0 false) :: (o_0.append [(104, RR 80 6 a79 x1.1 0 false)])) 81) ?_
            refine co 75 [] (h36 p0 p1) (fun x16 => ?_)
            refine sg 21 (mkE ((78, B (eqI x2.1 x16)) :: ((77, B (eqI x2.1 x16)) :: ((76, B (eqI x2.1 x16)) :: ((75, I x16) :: ((74, a31 p1) :: ((73, a23 p0) :: ((72, I x2.1) :: ((71, B true) :: ((71, B x15) :: ((70, B x15) :: ((69, B x15) :: ((68, .own 544 0) :: (s_1.append ((64, B (eqI x2.2 0)) :: ((63, B (eqI x2.2 0)) :: ((62, B (eqI x2.2 0)) :: ((61, I x2.2) :: ((60, B true) :: ((60, B (eqI x1.2 0)) :: ((59, B (eqI x1.2 0)) :: ((58, I x1.2) :: (s_0.append ((6, I x1.2) :: ((7, I x2.1) :: ((8, I x2.2) :: ((9, I x5) :: [(37, B (neI x5 0))])))))))))))))))))))))))))) ((544, RR 80 6 a79 x14 0 false) :: (o_0.append [(104, RR 80 6 a79 x1.1 0 false)])) 81) ?_
            refine sb 78 (eqI x2.1 x16) ?_ ?_
            · refine co 79 [] (h26) (fun x17 => ?_)
              refine se (mkE [(4, B x17)] [] 81) ?_
              refine pN ?_
              refine pS ?_
              refine gE ?_
              exact pL
            · refine se (mkE [(4, B false)] [] 81) ?_
              refine pN ?_
              refine pS ?_
              refine gE ?_
              exact pL
          · refine se (mkE [(4, B false)] [] 81) ?_
            refine pN ?_
            refine pS ?_
            refine gE ?_
            exact pL
        · refine se (mkE [(4, B false)] [] 81) ?_
          refine pN ?_
          refine pS ?_
          refine gE ?_
          exact pL
      · refine se (mkE [(4, B false)] [] 81) ?_
        refine pN ?_
        refine pS ?_
        refine gE ?_
        exact pL
theorem F9 (m : Nat) (hm : 9 ≤ m) (p0 : S23) (p1 : S31) : callA Tryz.prog cfg m 9 [a23 p0, a31 p1] = (T9 p0 p1).map B := by
  obtain ⟨q, rfl⟩ : ∃ q, m = q + 1 := ⟨m - 1, by omega⟩
  exact (callA_body (fn := Tryz.f9) (c := body_ Tryz.f9) q _ (by kernel_rfl) (by kernel_rfl) (by kernel_rfl)).trans (B9 _ (fun p0 => F15 q (by omega) p0) (fun p0 => F17 q (by omega) p0) (F26 q (by omega)) (fun p0 p1 => F29 q (by omega) p0 p1) (fun p0 p1 => F30 q (by omega) p0 p1) (fun p0 => F31 q (by omega) p0) (fun p0 => F32 q (by omega) p0) (fun p0 => F33 q (by omega) p0) (fun p0 p1 => F34 q (by omega) p0 p1) (fun p0 p1 => F35 q (by omega) p0 p1) (fun p0 p1 => F36 q (by omega) p0 p1) p0 p1)

noncomputable def L27_4 (p0 : (List S37)) (p1 : (List S37)) (z0 : Int) : Option (Int ⊕ ((Int × Bool) ⊕ Unit)) := (bif (ltI z0 (lenL p0)) then ((listAt p0 z0).bind fun x1 => ((listAt p1 z0).bind fun x2 => (bif (!allB [eqB x1.f0 x2.f0, allB [eqI x1.f1.f0 x2.f1.f0, eqI x1.f1.f1 x2.f1.f1, eqI x1.f1.f2 x2.f1.f2, eqI x1.f1.f3 x2.f1.f3]]) then (some (.inr (.inr ()))) else (some (.inl (addI .i64 z0 1)))))) else (some (.inr (.inl (z0, (ltI z0 (lenL p0)))))))
theorem L27_4_ok (C : Callee) (p0 : (List S37)) (p1 : (List S37)) (z0 : Int) : runs Tryz.prog C (cfg.fn 27) (finLoop ((cfg.fn 27).keep 4) ((cfg.fn 27).al 4)) [] (execA Tryz.prog C (cfg.fn 27) (nr Tryz.f27 [false, false, true, false, true, true]) ((fun z0 : Int => (mkE [(0, LL a37 p0), (1, LL a37 p1), (12, I (lenL p0)), (13, I z0)] [] 26)) z0)) = (L27_4 p0 p1 z0).map (Sum.elim (fun z => .inl ((fun z0 : Int => (mkE [(0, LL a37 p0), (1, LL a37 p1), (12, I (lenL p0)), (13, I z0)] [] 26)) z)) (fun x => .inr ((Sum.elim (fun (x : (Int × Bool)) => (.exit 0, (mkE [(0, LL a37 p0), (1, LL a37 p1), (12, I (lenL p0)), (13, I x.1), (14, B x.2)] [] 26))) (fun (x : Unit) => (.ret, (mkE [(4, B false)] [] 26)))) x))) := by
  unfold L27_4
  let s_0 : List (Nat × AV) := [(0, LL a37 p0), (1, LL a37 p1), (5, I z0), (12, I (lenL p0)), (13, I z0)]
  refine gS 0 ?_
  refine gR 4 (rg Tryz.f27 4) ?_
  refine se (mkE [(0, LL a37 p0), (1, LL a37 p1), (12, I (lenL p0)), (13, I z0), (14, B (ltI z0 (lenL p0)))] [] 26) ?_
  refine pN ?_
  refine pS ?_
  refine gS 5 ?_
  refine gC 14 (ltI z0 (lenL p0)) ?_ ?_
  · refine gK ?_
    refine pN ?_
    refine pS ?_
    refine gS 8 ?_
    refine gB 1 ?_
    refine gS 6 ?_
    refine gR 5 (rg Tryz.f27 5) ?_
    refine se (mkE s_0 [] 26) ?_
    refine pN ?_
    refine pS ?_
    refine gS 0 ?_
    refine gD 6 9 (rg Tryz.f27 6) [0, 1, 2, 3, 4, 5, 6, 7, 8] ?_
    refine dg 2 [(some 16, qe (LL a37 p0)), (some 17, qe (I z0))] ?_
    refine dv 18 (mkE ((17, I z0) :: ((16, LL a37 p0) :: s_0)) [] 26) (addrE 22 38 5 a37 .i64 p0 z0) (fun x1 => ?_)
    refine dg 6 [(some 16, qe (LL a37 p0)), (some 17, qe (I z0)), (some 18, qe (.ia [S x1.f0, I x1.f1.f0, I x1.f1.f1, I x1.f1.f2, I x1.f1.f3] 0)), (some 19, qe (a37 x1)), (some 20, qe (LL a37 p1)), (some 21, qe (I z0))] ?_
    refine dv 22 (mkE ((21, I z0) :: ((20, LL a37 p1) :: s_0)) [] 26) (addrE 22 38 5 a37 .i64 p1 z0) (fun x2 => ?_)
    refine dg 8 [(some 16, qe (LL a37 p0)), (some 17, qe (I z0)), (some 18, qe (.ia [S x1.f0, I x1.f1.f0, I x1.f1.f1, I x1.f1.f2, I x1.f1.f3] 0)), (some 19, qe (a37 x1)), (some 20, qe (LL a37 p1)), (some 21, qe (I z0)), (some 22, qe (.ia [S x2.f0, I x2.f1.f0, I x2.f1.f1, I x2.f1.f2, I x2.f1.f3] 0)), (some 23, qe (a37 x2))] ?_
    refine df 24 (B (!allB [eqB x1.f0 x2.f0, allB [eqI x1.f1.f0 x2.f1.f0, eqI x1.f1.f1 x2.f1.f1, eqI x1.f1.f2 x2.f1.f2, eqI x1.f1.f3 x2.f1.f3]])) (mkE ((23, a37 x2) :: ((22, .ia [S x2.f0, I x2.f1.f0, I x2.f1.f1, I x2.f1.f2, I x2.f1.f3] 0) :: ((21, I z0) :: ((20, LL a37 p1) :: ((19, a37 x1) :: ((18, .ia [S x1.f0, I x1.f1.f0, I x1.f1.f1, I x1.f1.f2, I x1.f1.f3] 0) :: ((17, I z0) :: ((16, LL a37 p0) :: s_0)))))))) [] 26) (neqE 38 (.tmp 19) (.tmp 23) [S x1.f0, I x1.f1.f0, I x1.f1.f1, I x1.f1.f2, I x1.f1.f3] [S x2.f0, I x2.f1.f0, I x2.f1.f1, I x2.f1.f2, I x2.f1.f3] [.string x1.f0, .int .i64 x1.f1.f0, .int .i64 x1.f1.f1, .int .i64 x1.f1.f2, .int .i64 x1.f1.f3] [.string x2.f0, .int .i64 x2.f1.f0, .int .i64 x2.f1.f1, .int .i64 x2.f1.f2, .int .i64 x2.f1.f3] [eqB x1.f0 x2.f0, allB [eqI x1.f1.f0 x2.f1.f0, eqI x1.f1.f1 x2.f1.f1, eqI x1.f1.f2 x2.f1.f2, eqI x1.f1.f3 x2.f1.f3]] (hb := (hb_of (hb_step 0 (by kernel_rfl) (by kernel_rfl) (hb_step 1 (by kernel_rfl) (fieldEq_sub 9998 [.int .i64 x1.f1.f0, .int .i64 x1.f1.f1, .int .i64 x1.f1.f2, .int .i64 x1.f1.f3] [.int .i64 x2.f1.f0, .int .i64 x2.f1.f1, .int .i64 x2.f1.f2, .int .i64 x2.f1.f3] [eqI x1.f1.f0 x2.f1.f0, eqI x1.f1.f1 x2.f1.f1, eqI x1.f1.f2 x2.f1.f2, eqI x1.f1.f3 x2.f1.f3] (by kernel_rfl) (by kernel_rfl) (by kernel_rfl) (by kernel_rfl) (by kernel_rfl) (by kernel_rfl)) (hb_end 2 (by kernel_rfl))))))) ?_
    refine de (mkE ((24, B (!allB [eqB x1.f0 x2.f0, allB [eqI x1.f1.f0 x2.f1.f0, eqI x1.f1.f1 x2.f1.f1, eqI x1.f1.f2 x2.f1.f2, eqI x1.f1.f3 x2.f1.f3]])) :: ((23, a37 x2) :: ((22, .ia [S x2.f0, I x2.f1.f0, I x2.f1.f1, I x2.f1.f2, I x2.f1.f3] 0) :: ((21, I z0) :: ((20, LL a37 p1) :: ((19, a37 x1) :: ((18, .ia [S x1.f0, I x1.f1.f0, I x1.f1.f1, I x1.f1.f2, I x1.f1.f3] 0) :: ((17, I z0) :: ((16, LL a37 p0) :: s_0))))))))) [] 26) ?_
    refine se (mkE [(0, LL a37 p0), (1, LL a37 p1), (12, I (lenL p0)), (13, I z0), (24, B (!allB [eqB x1.f0 x2.f0, allB [eqI x1.f1.f0 x2.f1.f0, eqI x1.f1.f1 x2.f1.f1, eqI x1.f1.f2 x2.f1.f2, eqI x1.f1.f3 x2.f1.f3]]))] [] 26) ?_
    refine pN ?_
    refine pS ?_
    refine gC 24 (!allB [eqB x1.f0 x2.f0, allB [eqI x1.f1.f0 x2.f1.f0, eqI x1.f1.f1 x2.f1.f1, eqI x1.f1.f2 x2.f1.f2, eqI x1.f1.f3 x2.f1.f3]]) ?_ ?_
    · refine gS 0 ?_
      refine gR 7 (rg Tryz.f27 7) ?_
      refine se (mkE [(4, B false)] [] 26) ?_
      refine pN ?_
      refine pS ?_
      refine gE ?_
      exact pL
    · refine gK ?_
      refine pB ?_
      refine pN ?_
      refine pS ?_
      refine gR 8 (rg Tryz.f27 8) ?_
      refine se (mkE [(0, LL a37 p0), (1, LL a37 p1), (12, I (lenL p0)), (13, I (addI .i64 z0 1))] [] 26) ?_
      exact pL
  · refine gX 0 ?_
    exact pL
noncomputable def T27 (p0 : (List S37)) (p1 : (List S37)) : Option Bool := (bif (neI (lenL p0) (lenL p1)) then (some false) else ((iter (L27_4 p0 p1) 0).bind fun y3 => (Sum.elim (fun y3a => (some true)) (fun y3b => (some false)) y3)))
theorem B27 (C : Callee) (p0 : (List S37)) (p1 : (List S37)) : runs Tryz.prog C (cfg.fn 27) (finFn Tryz.prog (cfg.fn 27).byval Tryz.f27) [] (execA Tryz.prog C (cfg.fn 27) (nr Tryz.f27 []) (frame0 [LL a37 p0, LL a37 p1] 26 false)) = (T27 p0 p1).map B := by
  unfold T27
  let s_0 : List (Nat × AV) := [(0, LL a37 p0), (1, LL a37 p1)]
  refine gS 1 ?_
  refine gR 0 (rg Tryz.f27 0) ?_
  refine se (mkE s_0 [] 26) ?_
  refine pN ?_
  refine pS ?_
  refine gS 3 ?_
  refine gS 0 ?_
  refine gR 1 (rg Tryz.f27 1) ?_
  refine sg 1 (mkE ((6, LL a37 p0) :: s_0) [] 26) ?_
  refine eo 7 (I (lenL p0)) (lenE 22 a37 p0) ?_
  refine sg 3 (mkE ((8, LL a37 p1) :: ((7, I (lenL p0)) :: ((6, LL a37 p0) :: s_0))) [] 26) ?_
  refine eo 9 (I (lenL p1)) (lenE 22 a37 p1) ?_
  refine se (mkE (s_0.append [(10, B (neI (lenL p0) (lenL p1)))]) [] 26) ?_
  refine pN ?_
  refine pS ?_
  refine gC 10 (neI (lenL p0) (lenL p1)) ?_ ?_
  · refine gS 0 ?_
    refine gR 2 (rg Tryz.f27 2) ?_
    refine se (mkE [(4, B false)] [] 26) ?_
    refine pN ?_
    refine pS ?_
    refine gE ?_
    exact pL
  · refine gK ?_
    refine pN ?_
    refine pS ?_
    refine gS 9 ?_
    refine gS 4 ?_
    refine gR 3 (rg Tryz.f27 3) ?_
    refine sg 1 (mkE ((11, LL a37 p0) :: (s_0.append [(10, B (neI (lenL p0) (lenL p1)))])) [] 26) ?_
    refine eo 12 (I (lenL p0)) (lenE 22 a37 p0) ?_
    refine se (mkE (s_0.append ((12, I (lenL p0)) :: [(13, I 0)])) [] 26) ?_
    refine pN ?_
    refine pS ?_
    refine gB 0 ?_
    refine lo [(0, none), (1, none), (12, none), (13, none)] [] (L27_4 p0 p1) (fun z0 : Int => (mkE (s_0.append ((12, I (lenL p0)) :: [(13, I z0)])) [] 26)) (Sum.elim (fun (x : (Int × Bool)) => (.exit 0, (mkE (s_0.append ((12, I (lenL p0)) :: ((13, I x.1) :: [(14, B x.2)]))) [] 26))) (fun (x : Unit) => (.ret, (mkE [(4, B false)] [] 26)))) 0 (fun z => L27_4_ok C p0 p1 z) ?_
    intro y3
    refine ss y3 (Z := (Sum.elim (fun (x : (Int × Bool)) => (.exit 0, (mkE (s_0.append ((12, I (lenL p0)) :: ((13, I x.1) :: [(14, B x.2)]))) [] 26))) (fun (x : Unit) => (.ret, (mkE [(4, B false)] [] 26))))) (fun y3a => ?_) (fun y3b => ?_)
    · refine pH ?_
      refine pN ?_
      refine pS ?_
      refine gS 0 ?_
      refine gR 9 (rg Tryz.f27 9) ?_
      refine se (mkE [(4, B true)] [] 26) ?_
      refine pN ?_
      refine pS ?_
      refine gE ?_
      exact pL
    · exact pL
theorem F27 (m : Nat) (hm : 1 ≤ m) (p0 : (List S37)) (p1 : (List S37)) : callA Tryz.prog cfg m 27 [LL a37 p0, LL a37 p1] = (T27 p0 p1).map B := by
  obtain ⟨q, rfl⟩ : ∃ q, m = q + 1 := ⟨m - 1, by omega⟩
  exact (callA_body (fn := Tryz.f27) (c := body_ Tryz.f27) q _ (by kernel_rfl) (by kernel_rfl) (by kernel_rfl)).trans (B27 _ p0 p1)

noncomputable def T7 (p0 : S23) (p1 : S23) : Option Bool := (bif (eqS p0.f0 p1.f0) then (bif (eqI p0.f1 p1.f1) then (bif (eqI p0.f2 p1.f2) then ((T27 p0.f3 p1.f3).bind fun x1 => (some x1)) else (some false)) else (some false)) else (some false))
theorem B7 (C : Callee) (h27 : ∀ (p0 : (List S37)) (p1 : (List S37)), C 27 [LL a37 p0, LL a37 p1] = (T27 p0 p1).map B) (p0 : S23) (p1 : S23) : runs Tryz.prog C (cfg.fn 7) (finFn Tryz.prog (cfg.fn 7).byval Tryz.f7) [] (execA Tryz.prog C (cfg.fn 7) (nr Tryz.f7 []) (frame0 [a23 p0, a23 p1] 31 false)) = (T7 p0 p1).map B := by
  unfold T7
  let s_0 : List (Nat × AV) := [(17, B (eqI p0.f1 p1.f1)), (16, B (eqI p0.f1 p1.f1)), (15, B (eqI p0.f1 p1.f1)), (14, I p1.f1), (13, .ba 24 1), (12, I p0.f1), (11, .ba 16 1), (10, B true), (10, B (eqS p0.f0 p1.f0)), (9, B (eqS p0.f0 p1.f0)), (8, S p1.f0), (7, .ba 24 0), (6, S p0.f0), (5, .ba 16 0), (2, .ba 16 0), (3, .ba 24 0)]
  let s_1 : List (Nat × AV) := [(24, B (eqI p0.f2 p1.f2)), (23, B (eqI p0.f2 p1.f2)), (22, B (eqI p0.f2 p1.f2)), (21, I p1.f2), (20, .ba 24 2), (19, I p0.f2), (18, .ba 16 2), (17, B true)]
  let o_0 : List (Nat × AObj) := [(16, .box [S p0.f0, I p0.f1, I p0.f2, LL a37 p0.f3] false), (24, .box [S p1.f0, I p1.f1, I p1.f2, LL a37 p1.f3] false)]
  refine gS 1 ?_
  refine gR 0 (rg Tryz.f7 0) ?_
  refine se (mkE [(2, .ba 16 0), (3, .ba 24 0)] o_0 31) ?_
  refine pN ?_
  refine pS ?_
  refine gS 0 ?_
  refine gR 1 (rg Tryz.f7 1) ?_
  refine sg 6 (mkE [(10, B (eqS p0.f0 p1.f0)), (9, B (eqS p0.f0 p1.f0)), (8, S p1.f0), (7, .ba 24 0), (6, S p0.f0), (5, .ba 16 0), (2, .ba 16 0), (3, .ba 24 0)] o_0 31) ?_
  refine sb 10 (eqS p0.f0 p1.f0) ?_ ?_
  · refine sg 13 (mkE s_0 o_0 31) ?_
    refine sb 17 (eqI p0.f1 p1.f1) ?_ ?_
    · refine sg 20 (mkE (s_1.append s_0) o_0 31) ?_
      refine sb 24 (eqI p0.f2 p1.f2) ?_ ?_
      · refine sg 24 (mkE ((28, LL a37 p1.f3) :: ((27, .ba 24 3) :: ((26, LL a37 p0.f3) :: ((25, .ba 16 3) :: ((24, B true) :: (s_1.append s_0)))))) o_0 31) ?_
        refine co 29 [] (h27 p0.f3 p1.f3) (fun x1 => ?_)
        refine se (mkE [(4, B x1)] [] 31) ?_
        refine pN ?_
        refine pS ?_
        refine gE ?_
        exact pL
      · refine se (mkE [(4, B false)] [] 31) ?_
        refine pN ?_
        refine pS ?_
        refine gE ?_
        exact pL
    · refine se (mkE [(4, B false)] [] 31) ?_
      refine pN ?_
      refine pS ?_
      refine gE ?_
      exact pL
  · refine se (mkE [(4, B false)] [] 31) ?_
    refine pN ?_
    refine pS ?_
    refine gE ?_
    exact pL
theorem F7 (m : Nat) (hm : 2 ≤ m) (p0 : S23) (p1 : S23) : callA Tryz.prog cfg m 7 [a23 p0, a23 p1] = (T7 p0 p1).map B := by
  obtain ⟨q, rfl⟩ : ∃ q, m = q + 1 := ⟨m - 1, by omega⟩
  exact (callA_body (fn := Tryz.f7) (c := body_ Tryz.f7) q _ (by kernel_rfl) (by kernel_rfl) (by kernel_rfl)).trans (B7 _ (fun p0 p1 => F27 q (by omega) p0 p1) p0 p1)

noncomputable def L37_4 (p0 : (List S64)) (p1 : (List S64)) (z0 : Int) : Option (Int ⊕ ((Int × Bool) ⊕ Unit)) := (bif (ltI z0 (lenL p0)) then ((listAt p0 z0).bind fun x1 => ((listAt p1 z0).bind fun x2 => (bif (!allB [eqB x1.f0 x2.f0, allB [eqI x1.f1.f0 x2.f1.f0, eqI x1.f1.f1 x2.f1.f1, eqI x1.f1.f2 x2.f1.f2, eqI x1.f1.f3 x2.f1.f3], eqI x1.f2 x2.f2]) then (some (.inr (.inr ()))) else (some (.inl (addI .i64 z0 1)))))) else (some (.inr (.inl (z0, (ltI z0 (lenL p0)))))))
theorem L37_4_ok (C : Callee) (p0 : (List S64)) (p1 : (List S64)) (z0 : Int) : runs Tryz.prog C (cfg.fn 37) (finLoop ((cfg.fn 37).keep 4) ((cfg.fn 37).al 4)) [] (execA Tryz.prog C (cfg.fn 37) (nr Tryz.f37 [false, false, true, false, true, true]) ((fun z0 : Int => (mkE [(0, LL a64 p0), (1, LL a64 p1), (12, I (lenL p0)), (13, I z0)] [] 26)) z0)) = (L37_4 p0 p1 z0).map (Sum.elim (fun z => .inl ((fun z0 : Int => (mkE [(0, LL a64 p0), (1, LL a64 p1), (12, I (lenL p0)), (13, I z0)] [] 26)) z)) (fun x => .inr ((Sum.elim (fun (x : (Int × Bool)) => (.exit 0, (mkE [(0, LL a64 p0), (1, LL a64 p1), (12, I (lenL p0)), (13, I x.1), (14, B x.2)] [] 26))) (fun (x : Unit) => (.ret, (mkE [(4, B false)] [] 26)))) x))) := by
  unfold L37_4
  let s_0 : List (Nat × AV) := [(0, LL a64 p0), (1, LL a64 p1), (5, I z0), (12, I (lenL p0)), (13, I z0)]
  refine gS 0 ?_
  refine gR 4 (rg Tryz.f37 4) ?_
  refine se (mkE [(0, LL a64 p0), (1, LL a64 p1), (12, I (lenL p0)), (13, I z0), (14, B (ltI z0 (lenL p0)))] [] 26) ?_
  refine pN ?_
  refine pS ?_
  refine gS 5 ?_
  refine gC 14 (ltI z0 (lenL p0)) ?_ ?_
  · refine gK ?_
    refine pN ?_
    refine pS ?_
    refine gS 8 ?_
    refine gB 1 ?_
    refine gS 6 ?_
    refine gR 5 (rg Tryz.f37 5) ?_
    refine se (mkE s_0 [] 26) ?_
    refine pN ?_
    refine pS ?_
    refine gS 0 ?_
    refine gD 6 9 (rg Tryz.f37 6) [0, 1, 2, 3, 4, 5, 6, 7, 8] ?_
    refine dg 2 [(some 16, qe (LL a64 p0)), (some 17, qe (I z0))] ?_
    refine dv 18 (mkE ((17, I z0) :: ((16, LL a64 p0) :: s_0)) [] 26) (addrE 30 65 6 a64 .i64 p0 z0) (fun x1 => ?_)
    refine dg 6 [(some 16, qe (LL a64 p0)), (some 17, qe (I z0)), (some 18, qe (.ia [S x1.f0, I x1.f1.f0, I x1.f1.f1, I x1.f1.f2, I x1.f1.f3, I x1.f2] 0)), (some 19, qe (a64 x1)), (some 20, qe (LL a64 p1)), (some 21, qe (I z0))] ?_
    refine dv 22 (mkE ((21, I z0) :: ((20, LL a64 p1) :: s_0)) [] 26) (addrE 30 65 6 a64 .i64 p1 z0) (fun x2 => ?_)
    refine dg 8 [(some 16, qe (LL a64 p0)), (some 17, qe (I z0)), (some 18, qe (.ia [S x1.f0, I x1.f1.f0, I x1.f1.f1, I x1.f1.f2, I x1.f1.f3, I x1.f2] 0)), (some 19, qe (a64 x1)), (some 20, qe (LL a64 p1)), (some 21, qe (I z0)), (some 22, qe (.ia [S x2.f0, I x2.f1.f0, I x2.f1.f1, I x2.f1.f2, I x2.f1.f3, I x2.f2] 0)), (some 23, qe (a64 x2))] ?_
    refine df 24 (B (!allB [eqB x1.f0 x2.f0, allB [eqI x1.f1.f0 x2.f1.f0, eqI x1.f1.f1 x2.f1.f1, eqI x1.f1.f2 x2.f1.f2, eqI x1.f1.f3 x2.f1.f3], eqI x1.f2 x2.f2])) (mkE ((23, a64 x2) :: ((22, .ia [S x2.f0, I x2.f1.f0, I x2.f1.f1, I x2.f1.f2, I x2.f1.f3, I x2.f2] 0) :: ((21, I z0) :: ((20, LL a64 p1) :: ((19, a64 x1) :: ((18, .ia [S x1.f0, I x1.f1.f0, I x1.f1.f1, I x1.f1.f2, I x1.f1.f3, I x1.f2] 0) :: ((17, I z0) :: ((16, LL a64 p0) :: s_0)))))))) [] 26) (neqE 65 (.tmp 19) (.tmp 23) [S x1.f0, I x1.f1.f0, I x1.f1.f1, I x1.f1.f2, I x1.f1.f3, I x1.f2] [S x2.f0, I x2.f1.f0, I x2.f1.f1, I x2.f1.f2, I x2.f1.f3, I x2.f2] [.string x1.f0, .int .i64 x1.f1.f0, .int .i64 x1.f1.f1, .int .i64 x1.f1.f2, .int .i64 x1.f1.f3, .int .i64 x1.f2] [.string x2.f0, .int .i64 x2.f1.f0, .int .i64 x2.f1.f1, .int .i64 x2.f1.f2, .int .i64 x2.f1.f3, .int .i64 x2.f2] [eqB x1.f0 x2.f0, allB [eqI x1.f1.f0 x2.f1.f0, eqI x1.f1.f1 x2.f1.f1, eqI x1.f1.f2 x2.f1.f2, eqI x1.f1.f3 x2.f1.f3], eqI x1.f2 x2.f2] (hb := (hb_of (hb_step 0 (by kernel_rfl) (by kernel_rfl) (hb_step 1 (by kernel_rfl) (fieldEq_sub 9998 [.int .i64 x1.f1.f0, .int .i64 x1.f1.f1, .int .i64 x1.f1.f2, .int .i64 x1.f1.f3] [.int .i64 x2.f1.f0, .int .i64 x2.f1.f1, .int .i64 x2.f1.f2, .int .i64 x2.f1.f3] [eqI x1.f1.f0 x2.f1.f0, eqI x1.f1.f1 x2.f1.f1, eqI x1.f1.f2 x2.f1.f2, eqI x1.f1.f3 x2.f1.f3] (by kernel_rfl) (by kernel_rfl) (by kernel_rfl) (by kernel_rfl) (by kernel_rfl) (by kernel_rfl)) (hb_step 2 (by kernel_rfl) (by kernel_rfl) (hb_end 3 (by kernel_rfl)))))))) ?_
    refine de (mkE ((24, B (!allB [eqB x1.f0 x2.f0, allB [eqI x1.f1.f0 x2.f1.f0, eqI x1.f1.f1 x2.f1.f1, eqI x1.f1.f2 x2.f1.f2, eqI x1.f1.f3 x2.f1.f3], eqI x1.f2 x2.f2])) :: ((23, a64 x2) :: ((22, .ia [S x2.f0, I x2.f1.f0, I x2.f1.f1, I x2.f1.f2, I x2.f1.f3, I x2.f2] 0) :: ((21, I z0) :: ((20, LL a64 p1) :: ((19, a64 x1) :: ((18, .ia [S x1.f0, I x1.f1.f0, I x1.f1.f1, I x1.f1.f2, I x1.f1.f3, I x1.f2] 0) :: ((17, I z0) :: ((16, LL a64 p0) :: s_0))))))))) [] 26) ?_
    refine se (mkE [(0, LL a64 p0), (1, LL a64 p1), (12, I (lenL p0)), (13, I z0), (24, B (!allB [eqB x1.f0 x2.f0, allB [eqI x1.f1.f0 x2.f1.f0, eqI x1.f1.f1 x2.f1.f1, eqI x1.f1.f2 x2.f1.f2, eqI x1.f1.f3 x2.f1.f3], eqI x1.f2 x2.f2]))] [] 26) ?_
    refine pN ?_
    refine pS ?_
    refine gC 24 (!allB [eqB x1.f0 x2.f0, allB [eqI x1.f1.f0 x2.f1.f0, eqI x1.f1.f1 x2.f1.f1, eqI x1.f1.f2 x2.f1.f2, eqI x1.f1.f3 x2.f1.f3], eqI x1.f2 x2.f2]) ?_ ?_
    · refine gS 0 ?_
      refine gR 7 (rg Tryz.f37 7) ?_
      refine se (mkE [(4, B false)] [] 26) ?_
      refine pN ?_
      refine pS ?_
      refine gE ?_
      exact pL
    · refine gK ?_
      refine pB ?_
      refine pN ?_
      refine pS ?_
      refine gR 8 (rg Tryz.f37 8) ?_
      refine se (mkE [(0, LL a64 p0), (1, LL a64 p1), (12, I (lenL p0)), (13, I (addI .i64 z0 1))] [] 26) ?_
      exact pL
  · refine gX 0 ?_
    exact pL
noncomputable def T37 (p0 : (List S64)) (p1 : (List S64)) : Option Bool := (bif (neI (lenL p0) (lenL p1)) then (some false) else ((iter (L37_4 p0 p1) 0).bind fun y3 => (Sum.elim (fun y3a => (some true)) (fun y3b => (some false)) y3)))
theorem B37 (C : Callee) (p0 : (List S64)) (p1 : (List S64)) : runs Tryz.prog C (cfg.fn 37) (finFn Tryz.prog (cfg.fn 37).byval Tryz.f37) [] (execA Tryz.prog C (cfg.fn 37) (nr Tryz.f37 []) (frame0 [LL a64 p0, LL a64 p1] 26 false)) = (T37 p0 p1).map B := by
  unfold T37
  let s_0 : List (Nat × AV) := [(0, LL a64 p0), (1, LL a64 p1)]
  refine gS 1 ?_
  refine gR 0 (rg Tryz.f37 0) ?_
  refine se (mkE s_0 [] 26) ?_
  refine pN ?_
  refine pS ?_
  refine gS 3 ?_
  refine gS 0 ?_
  refine gR 1 (rg Tryz.f37 1) ?_
  refine sg 1 (mkE ((6, LL a64 p0) :: s_0) [] 26) ?_
  refine eo 7 (I (lenL p0)) (lenE 30 a64 p0) ?_
  refine sg 3 (mkE ((8, LL a64 p1) :: ((7, I (lenL p0)) :: ((6, LL a64 p0) :: s_0))) [] 26) ?_
  refine eo 9 (I (lenL p1)) (lenE 30 a64 p1) ?_
  refine se (mkE (s_0.append [(10, B (neI (lenL p0) (lenL p1)))]) [] 26) ?_
  refine pN ?_
  refine pS ?_
  refine gC 10 (neI (lenL p0) (lenL p1)) ?_ ?_
  · refine gS 0 ?_
    refine gR 2 (rg Tryz.f37 2) ?_
    refine se (mkE [(4, B false)] [] 26) ?_
    refine pN ?_
    refine pS ?_
    refine gE ?_
    exact pL
  · refine gK ?_
    refine pN ?_
    refine pS ?_
    refine gS 9 ?_
    refine gS 4 ?_
    refine gR 3 (rg Tryz.f37 3) ?_
    refine sg 1 (mkE ((11, LL a64 p0) :: (s_0.append [(10, B (neI (lenL p0) (lenL p1)))])) [] 26) ?_
    refine eo 12 (I (lenL p0)) (lenE 30 a64 p0) ?_
    refine se (mkE (s_0.append ((12, I (lenL p0)) :: [(13, I 0)])) [] 26) ?_
    refine pN ?_
    refine pS ?_
    refine gB 0 ?_
    refine lo [(0, none), (1, none), (12, none), (13, none)] [] (L37_4 p0 p1) (fun z0 : Int => (mkE (s_0.append ((12, I (lenL p0)) :: [(13, I z0)])) [] 26)) (Sum.elim (fun (x : (Int × Bool)) => (.exit 0, (mkE (s_0.append ((12, I (lenL p0)) :: ((13, I x.1) :: [(14, B x.2)]))) [] 26))) (fun (x : Unit) => (.ret, (mkE [(4, B false)] [] 26)))) 0 (fun z => L37_4_ok C p0 p1 z) ?_
    intro y3
    refine ss y3 (Z := (Sum.elim (fun (x : (Int × Bool)) => (.exit 0, (mkE (s_0.append ((12, I (lenL p0)) :: ((13, I x.1) :: [(14, B x.2)]))) [] 26))) (fun (x : Unit) => (.ret, (mkE [(4, B false)] [] 26))))) (fun y3a => ?_) (fun y3b => ?_)
    · refine pH ?_
      refine pN ?_
      refine pS ?_
      refine gS 0 ?_
      refine gR 9 (rg Tryz.f37 9) ?_
      refine se (mkE [(4, B true)] [] 26) ?_
      refine pN ?_
      refine pS ?_
      refine gE ?_
      exact pL
    · exact pL
theorem F37 (m : Nat) (hm : 1 ≤ m) (p0 : (List S64)) (p1 : (List S64)) : callA Tryz.prog cfg m 37 [LL a64 p0, LL a64 p1] = (T37 p0 p1).map B := by
  obtain ⟨q, rfl⟩ : ∃ q, m = q + 1 := ⟨m - 1, by omega⟩
  exact (callA_body (fn := Tryz.f37) (c := body_ Tryz.f37) q _ (by kernel_rfl) (by kernel_rfl) (by kernel_rfl)).trans (B37 _ p0 p1)

noncomputable def T10 (p0 : S31) (p1 : S31) : Option Bool := (bif (eqS p0.f0 p1.f0) then (bif (eqI p0.f1 p1.f1) then (bif (eqI p0.f2 p1.f2) then ((T37 p0.f3 p1.f3).bind fun x1 => (some x1)) else (some false)) else (some false)) else (some false))
theorem B10 (C : Callee) (h37 : ∀ (p0 : (List S64)) (p1 : (List S64)), C 37 [LL a64 p0, LL a64 p1] = (T37 p0 p1).map B) (p0 : S31) (p1 : S31) : runs Tryz.prog C (cfg.fn 10) (finFn Tryz.prog (cfg.fn 10).byval Tryz.f10) [] (execA Tryz.prog C (cfg.fn 10) (nr Tryz.f10 []) (frame0 [a31 p0, a31 p1] 31 false)) = (T10 p0 p1).map B := by
  unfold T10
  let s_0 : List (Nat × AV) := [(17, B (eqI p0.f1 p1.f1)), (16, B (eqI p0.f1 p1.f1)), (15, B (eqI p0.f1 p1.f1)), (14, I p1.f1), (13, .ba 24 1), (12, I p0.f1), (11, .ba 16 1), (10, B true), (10, B (eqS p0.f0 p1.f0)), (9, B (eqS p0.f0 p1.f0)), (8, S p1.f0), (7, .ba 24 0), (6, S p0.f0), (5, .ba 16 0), (2, .ba 16 0), (3, .ba 24 0)]
  let s_1 : List (Nat × AV) := [(24, B (eqI p0.f2 p1.f2)), (23, B (eqI p0.f2 p1.f2)), (22, B (eqI p0.f2 p1.f2)), (21, I p1.f2), (20, .ba 24 2), (19, I p0.f2), (18, .ba 16 2), (17, B true)]
  let o_0 : List (Nat × AObj) := [(16, .box [S p0.f0, I p0.f1, I p0.f2, LL a64 p0.f3] false), (24, .box [S p1.f0, I p1.f1, I p1.f2, LL a64 p1.f3] false)]
  refine gS 1 ?_
  refine gR 0 (rg Tryz.f10 0) ?_
  refine se (mkE [(2, .ba 16 0), (3, .ba 24 0)] o_0 31) ?_
  refine pN ?_
  refine pS ?_
  refine gS 0 ?_
  refine gR 1 (rg Tryz.f10 1) ?_
  refine sg 6 (mkE [(10, B (eqS p0.f0 p1.f0)), (9, B (eqS p0.f0 p1.f0)), (8, S p1.f0), (7, .ba 24 0), (6, S p0.f0), (5, .ba 16 0), (2, .ba 16 0), (3, .ba 24 0)] o_0 31) ?_
  refine sb 10 (eqS p0.f0 p1.f0) ?_ ?_
  · refine sg 13 (mkE s_0 o_0 31) ?_
    refine sb 17 (eqI p0.f1 p1.f1) ?_ ?_
    · refine sg 20 (mkE (s_1.append s_0) o_0 31) ?_
      refine sb 24 (eqI p0.f2 p1.f2) ?_ ?_
      · refine sg 24 (mkE ((28, LL a64 p1.f3) :: ((27, .ba 24 3) :: ((26, LL a64 p0.f3) :: ((25, .ba 16 3) :: ((24, B true) :: (s_1.append s_0)))))) o_0 31) ?_
        refine co 29 [] (h37 p0.f3 p1.f3) (fun x1 => ?_)
        refine se (mkE [(4, B x1)] [] 31) ?_
        refine pN ?_
        refine pS ?_
        refine gE ?_
        exact pL
      · refine se (mkE [(4, B false)] [] 31) ?_
        refine pN ?_
        refine pS ?_
        refine gE ?_
        exact pL
    · refine se (mkE [(4, B false)] [] 31) ?_
      refine pN ?_
      refine pS ?_
      refine gE ?_
      exact pL
  · refine se (mkE [(4, B false)] [] 31) ?_
    refine pN ?_
    refine pS ?_
    refine gE ?_
    exact pL
theorem F10 (m : Nat) (hm : 2 ≤ m) (p0 : S31) (p1 : S31) : callA Tryz.prog cfg m 10 [a31 p0, a31 p1] = (T10 p0 p1).map B := by
  obtain ⟨q, rfl⟩ : ∃ q, m = q + 1 := ⟨m - 1, by omega⟩
  exact (callA_body (fn := Tryz.f10) (c := body_ Tryz.f10) q _ (by kernel_rfl) (by kernel_rfl) (by kernel_rfl)).trans (B10 _ (fun p0 p1 => F37 q (by omega) p0 p1) p0 p1)

noncomputable def T4 (p0 : S23) (p1 : S31) : Option Bool := ((T5 p0).bind fun x1 => ((T8 p1).bind fun x2 => ((T9 p0 p1).bind fun x3 => (bif x3 then ((T7 p0 x1).bind fun x4 => (bif x4 then ((T10 p1 x2).bind fun x5 => (some x5)) else (some false))) else (some false)))))
theorem B4 (C : Callee) (h10 : ∀ (p0 : S31) (p1 : S31), C 10 [a31 p0, a31 p1] = (T10 p0 p1).map B) (h5 : ∀ (p0 : S23), C 5 [a23 p0] = (T5 p0).map a23) (h7 : ∀ (p0 : S23) (p1 : S23), C 7 [a23 p0, a23 p1] = (T7 p0 p1).map B) (h8 : ∀ (p0 : S31), C 8 [a31 p0] = (T8 p0).map a31) (h9 : ∀ (p0 : S23) (p1 : S31), C 9 [a23 p0, a31 p1] = (T9 p0 p1).map B) (p0 : S23) (p1 : S31) : runs Tryz.prog C (cfg.fn 4) (finFn Tryz.prog (cfg.fn 4).byval Tryz.f4) [] (execA Tryz.prog C (cfg.fn 4) (nr Tryz.f4 []) (frame0 [a23 p0, a31 p1] 24 false)) = (T4 p0 p1).map B := by
  unfold T4
  let s_0 : List (Nat × AV) := [(12, a31 p1), (11, a23 p0), (2, .ba 16 0), (3, .ba 24 0), (5, .ba 40 0), (6, .ba 48 0)]
  let o_0 : List (Nat × AObj) := [(16, .box [S p0.f0, I p0.f1, I p0.f2, LL a37 p0.f3] false), (24, .box [S p1.f0, I p1.f1, I p1.f2, LL a64 p1.f3] false)]
  refine gS 1 ?_
  refine gR 0 (rg Tryz.f4 0) ?_
  refine se (mkE [(2, .ba 16 0), (3, .ba 24 0)] o_0 24) ?_
  refine pN ?_
  refine pS ?_
  refine gS 2 ?_
  refine gD 1 6 (rg Tryz.f4 1) [0, 1, 2, 3, 4, 5, 6, 7] ?_
  refine dg 1 [(some 7, qe (a23 p0))] ?_
  refine dc 8 [] (mkE [(7, a23 p0), (2, .ba 16 0), (3, .ba 24 0)] o_0 24) (h5 p0) (fun x1 => ?_)
  refine dg 3 [(some 7, qe (a23 p0)), (some 8, qe (a23 x1)), (some 9, qe (a31 p1))] ?_
  refine dc 10 [] (mkE [(9, a31 p1), (8, a23 x1), (7, a23 p0), (2, .ba 16 0), (3, .ba 24 0)] o_0 24) (h8 p1) (fun x2 => ?_)
  refine dg 6 [(some 7, qe (a23 p0)), (some 8, qe (a23 x1)), (some 9, qe (a31 p1)), (some 10, qe (a31 x2)), (some 5, { e := { val := .ba 40 0, news := [(40, .box [S (ByteArray.mk #[]), I 0, I 0, .nils] false)] } }), (some 6, { e := { val := .ba 48 0, news := [(48, .box [S (ByteArray.mk #[]), I 0, I 0, .nils] false)] } })] ?_
  refine de (mkE [(6, .ba 48 0), (5, .ba 40 0), (10, a31 x2), (9, a31 p1), (8, a23 x1), (7, a23 p0), (2, .ba 16 0), (3, .ba 24 0)] ((48, .box [S (ByteArray.mk #[]), I 0, I 0, .nils] false) :: ((40, .box [S (ByteArray.mk #[]), I 0, I 0, .nils] false) :: o_0)) 24) ?_
  refine se (mkE [(2, .ba 16 0), (3, .ba 24 0), (5, .ba 40 0), (6, .ba 48 0)] (o_0.append ((40, .box [S x1.f0, I x1.f1, I x1.f2, LL a37 x1.f3] false) :: [(48, .box [S x2.f0, I x2.f1, I x2.f2, LL a64 x2.f3] false)])) 24) ?_
  refine pN ?_
  refine pS ?_
  refine gS 0 ?_
  refine gR 2 (rg Tryz.f4 2) ?_
  refine sg 2 (mkE s_0 (o_0.append ((40, .box [S x1.f0, I x1.f1, I x1.f2, LL a37 x1.f3] false) :: [(48, .box [S x2.f0, I x2.f1, I x2.f2, LL a64 x2.f3] false)])) 24) ?_
  refine co 13 [] (h9 p0 p1) (fun x3 => ?_)
  refine sg 4 (mkE ((14, B x3) :: ((13, B x3) :: s_0)) (o_0.append ((40, .box [S x1.f0, I x1.f1, I x1.f2, LL a37 x1.f3] false) :: [(48, .box [S x2.f0, I x2.f1, I x2.f2, LL a64 x2.f3] false)])) 24) ?_
  refine sb 14 x3 ?_ ?_
  · refine sg 6 (mkE ((16, a23 x1) :: ((15, a23 p0) :: ((14, B true) :: ((14, B x3) :: ((13, B x3) :: s_0))))) (o_0.append ((40, .box [S x1.f0, I x1.f1, I x1.f2, LL a37 x1.f3] false) :: [(48, .box [S x2.f0, I x2.f1, I x2.f2, LL a64 x2.f3] false)])) 24) ?_
    refine co 17 [] (h7 p0 x1) (fun x4 => ?_)
    refine sg 9 (mkE ((19, B x4) :: ((18, B x4) :: ((17, B x4) :: ((16, a23 x1) :: ((15, a23 p0) :: ((14, B true) :: ((14, B x3) :: ((13, B x3) :: s_0)))))))) (o_0.append ((40, .box [S x1.f0, I x1.f1, I x1.f2, LL a37 x1.f3] false) :: [(48, .box [S x2.f0, I x2.f1, I x2.f2, LL a64 x2.f3] false)])) 24) ?_
    refine sb 19 x4 ?_ ?_
    · refine sg 11 (mkE ((21, a31 x2) :: ((20, a31 p1) :: ((19, B true) :: ((19, B x4) :: ((18, B x4) :: ((17, B x4) :: ((16, a23 x1) :: ((15, a23 p0) :: ((14, B true) :: ((14, B x3) :: ((13, B x3) :: s_0))))))))))) (o_0.append ((40, .box [S x1.f0, I x1.f1, I x1.f2, LL a37 x1.f3] false) :: [(48, .box [S x2.f0, I x2.f1, I x2.f2, LL a64 x2.f3] false)])) 24) ?_
      refine co 22 [] (h10 p1 x2) (fun x5 => ?_)
      refine se (mkE [(4, B x5)] [] 24) ?_
      refine pN ?_
      refine pS ?_
      refine gE ?_
      exact pL
    · refine se (mkE [(4, B false)] [] 24) ?_
      refine pN ?_
      refine pS ?_
      refine gE ?_
      exact pL
  · refine se (mkE [(4, B false)] [] 24) ?_
    refine pN ?_
    refine pS ?_
    refine gE ?_
    exact pL
theorem F4 (m : Nat) (hm : 10 ≤ m) (p0 : S23) (p1 : S31) : callA Tryz.prog cfg m 4 [a23 p0, a31 p1] = (T4 p0 p1).map B := by
  obtain ⟨q, rfl⟩ : ∃ q, m = q + 1 := ⟨m - 1, by omega⟩
  exact (callA_body (fn := Tryz.f4) (c := body_ Tryz.f4) q _ (by kernel_rfl) (by kernel_rfl) (by kernel_rfl)).trans (B4 _ (fun p0 p1 => F10 q (by omega) p0 p1) (fun p0 => F5 q (by omega) p0) (fun p0 p1 => F7 q (by omega) p0 p1) (fun p0 => F8 q (by omega) p0) (fun p0 p1 => F9 q (by omega) p0 p1) p0 p1)

end Go.Abs.TV
