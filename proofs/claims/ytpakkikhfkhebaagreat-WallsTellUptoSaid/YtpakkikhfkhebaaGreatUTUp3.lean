import Derived.Test.YtpakkikhfkhebaaGreatUTUp2
set_option maxRecDepth 100000
set_option linter.unusedVariables false
namespace Go.Abs.TU
open Go.RowKit Go.Proofs Go.Abs
noncomputable def T6 (p0 : S23) (p1 : S25) (p2 : Int) (p3 : Int) : Option Bool := ((T12 p0 p2 p3).bind fun x1 => ((T13 p0).bind fun x2 => ((T14 p0 p1).bind fun x3 => ((T15 p0).bind fun x4 => ((T16 p0).bind fun x5 => (bif (neI x5 x4) then (some false) else (((bif (ltI p2 (-100000)) then ((T18 true 1).bind fun x6 => ((T17 ([x4, x6] : List Int)).bind fun x7 => ((T19 p1).bind fun x8 => ((T17 ([x4, x8] : List Int)).bind fun x9 => (some (x7, x9)))))) else (bif (ltI 100000 p2) then ((T18 true 1).bind fun x10 => ((T17 ([x4, x10] : List Int)).bind fun x11 => ((T19 p1).bind fun x12 => ((T17 ([x4, x12] : List Int)).bind fun x13 => (some (x11, x13)))))) else (bif (ltI p3 (-100000)) then ((T18 true 1).bind fun x14 => ((T17 ([x4, x14] : List Int)).bind fun x15 => ((T19 p1).bind fun x16 => ((T17 ([x4, x16] : List Int)).bind fun x17 => (some (x15, x17)))))) else ((T18 (ltI 100000 p3) 1).bind fun x18 => ((T17 ([x4, x18] : List Int)).bind fun x19 => ((T19 p1).bind fun x20 => ((T17 ([x4, x20] : List Int)).bind fun x21 => (some (x19, x21))))))))) : Option (Int × Int)).bind fun y22 => (bif (eqI y22.1 0) then ((T20 p0 p2 p3).bind fun x23 => (bif (eqI x4 0) then ((T22 p0).bind fun x24 => ((T21 x24).bind fun x25 => (bif (eqI y22.2 0) then ((T23 p0 p1).bind fun x26 => (bif (eqI x1.2.2 y22.1) then (bif (eqS x1.1 x23.1) then (bif (x1.2.1 == x23.2) then (bif (eqI x2.2 x25.2) then ((T24 x2.1 x25.1).bind fun x27 => (bif x27 then (bif (eqI x3.2 y22.2) then ((T25 x3.1 x26).bind fun x28 => (bif x28 then ((T26).bind fun x29 => (some x29)) else (some false))) else (some false)) else (some false))) else (some false)) else (some false)) else (some false)) else (some false))) else (bif (eqI x1.2.2 y22.1) then (bif (eqS x1.1 x23.1) then (bif (x1.2.1 == x23.2) then (bif (eqI x2.2 x25.2) then ((T24 x2.1 x25.1).bind fun x30 => (bif x30 then (bif (eqI x3.2 y22.2) then ((T25 x3.1 []).bind fun x31 => (bif x31 then ((T26).bind fun x32 => (some x32)) else (some false))) else (some false)) else (some false))) else (some false)) else (some false)) else (some false)) else (some false))))) else (bif (eqI y22.2 0) then ((T23 p0 p1).bind fun x33 => (bif (eqI x1.2.2 y22.1) then (bif (eqS x1.1 x23.1) then (bif (x1.2.1 == x23.2) then (bif (eqI x2.2 x4) then ((T24 x2.1 []).bind fun x34 => (bif x34 then (bif (eqI x3.2 y22.2) then ((T25 x3.1 x33).bind fun x35 => (bif x35 then ((T26).bind fun x36 => (some x36)) else (some false))) else (some false)) else (some false))) else (some false)) else (some false)) else (some false)) else (some false))) else (bif (eqI x1.2.2 y22.1) then (bif (eqS x1.1 x23.1) then (bif (x1.2.1 == x23.2) then (bif (eqI x2.2 x4) then ((T24 x2.1 []).bind fun x37 => (bif x37 then (bif (eqI x3.2 y22.2) then ((T25 x3.1 []).bind fun x38 => (bif x38 then ((T26).bind fun x39 => (some x39)) else (some false))) else (some false)) else (some false))) else (some false)) else (some false)) else (some false)) else (some false))))) else (bif (eqI x4 0) then ((T22 p0).bind fun x40 => ((T21 x40).bind fun x41 => (bif (eqI y22.2 0) then ((T23 p0 p1).bind fun x42 => (bif (eqI x1.2.2 y22.1) then (bif (eqS x1.1 (ByteArray.mk #[])) then (bif (x1.2.1 == false) then (bif (eqI x2.2 x41.2) then ((T24 x2.1 x41.1).bind fun x43 => (bif x43 then (bif (eqI x3.2 y22.2) then ((T25 x3.1 x42).bind fun x44 => (bif x44 then ((T26).bind fun x45 => (some x45)) else (some false))) else (some false)) else (some false))) else (some false)) else (some false)) else (some false)) else (some false))) else (bif (eqI x1.2.2 y22.1) then (bif (eqS x1.1 (ByteArray.mk #[])) then (bif (x1.2.1 == false) then (bif (eqI x2.2 x41.2) then ((T24 x2.1 x41.1).bind fun x46 => (bif x46 then (bif (eqI x3.2 y22.2) then ((T25 x3.1 []).bind fun x47 => (bif x47 then ((T26).bind fun x48 => (some x48)) else (some false))) else (some false)) else (some false))) else (some false)) else (some false)) else (some false)) else (some false))))) else (bif (eqI y22.2 0) then ((T23 p0 p1).bind fun x49 => (bif (eqI x1.2.2 y22.1) then (bif (eqS x1.1 (ByteArray.mk #[])) then (bif (x1.2.1 == false) then (bif (eqI x2.2 x4) then ((T24 x2.1 []).bind fun x50 => (bif x50 then (bif (eqI x3.2 y22.2) then ((T25 x3.1 x49).bind fun x51 => (bif x51 then ((T26).bind fun x52 => (some x52)) else (some false))) else (some false)) else (some false))) else (some false)) else (some false)) else (some false)) else (some false))) else (bif (eqI x1.2.2 y22.1) then (bif (eqS x1.1 (ByteArray.mk #[])) then (bif (x1.2.1 == false) then (bif (eqI x2.2 x4) then ((T24 x2.1 []).bind fun x53 => (bif x53 then (bif (eqI x3.2 y22.2) then ((T25 x3.1 []).bind fun x54 => (bif x54 then ((T26).bind fun x55 => (some x55)) else (some false))) else (some false)) else (some false))) else (some false)) else (some false)) else (some false)) else (some false))))))))))))
theorem B6 (C : Callee) (h12 : ∀ (p0 : S23) (p1 : Int) (p2 : Int), C 12 [a23 p0, I p1, I p2] = (T12 p0 p1 p2).map (fun r => AV.tup [S r.1, B r.2.1, I r.2.2])) (h13 : ∀ (p0 : S23), C 13 [a23 p0] = (T13 p0).map (fun r => AV.tup [(LL a25) r.1, I r.2])) (h14 : ∀ (p0 : S23) (p1 : S25), C 14 [a23 p0, a25 p1] = (T14 p0 p1).map (fun r => AV.tup [(fun l => AV.fr 60 9 (List.map a59 l)) r.1, I r.2])) (h15 : ∀ (p0 : S23), C 15 [a23 p0] = (T15 p0).map I) (h16 : ∀ (p0 : S23), C 16 [a23 p0] = (T16 p0).map I) (h17 : ∀ (p0 : (List Int)), C 17 [LL I p0] = (T17 p0).map I) (h18 : ∀ (p0 : Bool) (p1 : Int), C 18 [B p0, I p1] = (T18 p0 p1).map I) (h19 : ∀ (p0 : S25), C 19 [a25 p0] = (T19 p0).map I) (h20 : ∀ (p0 : S23) (p1 : Int) (p2 : Int), C 20 [a23 p0, I p1, I p2] = (T20 p0 p1 p2).map (fun r => AV.tup [S r.1, B r.2])) (h21 : ∀ (p0 : (List S25)), C 21 [LL a25 p0] = (T21 p0).map (fun r => AV.tup [(LL a25) r.1, I r.2])) (h22 : ∀ (p0 : S23), C 22 [a23 p0] = (T22 p0).map (fun l => AV.fr 26 4 (List.map a25 l))) (h23 : ∀ (p0 : S23) (p1 : S25), C 23 [a23 p0, a25 p1] = (T23 p0 p1).map (fun l => AV.fr 60 9 (List.map a59 l))) (h24 : ∀ (p0 : (List S25)) (p1 : (List S25)), C 24 [LL a25 p0, LL a25 p1] = (T24 p0 p1).map B) (h25 : ∀ (p0 : (List S59)) (p1 : (List S59)), C 25 [LL a59 p0, LL a59 p1] = (T25 p0 p1).map B) (h26 : C 26 [] = (T26).map B) (p0 : S23) (p1 : S25) (p2 : Int) (p3 : Int) : runs Tryz.prog C (cfg.fn 6) (finFn Tryz.prog (cfg.fn 6).byval Tryz.f6) [] (execA Tryz.prog C (cfg.fn 6) (nr Tryz.f6 []) (frame0 [a23 p0, a25 p1, I p2, I p3] 131 false)) = (T6 p0 p1 p2 p3).map B := by
  unfold T6
  refine gS 1 ?_
  refine gR 0 (rg Tryz.f6 0) ?_
  refine se (mkE [(2, I p2), (3, I p3), (4, .ba 32 0), (5, .ba 40 0)] [(32, .box [S p0.f0, I p0.f1, I p0.f2, LL a37 p0.f3] false), (40, .box [I p1.f0, I p1.f1, I p1.f2, I p1.f3] false)] 131) ?_
  refine pN ?_
  refine pS ?_
  refine gS 2 ?_
  refine gR 1 (rg Tryz.f6 1) ?_
  refine sg 3 (mkE [(27, I p3), (26, I p2), (25, a23 p0), (2, I p2), (3, I p3), (4, .ba 32 0), (5, .ba 40 0)] [(32, .box [S p0.f0, I p0.f1, I p0.f2, LL a37 p0.f3] false), (40, .box [I p1.f0, I p1.f1, I p1.f2, I p1.f3] false)] 131) ?_
  refine co 28 [] (h12 p0 p2 p3) (fun x1 => ?_)
  refine se (mkE [(2, I p2), (3, I p3), (4, .ba 32 0), (5, .ba 40 0), (9, S x1.1), (10, B x1.2.1), (11, I x1.2.2)] [(32, .box [S p0.f0, I p0.f1, I p0.f2, LL a37 p0.f3] false), (40, .box [I p1.f0, I p1.f1, I p1.f2, I p1.f3] false)] 131) ?_
  refine pN ?_
  refine pS ?_
  refine gS 3 ?_
  refine gR 2 (rg Tryz.f6 2) ?_
  refine sg 1 (mkE [(33, a23 p0), (2, I p2), (3, I p3), (4, .ba 32 0), (5, .ba 40 0), (9, S x1.1), (10, B x1.2.1), (11, I x1.2.2)] [(32, .box [S p0.f0, I p0.f1, I p0.f2, LL a37 p0.f3] false), (40, .box [I p1.f0, I p1.f1, I p1.f2, I p1.f3] false)] 131) ?_
  refine co 34 [] (h13 p0) (fun x2 => ?_)
  refine se (mkE [(2, I p2), (3, I p3), (4, .ba 32 0), (5, .ba 40 0), (9, S x1.1), (10, B x1.2.1), (11, I x1.2.2), (12, LL a25 x2.1), (13, I x2.2)] [(32, .box [S p0.f0, I p0.f1, I p0.f2, LL a37 p0.f3] false), (40, .box [I p1.f0, I p1.f1, I p1.f2, I p1.f3] false)] 131) ?_
  refine pN ?_
  refine pS ?_
  refine gS 4 ?_
  refine gR 3 (rg Tryz.f6 3) ?_
  refine sg 2 (mkE [(39, a25 p1), (38, a23 p0), (2, I p2), (3, I p3), (4, .ba 32 0), (5, .ba 40 0), (9, S x1.1), (10, B x1.2.1), (11, I x1.2.2), (12, LL a25 x2.1), (13, I x2.2)] [(32, .box [S p0.f0, I p0.f1, I p0.f2, LL a37 p0.f3] false), (40, .box [I p1.f0, I p1.f1, I p1.f2, I p1.f3] false)] 131) ?_
  refine co 40 [] (h14 p0 p1) (fun x3 => ?_)
  refine se (mkE [(2, I p2), (3, I p3), (4, .ba 32 0), (5, .ba 40 0), (9, S x1.1), (10, B x1.2.1), (11, I x1.2.2), (12, LL a25 x2.1), (13, I x2.2), (14, .own 320 0), (15, I x3.2)] [(32, .box [S p0.f0, I p0.f1, I p0.f2, LL a37 p0.f3] false), (40, .box [I p1.f0, I p1.f1, I p1.f2, I p1.f3] false), (320, RR 60 9 a59 x3.1 0 false)] 131) ?_
  refine pN ?_
  refine pS ?_
  refine gS 5 ?_
  refine gR 4 (rg Tryz.f6 4) ?_
  refine sg 1 (mkE [(43, a23 p0), (2, I p2), (3, I p3), (4, .ba 32 0), (5, .ba 40 0), (9, S x1.1), (10, B x1.2.1), (11, I x1.2.2), (12, LL a25 x2.1), (13, I x2.2), (14, .own 320 0), (15, I x3.2)] [(32, .box [S p0.f0, I p0.f1, I p0.f2, LL a37 p0.f3] false), (40, .box [I p1.f0, I p1.f1, I p1.f2, I p1.f3] false), (320, RR 60 9 a59 x3.1 0 false)] 131) ?_
  refine co 44 [] (h15 p0) (fun x4 => ?_)
  refine se (mkE [(2, I p2), (3, I p3), (4, .ba 32 0), (5, .ba 40 0), (9, S x1.1), (10, B x1.2.1), (11, I x1.2.2), (12, LL a25 x2.1), (13, I x2.2), (14, .own 320 0), (15, I x3.2), (16, I x4)] [(32, .box [S p0.f0, I p0.f1, I p0.f2, LL a37 p0.f3] false), (40, .box [I p1.f0, I p1.f1, I p1.f2, I p1.f3] false), (320, RR 60 9 a59 x3.1 0 false)] 131) ?_
  refine pN ?_
  refine pS ?_
  refine gS 7 ?_
  refine gS 0 ?_
  refine gR 5 (rg Tryz.f6 5) ?_
  refine sg 1 (mkE [(45, a23 p0), (2, I p2), (3, I p3), (4, .ba 32 0), (5, .ba 40 0), (9, S x1.1), (10, B x1.2.1), (11, I x1.2.2), (12, LL a25 x2.1), (13, I x2.2), (14, .own 320 0), (15, I x3.2), (16, I x4)] [(32, .box [S p0.f0, I p0.f1, I p0.f2, LL a37 p0.f3] false), (40, .box [I p1.f0, I p1.f1, I p1.f2, I p1.f3] false), (320, RR 60 9 a59 x3.1 0 false)] 131) ?_
  refine co 46 [] (h16 p0) (fun x5 => ?_)
  refine se (mkE [(2, I p2), (3, I p3), (4, .ba 32 0), (5, .ba 40 0), (9, S x1.1), (10, B x1.2.1), (11, I x1.2.2), (12, LL a25 x2.1), (13, I x2.2), (14, .own 320 0), (15, I x3.2), (16, I x4), (48, B (neI x5 x4))] [(32, .box [S p0.f0, I p0.f1, I p0.f2, LL a37 p0.f3] false), (40, .box [I p1.f0, I p1.f1, I p1.f2, I p1.f3] false), (320, RR 60 9 a59 x3.1 0 false)] 131) ?_
  refine pN ?_
  refine pS ?_
  refine gC 48 (neI x5 x4) ?_ ?_
  · refine gS 0 ?_
    refine gR 6 (rg Tryz.f6 6) ?_
    refine se (mkE [(8, B false)] [] 131) ?_
    refine pN ?_
    refine pS ?_
    refine gE ?_
    exact pL
  · refine gK ?_
    refine pN ?_
    refine pS ?_
    refine jS 8 ((bif (ltI p2 (-100000)) then ((T18 true 1).bind fun x6 => ((T17 ([x4, x6] : List Int)).bind fun x7 => ((T19 p1).bind fun x8 => ((T17 ([x4, x8] : List Int)).bind fun x9 => (some (x7, x9)))))) else (bif (ltI 100000 p2) then ((T18 true 1).bind fun x10 => ((T17 ([x4, x10] : List Int)).bind fun x11 => ((T19 p1).bind fun x12 => ((T17 ([x4, x12] : List Int)).bind fun x13 => (some (x11, x13)))))) else (bif (ltI p3 (-100000)) then ((T18 true 1).bind fun x14 => ((T17 ([x4, x14] : List Int)).bind fun x15 => ((T19 p1).bind fun x16 => ((T17 ([x4, x16] : List Int)).bind fun x17 => (some (x15, x17)))))) else ((T18 (ltI 100000 p3) 1).bind fun x18 => ((T17 ([x4, x18] : List Int)).bind fun x19 => ((T19 p1).bind fun x20 => ((T17 ([x4, x20] : List Int)).bind fun x21 => (some (x19, x21))))))))) : Option (Int × Int)) (fun (x : (Int × Int)) => (.normal, (mkE [(2, I p2), (3, I p3), (4, .ba 32 0), (5, .ba 40 0), (9, S x1.1), (10, B x1.2.1), (11, I x1.2.2), (12, LL a25 x2.1), (13, I x2.2), (14, .own 320 0), (15, I x3.2), (17, I x.1), (18, I x.2), (19, I x4)] [(32, .box [S p0.f0, I p0.f1, I p0.f2, LL a37 p0.f3] false), (40, .box [I p1.f0, I p1.f1, I p1.f2, I p1.f3] false), (320, RR 60 9 a59 x3.1 0 false)] 131))) ?_ (fun y22 => ?_)
    · refine gD 7 27 (rg Tryz.f6 7) [0, 1, 2, 3, 4, 5, 6, 7, 8, 9, 10, 11, 12, 13, 14, 15, 16, 17, 18, 19, 20, 21, 22, 23, 24, 25, 26] ?_
      refine dg 4 [(some 49, qe (I x4)), (some 50, qe (I p2)), (some 51, qe (B (ltI p2 (-100000)))), (some 52, qe (B (ltI p2 (-100000))))] ?_
      refine db 3 52 (ltI p2 (-100000)) ?_ ?_
      · refine dg 15 [(some 49, qe (I x4)), (some 50, qe (I p2)), (some 51, qe (B (ltI p2 (-100000)))), (some 52, qe (B true)), (some 53, qe (.und)), (some 54, qe (.und)), (some 55, qe (B true)), (some 56, qe (B true)), (some 57, qe (.und)), (some 58, qe (.und)), (some 59, qe (B true)), (some 60, qe (B true)), (some 61, qe (.und)), (some 62, qe (.und)), (some 63, qe (B true))] ?_
        refine dc 64 [] (mkE [(63, B true), (62, .und), (61, .und), (60, B true), (59, B true), (58, .und), (57, .und), (56, B true), (55, B true), (54, .und), (53, .und), (52, B true), (51, B (ltI p2 (-100000))), (50, I p2), (2, I p2), (3, I p3), (4, .ba 32 0), (5, .ba 40 0), (9, S x1.1), (10, B x1.2.1), (11, I x1.2.2), (12, LL a25 x2.1), (13, I x2.2), (14, .own 320 0), (15, I x3.2), (16, I x4), (48, B (neI x5 x4))] [(32, .box [S p0.f0, I p0.f1, I p0.f2, LL a37 p0.f3] false), (40, .box [I p1.f0, I p1.f1, I p1.f2, I p1.f3] false), (320, RR 60 9 a59 x3.1 0 false)] 131) (h18 true 1) (fun x6 => ?_)
        refine dg 17 [(some 49, qe (I x4)), (some 50, qe (I p2)), (some 51, qe (B (ltI p2 (-100000)))), (some 52, qe (B true)), (some 53, qe (.und)), (some 54, qe (.und)), (some 55, qe (B true)), (some 56, qe (B true)), (some 57, qe (.und)), (some 58, qe (.und)), (some 59, qe (B true)), (some 60, qe (B true)), (some 61, qe (.und)), (some 62, qe (.und)), (some 63, qe (B true)), (some 64, qe (I x6)), (some 65, { e := { val := .own 520 0, news := [(520, RR 39 1 I ([x4, x6] : List Int) 0 false)] } })] ?_
        refine dc 66 [520] (mkE [(65, .own 520 0), (64, I x6), (63, B true), (62, .und), (61, .und), (60, B true), (59, B true), (58, .und), (57, .und), (56, B true), (55, B true), (54, .und), (53, .und), (52, B true), (51, B (ltI p2 (-100000))), (50, I p2), (49, I x4), (2, I p2), (3, I p3), (4, .ba 32 0), (5, .ba 40 0), (9, S x1.1), (10, B x1.2.1), (11, I x1.2.2), (12, LL a25 x2.1), (13, I x2.2), (14, .own 320 0), (15, I x3.2), (16, I x4), (48, B (neI x5 x4))] [(520, RR 39 1 I ([x4, x6] : List Int) 0 false), (32, .box [S p0.f0, I p0.f1, I p0.f2, LL a37 p0.f3] false), (40, .box [I p1.f0, I p1.f1, I p1.f2, I p1.f3] false), (320, RR 60 9 a59 x3.1 0 false)] 131) (h17 ([x4, x6] : List Int)) (fun x7 => ?_)
        refine dg 20 [(some 49, qe (I x4)), (some 50, qe (I p2)), (some 51, qe (B (ltI p2 (-100000)))), (some 52, qe (B true)), (some 53, qe (.und)), (some 54, qe (.und)), (some 55, qe (B true)), (some 56, qe (B true)), (some 57, qe (.und)), (some 58, qe (.und)), (some 59, qe (B true)), (some 60, qe (B true)), (some 61, qe (.und)), (some 62, qe (.und)), (some 63, qe (B true)), (some 64, qe (I x6)), (some 65, { e := { val := .own 520 0, news := [(520, RR 39 1 I ([x4, x6] : List Int) 0 false)] } }), (some 66, qe (I x7)), (some 67, qe (I x4)), (some 68, qe (a25 p1))] ?_
        refine dc 69 [] (mkE [(68, a25 p1), (66, I x7), (65, .own 520 0), (64, I x6), (63, B true), (62, .und), (61, .und), (60, B true), (59, B true), (58, .und), (57, .und), (56, B true), (55, B true), (54, .und), (53, .und), (52, B true), (51, B (ltI p2 (-100000))), (50, I p2), (49, I x4), (2, I p2), (3, I p3), (4, .ba 32 0), (5, .ba 40 0), (9, S x1.1), (10, B x1.2.1), (11, I x1.2.2), (12, LL a25 x2.1), (13, I x2.2), (14, .own 320 0), (15, I x3.2), (16, I x4), (48, B (neI x5 x4))] [(520, RR 39 1 I ([x4, x6] : List Int) 0 false), (32, .box [S p0.f0, I p0.f1, I p0.f2, LL a37 p0.f3] false), (40, .box [I p1.f0, I p1.f1, I p1.f2, I p1.f3] false), (320, RR 60 9 a59 x3.1 0 false)] 131) (h19 p1) (fun x8 => ?_)
        refine dg 22 [(some 49, qe (I x4)), (some 50, qe (I p2)), (some 51, qe (B (ltI p2 (-100000)))), (some 52, qe (B true)), (some 53, qe (.und)), (some 54, qe (.und)), (some 55, qe (B true)), (some 56, qe (B true)), (some 57, qe (.und)), (some 58, qe (.und)), (some 59, qe (B true)), (some 60, qe (B true)), (some 61, qe (.und)), (some 62, qe (.und)), (some 63, qe (B true)), (some 64, qe (I x6)), (some 65, { e := { val := .own 520 0, news := [(520, RR 39 1 I ([x4, x6] : List Int) 0 false)] } }), (some 66, qe (I x7)), (some 67, qe (I x4)), (some 68, qe (a25 p1)), (some 69, qe (I x8)), (some 70, { e := { val := .own 560 0, news := [(560, RR 39 1 I ([x4, x8] : List Int) 0 false)] } })] ?_
        refine dc 71 [560] (mkE [(70, .own 560 0), (69, I x8), (68, a25 p1), (67, I x4), (66, I x7), (65, .own 520 0), (64, I x6), (63, B true), (62, .und), (61, .und), (60, B true), (59, B true), (58, .und), (57, .und), (56, B true), (55, B true), (54, .und), (53, .und), (52, B true), (51, B (ltI p2 (-100000))), (50, I p2), (49, I x4), (2, I p2), (3, I p3), (4, .ba 32 0), (5, .ba 40 0), (9, S x1.1), (10, B x1.2.1), (11, I x1.2.2), (12, LL a25 x2.1), (13, I x2.2), (14, .own 320 0), (15, I x3.2), (16, I x4), (48, B (neI x5 x4))] [(560, RR 39 1 I ([x4, x8] : List Int) 0 false), (520, RR 39 1 I ([x4, x6] : List Int) 0 false), (32, .box [S p0.f0, I p0.f1, I p0.f2, LL a37 p0.f3] false), (40, .box [I p1.f0, I p1.f1, I p1.f2, I p1.f3] false), (320, RR 60 9 a59 x3.1 0 false)] 131) (h17 ([x4, x8] : List Int)) (fun x9 => ?_)
        refine dg 27 [(some 49, qe (I x4)), (some 50, qe (I p2)), (some 51, qe (B (ltI p2 (-100000)))), (some 52, qe (B true)), (some 53, qe (.und)), (some 54, qe (.und)), (some 55, qe (B true)), (some 56, qe (B true)), (some 57, qe (.und)), (some 58, qe (.und)), (some 59, qe (B true)), (some 60, qe (B true)), (some 61, qe (.und)), (some 62, qe (.und)), (some 63, qe (B true)), (some 64, qe (I x6)), (some 65, { e := { val := .own 520 0, news := [(520, RR 39 1 I ([x4, x6] : List Int) 0 false)] } }), (some 66, qe (I x7)), (some 67, qe (I x4)), (some 68, qe (a25 p1)), (some 69, qe (I x8)), (some 70, { e := { val := .own 560 0, news := [(560, RR 39 1 I ([x4, x8] : List Int) 0 false)] } }), (some 71, qe (I x9)), (some 72, qe (I x4)), (some 17, qe (I x7)), (some 18, qe (I x9)), (some 19, qe (I x4))] ?_
        refine de (mkE [(19, I x4), (18, I x9), (17, I x7), (72, I x4), (71, I x9), (70, .own 560 0), (69, I x8), (68, a25 p1), (67, I x4), (66, I x7), (65, .own 520 0), (64, I x6), (63, B true), (62, .und), (61, .und), (60, B true), (59, B true), (58, .und), (57, .und), (56, B true), (55, B true), (54, .und), (53, .und), (52, B true), (51, B (ltI p2 (-100000))), (50, I p2), (49, I x4), (2, I p2), (3, I p3), (4, .ba 32 0), (5, .ba 40 0), (9, S x1.1), (10, B x1.2.1), (11, I x1.2.2), (12, LL a25 x2.1), (13, I x2.2), (14, .own 320 0), (15, I x3.2), (16, I x4), (48, B (neI x5 x4))] [(560, RR 39 1 I ([x4, x8] : List Int) 0 false), (520, RR 39 1 I ([x4, x6] : List Int) 0 false), (32, .box [S p0.f0, I p0.f1, I p0.f2, LL a37 p0.f3] false), (40, .box [I p1.f0, I p1.f1, I p1.f2, I p1.f3] false), (320, RR 60 9 a59 x3.1 0 false)] 131) ?_
        refine se (mkE [(2, I p2), (3, I p3), (4, .ba 32 0), (5, .ba 40 0), (9, S x1.1), (10, B x1.2.1), (11, I x1.2.2), (12, LL a25 x2.1), (13, I x2.2), (14, .own 320 0), (15, I x3.2), (17, I x7), (18, I x9), (19, I x4)] [(32, .box [S p0.f0, I p0.f1, I p0.f2, LL a37 p0.f3] false), (40, .box [I p1.f0, I p1.f1, I p1.f2, I p1.f3] false), (320, RR 60 9 a59 x3.1 0 false)] 131) ?_
        refine pG (mkE [(2, I p2), (3, I p3), (4, .ba 32 0), (5, .ba 40 0), (9, S x1.1), (10, B x1.2.1), (11, I x1.2.2), (12, LL a25 x2.1), (13, I x2.2), (14, .own 320 0), (15, I x3.2), (17, I x7), (18, I x9), (19, I x4)] [(32, .box [S p0.f0, I p0.f1, I p0.f2, LL a37 p0.f3] false), (40, .box [I p1.f0, I p1.f1, I p1.f2, I p1.f3] false), (320, RR 60 9 a59 x3.1 0 false)] 131) ?_
        exact pL
      · refine dg 8 [(some 49, qe (I x4)), (some 50, qe (I p2)), (some 51, qe (B (ltI p2 (-100000)))), (some 52, qe (B false)), (some 53, qe (I p2)), (some 54, qe (B (ltI 100000 p2))), (some 55, qe (B (ltI 100000 p2))), (some 56, qe (B (ltI 100000 p2)))] ?_
        refine db 7 56 (ltI 100000 p2) ?_ ?_
        · refine dg 15 [(some 49, qe (I x4)), (some 50, qe (I p2)), (some 51, qe (B (ltI p2 (-100000)))), (some 52, qe (B false)), (some 53, qe (I p2)), (some 54, qe (B (ltI 100000 p2))), (some 55, qe (B (ltI 100000 p2))), (some 56, qe (B true)), (some 57, qe (.und)), (some 58, qe (.und)), (some 59, qe (B true)), (some 60, qe (B true)), (some 61, qe (.und)), (some 62, qe (.und)), (some 63, qe (B true))] ?_
          refine dc 64 [] (mkE [(63, B true), (62, .und), (61, .und), (60, B true), (59, B true), (58, .und), (57, .und), (56, B true), (55, B (ltI 100000 p2)), (54, B (ltI 100000 p2)), (53, I p2), (52, B false), (51, B (ltI p2 (-100000))), (50, I p2), (2, I p2), (3, I p3), (4, .ba 32 0), (5, .ba 40 0), (9, S x1.1), (10, B x1.2.1), (11, I x1.2.2), (12, LL a25 x2.1), (13, I x2.2), (14, .own 320 0), (15, I x3.2), (16, I x4), (48, B (neI x5 x4))] [(32, .box [S p0.f0, I p0.f1, I p0.f2, LL a37 p0.f3] false), (40, .box [I p1.f0, I p1.f1, I p1.f2, I p1.f3] false), (320, RR 60 9 a59 x3.1 0 false)] 131) (h18 true 1) (fun x10 => ?_)
          refine dg 17 [(some 49, qe (I x4)), (some 50, qe (I p2)), (some 51, qe (B (ltI p2 (-100000)))), (some 52, qe (B false)), (some 53, qe (I p2)), (some 54, qe (B (ltI 100000 p2))), (some 55, qe (B (ltI 100000 p2))), (some 56, qe (B true)), (some 57, qe (.und)), (some 58, qe (.und)), (some 59, qe (B true)), (some 60, qe (B true)), (some 61, qe (.und)), (some 62, qe (.und)), (some 63, qe (B true)), (some 64, qe (I x10)), (some 65, { e := { val := .own 520 0, news := [(520, RR 39 1 I ([x4, x10] : List Int) 0 false)] } })] ?_
          refine dc 66 [520] (mkE [(65, .own 520 0), (64, I x10), (63, B true), (62, .und), (61, .und), (60, B true), (59, B true), (58, .und), (57, .und), (56, B true), (55, B (ltI 100000 p2)), (54, B (ltI 100000 p2)), (53, I p2), (52, B false), (51, B (ltI p2 (-100000))), (50, I p2), (49, I x4), (2, I p2), (3, I p3), (4, .ba 32 0), (5, .ba 40 0), (9, S x1.1), (10, B x1.2.1), (11, I x1.2.2), (12, LL a25 x2.1), (13, I x2.2), (14, .own 320 0), (15, I x3.2), (16, I x4), (48, B (neI x5 x4))] [(520, RR 39 1 I ([x4, x10] : List Int) 0 false), (32, .box [S p0.f0, I p0.f1, I p0.f2, LL a37 p0.f3] false), (40, .box [I p1.f0, I p1.f1, I p1.f2, I p1.f3] false), (320, RR 60 9 a59 x3.1 0 false)] 131) (h17 ([x4, x10] : List Int)) (fun x11 => ?_)
          refine dg 20 [(some 49, qe (I x4)), (some 50, qe (I p2)), (some 51, qe (B (ltI p2 (-100000)))), (some 52, qe (B false)), (some 53, qe (I p2)), (some 54, qe (B (ltI 100000 p2))), (some 55, qe (B (ltI 100000 p2))), (some 56, qe (B true)), (some 57, qe (.und)), (some 58, qe (.und)), (some 59, qe (B true)), (some 60, qe (B true)), (some 61, qe (.und)), (some 62, qe (.und)), (some 63, qe (B true)), (some 64, qe (I x10)), (some 65, { e := { val := .own 520 0, news := [(520, RR 39 1 I ([x4, x10] : List Int) 0 false)] } }), (some 66, qe (I x11)), (some 67, qe (I x4)), (some 68, qe (a25 p1))] ?_
          refine dc 69 [] (mkE [(68, a25 p1), (66, I x11), (65, .own 520 0), (64, I x10), (63, B true), (62, .und), (61, .und), (60, B true), (59, B true), (58, .und), (57, .und), (56, B true), (55, B (ltI 100000 p2)), (54, B (ltI 100000 p2)), (53, I p2), (52, B false), (51, B (ltI p2 (-100000))), (50, I p2), (49, I x4), (2, I p2), (3, I p3), (4, .ba 32 0), (5, .ba 40 0), (9, S x1.1), (10, B x1.2.1), (11, I x1.2.2), (12, LL a25 x2.1), (13, I x2.2), (14, .own 320 0), (15, I x3.2), (16, I x4), (48, B (neI x5 x4))] [(520, RR 39 1 I ([x4, x10] : List Int) 0 false), (32, .box [S p0.f0, I p0.f1, I p0.f2, LL a37 p0.f3] false), (40, .box [I p1.f0, I p1.f1, I p1.f2, I p1.f3] false), (320, RR 60 9 a59 x3.1 0 false)] 131) (h19 p1) (fun x12 => ?_)
          refine dg 22 [(some 49, qe (I x4)), (some 50, qe (I p2)), (some 51, qe (B (ltI p2 (-100000)))), (some 52, qe (B false)), (some 53, qe (I p2)), (some 54, qe (B (ltI 100000 p2))), (some 55, qe (B (ltI 100000 p2))), (some 56, qe (B true)), (some 57, qe (.und)), (some 58, qe (.und)), (some 59, qe (B true)), (some 60, qe (B true)), (some 61, qe (.und)), (some 62, qe (.und)), (some 63, qe (B true)), (some 64, qe (I x10)), (some 65, { e := { val := .own 520 0, news := [(520, RR 39 1 I ([x4, x10] : List Int) 0 false)] } }), (some 66, qe (I x11)), (some 67, qe (I x4)), (some 68, qe (a25 p1)), (some 69, qe (I x12)), (some 70, { e := { val := .own 560 0, news := [(560, RR 39 1 I ([x4, x12] : List Int) 0 false)] } })] ?_
          refine dc 71 [560] (mkE [(70, .own 560 0), (69, I x12), (68, a25 p1), (67, I x4), (66, I x11), (65, .own 520 0), (64, I x10), (63, B true), (62, .und), (61, .und), (60, B true), (59, B true), (58, .und), (57, .und), (56, B true), (55, B (ltI 100000 p2)), (54, B (ltI 100000 p2)), (53, I p2), (52, B false), (51, B (ltI p2 (-100000))), (50, I p2), (49, I x4), (2, I p2), (3, I p3), (4, .ba 32 0), (5, .ba 40 0), (9, S x1.1), (10, B x1.2.1), (11, I x1.2.2), (12, LL a25 x2.1), (13, I x2.2), (14, .own 320 0), (15, I x3.2), (16, I x4), (48, B (neI x5 x4))] [(560, RR 39 1 I ([x4, x12] : List Int) 0 false), (520, RR 39 1 I ([x4, x10] : List Int) 0 false), (32, .box [S p0.f0, I p0.f1, I p0.f2, LL a37 p0.f3] false), (40, .box [I p1.f0, I p1.f1, I p1.f2, I p1.f3] false), (320, RR 60 9 a59 x3.1 0 false)] 131) (h17 ([x4, x12] : List Int)) (fun x13 => ?_)
          refine dg 27 [(some 49, qe (I x4)), (some 50, qe (I p2)), (some 51, qe (B (ltI p2 (-100000)))), (some 52, qe (B false)), (some 53, qe (I p2)), (some 54, qe (B (ltI 100000 p2))), (some 55, qe (B (ltI 100000 p2))), (some 56, qe (B true)), (some 57, qe (.und)), (some 58, qe (.und)), (some 59, qe (B true)), (some 60, qe (B true)), (some 61, qe (.und)), (some 62, qe (.und)), (some 63, qe (B true)), (some 64, qe (I x10)), (some 65, { e := { val := .own 520 0, news := [(520, RR 39 1 I ([x4, x10] : List Int) 0 false)] } }), (some 66, qe (I x11)), (some 67, qe (I x4)), (some 68, qe (a25 p1)), (some 69, qe (I x12)), (some 70, { e := { val := .own 560 0, news := [(560, RR 39 1 I ([x4, x12] : List Int) 0 false)] } }), (some 71, qe (I x13)), (some 72, qe (I x4)), (some 17, qe (I x11)), (some 18, qe (I x13)), (some 19, qe (I x4))] ?_
          refine de (mkE [(19, I x4), (18, I x13), (17, I x11), (72, I x4), (71, I x13), (70, .own 560 0), (69, I x12), (68, a25 p1), (67, I x4), (66, I x11), (65, .own 520 0), (64, I x10), (63, B true), (62, .und), (61, .und), (60, B true), (59, B true), (58, .und), (57, .und), (56, B true), (55, B (ltI 100000 p2)), (54, B (ltI 100000 p2)), (53, I p2), (52, B false), (51, B (ltI p2 (-100000))), (50, I p2), (49, I x4), (2, I p2), (3, I p3), (4, .ba 32 0), (5, .ba 40 0), (9, S x1.1), (10, B x1.2.1), (11, I x1.2.2), (12, LL a25 x2.1), (13, I x2.2), (14, .own 320 0), (15, I x3.2), (16, I x4), (48, B (neI x5 x4))] [(560, RR 39 1 I ([x4, x12] : List Int) 0 false), (520, RR 39 1 I ([x4, x10] : List Int) 0 false), (32, .box [S p0.f0, I p0.f1, I p0.f2, LL a37 p0.f3] false), (40, .box [I p1.f0, I p1.f1, I p1.f2, I p1.f3] false), (320, RR 60 9 a59 x3.1 0 false)] 131) ?_
          refine se (mkE [(2, I p2), (3, I p3), (4, .ba 32 0), (5, .ba 40 0), (9, S x1.1), (10, B x1.2.1), (11, I x1.2.2), (12, LL a25 x2.1), (13, I x2.2), (14, .own 320 0), (15, I x3.2), (17, I x11), (18, I x13), (19, I x4)] [(32, .box [S p0.f0, I p0.f1, I p0.f2, LL a37 p0.f3] false), (40, .box [I p1.f0, I p1.f1, I p1.f2, I p1.f3] false), (320, RR 60 9 a59 x3.1 0 false)] 131) ?_
          refine pG (mkE [(2, I p2), (3, I p3), (4, .ba 32 0), (5, .ba 40 0), (9, S x1.1), (10, B x1.2.1), (11, I x1.2.2), (12, LL a25 x2.1), (13, I x2.2), (14, .own 320 0), (15, I x3.2), (17, I x11), (18, I x13), (19, I x4)] [(32, .box [S p0.f0, I p0.f1, I p0.f2, LL a37 p0.f3] false), (40, .box [I p1.f0, I p1.f1, I p1.f2, I p1.f3] false), (320, RR 60 9 a59 x3.1 0 false)] 131) ?_
          exact pL
        · refine dg 12 [(some 49, qe (I x4)), (some 50, qe (I p2)), (some 51, qe (B (ltI p2 (-100000)))), (some 52, qe (B false)), (some 53, qe (I p2)), (some 54, qe (B (ltI 100000 p2))), (some 55, qe (B (ltI 100000 p2))), (some 56, qe (B false)), (some 57, qe (I p3)), (some 58, qe (B (ltI p3 (-100000)))), (some 59, qe (B (ltI p3 (-100000)))), (some 60, qe (B (ltI p3 (-100000))))] ?_
          refine db 11 60 (ltI p3 (-100000)) ?_ ?_
          · refine dg 15 [(some 49, qe (I x4)), (some 50, qe (I p2)), (some 51, qe (B (ltI p2 (-100000)))), (some 52, qe (B false)), (some 53, qe (I p2)), (some 54, qe (B (ltI 100000 p2))), (some 55, qe (B (ltI 100000 p2))), (some 56, qe (B false)), (some 57, qe (I p3)), (some 58, qe (B (ltI p3 (-100000)))), (some 59, qe (B (ltI p3 (-100000)))), (some 60, qe (B true)), (some 61, qe (.und)), (some 62, qe (.und)), (some 63, qe (B true))] ?_
            refine dc 64 [] (mkE [(63, B true), (62, .und), (61, .und), (60, B true), (59, B (ltI p3 (-100000))), (58, B (ltI p3 (-100000))), (57, I p3), (56, B false), (55, B (ltI 100000 p2)), (54, B (ltI 100000 p2)), (53, I p2), (52, B false), (51, B (ltI p2 (-100000))), (50, I p2), (2, I p2), (3, I p3), (4, .ba 32 0), (5, .ba 40 0), (9, S x1.1), (10, B x1.2.1), (11, I x1.2.2), (12, LL a25 x2.1), (13, I x2.2), (14, .own 320 0), (15, I x3.2), (16, I x4), (48, B (neI x5 x4))] [(32, .box [S p0.f0, I p0.f1, I p0.f2, LL a37 p0.f3] false), (40, .box [I p1.f0, I p1.f1, I p1.f2, I p1.f3] false), (320, RR 60 9 a59 x3.1 0 false)] 131) (h18 true 1) (fun x14 => ?_)
            refine dg 17 [(some 49, qe (I x4)), (some 50, qe (I p2)), (some 51, qe (B (ltI p2 (-100000)))), (some 52, qe (B false)), (some 53, qe (I p2)), (some 54, qe (B (ltI 100000 p2))), (some 55, qe (B (ltI 100000 p2))), (some 56, qe (B false)), (some 57, qe (I p3)), (some 58, qe (B (ltI p3 (-100000)))), (some 59, qe (B (ltI p3 (-100000)))), (some 60, qe (B true)), (some 61, qe (.und)), (some 62, qe (.und)), (some 63, qe (B true)), (some 64, qe (I x14)), (some 65, { e := { val := .own 520 0, news := [(520, RR 39 1 I ([x4, x14] : List Int) 0 false)] } })] ?_
            refine dc 66 [520] (mkE [(65, .own 520 0), (64, I x14), (63, B true), (62, .und), (61, .und), (60, B true), (59, B (ltI p3 (-100000))), (58, B (ltI p3 (-100000))), (57, I p3), (56, B false), (55, B (ltI 100000 p2)), (54, B (ltI 100000 p2)), (53, I p2), (52, B false), (51, B (ltI p2 (-100000))), (50, I p2), (49, I x4), (2, I p2), (3, I p3), (4, .ba 32 0), (5, .ba 40 0), (9, S x1.1), (10, B x1.2.1), (11, I x1.2.2), (12, LL a25 x2.1), (13, I x2.2), (14, .own 320 0), (15, I x3.2), (16, I x4), (48, B (neI x5 x4))] [(520, RR 39 1 I ([x4, x14] : List Int) 0 false), (32, .box [S p0.f0, I p0.f1, I p0.f2, LL a37 p0.f3] false), (40, .box [I p1.f0, I p1.f1, I p1.f2, I p1.f3] false), (320, RR 60 9 a59 x3.1 0 false)] 131) (h17 ([x4, x14] : List Int)) (fun x15 => ?_)
            refine dg 20 [(some 49, qe (I x4)), (some 50, qe (I p2)), (some 51, qe (B (ltI p2 (-100000)))), (some 52, qe (B false)), (some 53, qe (I p2)), (some 54, qe (B (ltI 100000 p2))), (some 55, qe (B (ltI 100000 p2))), (some 56, qe (B false)), (some 57, qe (I p3)), (some 58, qe (B (ltI p3 (-100000)))), (some 59, qe (B (ltI p3 (-100000)))), (some 60, qe (B true)), (some 61, qe (.und)), (some 62, qe (.und)), (some 63, qe (B true)), (some 64, qe (I x14)), (some 65, { e := { val := .own 520 0, news := [(520, RR 39 1 I ([x4, x14] : List Int) 0 false)] } }), (some 66, qe (I x15)), (some 67, qe (I x4)), (some 68, qe (a25 p1))] ?_
            refine dc 69 [] (mkE [(68, a25 p1), (66, I x15), (65, .own 520 0), (64, I x14), (63, B true), (62, .und), (61, .und), (60, B true), (59, B (ltI p3 (-100000))), (58, B (ltI p3 (-100000))), (57, I p3), (56, B false), (55, B (ltI 100000 p2)), (54, B (ltI 100000 p2)), (53, I p2), (52, B false), (51, B (ltI p2 (-100000))), (50, I p2), (49, I x4), (2, I p2), (3, I p3), (4, .ba 32 0), (5, .ba 40 0), (9, S x1.1), (10, B x1.2.1), (11, I x1.2.2), (12, LL a25 x2.1), (13, I x2.2), (14, .own 320 0), (15, I x3.2), (16, I x4), (48, B (neI x5 x4))] [(520, RR 39 1 I ([x4, x14] : List Int) 0 false), (32, .box [S p0.f0, I p0.f1, I p0.f2, LL a37 p0.f3] false), (40, .box [I p1.f0, I p1.f1, I p1.f2, I p1.f3] false), (320, RR 60 9 a59 x3.1 0 false)] 131) (h19 p1) (fun x16 => ?_)
            refine dg 22 [(some 49, qe (I x4)), (some 50, qe (I p2)), (some 51, qe (B (ltI p2 (-100000)))), (some 52, qe (B false)), (some 53, qe (I p2)), (some 54, qe (B (ltI 100000 p2))), (some 55, qe (B (ltI 100000 p2))), (some 56, qe (B false)), (some 57, qe (I p3)), (some 58, qe (B (ltI p3 (-100000)))), (some 59, qe (B (ltI p3 (-100000)))), (some 60, qe (B true)), (some 61, qe (.und)), (some 62, qe (.und)), (some 63, qe (B true)), (some 64, qe (I x14)), (some 65, { e := { val := .own 520 0, news := [(520, RR 39 1 I ([x4, x14] : List Int) 0 false)] } }), (some 66, qe (I x15)), (some 67, qe (I x4)), (some 68, qe (a25 p1)), (some 69, qe (I x16)), (some 70, { e := { val := .own 560 0, news := [(560, RR 39 1 I ([x4, x16] : List Int) 0 false)] } })] ?_
            refine dc 71 [560] (mkE [(70, .own 560 0), (69, I x16), (68, a25 p1), (67, I x4), (66, I x15), (65, .own 520 0), (64, I x14), (63, B true), (62, .und), (61, .und), (60, B true), (59, B (ltI p3 (-100000))), (58, B (ltI p3 (-100000))), (57, I p3), (56, B false), (55, B (ltI 100000 p2)), (54, B (ltI 100000 p2)), (53, I p2), (52, B false), (51, B (ltI p2 (-100000))), (50, I p2), (49, I x4), (2, I p2), (3, I p3), (4, .ba 32 0), (5, .ba 40 0), (9, S x1.1), (10, B x1.2.1), (11, I x1.2.2), (12, LL a25 x2.1), (13, I x2.2), (14, .own 320 0), (15, I x3.2), (16, I x4), (48, B (neI x5 x4))] [(560, RR 39 1 I ([x4, x16] : List Int) 0 false), (520, RR 39 1 I ([x4, x14] : List Int) 0 false), (32, .box [S p0.f0, I p0.f1, I p0.f2, LL a37 p0.f3] false), (40, .box [I p1.f0, I p1.f1, I p1.f2, I p1.f3] false), (320, RR 60 9 a59 x3.1 0 false)] 131) (h17 ([x4, x16] : List Int)) (fun x17 => ?_)
            refine dg 27 [(some 49, qe (I x4)), (some 50, qe (I p2)), (some 51, qe (B (ltI p2 (-100000)))), (some 52, qe (B false)), (some 53, qe (I p2)), (some 54, qe (B (ltI 100000 p2))), (some 55, qe (B (ltI 100000 p2))), (some 56, qe (B false)), (some 57, qe (I p3)), (some 58, qe (B (ltI p3 (-100000)))), (some 59, qe (B (ltI p3 (-100000)))), (some 60, qe (B true)), (some 61, qe (.und)), (some 62, qe (.und)), (some 63, qe (B true)), (some 64, qe (I x14)), (some 65, { e := { val := .own 520 0, news := [(520, RR 39 1 I ([x4, x14] : List Int) 0 false)] } }), (some 66, qe (I x15)), (some 67, qe (I x4)), (some 68, qe (a25 p1)), (some 69, qe (I x16)), (some 70, { e := { val := .own 560 0, news := [(560, RR 39 1 I ([x4, x16] : List Int) 0 false)] } }), (some 71, qe (I x17)), (some 72, qe (I x4)), (some 17, qe (I x15)), (some 18, qe (I x17)), (some 19, qe (I x4))] ?_
            refine de (mkE [(19, I x4), (18, I x17), (17, I x15), (72, I x4), (71, I x17), (70, .own 560 0), (69, I x16), (68, a25 p1), (67, I x4), (66, I x15), (65, .own 520 0), (64, I x14), (63, B true), (62, .und), (61, .und), (60, B true), (59, B (ltI p3 (-100000))), (58, B (ltI p3 (-100000))), (57, I p3), (56, B false), (55, B (ltI 100000 p2)), (54, B (ltI 100000 p2)), (53, I p2), (52, B false), (51, B (ltI p2 (-100000))), (50, I p2), (49, I x4), (2, I p2), (3, I p3), (4, .ba 32 0), (5, .ba 40 0), (9, S x1.1), (10, B x1.2.1), (11, I x1.2.2), (12, LL a25 x2.1), (13, I x2.2), (14, .own 320 0), (15, I x3.2), (16, I x4), (48, B (neI x5 x4))] [(560, RR 39 1 I ([x4, x16] : List Int) 0 false), (520, RR 39 1 I ([x4, x14] : List Int) 0 false), (32, .box [S p0.f0, I p0.f1, I p0.f2, LL a37 p0.f3] false), (40, .box [I p1.f0, I p1.f1, I p1.f2, I p1.f3] false), (320, RR 60 9 a59 x3.1 0 false)] 131) ?_
            refine se (mkE [(2, I p2), (3, I p3), (4, .ba 32 0), (5, .ba 40 0), (9, S x1.1), (10, B x1.2.1), (11, I x1.2.2), (12, LL a25 x2.1), (13, I x2.2), (14, .own 320 0), (15, I x3.2), (17, I x15), (18, I x17), (19, I x4)] [(32, .box [S p0.f0, I p0.f1, I p0.f2, LL a37 p0.f3] false), (40, .box [I p1.f0, I p1.f1, I p1.f2, I p1.f3] false), (320, RR 60 9 a59 x3.1 0 false)] 131) ?_
            refine pG (mkE [(2, I p2), (3, I p3), (4, .ba 32 0), (5, .ba 40 0), (9, S x1.1), (10, B x1.2.1), (11, I x1.2.2), (12, LL a25 x2.1), (13, I x2.2), (14, .own 320 0), (15, I x3.2), (17, I x15), (18, I x17), (19, I x4)] [(32, .box [S p0.f0, I p0.f1, I p0.f2, LL a37 p0.f3] false), (40, .box [I p1.f0, I p1.f1, I p1.f2, I p1.f3] false), (320, RR 60 9 a59 x3.1 0 false)] 131) ?_
            exact pL
          · refine dg 15 [(some 49, qe (I x4)), (some 50, qe (I p2)), (some 51, qe (B (ltI p2 (-100000)))), (some 52, qe (B false)), (some 53, qe (I p2)), (some 54, qe (B (ltI 100000 p2))), (some 55, qe (B (ltI 100000 p2))), (some 56, qe (B false)), (some 57, qe (I p3)), (some 58, qe (B (ltI p3 (-100000)))), (some 59, qe (B (ltI p3 (-100000)))), (some 60, qe (B false)), (some 61, qe (I p3)), (some 62, qe (B (ltI 100000 p3))), (some 63, qe (B (ltI 100000 p3)))] ?_
            refine dc 64 [] (mkE [(63, B (ltI 100000 p3)), (62, B (ltI 100000 p3)), (61, I p3), (60, B false), (59, B (ltI p3 (-100000))), (58, B (ltI p3 (-100000))), (57, I p3), (56, B false), (55, B (ltI 100000 p2)), (54, B (ltI 100000 p2)), (53, I p2), (52, B false), (51, B (ltI p2 (-100000))), (50, I p2), (2, I p2), (3, I p3), (4, .ba 32 0), (5, .ba 40 0), (9, S x1.1), (10, B x1.2.1), (11, I x1.2.2), (12, LL a25 x2.1), (13, I x2.2), (14, .own 320 0), (15, I x3.2), (16, I x4), (48, B (neI x5 x4))] [(32, .box [S p0.f0, I p0.f1, I p0.f2, LL a37 p0.f3] false), (40, .box [I p1.f0, I p1.f1, I p1.f2, I p1.f3] false), (320, RR 60 9 a59 x3.1 0 false)] 131) (h18 (ltI 100000 p3) 1) (fun x18 => ?_)
            refine dg 17 [(some 49, qe (I x4)), (some 50, qe (I p2)), (some 51, qe (B (ltI p2 (-100000)))), (some 52, qe (B false)), (some 53, qe (I p2)), (some 54, qe (B (ltI 100000 p2))), (some 55, qe (B (ltI 100000 p2))), (some 56, qe (B false)), (some 57, qe (I p3)), (some 58, qe (B (ltI p3 (-100000)))), (some 59, qe (B (ltI p3 (-100000)))), (some 60, qe (B false)), (some 61, qe (I p3)), (some 62, qe (B (ltI 100000 p3))), (some 63, qe (B (ltI 100000 p3))), (some 64, qe (I x18)), (some 65, { e := { val := .own 520 0, news := [(520, RR 39 1 I ([x4, x18] : List Int) 0 false)] } })] ?_
            refine dc 66 [520] (mkE [(65, .own 520 0), (64, I x18), (63, B (ltI 100000 p3)), (62, B (ltI 100000 p3)), (61, I p3), (60, B false), (59, B (ltI p3 (-100000))), (58, B (ltI p3 (-100000))), (57, I p3), (56, B false), (55, B (ltI 100000 p2)), (54, B (ltI 100000 p2)), (53, I p2), (52, B false), (51, B (ltI p2 (-100000))), (50, I p2), (49, I x4), (2, I p2), (3, I p3), (4, .ba 32 0), (5, .ba 40 0), (9, S x1.1), (10, B x1.2.1), (11, I x1.2.2), (12, LL a25 x2.1), (13, I x2.2), (14, .own 320 0), (15, I x3.2), (16, I x4), (48, B (neI x5 x4))] [(520, RR 39 1 I ([x4, x18] : List Int) 0 false), (32, .box [S p0.f0, I p0.f1, I p0.f2, LL a37 p0.f3] false), (40, .box [I p1.f0, I p1.f1, I p1.f2, I p1.f3] false), (320, RR 60 9 a59 x3.1 0 false)] 131) (h17 ([x4, x18] : List Int)) (fun x19 => ?_)
            refine dg 20 [(some 49, qe (I x4)), (some 50, qe (I p2)), (some 51, qe (B (ltI p2 (-100000)))), (some 52, qe (B false)), (some 53, qe (I p2)), (some 54, qe (B (ltI 100000 p2))), (some 55, qe (B (ltI 100000 p2))), (some 56, qe (B false)), (some 57, qe (I p3)), (some 58, qe (B (ltI p3 (-100000)))), (some 59, qe (B (ltI p3 (-100000)))), (some 60, qe (B false)), (some 61, qe (I p3)), (some 62, qe (B (ltI 100000 p3))), (some 63, qe (B (ltI 100000 p3))), (some 64, qe (I x18)), (some 65, { e := { val := .own 520 0, news := [(520, RR 39 1 I ([x4, x18] : List Int) 0 false)] } }), (some 66, qe (I x19)), (some 67, qe (I x4)), (some 68, qe (a25 p1))] ?_
            refine dc 69 [] (mkE [(68, a25 p1), (66, I x19), (65, .own 520 0), (64, I x18), (63, B (ltI 100000 p3)), (62, B (ltI 100000 p3)), (61, I p3), (60, B false), (59, B (ltI p3 (-100000))), (58, B (ltI p3 (-100000))), (57, I p3), (56, B false), (55, B (ltI 100000 p2)), (54, B (ltI 100000 p2)), (53, I p2), (52, B false), (51, B (ltI p2 (-100000))), (50, I p2), (49, I x4), (2, I p2), (3, I p3), (4, .ba 32 0), (5, .ba 40 0), (9, S x1.1), (10, B x1.2.1), (11, I x1.2.2), (12, LL a25 x2.1), (13, I x2.2), (14, .own 320 0), (15, I x3.2), (16, I x4), (48, B (neI x5 x4))] [(520, RR 39 1 I ([x4, x18] : List Int) 0 false), (32, .box [S p0.f0, I p0.f1, I p0.f2, LL a37 p0.f3] false), (40, .box [I p1.f0, I p1.f1, I p1.f2, I p1.f3] false), (320, RR 60 9 a59 x3.1 0 false)] 131) (h19 p1) (fun x20 => ?_)
            refine dg 22 [(some 49, qe (I x4)), (some 50, qe (I p2)), (some 51, qe (B (ltI p2 (-100000)))), (some 52, qe (B false)), (some 53, qe (I p2)), (some 54, qe (B (ltI 100000 p2))), (some 55, qe (B (ltI 100000 p2))), (some 56, qe (B false)), (some 57, qe (I p3)), (some 58, qe (B (ltI p3 (-100000)))), (some 59, qe (B (ltI p3 (-100000)))), (some 60, qe (B false)), (some 61, qe (I p3)), (some 62, qe (B (ltI 100000 p3))), (some 63, qe (B (ltI 100000 p3))), (some 64, qe (I x18)), (some 65, { e := { val := .own 520 0, news := [(520, RR 39 1 I ([x4, x18] : List Int) 0 false)] } }), (some 66, qe (I x19)), (some 67, qe (I x4)), (some 68, qe (a25 p1)), (some 69, qe (I x20)), (some 70, { e := { val := .own 560 0, news := [(560, RR 39 1 I ([x4, x20] : List Int) 0 false)] } })] ?_
            refine dc 71 [560] (mkE [(70, .own 560 0), (69, I x20), (68, a25 p1), (67, I x4), (66, I x19), (65, .own 520 0), (64, I x18), (63, B (ltI 100000 p3)), (62, B (ltI 100000 p3)), (61, I p3), (60, B false), (59, B (ltI p3 (-100000))), (58, B (ltI p3 (-100000))), (57, I p3), (56, B false), (55, B (ltI 100000 p2)), (54, B (ltI 100000 p2)), (53, I p2), (52, B false), (51, B (ltI p2 (-100000))), (50, I p2), (49, I x4), (2, I p2), (3, I p3), (4, .ba 32 0), (5, .ba 40 0), (9, S x1.1), (10, B x1.2.1), (11, I x1.2.2), (12, LL a25 x2.1), (13, I x2.2), (14, .own 320 0), (15, I x3.2), (16, I x4), (48, B (neI x5 x4))] [(560, RR 39 1 I ([x4, x20] : List Int) 0 false), (520, RR 39 1 I ([x4, x18] : List Int) 0 false), (32, .box [S p0.f0, I p0.f1, I p0.f2, LL a37 p0.f3] false), (40, .box [I p1.f0, I p1.f1, I p1.f2, I p1.f3] false), (320, RR 60 9 a59 x3.1 0 false)] 131) (h17 ([x4, x20] : List Int)) (fun x21 => ?_)
            refine dg 27 [(some 49, qe (I x4)), (some 50, qe (I p2)), (some 51, qe (B (ltI p2 (-100000)))), (some 52, qe (B false)), (some 53, qe (I p2)), (some 54, qe (B (ltI 100000 p2))), (some 55, qe (B (ltI 100000 p2))), (some 56, qe (B false)), (some 57, qe (I p3)), (some 58, qe (B (ltI p3 (-100000)))), (some 59, qe (B (ltI p3 (-100000)))), (some 60, qe (B false)), (some 61, qe (I p3)), (some 62, qe (B (ltI 100000 p3))), (some 63, qe (B (ltI 100000 p3))), (some 64, qe (I x18)), (some 65, { e := { val := .own 520 0, news := [(520, RR 39 1 I ([x4, x18] : List Int) 0 false)] } }), (some 66, qe (I x19)), (some 67, qe (I x4)), (some 68, qe (a25 p1)), (some 69, qe (I x20)), (some 70, { e := { val := .own 560 0, news := [(560, RR 39 1 I ([x4, x20] : List Int) 0 false)] } }), (some 71, qe (I x21)), (some 72, qe (I x4)), (some 17, qe (I x19)), (some 18, qe (I x21)), (some 19, qe (I x4))] ?_
            refine de (mkE [(19, I x4), (18, I x21), (17, I x19), (72, I x4), (71, I x21), (70, .own 560 0), (69, I x20), (68, a25 p1), (67, I x4), (66, I x19), (65, .own 520 0), (64, I x18), (63, B (ltI 100000 p3)), (62, B (ltI 100000 p3)), (61, I p3), (60, B false), (59, B (ltI p3 (-100000))), (58, B (ltI p3 (-100000))), (57, I p3), (56, B false), (55, B (ltI 100000 p2)), (54, B (ltI 100000 p2)), (53, I p2), (52, B false), (51, B (ltI p2 (-100000))), (50, I p2), (49, I x4), (2, I p2), (3, I p3), (4, .ba 32 0), (5, .ba 40 0), (9, S x1.1), (10, B x1.2.1), (11, I x1.2.2), (12, LL a25 x2.1), (13, I x2.2), (14, .own 320 0), (15, I x3.2), (16, I x4), (48, B (neI x5 x4))] [(560, RR 39 1 I ([x4, x20] : List Int) 0 false), (520, RR 39 1 I ([x4, x18] : List Int) 0 false), (32, .box [S p0.f0, I p0.f1, I p0.f2, LL a37 p0.f3] false), (40, .box [I p1.f0, I p1.f1, I p1.f2, I p1.f3] false), (320, RR 60 9 a59 x3.1 0 false)] 131) ?_
            refine se (mkE [(2, I p2), (3, I p3), (4, .ba 32 0), (5, .ba 40 0), (9, S x1.1), (10, B x1.2.1), (11, I x1.2.2), (12, LL a25 x2.1), (13, I x2.2), (14, .own 320 0), (15, I x3.2), (17, I x19), (18, I x21), (19, I x4)] [(32, .box [S p0.f0, I p0.f1, I p0.f2, LL a37 p0.f3] false), (40, .box [I p1.f0, I p1.f1, I p1.f2, I p1.f3] false), (320, RR 60 9 a59 x3.1 0 false)] 131) ?_
            refine pG (mkE [(2, I p2), (3, I p3), (4, .ba 32 0), (5, .ba 40 0), (9, S x1.1), (10, B x1.2.1), (11, I x1.2.2), (12, LL a25 x2.1), (13, I x2.2), (14, .own 320 0), (15, I x3.2), (17, I x19), (18, I x21), (19, I x4)] [(32, .box [S p0.f0, I p0.f1, I p0.f2, LL a37 p0.f3] false), (40, .box [I p1.f0, I p1.f1, I p1.f2, I p1.f3] false), (320, RR 60 9 a59 x3.1 0 false)] 131) ?_
            exact pL
    refine pS ?_
    refine gS 9 ?_
    refine gR 8 (rg Tryz.f6 8) ?_
    refine se (mkE [(2, I p2), (3, I p3), (4, .ba 32 0), (5, .ba 40 0), (9, S x1.1), (10, B x1.2.1), (11, I x1.2.2), (12, LL a25 x2.1), (13, I x2.2), (14, .own 320 0), (15, I x3.2), (17, I y22.1), (18, I y22.2), (19, I x4), (20, S (ByteArray.mk #[])), (21, B false)] [(32, .box [S p0.f0, I p0.f1, I p0.f2, LL a37 p0.f3] false), (40, .box [I p1.f0, I p1.f1, I p1.f2, I p1.f3] false), (320, RR 60 9 a59 x3.1 0 false)] 131) ?_
    refine pN ?_
    refine pS ?_
    refine gS 11 ?_
    refine gS 0 ?_
    refine gR 9 (rg Tryz.f6 9) ?_
    refine se (mkE [(2, I p2), (3, I p3), (4, .ba 32 0), (5, .ba 40 0), (9, S x1.1), (10, B x1.2.1), (11, I x1.2.2), (12, LL a25 x2.1), (13, I x2.2), (14, .own 320 0), (15, I x3.2), (17, I y22.1), (18, I y22.2), (19, I x4), (20, S (ByteArray.mk #[])), (21, B false), (74, B (eqI y22.1 0))] [(32, .box [S p0.f0, I p0.f1, I p0.f2, LL a37 p0.f3] false), (40, .box [I p1.f0, I p1.f1, I p1.f2, I p1.f3] false), (320, RR 60 9 a59 x3.1 0 false)] 131) ?_
    refine pN ?_
    refine pS ?_
    refine gC 74 (eqI y22.1 0) ?_ ?_
    · refine gR 10 (rg Tryz.f6 10) ?_
      refine sg 3 (mkE [(78, I p3), (77, I p2), (76, a23 p0), (2, I p2), (3, I p3), (4, .ba 32 0), (5, .ba 40 0), (9, S x1.1), (10, B x1.2.1), (11, I x1.2.2), (12, LL a25 x2.1), (13, I x2.2), (14, .own 320 0), (15, I x3.2), (17, I y22.1), (18, I y22.2), (19, I x4), (20, S (ByteArray.mk #[])), (21, B false), (74, B (eqI y22.1 0))] [(32, .box [S p0.f0, I p0.f1, I p0.f2, LL a37 p0.f3] false), (40, .box [I p1.f0, I p1.f1, I p1.f2, I p1.f3] false), (320, RR 60 9 a59 x3.1 0 false)] 131) ?_
      refine co 79 [] (h20 p0 p2 p3) (fun x23 => ?_)
      refine se (mkE [(4, .ba 32 0), (5, .ba 40 0), (9, S x1.1), (10, B x1.2.1), (11, I x1.2.2), (12, LL a25 x2.1), (13, I x2.2), (14, .own 320 0), (15, I x3.2), (17, I y22.1), (18, I y22.2), (19, I x4), (20, S x23.1), (21, B x23.2)] [(32, .box [S p0.f0, I p0.f1, I p0.f2, LL a37 p0.f3] false), (40, .box [I p1.f0, I p1.f1, I p1.f2, I p1.f3] false), (320, RR 60 9 a59 x3.1 0 false)] 131) ?_
      refine pN ?_
      refine pS ?_
      refine gS 12 ?_
      refine gR 11 (rg Tryz.f6 11) ?_
      refine se (mkE [(4, .ba 32 0), (5, .ba 40 0), (9, S x1.1), (10, B x1.2.1), (11, I x1.2.2), (12, LL a25 x2.1), (13, I x2.2), (14, .own 320 0), (15, I x3.2), (17, I y22.1), (18, I y22.2), (19, I x4), (20, S x23.1), (21, B x23.2), (22, .nils)] [(32, .box [S p0.f0, I p0.f1, I p0.f2, LL a37 p0.f3] false), (40, .box [I p1.f0, I p1.f1, I p1.f2, I p1.f3] false), (320, RR 60 9 a59 x3.1 0 false)] 131) ?_
      refine pN ?_
      refine pS ?_
      refine gS 14 ?_
      refine gS 0 ?_
      refine gR 12 (rg Tryz.f6 12) ?_
      refine se (mkE [(4, .ba 32 0), (5, .ba 40 0), (9, S x1.1), (10, B x1.2.1), (11, I x1.2.2), (12, LL a25 x2.1), (13, I x2.2), (14, .own 320 0), (15, I x3.2), (17, I y22.1), (18, I y22.2), (19, I x4), (20, S x23.1), (21, B x23.2), (22, .nils), (83, B (eqI x4 0))] [(32, .box [S p0.f0, I p0.f1, I p0.f2, LL a37 p0.f3] false), (40, .box [I p1.f0, I p1.f1, I p1.f2, I p1.f3] false), (320, RR 60 9 a59 x3.1 0 false)] 131) ?_
      refine pN ?_
      refine pS ?_
      refine gC 83 (eqI x4 0) ?_ ?_
      · refine gR 13 (rg Tryz.f6 13) ?_
        refine sg 1 (mkE [(85, a23 p0), (4, .ba 32 0), (5, .ba 40 0), (9, S x1.1), (10, B x1.2.1), (11, I x1.2.2), (12, LL a25 x2.1), (13, I x2.2), (14, .own 320 0), (15, I x3.2), (17, I y22.1), (18, I y22.2), (19, I x4), (20, S x23.1), (21, B x23.2), (22, .nils), (83, B (eqI x4 0))] [(32, .box [S p0.f0, I p0.f1, I p0.f2, LL a37 p0.f3] false), (40, .box [I p1.f0, I p1.f1, I p1.f2, I p1.f3] false), (320, RR 60 9 a59 x3.1 0 false)] 131) ?_
        refine co 86 [] (h22 p0) (fun x24 => ?_)
        refine co 87 [688] (h21 x24) (fun x25 => ?_)
        refine se (mkE [(4, .ba 32 0), (5, .ba 40 0), (9, S x1.1), (10, B x1.2.1), (11, I x1.2.2), (12, LL a25 x2.1), (13, I x2.2), (14, .own 320 0), (15, I x3.2), (17, I y22.1), (18, I y22.2), (19, I x25.2), (20, S x23.1), (21, B x23.2), (22, LL a25 x25.1)] [(32, .box [S p0.f0, I p0.f1, I p0.f2, LL a37 p0.f3] false), (40, .box [I p1.f0, I p1.f1, I p1.f2, I p1.f3] false), (320, RR 60 9 a59 x3.1 0 false)] 131) ?_
        refine pN ?_
        refine pS ?_
        refine gS 15 ?_
        refine gR 14 (rg Tryz.f6 14) ?_
        refine se (mkE [(4, .ba 32 0), (5, .ba 40 0), (9, S x1.1), (10, B x1.2.1), (11, I x1.2.2), (12, LL a25 x2.1), (13, I x2.2), (14, .own 320 0), (15, I x3.2), (17, I y22.1), (18, I y22.2), (19, I x25.2), (20, S x23.1), (21, B x23.2), (22, LL a25 x25.1), (23, .nils)] [(32, .box [S p0.f0, I p0.f1, I p0.f2, LL a37 p0.f3] false), (40, .box [I p1.f0, I p1.f1, I p1.f2, I p1.f3] false), (320, RR 60 9 a59 x3.1 0 false)] 131) ?_
        refine pN ?_
        refine pS ?_
        refine gS 17 ?_
        refine gS 0 ?_
        refine gR 15 (rg Tryz.f6 15) ?_
        refine se (mkE [(4, .ba 32 0), (5, .ba 40 0), (9, S x1.1), (10, B x1.2.1), (11, I x1.2.2), (12, LL a25 x2.1), (13, I x2.2), (14, .own 320 0), (15, I x3.2), (17, I y22.1), (18, I y22.2), (19, I x25.2), (20, S x23.1), (21, B x23.2), (22, LL a25 x25.1), (23, .nils), (91, B (eqI y22.2 0))] [(32, .box [S p0.f0, I p0.f1, I p0.f2, LL a37 p0.f3] false), (40, .box [I p1.f0, I p1.f1, I p1.f2, I p1.f3] false), (320, RR 60 9 a59 x3.1 0 false)] 131) ?_
        refine pN ?_
        refine pS ?_
        refine gC 91 (eqI y22.2 0) ?_ ?_
        · refine gR 16 (rg Tryz.f6 16) ?_
          refine sg 2 (mkE [(93, a25 p1), (92, a23 p0), (4, .ba 32 0), (5, .ba 40 0), (9, S x1.1), (10, B x1.2.1), (11, I x1.2.2), (12, LL a25 x2.1), (13, I x2.2), (14, .own 320 0), (15, I x3.2), (17, I y22.1), (18, I y22.2), (19, I x25.2), (20, S x23.1), (21, B x23.2), (22, LL a25 x25.1), (23, .nils), (91, B (eqI y22.2 0))] [(32, .box [S p0.f0, I p0.f1, I p0.f2, LL a37 p0.f3] false), (40, .box [I p1.f0, I p1.f1, I p1.f2, I p1.f3] false), (320, RR 60 9 a59 x3.1 0 false)] 131) ?_
          refine co 94 [] (h23 p0 p1) (fun x26 => ?_)
          refine se (mkE [(9, S x1.1), (10, B x1.2.1), (11, I x1.2.2), (12, LL a25 x2.1), (13, I x2.2), (14, .own 320 0), (15, I x3.2), (17, I y22.1), (18, I y22.2), (19, I x25.2), (20, S x23.1), (21, B x23.2), (22, LL a25 x25.1), (23, .own 752 0)] [(320, RR 60 9 a59 x3.1 0 false), (752, RR 60 9 a59 x26 0 false)] 131) ?_
          refine pN ?_
          refine pS ?_
          refine gS 0 ?_
          refine gR 17 (rg Tryz.f6 17) ?_
          refine sg 4 (mkE [(98, B (eqI x1.2.2 y22.1)), (97, B (eqI x1.2.2 y22.1)), (96, I y22.1), (95, I x1.2.2), (9, S x1.1), (10, B x1.2.1), (11, I x1.2.2), (12, LL a25 x2.1), (13, I x2.2), (14, .own 320 0), (15, I x3.2), (17, I y22.1), (18, I y22.2), (19, I x25.2), (20, S x23.1), (21, B x23.2), (22, LL a25 x25.1), (23, .own 752 0)] [(320, RR 60 9 a59 x3.1 0 false), (752, RR 60 9 a59 x26 0 false)] 131) ?_
          refine sb 98 (eqI x1.2.2 y22.1) ?_ ?_
          · refine sg 9 (mkE [(103, B (eqS x1.1 x23.1)), (102, B (eqS x1.1 x23.1)), (101, B (eqS x1.1 x23.1)), (100, S x23.1), (99, S x1.1), (98, B true), (98, B (eqI x1.2.2 y22.1)), (97, B (eqI x1.2.2 y22.1)), (96, I y22.1), (95, I x1.2.2), (9, S x1.1), (10, B x1.2.1), (11, I x1.2.2), (12, LL a25 x2.1), (13, I x2.2), (14, .own 320 0), (15, I x3.2), (17, I y22.1), (18, I y22.2), (19, I x25.2), (20, S x23.1), (21, B x23.2), (22, LL a25 x25.1), (23, .own 752 0)] [(320, RR 60 9 a59 x3.1 0 false), (752, RR 60 9 a59 x26 0 false)] 131) ?_
            refine sb 103 (eqS x1.1 x23.1) ?_ ?_
            · refine sg 14 (mkE [(108, B (x1.2.1 == x23.2)), (107, B (x1.2.1 == x23.2)), (106, B (x1.2.1 == x23.2)), (105, B x23.2), (104, B x1.2.1), (103, B true), (103, B (eqS x1.1 x23.1)), (102, B (eqS x1.1 x23.1)), (101, B (eqS x1.1 x23.1)), (100, S x23.1), (99, S x1.1), (98, B true), (98, B (eqI x1.2.2 y22.1)), (97, B (eqI x1.2.2 y22.1)), (96, I y22.1), (95, I x1.2.2), (9, S x1.1), (10, B x1.2.1), (11, I x1.2.2), (12, LL a25 x2.1), (13, I x2.2), (14, .own 320 0), (15, I x3.2), (17, I y22.1), (18, I y22.2), (19, I x25.2), (20, S x23.1), (21, B x23.2), (22, LL a25 x25.1), (23, .own 752 0)] [(320, RR 60 9 a59 x3.1 0 false), (752, RR 60 9 a59 x26 0 false)] 131) ?_
              refine sb 108 (x1.2.1 == x23.2) ?_ ?_
              · refine sg 19 (mkE [(113, B (eqI x2.2 x25.2)), (112, B (eqI x2.2 x25.2)), (111, B (eqI x2.2 x25.2)), (110, I x25.2), (109, I x2.2), (108, B true), (108, B (x1.2.1 == x23.2)), (107, B (x1.2.1 == x23.2)), (106, B (x1.2.1 == x23.2)), (105, B x23.2), (104, B x1.2.1), (103, B true), (103, B (eqS x1.1 x23.1)), (102, B (eqS x1.1 x23.1)), (101, B (eqS x1.1 x23.1)), (100, S x23.1), (99, S x1.1), (98, B true), (98, B (eqI x1.2.2 y22.1)), (97, B (eqI x1.2.2 y22.1)), (96, I y22.1), (95, I x1.2.2), (9, S x1.1), (10, B x1.2.1), (11, I x1.2.2), (12, LL a25 x2.1), (13, I x2.2), (14, .own 320 0), (15, I x3.2), (17, I y22.1), (18, I y22.2), (19, I x25.2), (20, S x23.1), (21, B x23.2), (22, LL a25 x25.1), (23, .own 752 0)] [(320, RR 60 9 a59 x3.1 0 false), (752, RR 60 9 a59 x26 0 false)] 131) ?_
                refine sb 113 (eqI x2.2 x25.2) ?_ ?_
                · refine sg 21 (mkE [(115, LL a25 x25.1), (114, LL a25 x2.1), (113, B true), (113, B (eqI x2.2 x25.2)), (112, B (eqI x2.2 x25.2)), (111, B (eqI x2.2 x25.2)), (110, I x25.2), (109, I x2.2), (108, B true), (108, B (x1.2.1 == x23.2)), (107, B (x1.2.1 == x23.2)), (106, B (x1.2.1 == x23.2)), (105, B x23.2), (104, B x1.2.1), (103, B true), (103, B (eqS x1.1 x23.1)), (102, B (eqS x1.1 x23.1)), (101, B (eqS x1.1 x23.1)), (100, S x23.1), (99, S x1.1), (98, B true), (98, B (eqI x1.2.2 y22.1)), (97, B (eqI x1.2.2 y22.1)), (96, I y22.1), (95, I x1.2.2), (9, S x1.1), (10, B x1.2.1), (11, I x1.2.2), (12, LL a25 x2.1), (13, I x2.2), (14, .own 320 0), (15, I x3.2), (17, I y22.1), (18, I y22.2), (19, I x25.2), (20, S x23.1), (21, B x23.2), (22, LL a25 x25.1), (23, .own 752 0)] [(320, RR 60 9 a59 x3.1 0 false), (752, RR 60 9 a59 x26 0 false)] 131) ?_
                  refine co 116 [] (h24 x2.1 x25.1) (fun x27 => ?_)
                  refine sg 24 (mkE [(118, B x27), (117, B x27), (116, B x27), (115, LL a25 x25.1), (114, LL a25 x2.1), (113, B true), (113, B (eqI x2.2 x25.2)), (112, B (eqI x2.2 x25.2)), (111, B (eqI x2.2 x25.2)), (110, I x25.2), (109, I x2.2), (108, B true), (108, B (x1.2.1 == x23.2)), (107, B (x1.2.1 == x23.2)), (106, B (x1.2.1 == x23.2)), (105, B x23.2), (104, B x1.2.1), (103, B true), (103, B (eqS x1.1 x23.1)), (102, B (eqS x1.1 x23.1)), (101, B (eqS x1.1 x23.1)), (100, S x23.1), (99, S x1.1), (98, B true), (98, B (eqI x1.2.2 y22.1)), (97, B (eqI x1.2.2 y22.1)), (96, I y22.1), (95, I x1.2.2), (9, S x1.1), (10, B x1.2.1), (11, I x1.2.2), (12, LL a25 x2.1), (13, I x2.2), (14, .own 320 0), (15, I x3.2), (17, I y22.1), (18, I y22.2), (19, I x25.2), (20, S x23.1), (21, B x23.2), (22, LL a25 x25.1), (23, .own 752 0)] [(320, RR 60 9 a59 x3.1 0 false), (752, RR 60 9 a59 x26 0 false)] 131) ?_
                  refine sb 118 x27 ?_ ?_
                  · refine sg 29 (mkE [(123, B (eqI x3.2 y22.2)), (122, B (eqI x3.2 y22.2)), (121, B (eqI x3.2 y22.2)), (120, I y22.2), (119, I x3.2), (118, B true), (118, B x27), (117, B x27), (116, B x27), (115, LL a25 x25.1), (114, LL a25 x2.1), (113, B true), (113, B (eqI x2.2 x25.2)), (112, B (eqI x2.2 x25.2)), (111, B (eqI x2.2 x25.2)), (110, I x25.2), (109, I x2.2), (108, B true), (108, B (x1.2.1 == x23.2)), (107, B (x1.2.1 == x23.2)), (106, B (x1.2.1 == x23.2)), (105, B x23.2), (104, B x1.2.1), (103, B true), (103, B (eqS x1.1 x23.1)), (102, B (eqS x1.1 x23.1)), (101, B (eqS x1.1 x23.1)), (100, S x23.1), (99, S x1.1), (98, B true), (98, B (eqI x1.2.2 y22.1)), (97, B (eqI x1.2.2 y22.1)), (96, I y22.1), (95, I x1.2.2), (9, S x1.1), (10, B x1.2.1), (11, I x1.2.2), (12, LL a25 x2.1), (13, I x2.2), (14, .own 320 0), (15, I x3.2), (17, I y22.1), (18, I y22.2), (19, I x25.2), (20, S x23.1), (21, B x23.2), (22, LL a25 x25.1), (23, .own 752 0)] [(320, RR 60 9 a59 x3.1 0 false), (752, RR 60 9 a59 x26 0 false)] 131) ?_
                    refine sb 123 (eqI x3.2 y22.2) ?_ ?_
                    · refine sg 31 (mkE [(125, .own 752 0), (124, .own 320 0), (123, B true), (123, B (eqI x3.2 y22.2)), (122, B (eqI x3.2 y22.2)), (121, B (eqI x3.2 y22.2)), (120, I y22.2), (119, I x3.2), (118, B true), (118, B x27), (117, B x27), (116, B x27), (115, LL a25 x25.1), (114, LL a25 x2.1), (113, B true), (113, B (eqI x2.2 x25.2)), (112, B (eqI x2.2 x25.2)), (111, B (eqI x2.2 x25.2)), (110, I x25.2), (109, I x2.2), (108, B true), (108, B (x1.2.1 == x23.2)), (107, B (x1.2.1 == x23.2)), (106, B (x1.2.1 == x23.2)), (105, B x23.2), (104, B x1.2.1), (103, B true), (103, B (eqS x1.1 x23.1)), (102, B (eqS x1.1 x23.1)), (101, B (eqS x1.1 x23.1)), (100, S x23.1), (99, S x1.1), (98, B true), (98, B (eqI x1.2.2 y22.1)), (97, B (eqI x1.2.2 y22.1)), (96, I y22.1), (95, I x1.2.2), (9, S x1.1), (10, B x1.2.1), (11, I x1.2.2), (12, LL a25 x2.1), (13, I x2.2), (14, .own 320 0), (15, I x3.2), (17, I y22.1), (18, I y22.2), (19, I x25.2), (20, S x23.1), (21, B x23.2), (22, LL a25 x25.1), (23, .own 752 0)] [(320, RR 60 9 a59 x3.1 0 false), (752, RR 60 9 a59 x26 0 false)] 131) ?_
                      refine co 126 [320, 752] (h25 x3.1 x26) (fun x28 => ?_)
                      refine sg 34 (mkE [(128, B x28), (127, B x28), (126, B x28), (125, .own 752 0), (124, .own 320 0), (123, B true), (123, B (eqI x3.2 y22.2)), (122, B (eqI x3.2 y22.2)), (121, B (eqI x3.2 y22.2)), (120, I y22.2), (119, I x3.2), (118, B true), (118, B x27), (117, B x27), (116, B x27), (115, LL a25 x25.1), (114, LL a25 x2.1), (113, B true), (113, B (eqI x2.2 x25.2)), (112, B (eqI x2.2 x25.2)), (111, B (eqI x2.2 x25.2)), (110, I x25.2), (109, I x2.2), (108, B true), (108, B (x1.2.1 == x23.2)), (107, B (x1.2.1 == x23.2)), (106, B (x1.2.1 == x23.2)), (105, B x23.2), (104, B x1.2.1), (103, B true), (103, B (eqS x1.1 x23.1)), (102, B (eqS x1.1 x23.1)), (101, B (eqS x1.1 x23.1)), (100, S x23.1), (99, S x1.1), (98, B true), (98, B (eqI x1.2.2 y22.1)), (97, B (eqI x1.2.2 y22.1)), (96, I y22.1), (95, I x1.2.2), (9, S x1.1), (10, B x1.2.1), (11, I x1.2.2), (12, LL a25 x2.1), (13, I x2.2), (14, .own 320 0), (15, I x3.2), (17, I y22.1), (18, I y22.2), (19, I x25.2), (20, S x23.1), (21, B x23.2), (22, LL a25 x25.1), (23, .own 752 0)] [(320, RR 60 9 a59 x3.1 0 false), (752, RR 60 9 a59 x26 0 false)] 131) ?_
                      refine sb 128 x28 ?_ ?_
                      · refine co 129 [] (h26) (fun x29 => ?_)
                        refine se (mkE [(8, B x29)] [] 131) ?_
                        refine pN ?_
                        refine pS ?_
                        refine gE ?_
                        exact pL
                      · refine se (mkE [(8, B false)] [] 131) ?_
                        refine pN ?_
                        refine pS ?_
                        refine gE ?_
                        exact pL
                    · refine se (mkE [(8, B false)] [] 131) ?_
                      refine pN ?_
                      refine pS ?_
                      refine gE ?_
                      exact pL
                  · refine se (mkE [(8, B false)] [] 131) ?_
                    refine pN ?_
                    refine pS ?_
                    refine gE ?_
                    exact pL
                · refine se (mkE [(8, B false)] [] 131) ?_
                  refine pN ?_
                  refine pS ?_
                  refine gE ?_
                  exact pL
              · refine se (mkE [(8, B false)] [] 131) ?_
                refine pN ?_
                refine pS ?_
                refine gE ?_
                exact pL
            · refine se (mkE [(8, B false)] [] 131) ?_
              refine pN ?_
              refine pS ?_
              refine gE ?_
              exact pL
          · refine se (mkE [(8, B false)] [] 131) ?_
            refine pN ?_
            refine pS ?_
            refine gE ?_
            exact pL
        · refine gK ?_
          refine pN ?_
          refine pS ?_
          refine gS 0 ?_
          refine gR 17 (rg Tryz.f6 17) ?_
          refine sg 4 (mkE [(98, B (eqI x1.2.2 y22.1)), (97, B (eqI x1.2.2 y22.1)), (96, I y22.1), (95, I x1.2.2), (4, .ba 32 0), (5, .ba 40 0), (9, S x1.1), (10, B x1.2.1), (11, I x1.2.2), (12, LL a25 x2.1), (13, I x2.2), (14, .own 320 0), (15, I x3.2), (17, I y22.1), (18, I y22.2), (19, I x25.2), (20, S x23.1), (21, B x23.2), (22, LL a25 x25.1), (23, .nils), (91, B (eqI y22.2 0))] [(32, .box [S p0.f0, I p0.f1, I p0.f2, LL a37 p0.f3] false), (40, .box [I p1.f0, I p1.f1, I p1.f2, I p1.f3] false), (320, RR 60 9 a59 x3.1 0 false)] 131) ?_
          refine sb 98 (eqI x1.2.2 y22.1) ?_ ?_
          · refine sg 9 (mkE [(103, B (eqS x1.1 x23.1)), (102, B (eqS x1.1 x23.1)), (101, B (eqS x1.1 x23.1)), (100, S x23.1), (99, S x1.1), (98, B true), (98, B (eqI x1.2.2 y22.1)), (97, B (eqI x1.2.2 y22.1)), (96, I y22.1), (95, I x1.2.2), (4, .ba 32 0), (5, .ba 40 0), (9, S x1.1), (10, B x1.2.1), (11, I x1.2.2), (12, LL a25 x2.1), (13, I x2.2), (14, .own 320 0), (15, I x3.2), (17, I y22.1), (18, I y22.2), (19, I x25.2), (20, S x23.1), (21, B x23.2), (22, LL a25 x25.1), (23, .nils), (91, B (eqI y22.2 0))] [(32, .box [S p0.f0, I p0.f1, I p0.f2, LL a37 p0.f3] false), (40, .box [I p1.f0, I p1.f1, I p1.f2, I p1.f3] false), (320, RR 60 9 a59 x3.1 0 false)] 131) ?_
            refine sb 103 (eqS x1.1 x23.1) ?_ ?_
            · refine sg 14 (mkE [(108, B (x1.2.1 == x23.2)), (107, B (x1.2.1 == x23.2)), (106, B (x1.2.1 == x23.2)), (105, B x23.2), (104, B x1.2.1), (103, B true), (103, B (eqS x1.1 x23.1)), (102, B (eqS x1.1 x23.1)), (101, B (eqS x1.1 x23.1)), (100, S x23.1), (99, S x1.1), (98, B true), (98, B (eqI x1.2.2 y22.1)), (97, B (eqI x1.2.2 y22.1)), (96, I y22.1), (95, I x1.2.2), (4, .ba 32 0), (5, .ba 40 0), (9, S x1.1), (10, B x1.2.1), (11, I x1.2.2), (12, LL a25 x2.1), (13, I x2.2), (14, .own 320 0), (15, I x3.2), (17, I y22.1), (18, I y22.2), (19, I x25.2), (20, S x23.1), (21, B x23.2), (22, LL a25 x25.1), (23, .nils), (91, B (eqI y22.2 0))] [(32, .box [S p0.f0, I p0.f1, I p0.f2, LL a37 p0.f3] false), (40, .box [I p1.f0, I p1.f1, I p1.f2, I p1.f3] false), (320, RR 60 9 a59 x3.1 0 false)] 131) ?_
              refine sb 108 (x1.2.1 == x23.2) ?_ ?_
              · refine sg 19 (mkE [(113, B (eqI x2.2 x25.2)), (112, B (eqI x2.2 x25.2)), (111, B (eqI x2.2 x25.2)), (110, I x25.2), (109, I x2.2), (108, B true), (108, B (x1.2.1 == x23.2)), (107, B (x1.2.1 == x23.2)), (106, B (x1.2.1 == x23.2)), (105, B x23.2), (104, B x1.2.1), (103, B true), (103, B (eqS x1.1 x23.1)), (102, B (eqS x1.1 x23.1)), (101, B (eqS x1.1 x23.1)), (100, S x23.1), (99, S x1.1), (98, B true), (98, B (eqI x1.2.2 y22.1)), (97, B (eqI x1.2.2 y22.1)), (96, I y22.1), (95, I x1.2.2), (4, .ba 32 0), (5, .ba 40 0), (9, S x1.1), (10, B x1.2.1), (11, I x1.2.2), (12, LL a25 x2.1), (13, I x2.2), (14, .own 320 0), (15, I x3.2), (17, I y22.1), (18, I y22.2), (19, I x25.2), (20, S x23.1), (21, B x23.2), (22, LL a25 x25.1), (23, .nils), (91, B (eqI y22.2 0))] [(32, .box [S p0.f0, I p0.f1, I p0.f2, LL a37 p0.f3] false), (40, .box [I p1.f0, I p1.f1, I p1.f2, I p1.f3] false), (320, RR 60 9 a59 x3.1 0 false)] 131) ?_
                refine sb 113 (eqI x2.2 x25.2) ?_ ?_
                · refine sg 21 (mkE [(115, LL a25 x25.1), (114, LL a25 x2.1), (113, B true), (113, B (eqI x2.2 x25.2)), (112, B (eqI x2.2 x25.2)), (111, B (eqI x2.2 x25.2)), (110, I x25.2), (109, I x2.2), (108, B true), (108, B (x1.2.1 == x23.2)), (107, B (x1.2.1 == x23.2)), (106, B (x1.2.1 == x23.2)), (105, B x23.2), (104, B x1.2.1), (103, B true), (103, B (eqS x1.1 x23.1)), (102, B (eqS x1.1 x23.1)), (101, B (eqS x1.1 x23.1)), (100, S x23.1), (99, S x1.1), (98, B true), (98, B (eqI x1.2.2 y22.1)), (97, B (eqI x1.2.2 y22.1)), (96, I y22.1), (95, I x1.2.2), (4, .ba 32 0), (5, .ba 40 0), (9, S x1.1), (10, B x1.2.1), (11, I x1.2.2), (12, LL a25 x2.1), (13, I x2.2), (14, .own 320 0), (15, I x3.2), (17, I y22.1), (18, I y22.2), (19, I x25.2), (20, S x23.1), (21, B x23.2), (22, LL a25 x25.1), (23, .nils), (91, B (eqI y22.2 0))] [(32, .box [S p0.f0, I p0.f1, I p0.f2, LL a37 p0.f3] false), (40, .box [I p1.f0, I p1.f1, I p1.f2, I p1.f3] false), (320, RR 60 9 a59 x3.1 0 false)] 131) ?_
                  refine co 116 [] (h24 x2.1 x25.1) (fun x30 => ?_)
                  refine sg 24 (mkE [(118, B x30), (117, B x30), (116, B x30), (115, LL a25 x25.1), (114, LL a25 x2.1), (113, B true), (113, B (eqI x2.2 x25.2)), (112, B (eqI x2.2 x25.2)), (111, B (eqI x2.2 x25.2)), (110, I x25.2), (109, I x2.2), (108, B true), (108, B (x1.2.1 == x23.2)), (107, B (x1.2.1 == x23.2)), (106, B (x1.2.1 == x23.2)), (105, B x23.2), (104, B x1.2.1), (103, B true), (103, B (eqS x1.1 x23.1)), (102, B (eqS x1.1 x23.1)), (101, B (eqS x1.1 x23.1)), (100, S x23.1), (99, S x1.1), (98, B true), (98, B (eqI x1.2.2 y22.1)), (97, B (eqI x1.2.2 y22.1)), (96, I y22.1), (95, I x1.2.2), (4, .ba 32 0), (5, .ba 40 0), (9, S x1.1), (10, B x1.2.1), (11, I x1.2.2), (12, LL a25 x2.1), (13, I x2.2), (14, .own 320 0), (15, I x3.2), (17, I y22.1), (18, I y22.2), (19, I x25.2), (20, S x23.1), (21, B x23.2), (22, LL a25 x25.1), (23, .nils), (91, B (eqI y22.2 0))] [(32, .box [S p0.f0, I p0.f1, I p0.f2, LL a37 p0.f3] false), (40, .box [I p1.f0, I p1.f1, I p1.f2, I p1.f3] false), (320, RR 60 9 a59 x3.1 0 false)] 131) ?_
                  refine sb 118 x30 ?_ ?_
                  · refine sg 29 (mkE [(123, B (eqI x3.2 y22.2)), (122, B (eqI x3.2 y22.2)), (121, B (eqI x3.2 y22.2)), (120, I y22.2), (119, I x3.2), (118, B true), (118, B x30), (117, B x30), (116, B x30), (115, LL a25 x25.1), (114, LL a25 x2.1), (113, B true), (113, B (eqI x2.2 x25.2)), (112, B (eqI x2.2 x25.2)), (111, B (eqI x2.2 x25.2)), (110, I x25.2), (109, I x2.2), (108, B true), (108, B (x1.2.1 == x23.2)), (107, B (x1.2.1 == x23.2)), (106, B (x1.2.1 == x23.2)), (105, B x23.2), (104, B x1.2.1), (103, B true), (103, B (eqS x1.1 x23.1)), (102, B (eqS x1.1 x23.1)), (101, B (eqS x1.1 x23.1)), (100, S x23.1), (99, S x1.1), (98, B true), (98, B (eqI x1.2.2 y22.1)), (97, B (eqI x1.2.2 y22.1)), (96, I y22.1), (95, I x1.2.2), (4, .ba 32 0), (5, .ba 40 0), (9, S x1.1), (10, B x1.2.1), (11, I x1.2.2), (12, LL a25 x2.1), (13, I x2.2), (14, .own 320 0), (15, I x3.2), (17, I y22.1), (18, I y22.2), (19, I x25.2), (20, S x23.1), (21, B x23.2), (22, LL a25 x25.1), (23, .nils), (91, B (eqI y22.2 0))] [(32, .box [S p0.f0, I p0.f1, I p0.f2, LL a37 p0.f3] false), (40, .box [I p1.f0, I p1.f1, I p1.f2, I p1.f3] false), (320, RR 60 9 a59 x3.1 0 false)] 131) ?_
                    refine sb 123 (eqI x3.2 y22.2) ?_ ?_
                    · refine sg 31 (mkE [(125, .nils), (124, .own 320 0), (123, B true), (123, B (eqI x3.2 y22.2)), (122, B (eqI x3.2 y22.2)), (121, B (eqI x3.2 y22.2)), (120, I y22.2), (119, I x3.2), (118, B true), (118, B x30), (117, B x30), (116, B x30), (115, LL a25 x25.1), (114, LL a25 x2.1), (113, B true), (113, B (eqI x2.2 x25.2)), (112, B (eqI x2.2 x25.2)), (111, B (eqI x2.2 x25.2)), (110, I x25.2), (109, I x2.2), (108, B true), (108, B (x1.2.1 == x23.2)), (107, B (x1.2.1 == x23.2)), (106, B (x1.2.1 == x23.2)), (105, B x23.2), (104, B x1.2.1), (103, B true), (103, B (eqS x1.1 x23.1)), (102, B (eqS x1.1 x23.1)), (101, B (eqS x1.1 x23.1)), (100, S x23.1), (99, S x1.1), (98, B true), (98, B (eqI x1.2.2 y22.1)), (97, B (eqI x1.2.2 y22.1)), (96, I y22.1), (95, I x1.2.2), (4, .ba 32 0), (5, .ba 40 0), (9, S x1.1), (10, B x1.2.1), (11, I x1.2.2), (12, LL a25 x2.1), (13, I x2.2), (14, .own 320 0), (15, I x3.2), (17, I y22.1), (18, I y22.2), (19, I x25.2), (20, S x23.1), (21, B x23.2), (22, LL a25 x25.1), (23, .nils), (91, B (eqI y22.2 0))] [(32, .box [S p0.f0, I p0.f1, I p0.f2, LL a37 p0.f3] false), (40, .box [I p1.f0, I p1.f1, I p1.f2, I p1.f3] false), (320, RR 60 9 a59 x3.1 0 false)] 131) ?_
                      refine co 126 [320] (h25 x3.1 []) (fun x31 => ?_)
                      refine sg 34 (mkE [(128, B x31), (127, B x31), (126, B x31), (125, .nils), (124, .own 320 0), (123, B true), (123, B (eqI x3.2 y22.2)), (122, B (eqI x3.2 y22.2)), (121, B (eqI x3.2 y22.2)), (120, I y22.2), (119, I x3.2), (118, B true), (118, B x30), (117, B x30), (116, B x30), (115, LL a25 x25.1), (114, LL a25 x2.1), (113, B true), (113, B (eqI x2.2 x25.2)), (112, B (eqI x2.2 x25.2)), (111, B (eqI x2.2 x25.2)), (110, I x25.2), (109, I x2.2), (108, B true), (108, B (x1.2.1 == x23.2)), (107, B (x1.2.1 == x23.2)), (106, B (x1.2.1 == x23.2)), (105, B x23.2), (104, B x1.2.1), (103, B true), (103, B (eqS x1.1 x23.1)), (102, B (eqS x1.1 x23.1)), (101, B (eqS x1.1 x23.1)), (100, S x23.1), (99, S x1.1), (98, B true), (98, B (eqI x1.2.2 y22.1)), (97, B (eqI x1.2.2 y22.1)), (96, I y22.1), (95, I x1.2.2), (4, .ba 32 0), (5, .ba 40 0), (9, S x1.1), (10, B x1.2.1), (11, I x1.2.2), (12, LL a25 x2.1), (13, I x2.2), (14, .own 320 0), (15, I x3.2), (17, I y22.1), (18, I y22.2), (19, I x25.2), (20, S x23.1), (21, B x23.2), (22, LL a25 x25.1), (23, .nils), (91, B (eqI y22.2 0))] [(32, .box [S p0.f0, I p0.f1, I p0.f2, LL a37 p0.f3] false), (40, .box [I p1.f0, I p1.f1, I p1.f2, I p1.f3] false), (320, RR 60 9 a59 x3.1 0 false)] 131) ?_
                      refine sb 128 x31 ?_ ?_
                      · refine co 129 [] (h26) (fun x32 => ?_)
                        refine se (mkE [(8, B x32)] [] 131) ?_
                        refine pN ?_
                        refine pS ?_
                        refine gE ?_
                        exact pL
                      · refine se (mkE [(8, B false)] [] 131) ?_
                        refine pN ?_
                        refine pS ?_
                        refine gE ?_
                        exact pL
                    · refine se (mkE [(8, B false)] [] 131) ?_
                      refine pN ?_
                      refine pS ?_
                      refine gE ?_
                      exact pL
                  · refine se (mkE [(8, B false)] [] 131) ?_
                    refine pN ?_
                    refine pS ?_
                    refine gE ?_
                    exact pL
                · refine se (mkE [(8, B false)] [] 131) ?_
                  refine pN ?_
                  refine pS ?_
                  refine gE ?_
                  exact pL
              · refine se (mkE [(8, B false)] [] 131) ?_
                refine pN ?_
                refine pS ?_
                refine gE ?_
                exact pL
            · refine se (mkE [(8, B false)] [] 131) ?_
              refine pN ?_
              refine pS ?_
              refine gE ?_
              exact pL
          · refine se (mkE [(8, B false)] [] 131) ?_
            refine pN ?_
            refine pS ?_
            refine gE ?_
            exact pL
      · refine gK ?_
        refine pN ?_
        refine pS ?_
        refine gS 15 ?_
        refine gR 14 (rg Tryz.f6 14) ?_
        refine se (mkE [(4, .ba 32 0), (5, .ba 40 0), (9, S x1.1), (10, B x1.2.1), (11, I x1.2.2), (12, LL a25 x2.1), (13, I x2.2), (14, .own 320 0), (15, I x3.2), (17, I y22.1), (18, I y22.2), (19, I x4), (20, S x23.1), (21, B x23.2), (22, .nils), (23, .nils)] [(32, .box [S p0.f0, I p0.f1, I p0.f2, LL a37 p0.f3] false), (40, .box [I p1.f0, I p1.f1, I p1.f2, I p1.f3] false), (320, RR 60 9 a59 x3.1 0 false)] 131) ?_
        refine pN ?_
        refine pS ?_
        refine gS 17 ?_
        refine gS 0 ?_
        refine gR 15 (rg Tryz.f6 15) ?_
        refine se (mkE [(4, .ba 32 0), (5, .ba 40 0), (9, S x1.1), (10, B x1.2.1), (11, I x1.2.2), (12, LL a25 x2.1), (13, I x2.2), (14, .own 320 0), (15, I x3.2), (17, I y22.1), (18, I y22.2), (19, I x4), (20, S x23.1), (21, B x23.2), (22, .nils), (23, .nils), (91, B (eqI y22.2 0))] [(32, .box [S p0.f0, I p0.f1, I p0.f2, LL a37 p0.f3] false), (40, .box [I p1.f0, I p1.f1, I p1.f2, I p1.f3] false), (320, RR 60 9 a59 x3.1 0 false)] 131) ?_
        refine pN ?_
        refine pS ?_
        refine gC 91 (eqI y22.2 0) ?_ ?_
        · refine gR 16 (rg Tryz.f6 16) ?_
          refine sg 2 (mkE [(93, a25 p1), (92, a23 p0), (4, .ba 32 0), (5, .ba 40 0), (9, S x1.1), (10, B x1.2.1), (11, I x1.2.2), (12, LL a25 x2.1), (13, I x2.2), (14, .own 320 0), (15, I x3.2), (17, I y22.1), (18, I y22.2), (19, I x4), (20, S x23.1), (21, B x23.2), (22, .nils), (23, .nils), (91, B (eqI y22.2 0))] [(32, .box [S p0.f0, I p0.f1, I p0.f2, LL a37 p0.f3] false), (40, .box [I p1.f0, I p1.f1, I p1.f2, I p1.f3] false), (320, RR 60 9 a59 x3.1 0 false)] 131) ?_
          refine co 94 [] (h23 p0 p1) (fun x33 => ?_)
          refine se (mkE [(9, S x1.1), (10, B x1.2.1), (11, I x1.2.2), (12, LL a25 x2.1), (13, I x2.2), (14, .own 320 0), (15, I x3.2), (17, I y22.1), (18, I y22.2), (19, I x4), (20, S x23.1), (21, B x23.2), (22, .nils), (23, .own 752 0)] [(320, RR 60 9 a59 x3.1 0 false), (752, RR 60 9 a59 x33 0 false)] 131) ?_
          refine pN ?_
          refine pS ?_
          refine gS 0 ?_
          refine gR 17 (rg Tryz.f6 17) ?_
          refine sg 4 (mkE [(98, B (eqI x1.2.2 y22.1)), (97, B (eqI x1.2.2 y22.1)), (96, I y22.1), (95, I x1.2.2), (9, S x1.1), (10, B x1.2.1), (11, I x1.2.2), (12, LL a25 x2.1), (13, I x2.2), (14, .own 320 0), (15, I x3.2), (17, I y22.1), (18, I y22.2), (19, I x4), (20, S x23.1), (21, B x23.2), (22, .nils), (23, .own 752 0)] [(320, RR 60 9 a59 x3.1 0 false), (752, RR 60 9 a59 x33 0 false)] 131) ?_
          refine sb 98 (eqI x1.2.2 y22.1) ?_ ?_
          · refine sg 9 (mkE [(103, B (eqS x1.1 x23.1)), (102, B (eqS x1.1 x23.1)), (101, B (eqS x1.1 x23.1)), (100, S x23.1), (99, S x1.1), (98, B true), (98, B (eqI x1.2.2 y22.1)), (97, B (eqI x1.2.2 y22.1)), (96, I y22.1), (95, I x1.2.2), (9, S x1.1), (10, B x1.2.1), (11, I x1.2.2), (12, LL a25 x2.1), (13, I x2.2), (14, .own 320 0), (15, I x3.2), (17, I y22.1), (18, I y22.2), (19, I x4), (20, S x23.1), (21, B x23.2), (22, .nils), (23, .own 752 0)] [(320, RR 60 9 a59 x3.1 0 false), (752, RR 60 9 a59 x33 0 false)] 131) ?_
            refine sb 103 (eqS x1.1 x23.1) ?_ ?_
            · refine sg 14 (mkE [(108, B (x1.2.1 == x23.2)), (107, B (x1.2.1 == x23.2)), (106, B (x1.2.1 == x23.2)), (105, B x23.2), (104, B x1.2.1), (103, B true), (103, B (eqS x1.1 x23.1)), (102, B (eqS x1.1 x23.1)), (101, B (eqS x1.1 x23.1)), (100, S x23.1), (99, S x1.1), (98, B true), (98, B (eqI x1.2.2 y22.1)), (97, B (eqI x1.2.2 y22.1)), (96, I y22.1), (95, I x1.2.2), (9, S x1.1), (10, B x1.2.1), (11, I x1.2.2), (12, LL a25 x2.1), (13, I x2.2), (14, .own 320 0), (15, I x3.2), (17, I y22.1), (18, I y22.2), (19, I x4), (20, S x23.1), (21, B x23.2), (22, .nils), (23, .own 752 0)] [(320, RR 60 9 a59 x3.1 0 false), (752, RR 60 9 a59 x33 0 false)] 131) ?_
              refine sb 108 (x1.2.1 == x23.2) ?_ ?_
              · refine sg 19 (mkE [(113, B (eqI x2.2 x4)), (112, B (eqI x2.2 x4)), (111, B (eqI x2.2 x4)), (110, I x4), (109, I x2.2), (108, B true), (108, B (x1.2.1 == x23.2)), (107, B (x1.2.1 == x23.2)), (106, B (x1.2.1 == x23.2)), (105, B x23.2), (104, B x1.2.1), (103, B true), (103, B (eqS x1.1 x23.1)), (102, B (eqS x1.1 x23.1)), (101, B (eqS x1.1 x23.1)), (100, S x23.1), (99, S x1.1), (98, B true), (98, B (eqI x1.2.2 y22.1)), (97, B (eqI x1.2.2 y22.1)), (96, I y22.1), (95, I x1.2.2), (9, S x1.1), (10, B x1.2.1), (11, I x1.2.2), (12, LL a25 x2.1), (13, I x2.2), (14, .own 320 0), (15, I x3.2), (17, I y22.1), (18, I y22.2), (19, I x4), (20, S x23.1), (21, B x23.2), (22, .nils), (23, .own 752 0)] [(320, RR 60 9 a59 x3.1 0 false), (752, RR 60 9 a59 x33 0 false)] 131) ?_
                refine sb 113 (eqI x2.2 x4) ?_ ?_
                · refine sg 21 (mkE [(115, .nils), (114, LL a25 x2.1), (113, B true), (113, B (eqI x2.2 x4)), (112, B (eqI x2.2 x4)), (111, B (eqI x2.2 x4)), (110, I x4), (109, I x2.2), (108, B true), (108, B (x1.2.1 == x23.2)), (107, B (x1.2.1 == x23.2)), (106, B (x1.2.1 == x23.2)), (105, B x23.2), (104, B x1.2.1), (103, B true), (103, B (eqS x1.1 x23.1)), (102, B (eqS x1.1 x23.1)), (101, B (eqS x1.1 x23.1)), (100, S x23.1), (99, S x1.1), (98, B true), (98, B (eqI x1.2.2 y22.1)), (97, B (eqI x1.2.2 y22.1)), (96, I y22.1), (95, I x1.2.2), (9, S x1.1), (10, B x1.2.1), (11, I x1.2.2), (12, LL a25 x2.1), (13, I x2.2), (14, .own 320 0), (15, I x3.2), (17, I y22.1), (18, I y22.2), (19, I x4), (20, S x23.1), (21, B x23.2), (22, .nils), (23, .own 752 0)] [(320, RR 60 9 a59 x3.1 0 false), (752, RR 60 9 a59 x33 0 false)] 131) ?_
                  refine co 116 [] (h24 x2.1 []) (fun x34 => ?_)
                  refine sg 24 (mkE [(118, B x34), (117, B x34), (116, B x34), (115, .nils), (114, LL a25 x2.1), (113, B true), (113, B (eqI x2.2 x4)), (112, B (eqI x2.2 x4)), (111, B (eqI x2.2 x4)), (110, I x4), (109, I x2.2), (108, B true), (108, B (x1.2.1 == x23.2)), (107, B (x1.2.1 == x23.2)), (106, B (x1.2.1 == x23.2)), (105, B x23.2), (104, B x1.2.1), (103, B true), (103, B (eqS x1.1 x23.1)), (102, B (eqS x1.1 x23.1)), (101, B (eqS x1.1 x23.1)), (100, S x23.1), (99, S x1.1), (98, B true), (98, B (eqI x1.2.2 y22.1)), (97, B (eqI x1.2.2 y22.1)), (96, I y22.1), (95, I x1.2.2), (9, S x1.1), (10, B x1.2.1), (11, I x1.2.2), (12, LL a25 x2.1), (13, I x2.2), (14, .own 320 0), (15, I x3.2), (17, I y22.1), (18, I y22.2), (19, I x4), (20, S x23.1), (21, B x23.2), (22, .nils), (23, .own 752 0)] [(320, RR 60 9 a59 x3.1 0 false), (752, RR 60 9 a59 x33 0 false)] 131) ?_
                  refine sb 118 x34 ?_ ?_
                  · refine sg 29 (mkE [(123, B (eqI x3.2 y22.2)), (122, B (eqI x3.2 y22.2)), (121, B (eqI x3.2 y22.2)), (120, I y22.2), (119, I x3.2), (118, B true), (118, B x34), (117, B x34), (116, B x34), (115, .nils), (114, LL a25 x2.1), (113, B true), (113, B (eqI x2.2 x4)), (112, B (eqI x2.2 x4)), (111, B (eqI x2.2 x4)), (110, I x4), (109, I x2.2), (108, B true), (108, B (x1.2.1 == x23.2)), (107, B (x1.2.1 == x23.2)), (106, B (x1.2.1 == x23.2)), (105, B x23.2), (104, B x1.2.1), (103, B true), (103, B (eqS x1.1 x23.1)), (102, B (eqS x1.1 x23.1)), (101, B (eqS x1.1 x23.1)), (100, S x23.1), (99, S x1.1), (98, B true), (98, B (eqI x1.2.2 y22.1)), (97, B (eqI x1.2.2 y22.1)), (96, I y22.1), (95, I x1.2.2), (9, S x1.1), (10, B x1.2.1), (11, I x1.2.2), (12, LL a25 x2.1), (13, I x2.2), (14, .own 320 0), (15, I x3.2), (17, I y22.1), (18, I y22.2), (19, I x4), (20, S x23.1), (21, B x23.2), (22, .nils), (23, .own 752 0)] [(320, RR 60 9 a59 x3.1 0 false), (752, RR 60 9 a59 x33 0 false)] 131) ?_
                    refine sb 123 (eqI x3.2 y22.2) ?_ ?_
                    · refine sg 31 (mkE [(125, .own 752 0), (124, .own 320 0), (123, B true), (123, B (eqI x3.2 y22.2)), (122, B (eqI x3.2 y22.2)), (121, B (eqI x3.2 y22.2)), (120, I y22.2), (119, I x3.2), (118, B true), (118, B x34), (117, B x34), (116, B x34), (115, .nils), (114, LL a25 x2.1), (113, B true), (113, B (eqI x2.2 x4)), (112, B (eqI x2.2 x4)), (111, B (eqI x2.2 x4)), (110, I x4), (109, I x2.2), (108, B true), (108, B (x1.2.1 == x23.2)), (107, B (x1.2.1 == x23.2)), (106, B (x1.2.1 == x23.2)), (105, B x23.2), (104, B x1.2.1), (103, B true), (103, B (eqS x1.1 x23.1)), (102, B (eqS x1.1 x23.1)), (101, B (eqS x1.1 x23.1)), (100, S x23.1), (99, S x1.1), (98, B true), (98, B (eqI x1.2.2 y22.1)), (97, B (eqI x1.2.2 y22.1)), (96, I y22.1), (95, I x1.2.2), (9, S x1.1), (10, B x1.2.1), (11, I x1.2.2), (12, LL a25 x2.1), (13, I x2.2), (14, .own 320 0), (15, I x3.2), (17, I y22.1), (18, I y22.2), (19, I x4), (20, S x23.1), (21, B x23.2), (22, .nils), (23, .own 752 0)] [(320, RR 60 9 a59 x3.1 0 false), (752, RR 60 9 a59 x33 0 false)] 131) ?_
                      refine co 126 [320, 752] (h25 x3.1 x33) (fun x35 => ?_)
                      refine sg 34 (mkE [(128, B x35), (127, B x35), (126, B x35), (125, .own 752 0), (124, .own 320 0), (123, B true), (123, B (eqI x3.2 y22.2)), (122, B (eqI x3.2 y22.2)), (121, B (eqI x3.2 y22.2)), (120, I y22.2), (119, I x3.2), (118, B true), (118, B x34), (117, B x34), (116, B x34), (115, .nils), (114, LL a25 x2.1), (113, B true), (113, B (eqI x2.2 x4)), (112, B (eqI x2.2 x4)), (111, B (eqI x2.2 x4)), (110, I x4), (109, I x2.2), (108, B true), (108, B (x1.2.1 == x23.2)), (107, B (x1.2.1 == x23.2)), (106, B (x1.2.1 == x23.2)), (105, B x23.2), (104, B x1.2.1), (103, B true), (103, B (eqS x1.1 x23.1)), (102, B (eqS x1.1 x23.1)), (101, B (eqS x1.1 x23.1)), (100, S x23.1), (99, S x1.1), (98, B true), (98, B (eqI x1.2.2 y22.1)), (97, B (eqI x1.2.2 y22.1)), (96, I y22.1), (95, I x1.2.2), (9, S x1.1), (10, B x1.2.1), (11, I x1.2.2), (12, LL a25 x2.1), (13, I x2.2), (14, .own 320 0), (15, I x3.2), (17, I y22.1), (18, I y22.2), (19, I x4), (20, S x23.1), (21, B x23.2), (22, .nils), (23, .own 752 0)] [(320, RR 60 9 a59 x3.1 0 false), (752, RR 60 9 a59 x33 0 false)] 131) ?_
                      refine sb 128 x35 ?_ ?_
                      · refine co 129 [] (h26) (fun x36 => ?_)
                        refine se (mkE [(8, B x36)] [] 131) ?_
                        refine pN ?_
                        refine pS ?_
                        refine gE ?_
                        exact pL
                      · refine se (mkE [(8, B false)] [] 131) ?_
                        refine pN ?_
                        refine pS ?_
                        refine gE ?_
                        exact pL
                    · refine se (mkE [(8, B false)] [] 131) ?_
                      refine pN ?_
                      refine pS ?_
                      refine gE ?_
                      exact pL
                  · refine se (mkE [(8, B false)] [] 131) ?_
                    refine pN ?_
                    refine pS ?_
                    refine gE ?_
                    exact pL
                · refine se (mkE [(8, B false)] [] 131) ?_
                  refine pN ?_
                  refine pS ?_
                  refine gE ?_
                  exact pL
              · refine se (mkE [(8, B false)] [] 131) ?_
                refine pN ?_
                refine pS ?_
                refine gE ?_
                exact pL
            · refine se (mkE [(8, B false)] [] 131) ?_
              refine pN ?_
              refine pS ?_
              refine gE ?_
              exact pL
          · refine se (mkE [(8, B false)] [] 131) ?_
            refine pN ?_
            refine pS ?_
            refine gE ?_
            exact pL
        · refine gK ?_
          refine pN ?_
          refine pS ?_
          refine gS 0 ?_
          refine gR 17 (rg Tryz.f6 17) ?_
          refine sg 4 (mkE [(98, B (eqI x1.2.2 y22.1)), (97, B (eqI x1.2.2 y22.1)), (96, I y22.1), (95, I x1.2.2), (4, .ba 32 0), (5, .ba 40 0), (9, S x1.1), (10, B x1.2.1), (11, I x1.2.2), (12, LL a25 x2.1), (13, I x2.2), (14, .own 320 0), (15, I x3.2), (17, I y22.1), (18, I y22.2), (19, I x4), (20, S x23.1), (21, B x23.2), (22, .nils), (23, .nils), (91, B (eqI y22.2 0))] [(32, .box [S p0.f0, I p0.f1, I p0.f2, LL a37 p0.f3] false), (40, .box [I p1.f0, I p1.f1, I p1.f2, I p1.f3] false), (320, RR 60 9 a59 x3.1 0 false)] 131) ?_
          refine sb 98 (eqI x1.2.2 y22.1) ?_ ?_
          · refine sg 9 (mkE [(103, B (eqS x1.1 x23.1)), (102, B (eqS x1.1 x23.1)), (101, B (eqS x1.1 x23.1)), (100, S x23.1), (99, S x1.1), (98, B true), (98, B (eqI x1.2.2 y22.1)), (97, B (eqI x1.2.2 y22.1)), (96, I y22.1), (95, I x1.2.2), (4, .ba 32 0), (5, .ba 40 0), (9, S x1.1), (10, B x1.2.1), (11, I x1.2.2), (12, LL a25 x2.1), (13, I x2.2), (14, .own 320 0), (15, I x3.2), (17, I y22.1), (18, I y22.2), (19, I x4), (20, S x23.1), (21, B x23.2), (22, .nils), (23, .nils), (91, B (eqI y22.2 0))] [(32, .box [S p0.f0, I p0.f1, I p0.f2, LL a37 p0.f3] false), (40, .box [I p1.f0, I p1.f1, I p1.f2, I p1.f3] false), (320, RR 60 9 a59 x3.1 0 false)] 131) ?_
            refine sb 103 (eqS x1.1 x23.1) ?_ ?_
            · refine sg 14 (mkE [(108, B (x1.2.1 == x23.2)), (107, B (x1.2.1 == x23.2)), (106, B (x1.2.1 == x23.2)), (105, B x23.2), (104, B x1.2.1), (103, B true), (103, B (eqS x1.1 x23.1)), (102, B (eqS x1.1 x23.1)), (101, B (eqS x1.1 x23.1)), (100, S x23.1), (99, S x1.1), (98, B true), (98, B (eqI x1.2.2 y22.1)), (97, B (eqI x1.2.2 y22.1)), (96, I y22.1), (95, I x1.2.2), (4, .ba 32 0), (5, .ba 40 0), (9, S x1.1), (10, B x1.2.1), (11, I x1.2.2), (12, LL a25 x2.1), (13, I x2.2), (14, .own 320 0), (15, I x3.2), (17, I y22.1), (18, I y22.2), (19, I x4), (20, S x23.1), (21, B x23.2), (22, .nils), (23, .nils), (91, B (eqI y22.2 0))] [(32, .box [S p0.f0, I p0.f1, I p0.f2, LL a37 p0.f3] false), (40, .box [I p1.f0, I p1.f1, I p1.f2, I p1.f3] false), (320, RR 60 9 a59 x3.1 0 false)] 131) ?_
              refine sb 108 (x1.2.1 == x23.2) ?_ ?_
              · refine sg 19 (mkE [(113, B (eqI x2.2 x4)), (112, B (eqI x2.2 x4)), (111, B (eqI x2.2 x4)), (110, I x4), (109, I x2.2), (108, B true), (108, B (x1.2.1 == x23.2)), (107, B (x1.2.1 == x23.2)), (106, B (x1.2.1 == x23.2)), (105, B x23.2), (104, B x1.2.1), (103, B true), (103, B (eqS x1.1 x23.1)), (102, B (eqS x1.1 x23.1)), (101, B (eqS x1.1 x23.1)), (100, S x23.1), (99, S x1.1), (98, B true), (98, B (eqI x1.2.2 y22.1)), (97, B (eqI x1.2.2 y22.1)), (96, I y22.1), (95, I x1.2.2), (4, .ba 32 0), (5, .ba 40 0), (9, S x1.1), (10, B x1.2.1), (11, I x1.2.2), (12, LL a25 x2.1), (13, I x2.2), (14, .own 320 0), (15, I x3.2), (17, I y22.1), (18, I y22.2), (19, I x4), (20, S x23.1), (21, B x23.2), (22, .nils), (23, .nils), (91, B (eqI y22.2 0))] [(32, .box [S p0.f0, I p0.f1, I p0.f2, LL a37 p0.f3] false), (40, .box [I p1.f0, I p1.f1, I p1.f2, I p1.f3] false), (320, RR 60 9 a59 x3.1 0 false)] 131) ?_
                refine sb 113 (eqI x2.2 x4) ?_ ?_
                · refine sg 21 (mkE [(115, .nils), (114, LL a25 x2.1), (113, B true), (113, B (eqI x2.2 x4)), (112, B (eqI x2.2 x4)), (111, B (eqI x2.2 x4)), (110, I x4), (109, I x2.2), (108, B true), (108, B (x1.2.1 == x23.2)), (107, B (x1.2.1 == x23.2)), (106, B (x1.2.1 == x23.2)), (105, B x23.2), (104, B x1.2.1), (103, B true), (103, B (eqS x1.1 x23.1)), (102, B (eqS x1.1 x23.1)), (101, B (eqS x1.1 x23.1)), (100, S x23.1), (99, S x1.1), (98, B true), (98, B (eqI x1.2.2 y22.1)), (97, B (eqI x1.2.2 y22.1)), (96, I y22.1), (95, I x1.2.2), (4, .ba 32 0), (5, .ba 40 0), (9, S x1.1), (10, B x1.2.1), (11, I x1.2.2), (12, LL a25 x2.1), (13, I x2.2), (14, .own 320 0), (15, I x3.2), (17, I y22.1), (18, I y22.2), (19, I x4), (20, S x23.1), (21, B x23.2), (22, .nils), (23, .nils), (91, B (eqI y22.2 0))] [(32, .box [S p0.f0, I p0.f1, I p0.f2, LL a37 p0.f3] false), (40, .box [I p1.f0, I p1.f1, I p1.f2, I p1.f3] false), (320, RR 60 9 a59 x3.1 0 false)] 131) ?_
                  refine co 116 [] (h24 x2.1 []) (fun x37 => ?_)
                  refine sg 24 (mkE [(118, B x37), (117, B x37), (116, B x37), (115, .nils), (114, LL a25 x2.1), (113, B true), (113, B (eqI x2.2 x4)), (112, B (eqI x2.2 x4)), (111, B (eqI x2.2 x4)), (110, I x4), (109, I x2.2), (108, B true), (108, B (x1.2.1 == x23.2)), (107, B (x1.2.1 == x23.2)), (106, B (x1.2.1 == x23.2)), (105, B x23.2), (104, B x1.2.1), (103, B true), (103, B (eqS x1.1 x23.1)), (102, B (eqS x1.1 x23.1)), (101, B (eqS x1.1 x23.1)), (100, S x23.1), (99, S x1.1), (98, B true), (98, B (eqI x1.2.2 y22.1)), (97, B (eqI x1.2.2 y22.1)), (96, I y22.1), (95, I x1.2.2), (4, .ba 32 0), (5, .ba 40 0), (9, S x1.1), (10, B x1.2.1), (11, I x1.2.2), (12, LL a25 x2.1), (13, I x2.2), (14, .own 320 0), (15, I x3.2), (17, I y22.1), (18, I y22.2), (19, I x4), (20, S x23.1), (21, B x23.2), (22, .nils), (23, .nils), (91, B (eqI y22.2 0))] [(32, .box [S p0.f0, I p0.f1, I p0.f2, LL a37 p0.f3] false), (40, .box [I p1.f0, I p1.f1, I p1.f2, I p1.f3] false), (320, RR 60 9 a59 x3.1 0 false)] 131) ?_
                  refine sb 118 x37 ?_ ?_
                  · refine sg 29 (mkE [(123, B (eqI x3.2 y22.2)), (122, B (eqI x3.2 y22.2)), (121, B (eqI x3.2 y22.2)), (120, I y22.2), (119, I x3.2), (118, B true), (118, B x37), (117, B x37), (116, B x37), (115, .nils), (114, LL a25 x2.1), (113, B true), (113, B (eqI x2.2 x4)), (112, B (eqI x2.2 x4)), (111, B (eqI x2.2 x4)), (110, I x4), (109, I x2.2), (108, B true), (108, B (x1.2.1 == x23.2)), (107, B (x1.2.1 == x23.2)), (106, B (x1.2.1 == x23.2)), (105, B x23.2), (104, B x1.2.1), (103, B true), (103, B (eqS x1.1 x23.1)), (102, B (eqS x1.1 x23.1)), (101, B (eqS x1.1 x23.1)), (100, S x23.1), (99, S x1.1), (98, B true), (98, B (eqI x1.2.2 y22.1)), (97, B (eqI x1.2.2 y22.1)), (96, I y22.1), (95, I x1.2.2), (4, .ba 32 0), (5, .ba 40 0), (9, S x1.1), (10, B x1.2.1), (11, I x1.2.2), (12, LL a25 x2.1), (13, I x2.2), (14, .own 320 0), (15, I x3.2), (17, I y22.1), (18, I y22.2), (19, I x4), (20, S x23.1), (21, B x23.2), (22, .nils), (23, .nils), (91, B (eqI y22.2 0))] [(32, .box [S p0.f0, I p0.f1, I p0.f2, LL a37 p0.f3] false), (40, .box [I p1.f0, I p1.f1, I p1.f2, I p1.f3] false), (320, RR 60 9 a59 x3.1 0 false)] 131) ?_
                    refine sb 123 (eqI x3.2 y22.2) ?_ ?_
                    · refine sg 31 (mkE [(125, .nils), (124, .own 320 0), (123, B true), (123, B (eqI x3.2 y22.2)), (122, B (eqI x3.2 y22.2)), (121, B (eqI x3.2 y22.2)), (120, I y22.2), (119, I x3.2), (118, B true), (118, B x37), (117, B x37), (116, B x37), (115, .nils), (114, LL a25 x2.1), (113, B true), (113, B (eqI x2.2 x4)), (112, B (eqI x2.2 x4)), (111, B (eqI x2.2 x4)), (110, I x4), (109, I x2.2), (108, B true), (108, B (x1.2.1 == x23.2)), (107, B (x1.2.1 == x23.2)), (106, B (x1.2.1 == x23.2)), (105, B x23.2), (104, B x1.2.1), (103, B true), (103, B (eqS x1.1 x23.1)), (102, B (eqS x1.1 x23.1)), (101, B (eqS x1.1 x23.1)), (100, S x23.1), (99, S x1.1), (98, B true), (98, B (eqI x1.2.2 y22.1)), (97, B (eqI x1.2.2 y22.1)), (96, I y22.1), (95, I x1.2.2), (4, .ba 32 0), (5, .ba 40 0), (9, S x1.1), (10, B x1.2.1), (11, I x1.2.2), (12, LL a25 x2.1), (13, I x2.2), (14, .own 320 0), (15, I x3.2), (17, I y22.1), (18, I y22.2), (19, I x4), (20, S x23.1), (21, B x23.2), (22, .nils), (23, .nils), (91, B (eqI y22.2 0))] [(32, .box [S p0.f0, I p0.f1, I p0.f2, LL a37 p0.f3] false), (40, .box [I p1.f0, I p1.f1, I p1.f2, I p1.f3] false), (320, RR 60 9 a59 x3.1 0 false)] 131) ?_
                      refine co 126 [320] (h25 x3.1 []) (fun x38 => ?_)
                      refine sg 34 (mkE [(128, B x38), (127, B x38), (126, B x38), (125, .nils), (124, .own 320 0), (123, B true), (123, B (eqI x3.2 y22.2)), (122, B (eqI x3.2 y22.2)), (121, B (eqI x3.2 y22.2)), (120, I y22.2), (119, I x3.2), (118, B true), (118, B x37), (117, B x37), (116, B x37), (115, .nils), (114, LL a25 x2.1), (113, B true), (113, B (eqI x2.2 x4)), (112, B (eqI x2.2 x4)), (111, B (eqI x2.2 x4)), (110, I x4), (109, I x2.2), (108, B true), (108, B (x1.2.1 == x23.2)), (107, B (x1.2.1 == x23.2)), (106, B (x1.2.1 == x23.2)), (105, B x23.2), (104, B x1.2.1), (103, B true), (103, B (eqS x1.1 x23.1)), (102, B (eqS x1.1 x23.1)), (101, B (eqS x1.1 x23.1)), (100, S x23.1), (99, S x1.1), (98, B true), (98, B (eqI x1.2.2 y22.1)), (97, B (eqI x1.2.2 y22.1)), (96, I y22.1), (95, I x1.2.2), (4, .ba 32 0), (5, .ba 40 0), (9, S x1.1), (10, B x1.2.1), (11, I x1.2.2), (12, LL a25 x2.1), (13, I x2.2), (14, .own 320 0), (15, I x3.2), (17, I y22.1), (18, I y22.2), (19, I x4), (20, S x23.1), (21, B x23.2), (22, .nils), (23, .nils), (91, B (eqI y22.2 0))] [(32, .box [S p0.f0, I p0.f1, I p0.f2, LL a37 p0.f3] false), (40, .box [I p1.f0, I p1.f1, I p1.f2, I p1.f3] false), (320, RR 60 9 a59 x3.1 0 false)] 131) ?_
                      refine sb 128 x38 ?_ ?_
                      · refine co 129 [] (h26) (fun x39 => ?_)
                        refine se (mkE [(8, B x39)] [] 131) ?_
                        refine pN ?_
                        refine pS ?_
                        refine gE ?_
                        exact pL
                      · refine se (mkE [(8, B false)] [] 131) ?_
                        refine pN ?_
                        refine pS ?_
                        refine gE ?_
                        exact pL
                    · refine se (mkE [(8, B false)] [] 131) ?_
                      refine pN ?_
                      refine pS ?_
                      refine gE ?_
                      exact pL
                  · refine se (mkE [(8, B false)] [] 131) ?_
                    refine pN ?_
                    refine pS ?_
                    refine gE ?_
                    exact pL
                · refine se (mkE [(8, B false)] [] 131) ?_
                  refine pN ?_
                  refine pS ?_
                  refine gE ?_
                  exact pL
              · refine se (mkE [(8, B false)] [] 131) ?_
                refine pN ?_
                refine pS ?_
                refine gE ?_
                exact pL
            · refine se (mkE [(8, B false)] [] 131) ?_
              refine pN ?_
              refine pS ?_
              refine gE ?_
              exact pL
          · refine se (mkE [(8, B false)] [] 131) ?_
            refine pN ?_
            refine pS ?_
            refine gE ?_
            exact pL
    · refine gK ?_
      refine pN ?_
      refine pS ?_
      refine gS 12 ?_
      refine gR 11 (rg Tryz.f6 11) ?_
      refine se (mkE [(4, .ba 32 0), (5, .ba 40 0), (9, S x1.1), (10, B x1.2.1), (11, I x1.2.2), (12, LL a25 x2.1), (13, I x2.2), (14, .own 320 0), (15, I x3.2), (17, I y22.1), (18, I y22.2), (19, I x4), (20, S (ByteArray.mk #[])), (21, B false), (22, .nils)] [(32, .box [S p0.f0, I p0.f1, I p0.f2, LL a37 p0.f3] false), (40, .box [I p1.f0, I p1.f1, I p1.f2, I p1.f3] false), (320, RR 60 9 a59 x3.1 0 false)] 131) ?_
      refine pN ?_
      refine pS ?_
      refine gS 14 ?_
      refine gS 0 ?_
      refine gR 12 (rg Tryz.f6 12) ?_
      refine se (mkE [(4, .ba 32 0), (5, .ba 40 0), (9, S x1.1), (10, B x1.2.1), (11, I x1.2.2), (12, LL a25 x2.1), (13, I x2.2), (14, .own 320 0), (15, I x3.2), (17, I y22.1), (18, I y22.2), (19, I x4), (20, S (ByteArray.mk #[])), (21, B false), (22, .nils), (83, B (eqI x4 0))] [(32, .box [S p0.f0, I p0.f1, I p0.f2, LL a37 p0.f3] false), (40, .box [I p1.f0, I p1.f1, I p1.f2, I p1.f3] false), (320, RR 60 9 a59 x3.1 0 false)] 131) ?_
      refine pN ?_
      refine pS ?_
      refine gC 83 (eqI x4 0) ?_ ?_
      · refine gR 13 (rg Tryz.f6 13) ?_
        refine sg 1 (mkE [(85, a23 p0), (4, .ba 32 0), (5, .ba 40 0), (9, S x1.1), (10, B x1.2.1), (11, I x1.2.2), (12, LL a25 x2.1), (13, I x2.2), (14, .own 320 0), (15, I x3.2), (17, I y22.1), (18, I y22.2), (19, I x4), (20, S (ByteArray.mk #[])), (21, B false), (22, .nils), (83, B (eqI x4 0))] [(32, .box [S p0.f0, I p0.f1, I p0.f2, LL a37 p0.f3] false), (40, .box [I p1.f0, I p1.f1, I p1.f2, I p1.f3] false), (320, RR 60 9 a59 x3.1 0 false)] 131) ?_
        refine co 86 [] (h22 p0) (fun x40 => ?_)
        refine co 87 [688] (h21 x40) (fun x41 => ?_)
        refine se (mkE [(4, .ba 32 0), (5, .ba 40 0), (9, S x1.1), (10, B x1.2.1), (11, I x1.2.2), (12, LL a25 x2.1), (13, I x2.2), (14, .own 320 0), (15, I x3.2), (17, I y22.1), (18, I y22.2), (19, I x41.2), (20, S (ByteArray.mk #[])), (21, B false), (22, LL a25 x41.1)] [(32, .box [S p0.f0, I p0.f1, I p0.f2, LL a37 p0.f3] false), (40, .box [I p1.f0, I p1.f1, I p1.f2, I p1.f3] false), (320, RR 60 9 a59 x3.1 0 false)] 131) ?_
        refine pN ?_
        refine pS ?_
        refine gS 15 ?_
        refine gR 14 (rg Tryz.f6 14) ?_
        refine se (mkE [(4, .ba 32 0), (5, .ba 40 0), (9, S x1.1), (10, B x1.2.1), (11, I x1.2.2), (12, LL a25 x2.1), (13, I x2.2), (14, .own 320 0), (15, I x3.2), (17, I y22.1), (18, I y22.2), (19, I x41.2), (20, S (ByteArray.mk #[])), (21, B false), (22, LL a25 x41.1), (23, .nils)] [(32, .box [S p0.f0, I p0.f1, I p0.f2, LL a37 p0.f3] false), (40, .box [I p1.f0, I p1.f1, I p1.f2, I p1.f3] false), (320, RR 60 9 a59 x3.1 0 false)] 131) ?_
        refine pN ?_
        refine pS ?_
        refine gS 17 ?_
        refine gS 0 ?_
        refine gR 15 (rg Tryz.f6 15) ?_
        refine se (mkE [(4, .ba 32 0), (5, .ba 40 0), (9, S x1.1), (10, B x1.2.1), (11, I x1.2.2), (12, LL a25 x2.1), (13, I x2.2), (14, .own 320 0), (15, I x3.2), (17, I y22.1), (18, I y22.2), (19, I x41.2), (20, S (ByteArray.mk #[])), (21, B false), (22, LL a25 x41.1), (23, .nils), (91, B (eqI y22.2 0))] [(32, .box [S p0.f0, I p0.f1, I p0.f2, LL a37 p0.f3] false), (40, .box [I p1.f0, I p1.f1, I p1.f2, I p1.f3] false), (320, RR 60 9 a59 x3.1 0 false)] 131) ?_
        refine pN ?_
        refine pS ?_
        refine gC 91 (eqI y22.2 0) ?_ ?_
        · refine gR 16 (rg Tryz.f6 16) ?_
          refine sg 2 (mkE [(93, a25 p1), (92, a23 p0), (4, .ba 32 0), (5, .ba 40 0), (9, S x1.1), (10, B x1.2.1), (11, I x1.2.2), (12, LL a25 x2.1), (13, I x2.2), (14, .own 320 0), (15, I x3.2), (17, I y22.1), (18, I y22.2), (19, I x41.2), (20, S (ByteArray.mk #[])), (21, B false), (22, LL a25 x41.1), (23, .nils), (91, B (eqI y22.2 0))] [(32, .box [S p0.f0, I p0.f1, I p0.f2, LL a37 p0.f3] false), (40, .box [I p1.f0, I p1.f1, I p1.f2, I p1.f3] false), (320, RR 60 9 a59 x3.1 0 false)] 131) ?_
          refine co 94 [] (h23 p0 p1) (fun x42 => ?_)
          refine se (mkE [(9, S x1.1), (10, B x1.2.1), (11, I x1.2.2), (12, LL a25 x2.1), (13, I x2.2), (14, .own 320 0), (15, I x3.2), (17, I y22.1), (18, I y22.2), (19, I x41.2), (20, S (ByteArray.mk #[])), (21, B false), (22, LL a25 x41.1), (23, .own 752 0)] [(320, RR 60 9 a59 x3.1 0 false), (752, RR 60 9 a59 x42 0 false)] 131) ?_
          refine pN ?_
          refine pS ?_
          refine gS 0 ?_
          refine gR 17 (rg Tryz.f6 17) ?_
          refine sg 4 (mkE [(98, B (eqI x1.2.2 y22.1)), (97, B (eqI x1.2.2 y22.1)), (96, I y22.1), (95, I x1.2.2), (9, S x1.1), (10, B x1.2.1), (11, I x1.2.2), (12, LL a25 x2.1), (13, I x2.2), (14, .own 320 0), (15, I x3.2), (17, I y22.1), (18, I y22.2), (19, I x41.2), (20, S (ByteArray.mk #[])), (21, B false), (22, LL a25 x41.1), (23, .own 752 0)] [(320, RR 60 9 a59 x3.1 0 false), (752, RR 60 9 a59 x42 0 false)] 131) ?_
          refine sb 98 (eqI x1.2.2 y22.1) ?_ ?_
          · refine sg 9 (mkE [(103, B (eqS x1.1 (ByteArray.mk #[]))), (102, B (eqS x1.1 (ByteArray.mk #[]))), (101, B (eqS x1.1 (ByteArray.mk #[]))), (100, S (ByteArray.mk #[])), (99, S x1.1), (98, B true), (98, B (eqI x1.2.2 y22.1)), (97, B (eqI x1.2.2 y22.1)), (96, I y22.1), (95, I x1.2.2), (9, S x1.1), (10, B x1.2.1), (11, I x1.2.2), (12, LL a25 x2.1), (13, I x2.2), (14, .own 320 0), (15, I x3.2), (17, I y22.1), (18, I y22.2), (19, I x41.2), (20, S (ByteArray.mk #[])), (21, B false), (22, LL a25 x41.1), (23, .own 752 0)] [(320, RR 60 9 a59 x3.1 0 false), (752, RR 60 9 a59 x42 0 false)] 131) ?_
            refine sb 103 (eqS x1.1 (ByteArray.mk #[])) ?_ ?_
            · refine sg 14 (mkE [(108, B (x1.2.1 == false)), (107, B (x1.2.1 == false)), (106, B (x1.2.1 == false)), (105, B false), (104, B x1.2.1), (103, B true), (103, B (eqS x1.1 (ByteArray.mk #[]))), (102, B (eqS x1.1 (ByteArray.mk #[]))), (101, B (eqS x1.1 (ByteArray.mk #[]))), (100, S (ByteArray.mk #[])), (99, S x1.1), (98, B true), (98, B (eqI x1.2.2 y22.1)), (97, B (eqI x1.2.2 y22.1)), (96, I y22.1), (95, I x1.2.2), (9, S x1.1), (10, B x1.2.1), (11, I x1.2.2), (12, LL a25 x2.1), (13, I x2.2), (14, .own 320 0), (15, I x3.2), (17, I y22.1), (18, I y22.2), (19, I x41.2), (20, S (ByteArray.mk #[])), (21, B false), (22, LL a25 x41.1), (23, .own 752 0)] [(320, RR 60 9 a59 x3.1 0 false), (752, RR 60 9 a59 x42 0 false)] 131) ?_
              refine sb 108 (x1.2.1 == false) ?_ ?_
              · refine sg 19 (mkE [(113, B (eqI x2.2 x41.2)), (112, B (eqI x2.2 x41.2)), (111, B (eqI x2.2 x41.2)), (110, I x41.2), (109, I x2.2), (108, B true), (108, B (x1.2.1 == false)), (107, B (x1.2.1 == false)), (106, B (x1.2.1 == false)), (105, B false), (104, B x1.2.1), (103, B true), (103, B (eqS x1.1 (ByteArray.mk #[]))), (102, B (eqS x1.1 (ByteArray.mk #[]))), (101, B (eqS x1.1 (ByteArray.mk #[]))), (100, S (ByteArray.mk #[])), (99, S x1.1), (98, B true), (98, B (eqI x1.2.2 y22.1)), (97, B (eqI x1.2.2 y22.1)), (96, I y22.1), (95, I x1.2.2), (9, S x1.1), (10, B x1.2.1), (11, I x1.2.2), (12, LL a25 x2.1), (13, I x2.2), (14, .own 320 0), (15, I x3.2), (17, I y22.1), (18, I y22.2), (19, I x41.2), (20, S (ByteArray.mk #[])), (21, B false), (22, LL a25 x41.1), (23, .own 752 0)] [(320, RR 60 9 a59 x3.1 0 false), (752, RR 60 9 a59 x42 0 false)] 131) ?_
                refine sb 113 (eqI x2.2 x41.2) ?_ ?_
                · refine sg 21 (mkE [(115, LL a25 x41.1), (114, LL a25 x2.1), (113, B true), (113, B (eqI x2.2 x41.2)), (112, B (eqI x2.2 x41.2)), (111, B (eqI x2.2 x41.2)), (110, I x41.2), (109, I x2.2), (108, B true), (108, B (x1.2.1 == false)), (107, B (x1.2.1 == false)), (106, B (x1.2.1 == false)), (105, B false), (104, B x1.2.1), (103, B true), (103, B (eqS x1.1 (ByteArray.mk #[]))), (102, B (eqS x1.1 (ByteArray.mk #[]))), (101, B (eqS x1.1 (ByteArray.mk #[]))), (100, S (ByteArray.mk #[])), (99, S x1.1), (98, B true), (98, B (eqI x1.2.2 y22.1)), (97, B (eqI x1.2.2 y22.1)), (96, I y22.1), (95, I x1.2.2), (9, S x1.1), (10, B x1.2.1), (11, I x1.2.2), (12, LL a25 x2.1), (13, I x2.2), (14, .own 320 0), (15, I x3.2), (17, I y22.1), (18, I y22.2), (19, I x41.2), (20, S (ByteArray.mk #[])), (21, B false), (22, LL a25 x41.1), (23, .own 752 0)] [(320, RR 60 9 a59 x3.1 0 false), (752, RR 60 9 a59 x42 0 false)] 131) ?_
                  refine co 116 [] (h24 x2.1 x41.1) (fun x43 => ?_)
                  refine sg 24 (mkE [(118, B x43), (117, B x43), (116, B x43), (115, LL a25 x41.1), (114, LL a25 x2.1), (113, B true), (113, B (eqI x2.2 x41.2)), (112, B (eqI x2.2 x41.2)), (111, B (eqI x2.2 x41.2)), (110, I x41.2), (109, I x2.2), (108, B true), (108, B (x1.2.1 == false)), (107, B (x1.2.1 == false)), (106, B (x1.2.1 == false)), (105, B false), (104, B x1.2.1), (103, B true), (103, B (eqS x1.1 (ByteArray.mk #[]))), (102, B (eqS x1.1 (ByteArray.mk #[]))), (101, B (eqS x1.1 (ByteArray.mk #[]))), (100, S (ByteArray.mk #[])), (99, S x1.1), (98, B true), (98, B (eqI x1.2.2 y22.1)), (97, B (eqI x1.2.2 y22.1)), (96, I y22.1), (95, I x1.2.2), (9, S x1.1), (10, B x1.2.1), (11, I x1.2.2), (12, LL a25 x2.1), (13, I x2.2), (14, .own 320 0), (15, I x3.2), (17, I y22.1), (18, I y22.2), (19, I x41.2), (20, S (ByteArray.mk #[])), (21, B false), (22, LL a25 x41.1), (23, .own 752 0)] [(320, RR 60 9 a59 x3.1 0 false), (752, RR 60 9 a59 x42 0 false)] 131) ?_
                  refine sb 118 x43 ?_ ?_
                  · refine sg 29 (mkE [(123, B (eqI x3.2 y22.2)), (122, B (eqI x3.2 y22.2)), (121, B (eqI x3.2 y22.2)), (120, I y22.2), (119, I x3.2), (118, B true), (118, B x43), (117, B x43), (116, B x43), (115, LL a25 x41.1), (114, LL a25 x2.1), (113, B true), (113, B (eqI x2.2 x41.2)), (112, B (eqI x2.2 x41.2)), (111, B (eqI x2.2 x41.2)), (110, I x41.2), (109, I x2.2), (108, B true), (108, B (x1.2.1 == false)), (107, B (x1.2.1 == false)), (106, B (x1.2.1 == false)), (105, B false), (104, B x1.2.1), (103, B true), (103, B (eqS x1.1 (ByteArray.mk #[]))), (102, B (eqS x1.1 (ByteArray.mk #[]))), (101, B (eqS x1.1 (ByteArray.mk #[]))), (100, S (ByteArray.mk #[])), (99, S x1.1), (98, B true), (98, B (eqI x1.2.2 y22.1)), (97, B (eqI x1.2.2 y22.1)), (96, I y22.1), (95, I x1.2.2), (9, S x1.1), (10, B x1.2.1), (11, I x1.2.2), (12, LL a25 x2.1), (13, I x2.2), (14, .own 320 0), (15, I x3.2), (17, I y22.1), (18, I y22.2), (19, I x41.2), (20, S (ByteArray.mk #[])), (21, B false), (22, LL a25 x41.1), (23, .own 752 0)] [(320, RR 60 9 a59 x3.1 0 false), (752, RR 60 9 a59 x42 0 false)] 131) ?_
                    refine sb 123 (eqI x3.2 y22.2) ?_ ?_
                    · refine sg 31 (mkE [(125, .own 752 0), (124, .own 320 0), (123, B true), (123, B (eqI x3.2 y22.2)), (122, B (eqI x3.2 y22.2)), (121, B (eqI x3.2 y22.2)), (120, I y22.2), (119, I x3.2), (118, B true), (118, B x43), (117, B x43), (116, B x43), (115, LL a25 x41.1), (114, LL a25 x2.1), (113, B true), (113, B (eqI x2.2 x41.2)), (112, B (eqI x2.2 x41.2)), (111, B (eqI x2.2 x41.2)), (110, I x41.2), (109, I x2.2), (108, B true), (108, B (x1.2.1 == false)), (107, B (x1.2.1 == false)), (106, B (x1.2.1 == false)), (105, B false), (104, B x1.2.1), (103, B true), (103, B (eqS x1.1 (ByteArray.mk #[]))), (102, B (eqS x1.1 (ByteArray.mk #[]))), (101, B (eqS x1.1 (ByteArray.mk #[]))), (100, S (ByteArray.mk #[])), (99, S x1.1), (98, B true), (98, B (eqI x1.2.2 y22.1)), (97, B (eqI x1.2.2 y22.1)), (96, I y22.1), (95, I x1.2.2), (9, S x1.1), (10, B x1.2.1), (11, I x1.2.2), (12, LL a25 x2.1), (13, I x2.2), (14, .own 320 0), (15, I x3.2), (17, I y22.1), (18, I y22.2), (19, I x41.2), (20, S (ByteArray.mk #[])), (21, B false), (22, LL a25 x41.1), (23, .own 752 0)] [(320, RR 60 9 a59 x3.1 0 false), (752, RR 60 9 a59 x42 0 false)] 131) ?_
                      refine co 126 [320, 752] (h25 x3.1 x42) (fun x44 => ?_)
                      refine sg 34 (mkE [(128, B x44), (127, B x44), (126, B x44), (125, .own 752 0), (124, .own 320 0), (123, B true), (123, B (eqI x3.2 y22.2)), (122, B (eqI x3.2 y22.2)), (121, B (eqI x3.2 y22.2)), (120, I y22.2), (119, I x3.2), (118, B true), (118, B x43), (117, B x43), (116, B x43), (115, LL a25 x41.1), (114, LL a25 x2.1), (113, B true), (113, B (eqI x2.2 x41.2)), (112, B (eqI x2.2 x41.2)), (111, B (eqI x2.2 x41.2)), (110, I x41.2), (109, I x2.2), (108, B true), (108, B (x1.2.1 == false)), (107, B (x1.2.1 == false)), (106, B (x1.2.1 == false)), (105, B false), (104, B x1.2.1), (103, B true), (103, B (eqS x1.1 (ByteArray.mk #[]))), (102, B (eqS x1.1 (ByteArray.mk #[]))), (101, B (eqS x1.1 (ByteArray.mk #[]))), (100, S (ByteArray.mk #[])), (99, S x1.1), (98, B true), (98, B (eqI x1.2.2 y22.1)), (97, B (eqI x1.2.2 y22.1)), (96, I y22.1), (95, I x1.2.2), (9, S x1.1), (10, B x1.2.1), (11, I x1.2.2), (12, LL a25 x2.1), (13, I x2.2), (14, .own 320 0), (15, I x3.2), (17, I y22.1), (18, I y22.2), (19, I x41.2), (20, S (ByteArray.mk #[])), (21, B false), (22, LL a25 x41.1), (23, .own 752 0)] [(320, RR 60 9 a59 x3.1 0 false), (752, RR 60 9 a59 x42 0 false)] 131) ?_
                      refine sb 128 x44 ?_ ?_
                      · refine co 129 [] (h26) (fun x45 => ?_)
                        refine se (mkE [(8, B x45)] [] 131) ?_
                        refine pN ?_
                        refine pS ?_
                        refine gE ?_
                        exact pL
                      · refine se (mkE [(8, B false)] [] 131) ?_
                        refine pN ?_
                        refine pS ?_
                        refine gE ?_
                        exact pL
                    · refine se (mkE [(8, B false)] [] 131) ?_
                      refine pN ?_
                      refine pS ?_
                      refine gE ?_
                      exact pL
                  · refine se (mkE [(8, B false)] [] 131) ?_
                    refine pN ?_
                    refine pS ?_
                    refine gE ?_
                    exact pL
                · refine se (mkE [(8, B false)] [] 131) ?_
                  refine pN ?_
                  refine pS ?_
                  refine gE ?_
                  exact pL
              · refine se (mkE [(8, B false)] [] 131) ?_
                refine pN ?_
                refine pS ?_
                refine gE ?_
                exact pL
            · refine se (mkE [(8, B false)] [] 131) ?_
              refine pN ?_
              refine pS ?_
              refine gE ?_
              exact pL
          · refine se (mkE [(8, B false)] [] 131) ?_
            refine pN ?_
            refine pS ?_
            refine gE ?_
            exact pL
        · refine gK ?_
          refine pN ?_
          refine pS ?_
          refine gS 0 ?_
          refine gR 17 (rg Tryz.f6 17) ?_
          refine sg 4 (mkE [(98, B (eqI x1.2.2 y22.1)), (97, B (eqI x1.2.2 y22.1)), (96, I y22.1), (95, I x1.2.2), (4, .ba 32 0), (5, .ba 40 0), (9, S x1.1), (10, B x1.2.1), (11, I x1.2.2), (12, LL a25 x2.1), (13, I x2.2), (14, .own 320 0), (15, I x3.2), (17, I y22.1), (18, I y22.2), (19, I x41.2), (20, S (ByteArray.mk #[])), (21, B false), (22, LL a25 x41.1), (23, .nils), (91, B (eqI y22.2 0))] [(32, .box [S p0.f0, I p0.f1, I p0.f2, LL a37 p0.f3] false), (40, .box [I p1.f0, I p1.f1, I p1.f2, I p1.f3] false), (320, RR 60 9 a59 x3.1 0 false)] 131) ?_
          refine sb 98 (eqI x1.2.2 y22.1) ?_ ?_
          · refine sg 9 (mkE [(103, B (eqS x1.1 (ByteArray.mk #[]))), (102, B (eqS x1.1 (ByteArray.mk #[]))), (101, B (eqS x1.1 (ByteArray.mk #[]))), (100, S (ByteArray.mk #[])), (99, S x1.1), (98, B true), (98, B (eqI x1.2.2 y22.1)), (97, B (eqI x1.2.2 y22.1)), (96, I y22.1), (95, I x1.2.2), (4, .ba 32 0), (5, .ba 40 0), (9, S x1.1), (10, B x1.2.1), (11, I x1.2.2), (12, LL a25 x2.1), (13, I x2.2), (14, .own 320 0), (15, I x3.2), (17, I y22.1), (18, I y22.2), (19, I x41.2), (20, S (ByteArray.mk #[])), (21, B false), (22, LL a25 x41.1), (23, .nils), (91, B (eqI y22.2 0))] [(32, .box [S p0.f0, I p0.f1, I p0.f2, LL a37 p0.f3] false), (40, .box [I p1.f0, I p1.f1, I p1.f2, I p1.f3] false), (320, RR 60 9 a59 x3.1 0 false)] 131) ?_
            refine sb 103 (eqS x1.1 (ByteArray.mk #[])) ?_ ?_
            · refine sg 14 (mkE [(108, B (x1.2.1 == false)), (107, B (x1.2.1 == false)), (106, B (x1.2.1 == false)), (105, B false), (104, B x1.2.1), (103, B true), (103, B (eqS x1.1 (ByteArray.mk #[]))), (102, B (eqS x1.1 (ByteArray.mk #[]))), (101, B (eqS x1.1 (ByteArray.mk #[]))), (100, S (ByteArray.mk #[])), (99, S x1.1), (98, B true), (98, B (eqI x1.2.2 y22.1)), (97, B (eqI x1.2.2 y22.1)), (96, I y22.1), (95, I x1.2.2), (4, .ba 32 0), (5, .ba 40 0), (9, S x1.1), (10, B x1.2.1), (11, I x1.2.2), (12, LL a25 x2.1), (13, I x2.2), (14, .own 320 0), (15, I x3.2), (17, I y22.1), (18, I y22.2), (19, I x41.2), (20, S (ByteArray.mk #[])), (21, B false), (22, LL a25 x41.1), (23, .nils), (91, B (eqI y22.2 0))] [(32, .box [S p0.f0, I p0.f1, I p0.f2, LL a37 p0.f3] false), (40, .box [I p1.f0, I p1.f1, I p1.f2, I p1.f3] false), (320, RR 60 9 a59 x3.1 0 false)] 131) ?_
              refine sb 108 (x1.2.1 == false) ?_ ?_
              · refine sg 19 (mkE [(113, B (eqI x2.2 x41.2)), (112, B (eqI x2.2 x41.2)), (111, B (eqI x2.2 x41.2)), (110, I x41.2), (109, I x2.2), (108, B true), (108, B (x1.2.1 == false)), (107, B (x1.2.1 == false)), (106, B (x1.2.1 == false)), (105, B false), (104, B x1.2.1), (103, B true), (103, B (eqS x1.1 (ByteArray.mk #[]))), (102, B (eqS x1.1 (ByteArray.mk #[]))), (101, B (eqS x1.1 (ByteArray.mk #[]))), (100, S (ByteArray.mk #[])), (99, S x1.1), (98, B true), (98, B (eqI x1.2.2 y22.1)), (97, B (eqI x1.2.2 y22.1)), (96, I y22.1), (95, I x1.2.2), (4, .ba 32 0), (5, .ba 40 0), (9, S x1.1), (10, B x1.2.1), (11, I x1.2.2), (12, LL a25 x2.1), (13, I x2.2), (14, .own 320 0), (15, I x3.2), (17, I y22.1), (18, I y22.2), (19, I x41.2), (20, S (ByteArray.mk #[])), (21, B false), (22, LL a25 x41.1), (23, .nils), (91, B (eqI y22.2 0))] [(32, .box [S p0.f0, I p0.f1, I p0.f2, LL a37 p0.f3] false), (40, .box [I p1.f0, I p1.f1, I p1.f2, I p1.f3] false), (320, RR 60 9 a59 x3.1 0 false)] 131) ?_
                refine sb 113 (eqI x2.2 x41.2) ?_ ?_
                · refine sg 21 (mkE [(115, LL a25 x41.1), (114, LL a25 x2.1), (113, B true), (113, B (eqI x2.2 x41.2)), (112, B (eqI x2.2 x41.2)), (111, B (eqI x2.2 x41.2)), (110, I x41.2), (109, I x2.2), (108, B true), (108, B (x1.2.1 == false)), (107, B (x1.2.1 == false)), (106, B (x1.2.1 == false)), (105, B false), (104, B x1.2.1), (103, B true), (103, B (eqS x1.1 (ByteArray.mk #[]))), (102, B (eqS x1.1 (ByteArray.mk #[]))), (101, B (eqS x1.1 (ByteArray.mk #[]))), (100, S (ByteArray.mk #[])), (99, S x1.1), (98, B true), (98, B (eqI x1.2.2 y22.1)), (97, B (eqI x1.2.2 y22.1)), (96, I y22.1), (95, I x1.2.2), (4, .ba 32 0), (5, .ba 40 0), (9, S x1.1), (10, B x1.2.1), (11, I x1.2.2), (12, LL a25 x2.1), (13, I x2.2), (14, .own 320 0), (15, I x3.2), (17, I y22.1), (18, I y22.2), (19, I x41.2), (20, S (ByteArray.mk #[])), (21, B false), (22, LL a25 x41.1), (23, .nils), (91, B (eqI y22.2 0))] [(32, .box [S p0.f0, I p0.f1, I p0.f2, LL a37 p0.f3] false), (40, .box [I p1.f0, I p1.f1, I p1.f2, I p1.f3] false), (320, RR 60 9 a59 x3.1 0 false)] 131) ?_
                  refine co 116 [] (h24 x2.1 x41.1) (fun x46 => ?_)
                  refine sg 24 (mkE [(118, B x46), (117, B x46), (116, B x46), (115, LL a25 x41.1), (114, LL a25 x2.1), (113, B true), (113, B (eqI x2.2 x41.2)), (112, B (eqI x2.2 x41.2)), (111, B (eqI x2.2 x41.2)), (110, I x41.2), (109, I x2.2), (108, B true), (108, B (x1.2.1 == false)), (107, B (x1.2.1 == false)), (106, B (x1.2.1 == false)), (105, B false), (104, B x1.2.1), (103, B true), (103, B (eqS x1.1 (ByteArray.mk #[]))), (102, B (eqS x1.1 (ByteArray.mk #[]))), (101, B (eqS x1.1 (ByteArray.mk #[]))), (100, S (ByteArray.mk #[])), (99, S x1.1), (98, B true), (98, B (eqI x1.2.2 y22.1)), (97, B (eqI x1.2.2 y22.1)), (96, I y22.1), (95, I x1.2.2), (4, .ba 32 0), (5, .ba 40 0), (9, S x1.1), (10, B x1.2.1), (11, I x1.2.2), (12, LL a25 x2.1), (13, I x2.2), (14, .own 320 0), (15, I x3.2), (17, I y22.1), (18, I y22.2), (19, I x41.2), (20, S (ByteArray.mk #[])), (21, B false), (22, LL a25 x41.1), (23, .nils), (91, B (eqI y22.2 0))] [(32, .box [S p0.f0, I p0.f1, I p0.f2, LL a37 p0.f3] false), (40, .box [I p1.f0, I p1.f1, I p1.f2, I p1.f3] false), (320, RR 60 9 a59 x3.1 0 false)] 131) ?_
                  refine sb 118 x46 ?_ ?_
                  · refine sg 29 (mkE [(123, B (eqI x3.2 y22.2)), (122, B (eqI x3.2 y22.2)), (121, B (eqI x3.2 y22.2)), (120, I y22.2), (119, I x3.2), (118, B true), (118, B x46), (117, B x46), (116, B x46), (115, LL a25 x41.1), (114, LL a25 x2.1), (113, B true), (113, B (eqI x2.2 x41.2)), (112, B (eqI x2.2 x41.2)), (111, B (eqI x2.2 x41.2)), (110, I x41.2), (109, I x2.2), (108, B true), (108, B (x1.2.1 == false)), (107, B (x1.2.1 == false)), (106, B (x1.2.1 == false)), (105, B false), (104, B x1.2.1), (103, B true), (103, B (eqS x1.1 (ByteArray.mk #[]))), (102, B (eqS x1.1 (ByteArray.mk #[]))), (101, B (eqS x1.1 (ByteArray.mk #[]))), (100, S (ByteArray.mk #[])), (99, S x1.1), (98, B true), (98, B (eqI x1.2.2 y22.1)), (97, B (eqI x1.2.2 y22.1)), (96, I y22.1), (95, I x1.2.2), (4, .ba 32 0), (5, .ba 40 0), (9, S x1.1), (10, B x1.2.1), (11, I x1.2.2), (12, LL a25 x2.1), (13, I x2.2), (14, .own 320 0), (15, I x3.2), (17, I y22.1), (18, I y22.2), (19, I x41.2), (20, S (ByteArray.mk #[])), (21, B false), (22, LL a25 x41.1), (23, .nils), (91, B (eqI y22.2 0))] [(32, .box [S p0.f0, I p0.f1, I p0.f2, LL a37 p0.f3] false), (40, .box [I p1.f0, I p1.f1, I p1.f2, I p1.f3] false), (320, RR 60 9 a59 x3.1 0 false)] 131) ?_
                    refine sb 123 (eqI x3.2 y22.2) ?_ ?_
                    · refine sg 31 (mkE [(125, .nils), (124, .own 320 0), (123, B true), (123, B (eqI x3.2 y22.2)), (122, B (eqI x3.2 y22.2)), (121, B (eqI x3.2 y22.2)), (120, I y22.2), (119, I x3.2), (118, B true), (118, B x46), (117, B x46), (116, B x46), (115, LL a25 x41.1), (114, LL a25 x2.1), (113, B true), (113, B (eqI x2.2 x41.2)), (112, B (eqI x2.2 x41.2)), (111, B (eqI x2.2 x41.2)), (110, I x41.2), (109, I x2.2), (108, B true), (108, B (x1.2.1 == false)), (107, B (x1.2.1 == false)), (106, B (x1.2.1 == false)), (105, B false), (104, B x1.2.1), (103, B true), (103, B (eqS x1.1 (ByteArray.mk #[]))), (102, B (eqS x1.1 (ByteArray.mk #[]))), (101, B (eqS x1.1 (ByteArray.mk #[]))), (100, S (ByteArray.mk #[])), (99, S x1.1), (98, B true), (98, B (eqI x1.2.2 y22.1)), (97, B (eqI x1.2.2 y22.1)), (96, I y22.1), (95, I x1.2.2), (4, .ba 32 0), (5, .ba 40 0), (9, S x1.1), (10, B x1.2.1), (11, I x1.2.2), (12, LL a25 x2.1), (13, I x2.2), (14, .own 320 0), (15, I x3.2), (17, I y22.1), (18, I y22.2), (19, I x41.2), (20, S (ByteArray.mk #[])), (21, B false), (22, LL a25 x41.1), (23, .nils), (91, B (eqI y22.2 0))] [(32, .box [S p0.f0, I p0.f1, I p0.f2, LL a37 p0.f3] false), (40, .box [I p1.f0, I p1.f1, I p1.f2, I p1.f3] false), (320, RR 60 9 a59 x3.1 0 false)] 131) ?_
                      refine co 126 [320] (h25 x3.1 []) (fun x47 => ?_)
                      refine sg 34 (mkE [(128, B x47), (127, B x47), (126, B x47), (125, .nils), (124, .own 320 0), (123, B true), (123, B (eqI x3.2 y22.2)), (122, B (eqI x3.2 y22.2)), (121, B (eqI x3.2 y22.2)), (120, I y22.2), (119, I x3.2), (118, B true), (118, B x46), (117, B x46), (116, B x46), (115, LL a25 x41.1), (114, LL a25 x2.1), (113, B true), (113, B (eqI x2.2 x41.2)), (112, B (eqI x2.2 x41.2)), (111, B (eqI x2.2 x41.2)), (110, I x41.2), (109, I x2.2), (108, B true), (108, B (x1.2.1 == false)), (107, B (x1.2.1 == false)), (106, B (x1.2.1 == false)), (105, B false), (104, B x1.2.1), (103, B true), (103, B (eqS x1.1 (ByteArray.mk #[]))), (102, B (eqS x1.1 (ByteArray.mk #[]))), (101, B (eqS x1.1 (ByteArray.mk #[]))), (100, S (ByteArray.mk #[])), (99, S x1.1), (98, B true), (98, B (eqI x1.2.2 y22.1)), (97, B (eqI x1.2.2 y22.1)), (96, I y22.1), (95, I x1.2.2), (4, .ba 32 0), (5, .ba 40 0), (9, S x1.1), (10, B x1.2.1), (11, I x1.2.2), (12, LL a25 x2.1), (13, I x2.2), (14, .own 320 0), (15, I x3.2), (17, I y22.1), (18, I y22.2), (19, I x41.2), (20, S (ByteArray.mk #[])), (21, B false), (22, LL a25 x41.1), (23, .nils), (91, B (eqI y22.2 0))] [(32, .box [S p0.f0, I p0.f1, I p0.f2, LL a37 p0.f3] false), (40, .box [I p1.f0, I p1.f1, I p1.f2, I p1.f3] false), (320, RR 60 9 a59 x3.1 0 false)] 131) ?_
                      refine sb 128 x47 ?_ ?_
                      · refine co 129 [] (h26) (fun x48 => ?_)
                        refine se (mkE [(8, B x48)] [] 131) ?_
                        refine pN ?_
                        refine pS ?_
                        refine gE ?_
                        exact pL
                      · refine se (mkE [(8, B false)] [] 131) ?_
                        refine pN ?_
                        refine pS ?_
                        refine gE ?_
                        exact pL
                    · refine se (mkE [(8, B false)] [] 131) ?_
                      refine pN ?_
                      refine pS ?_
                      refine gE ?_
                      exact pL
                  · refine se (mkE [(8, B false)] [] 131) ?_
                    refine pN ?_
                    refine pS ?_
                    refine gE ?_
                    exact pL
                · refine se (mkE [(8, B false)] [] 131) ?_
                  refine pN ?_
                  refine pS ?_
                  refine gE ?_
                  exact pL
              · refine se (mkE [(8, B false)] [] 131) ?_
                refine pN ?_
                refine pS ?_
                refine gE ?_
                exact pL
            · refine se (mkE [(8, B false)] [] 131) ?_
              refine pN ?_
              refine pS ?_
              refine gE ?_
              exact pL
          · refine se (mkE [(8, B false)] [] 131) ?_
            refine pN ?_
            refine pS ?_
            refine gE ?_
            exact pL
      · refine gK ?_
        refine pN ?_
        refine pS ?_
        refine gS 15 ?_
        refine gR 14 (rg Tryz.f6 14) ?_
        refine se (mkE [(4, .ba 32 0), (5, .ba 40 0), (9, S x1.1), (10, B x1.2.1), (11, I x1.2.2), (12, LL a25 x2.1), (13, I x2.2), (14, .own 320 0), (15, I x3.2), (17, I y22.1), (18, I y22.2), (19, I x4), (20, S (ByteArray.mk #[])), (21, B false), (22, .nils), (23, .nils)] [(32, .box [S p0.f0, I p0.f1, I p0.f2, LL a37 p0.f3] false), (40, .box [I p1.f0, I p1.f1, I p1.f2, I p1.f3] false), (320, RR 60 9 a59 x3.1 0 false)] 131) ?_
        refine pN ?_
        refine pS ?_
        refine gS 17 ?_
        refine gS 0 ?_
        refine gR 15 (rg Tryz.f6 15) ?_
        refine se (mkE [(4, .ba 32 0), (5, .ba 40 0), (9, S x1.1), (10, B x1.2.1), (11, I x1.2.2), (12, LL a25 x2.1), (13, I x2.2), (14, .own 320 0), (15, I x3.2), (17, I y22.1), (18, I y22.2), (19, I x4), (20, S (ByteArray.mk #[])), (21, B false), (22, .nils), (23, .nils), (91, B (eqI y22.2 0))] [(32, .box [S p0.f0, I p0.f1, I p0.f2, LL a37 p0.f3] false), (40, .box [I p1.f0, I p1.f1, I p1.f2, I p1.f3] false), (320, RR 60 9 a59 x3.1 0 false)] 131) ?_
        refine pN ?_
        refine pS ?_
        refine gC 91 (eqI y22.2 0) ?_ ?_
        · refine gR 16 (rg Tryz.f6 16) ?_
          refine sg 2 (mkE [(93, a25 p1), (92, a23 p0), (4, .ba 32 0), (5, .ba 40 0), (9, S x1.1), (10, B x1.2.1), (11, I x1.2.2), (12, LL a25 x2.1), (13, I x2.2), (14, .own 320 0), (15, I x3.2), (17, I y22.1), (18, I y22.2), (19, I x4), (20, S (ByteArray.mk #[])), (21, B false), (22, .nils), (23, .nils), (91, B (eqI y22.2 0))] [(32, .box [S p0.f0, I p0.f1, I p0.f2, LL a37 p0.f3] false), (40, .box [I p1.f0, I p1.f1, I p1.f2, I p1.f3] false), (320, RR 60 9 a59 x3.1 0 false)] 131) ?_
          refine co 94 [] (h23 p0 p1) (fun x49 => ?_)
          refine se (mkE [(9, S x1.1), (10, B x1.2.1), (11, I x1.2.2), (12, LL a25 x2.1), (13, I x2.2), (14, .own 320 0), (15, I x3.2), (17, I y22.1), (18, I y22.2), (19, I x4), (20, S (ByteArray.mk #[])), (21, B false), (22, .nils), (23, .own 752 0)] [(320, RR 60 9 a59 x3.1 0 false), (752, RR 60 9 a59 x49 0 false)] 131) ?_
          refine pN ?_
          refine pS ?_
          refine gS 0 ?_
          refine gR 17 (rg Tryz.f6 17) ?_
          refine sg 4 (mkE [(98, B (eqI x1.2.2 y22.1)), (97, B (eqI x1.2.2 y22.1)), (96, I y22.1), (95, I x1.2.2), (9, S x1.1), (10, B x1.2.1), (11, I x1.2.2), (12, LL a25 x2.1), (13, I x2.2), (14, .own 320 0), (15, I x3.2), (17, I y22.1), (18, I y22.2), (19, I x4), (20, S (ByteArray.mk #[])), (21, B false), (22, .nils), (23, .own 752 0)] [(320, RR 60 9 a59 x3.1 0 false), (752, RR 60 9 a59 x49 0 false)] 131) ?_
          refine sb 98 (eqI x1.2.2 y22.1) ?_ ?_
          · refine sg 9 (mkE [(103, B (eqS x1.1 (ByteArray.mk #[]))), (102, B (eqS x1.1 (ByteArray.mk #[]))), (101, B (eqS x1.1 (ByteArray.mk #[]))), (100, S (ByteArray.mk #[])), (99, S x1.1), (98, B true), (98, B (eqI x1.2.2 y22.1)), (97, B (eqI x1.2.2 y22.1)), (96, I y22.1), (95, I x1.2.2), (9, S x1.1), (10, B x1.2.1), (11, I x1.2.2), (12, LL a25 x2.1), (13, I x2.2), (14, .own 320 0), (15, I x3.2), (17, I y22.1), (18, I y22.2), (19, I x4), (20, S (ByteArray.mk #[])), (21, B false), (22, .nils), (23, .own 752 0)] [(320, RR 60 9 a59 x3.1 0 false), (752, RR 60 9 a59 x49 0 false)] 131) ?_
            refine sb 103 (eqS x1.1 (ByteArray.mk #[])) ?_ ?_
            · refine sg 14 (mkE [(108, B (x1.2.1 == false)), (107, B (x1.2.1 == false)), (106, B (x1.2.1 == false)), (105, B false), (104, B x1.2.1), (103, B true), (103, B (eqS x1.1 (ByteArray.mk #[]))), (102, B (eqS x1.1 (ByteArray.mk #[]))), (101, B (eqS x1.1 (ByteArray.mk #[]))), (100, S (ByteArray.mk #[])), (99, S x1.1), (98, B true), (98, B (eqI x1.2.2 y22.1)), (97, B (eqI x1.2.2 y22.1)), (96, I y22.1), (95, I x1.2.2), (9, S x1.1), (10, B x1.2.1), (11, I x1.2.2), (12, LL a25 x2.1), (13, I x2.2), (14, .own 320 0), (15, I x3.2), (17, I y22.1), (18, I y22.2), (19, I x4), (20, S (ByteArray.mk #[])), (21, B false), (22, .nils), (23, .own 752 0)] [(320, RR 60 9 a59 x3.1 0 false), (752, RR 60 9 a59 x49 0 false)] 131) ?_
              refine sb 108 (x1.2.1 == false) ?_ ?_
              · refine sg 19 (mkE [(113, B (eqI x2.2 x4)), (112, B (eqI x2.2 x4)), (111, B (eqI x2.2 x4)), (110, I x4), (109, I x2.2), (108, B true), (108, B (x1.2.1 == false)), (107, B (x1.2.1 == false)), (106, B (x1.2.1 == false)), (105, B false), (104, B x1.2.1), (103, B true), (103, B (eqS x1.1 (ByteArray.mk #[]))), (102, B (eqS x1.1 (ByteArray.mk #[]))), (101, B (eqS x1.1 (ByteArray.mk #[]))), (100, S (ByteArray.mk #[])), (99, S x1.1), (98, B true), (98, B (eqI x1.2.2 y22.1)), (97, B (eqI x1.2.2 y22.1)), (96, I y22.1), (95, I x1.2.2), (9, S x1.1), (10, B x1.2.1), (11, I x1.2.2), (12, LL a25 x2.1), (13, I x2.2), (14, .own 320 0), (15, I x3.2), (17, I y22.1), (18, I y22.2), (19, I x4), (20, S (ByteArray.mk #[])), (21, B false), (22, .nils), (23, .own 752 0)] [(320, RR 60 9 a59 x3.1 0 false), (752, RR 60 9 a59 x49 0 false)] 131) ?_
                refine sb 113 (eqI x2.2 x4) ?_ ?_
                · refine sg 21 (mkE [(115, .nils), (114, LL a25 x2.1), (113, B true), (113, B (eqI x2.2 x4)), (112, B (eqI x2.2 x4)), (111, B (eqI x2.2 x4)), (110, I x4), (109, I x2.2), (108, B true), (108, B (x1.2.1 == false)), (107, B (x1.2.1 == false)), (106, B (x1.2.1 == false)), (105, B false), (104, B x1.2.1), (103, B true), (103, B (eqS x1.1 (ByteArray.mk #[]))), (102, B (eqS x1.1 (ByteArray.mk #[]))), (101, B (eqS x1.1 (ByteArray.mk #[]))), (100, S (ByteArray.mk #[])), (99, S x1.1), (98, B true), (98, B (eqI x1.2.2 y22.1)), (97, B (eqI x1.2.2 y22.1)), (96, I y22.1), (95, I x1.2.2), (9, S x1.1), (10, B x1.2.1), (11, I x1.2.2), (12, LL a25 x2.1), (13, I x2.2), (14, .own 320 0), (15, I x3.2), (17, I y22.1), (18, I y22.2), (19, I x4), (20, S (ByteArray.mk #[])), (21, B false), (22, .nils), (23, .own 752 0)] [(320, RR 60 9 a59 x3.1 0 false), (752, RR 60 9 a59 x49 0 false)] 131) ?_
                  refine co 116 [] (h24 x2.1 []) (fun x50 => ?_)
                  refine sg 24 (mkE [(118, B x50), (117, B x50), (116, B x50), (115, .nils), (114, LL a25 x2.1), (113, B true), (113, B (eqI x2.2 x4)), (112, B (eqI x2.2 x4)), (111, B (eqI x2.2 x4)), (110, I x4), (109, I x2.2), (108, B true), (108, B (x1.2.1 == false)), (107, B (x1.2.1 == false)), (106, B (x1.2.1 == false)), (105, B false), (104, B x1.2.1), (103, B true), (103, B (eqS x1.1 (ByteArray.mk #[]))), (102, B (eqS x1.1 (ByteArray.mk #[]))), (101, B (eqS x1.1 (ByteArray.mk #[]))), (100, S (ByteArray.mk #[])), (99, S x1.1), (98, B true), (98, B (eqI x1.2.2 y22.1)), (97, B (eqI x1.2.2 y22.1)), (96, I y22.1), (95, I x1.2.2), (9, S x1.1), (10, B x1.2.1), (11, I x1.2.2), (12, LL a25 x2.1), (13, I x2.2), (14, .own 320 0), (15, I x3.2), (17, I y22.1), (18, I y22.2), (19, I x4), (20, S (ByteArray.mk #[])), (21, B false), (22, .nils), (23, .own 752 0)] [(320, RR 60 9 a59 x3.1 0 false), (752, RR 60 9 a59 x49 0 false)] 131) ?_
                  refine sb 118 x50 ?_ ?_
                  · refine sg 29 (mkE [(123, B (eqI x3.2 y22.2)), (122, B (eqI x3.2 y22.2)), (121, B (eqI x3.2 y22.2)), (120, I y22.2), (119, I x3.2), (118, B true), (118, B x50), (117, B x50), (116, B x50), (115, .nils), (114, LL a25 x2.1), (113, B true), (113, B (eqI x2.2 x4)), (112, B (eqI x2.2 x4)), (111, B (eqI x2.2 x4)), (110, I x4), (109, I x2.2), (108, B true), (108, B (x1.2.1 == false)), (107, B (x1.2.1 == false)), (106, B (x1.2.1 == false)), (105, B false), (104, B x1.2.1), (103, B true), (103, B (eqS x1.1 (ByteArray.mk #[]))), (102, B (eqS x1.1 (ByteArray.mk #[]))), (101, B (eqS x1.1 (ByteArray.mk #[]))), (100, S (ByteArray.mk #[])), (99, S x1.1), (98, B true), (98, B (eqI x1.2.2 y22.1)), (97, B (eqI x1.2.2 y22.1)), (96, I y22.1), (95, I x1.2.2), (9, S x1.1), (10, B x1.2.1), (11, I x1.2.2), (12, LL a25 x2.1), (13, I x2.2), (14, .own 320 0), (15, I x3.2), (17, I y22.1), (18, I y22.2), (19, I x4), (20, S (ByteArray.mk #[])), (21, B false), (22, .nils), (23, .own 752 0)] [(320, RR 60 9 a59 x3.1 0 false), (752, RR 60 9 a59 x49 0 false)] 131) ?_
                    refine sb 123 (eqI x3.2 y22.2) ?_ ?_
                    · refine sg 31 (mkE [(125, .own 752 0), (124, .own 320 0), (123, B true), (123, B (eqI x3.2 y22.2)), (122, B (eqI x3.2 y22.2)), (121, B (eqI x3.2 y22.2)), (120, I y22.2), (119, I x3.2), (118, B true), (118, B x50), (117, B x50), (116, B x50), (115, .nils), (114, LL a25 x2.1), (113, B true), (113, B (eqI x2.2 x4)), (112, B (eqI x2.2 x4)), (111, B (eqI x2.2 x4)), (110, I x4), (109, I x2.2), (108, B true), (108, B (x1.2.1 == false)), (107, B (x1.2.1 == false)), (106, B (x1.2.1 == false)), (105, B false), (104, B x1.2.1), (103, B true), (103, B (eqS x1.1 (ByteArray.mk #[]))), (102, B (eqS x1.1 (ByteArray.mk #[]))), (101, B (eqS x1.1 (ByteArray.mk #[]))), (100, S (ByteArray.mk #[])), (99, S x1.1), (98, B true), (98, B (eqI x1.2.2 y22.1)), (97, B (eqI x1.2.2 y22.1)), (96, I y22.1), (95, I x1.2.2), (9, S x1.1), (10, B x1.2.1), (11, I x1.2.2), (12, LL a25 x2.1), (13, I x2.2), (14, .own 320 0), (15, I x3.2), (17, I y22.1), (18, I y22.2), (19, I x4), (20, S (ByteArray.mk #[])), (21, B false), (22, .nils), (23, .own 752 0)] [(320, RR 60 9 a59 x3.1 0 false), (752, RR 60 9 a59 x49 0 false)] 131) ?_
                      refine co 126 [320, 752] (h25 x3.1 x49) (fun x51 => ?_)
                      refine sg 34 (mkE [(128, B x51), (127, B x51), (126, B x51), (125, .own 752 0), (124, .own 320 0), (123, B true), (123, B (eqI x3.2 y22.2)), (122, B (eqI x3.2 y22.2)), (121, B (eqI x3.2 y22.2)), (120, I y22.2), (119, I x3.2), (118, B true), (118, B x50), (117, B x50), (116, B x50), (115, .nils), (114, LL a25 x2.1), (113, B true), (113, B (eqI x2.2 x4)), (112, B (eqI x2.2 x4)), (111, B (eqI x2.2 x4)), (110, I x4), (109, I x2.2), (108, B true), (108, B (x1.2.1 == false)), (107, B (x1.2.1 == false)), (106, B (x1.2.1 == false)), (105, B false), (104, B x1.2.1), (103, B true), (103, B (eqS x1.1 (ByteArray.mk #[]))), (102, B (eqS x1.1 (ByteArray.mk #[]))), (101, B (eqS x1.1 (ByteArray.mk #[]))), (100, S (ByteArray.mk #[])), (99, S x1.1), (98, B true), (98, B (eqI x1.2.2 y22.1)), (97, B (eqI x1.2.2 y22.1)), (96, I y22.1), (95, I x1.2.2), (9, S x1.1), (10, B x1.2.1), (11, I x1.2.2), (12, LL a25 x2.1), (13, I x2.2), (14, .own 320 0), (15, I x3.2), (17, I y22.1), (18, I y22.2), (19, I x4), (20, S (ByteArray.mk #[])), (21, B false), (22, .nils), (23, .own 752 0)] [(320, RR 60 9 a59 x3.1 0 false), (752, RR 60 9 a59 x49 0 false)] 131) ?_
                      refine sb 128 x51 ?_ ?_
                      · refine co 129 [] (h26) (fun x52 => ?_)
                        refine se (mkE [(8, B x52)] [] 131) ?_
                        refine pN ?_
                        refine pS ?_
                        refine gE ?_
                        exact pL
                      · refine se (mkE [(8, B false)] [] 131) ?_
                        refine pN ?_
                        refine pS ?_
                        refine gE ?_
                        exact pL
                    · refine se (mkE [(8, B false)] [] 131) ?_
                      refine pN ?_
                      refine pS ?_
                      refine gE ?_
                      exact pL
                  · refine se (mkE [(8, B false)] [] 131) ?_
                    refine pN ?_
                    refine pS ?_
                    refine gE ?_
                    exact pL
                · refine se (mkE [(8, B false)] [] 131) ?_
                  refine pN ?_
                  refine pS ?_
                  refine gE ?_
                  exact pL
              · refine se (mkE [(8, B false)] [] 131) ?_
                refine pN ?_
                refine pS ?_
                refine gE ?_
                exact pL
            · refine se (mkE [(8, B false)] [] 131) ?_
              refine pN ?_
              refine pS ?_
              refine gE ?_
              exact pL
          · refine se (mkE [(8, B false)] [] 131) ?_
            refine pN ?_
            refine pS ?_
            refine gE ?_
            exact pL
        · refine gK ?_
          refine pN ?_
          refine pS ?_
          refine gS 0 ?_
          refine gR 17 (rg Tryz.f6 17) ?_
          refine sg 4 (mkE [(98, B (eqI x1.2.2 y22.1)), (97, B (eqI x1.2.2 y22.1)), (96, I y22.1), (95, I x1.2.2), (4, .ba 32 0), (5, .ba 40 0), (9, S x1.1), (10, B x1.2.1), (11, I x1.2.2), (12, LL a25 x2.1), (13, I x2.2), (14, .own 320 0), (15, I x3.2), (17, I y22.1), (18, I y22.2), (19, I x4), (20, S (ByteArray.mk #[])), (21, B false), (22, .nils), (23, .nils), (91, B (eqI y22.2 0))] [(32, .box [S p0.f0, I p0.f1, I p0.f2, LL a37 p0.f3] false), (40, .box [I p1.f0, I p1.f1, I p1.f2, I p1.f3] false), (320, RR 60 9 a59 x3.1 0 false)] 131) ?_
          refine sb 98 (eqI x1.2.2 y22.1) ?_ ?_
          · refine sg 9 (mkE [(103, B (eqS x1.1 (ByteArray.mk #[]))), (102, B (eqS x1.1 (ByteArray.mk #[]))), (101, B (eqS x1.1 (ByteArray.mk #[]))), (100, S (ByteArray.mk #[])), (99, S x1.1), (98, B true), (98, B (eqI x1.2.2 y22.1)), (97, B (eqI x1.2.2 y22.1)), (96, I y22.1), (95, I x1.2.2), (4, .ba 32 0), (5, .ba 40 0), (9, S x1.1), (10, B x1.2.1), (11, I x1.2.2), (12, LL a25 x2.1), (13, I x2.2), (14, .own 320 0), (15, I x3.2), (17, I y22.1), (18, I y22.2), (19, I x4), (20, S (ByteArray.mk #[])), (21, B false), (22, .nils), (23, .nils), (91, B (eqI y22.2 0))] [(32, .box [S p0.f0, I p0.f1, I p0.f2, LL a37 p0.f3] false), (40, .box [I p1.f0, I p1.f1, I p1.f2, I p1.f3] false), (320, RR 60 9 a59 x3.1 0 false)] 131) ?_
            refine sb 103 (eqS x1.1 (ByteArray.mk #[])) ?_ ?_
            · refine sg 14 (mkE [(108, B (x1.2.1 == false)), (107, B (x1.2.1 == false)), (106, B (x1.2.1 == false)), (105, B false), (104, B x1.2.1), (103, B true), (103, B (eqS x1.1 (ByteArray.mk #[]))), (102, B (eqS x1.1 (ByteArray.mk #[]))), (101, B (eqS x1.1 (ByteArray.mk #[]))), (100, S (ByteArray.mk #[])), (99, S x1.1), (98, B true), (98, B (eqI x1.2.2 y22.1)), (97, B (eqI x1.2.2 y22.1)), (96, I y22.1), (95, I x1.2.2), (4, .ba 32 0), (5, .ba 40 0), (9, S x1.1), (10, B x1.2.1), (11, I x1.2.2), (12, LL a25 x2.1), (13, I x2.2), (14, .own 320 0), (15, I x3.2), (17, I y22.1), (18, I y22.2), (19, I x4), (20, S (ByteArray.mk #[])), (21, B false), (22, .nils), (23, .nils), (91, B (eqI y22.2 0))] [(32, .box [S p0.f0, I p0.f1, I p0.f2, LL a37 p0.f3] false), (40, .box [I p1.f0, I p1.f1, I p1.f2, I p1.f3] false), (320, RR 60 9 a59 x3.1 0 false)] 131) ?_
              refine sb 108 (x1.2.1 == false) ?_ ?_
              · refine sg 19 (mkE [(113, B (eqI x2.2 x4)), (112, B (eqI x2.2 x4)), (111, B (eqI x2.2 x4)), (110, I x4), (109, I x2.2), (108, B true), (108, B (x1.2.1 == false)), (107, B (x1.2.1 == false)), (106, B (x1.2.1 == false)), (105, B false), (104, B x1.2.1), (103, B true), (103, B (eqS x1.1 (ByteArray.mk #[]))), (102, B (eqS x1.1 (ByteArray.mk #[]))), (101, B (eqS x1.1 (ByteArray.mk #[]))), (100, S (ByteArray.mk #[])), (99, S x1.1), (98, B true), (98, B (eqI x1.2.2 y22.1)), (97, B (eqI x1.2.2 y22.1)), (96, I y22.1), (95, I x1.2.2), (4, .ba 32 0), (5, .ba 40 0), (9, S x1.1), (10, B x1.2.1), (11, I x1.2.2), (12, LL a25 x2.1), (13, I x2.2), (14, .own 320 0), (15, I x3.2), (17, I y22.1), (18, I y22.2), (19, I x4), (20, S (ByteArray.mk #[])), (21, B false), (22, .nils), (23, .nils), (91, B (eqI y22.2 0))] [(32, .box [S p0.f0, I p0.f1, I p0.f2, LL a37 p0.f3] false), (40, .box [I p1.f0, I p1.f1, I p1.f2, I p1.f3] false), (320, RR 60 9 a59 x3.1 0 false)] 131) ?_
                refine sb 113 (eqI x2.2 x4) ?_ ?_
                · refine sg 21 (mkE [(115, .nils), (114, LL a25 x2.1), (113, B true), (113, B (eqI x2.2 x4)), (112, B (eqI x2.2 x4)), (111, B (eqI x2.2 x4)), (110, I x4), (109, I x2.2), (108, B true), (108, B (x1.2.1 == false)), (107, B (x1.2.1 == false)), (106, B (x1.2.1 == false)), (105, B false), (104, B x1.2.1), (103, B true), (103, B (eqS x1.1 (ByteArray.mk #[]))), (102, B (eqS x1.1 (ByteArray.mk #[]))), (101, B (eqS x1.1 (ByteArray.mk #[]))), (100, S (ByteArray.mk #[])), (99, S x1.1), (98, B true), (98, B (eqI x1.2.2 y22.1)), (97, B (eqI x1.2.2 y22.1)), (96, I y22.1), (95, I x1.2.2), (4, .ba 32 0), (5, .ba 40 0), (9, S x1.1), (10, B x1.2.1), (11, I x1.2.2), (12, LL a25 x2.1), (13, I x2.2), (14, .own 320 0), (15, I x3.2), (17, I y22.1), (18, I y22.2), (19, I x4), (20, S (ByteArray.mk #[])), (21, B false), (22, .nils), (23, .nils), (91, B (eqI y22.2 0))] [(32, .box [S p0.f0, I p0.f1, I p0.f2, LL a37 p0.f3] false), (40, .box [I p1.f0, I p1.f1, I p1.f2, I p1.f3] false), (320, RR 60 9 a59 x3.1 0 false)] 131) ?_
                  refine co 116 [] (h24 x2.1 []) (fun x53 => ?_)
                  refine sg 24 (mkE [(118, B x53), (117, B x53), (116, B x53), (115, .nils), (114, LL a25 x2.1), (113, B true), (113, B (eqI x2.2 x4)), (112, B (eqI x2.2 x4)), (111, B (eqI x2.2 x4)), (110, I x4), (109, I x2.2), (108, B true), (108, B (x1.2.1 == false)), (107, B (x1.2.1 == false)), (106, B (x1.2.1 == false)), (105, B false), (104, B x1.2.1), (103, B true), (103, B (eqS x1.1 (ByteArray.mk #[]))), (102, B (eqS x1.1 (ByteArray.mk #[]))), (101, B (eqS x1.1 (ByteArray.mk #[]))), (100, S (ByteArray.mk #[])), (99, S x1.1), (98, B true), (98, B (eqI x1.2.2 y22.1)), (97, B (eqI x1.2.2 y22.1)), (96, I y22.1), (95, I x1.2.2), (4, .ba 32 0), (5, .ba 40 0), (9, S x1.1), (10, B x1.2.1), (11, I x1.2.2), (12, LL a25 x2.1), (13, I x2.2), (14, .own 320 0), (15, I x3.2), (17, I y22.1), (18, I y22.2), (19, I x4), (20, S (ByteArray.mk #[])), (21, B false), (22, .nils), (23, .nils), (91, B (eqI y22.2 0))] [(32, .box [S p0.f0, I p0.f1, I p0.f2, LL a37 p0.f3] false), (40, .box [I p1.f0, I p1.f1, I p1.f2, I p1.f3] false), (320, RR 60 9 a59 x3.1 0 false)] 131) ?_
                  refine sb 118 x53 ?_ ?_
                  · refine sg 29 (mkE [(123, B (eqI x3.2 y22.2)), (122, B (eqI x3.2 y22.2)), (121, B (eqI x3.2 y22.2)), (120, I y22.2), (119, I x3.2), (118, B true), (118, B x53), (117, B x53), (116, B x53), (115, .nils), (114, LL a25 x2.1), (113, B true), (113, B (eqI x2.2 x4)), (112, B (eqI x2.2 x4)), (111, B (eqI x2.2 x4)), (110, I x4), (109, I x2.2), (108, B true), (108, B (x1.2.1 == false)), (107, B (x1.2.1 == false)), (106, B (x1.2.1 == false)), (105, B false), (104, B x1.2.1), (103, B true), (103, B (eqS x1.1 (ByteArray.mk #[]))), (102, B (eqS x1.1 (ByteArray.mk #[]))), (101, B (eqS x1.1 (ByteArray.mk #[]))), (100, S (ByteArray.mk #[])), (99, S x1.1), (98, B true), (98, B (eqI x1.2.2 y22.1)), (97, B (eqI x1.2.2 y22.1)), (96, I y22.1), (95, I x1.2.2), (4, .ba 32 0), (5, .ba 40 0), (9, S x1.1), (10, B x1.2.1), (11, I x1.2.2), (12, LL a25 x2.1), (13, I x2.2), (14, .own 320 0), (15, I x3.2), (17, I y22.1), (18, I y22.2), (19, I x4), (20, S (ByteArray.mk #[])), (21, B false), (22, .nils), (23, .nils), (91, B (eqI y22.2 0))] [(32, .box [S p0.f0, I p0.f1, I p0.f2, LL a37 p0.f3] false), (40, .box [I p1.f0, I p1.f1, I p1.f2, I p1.f3] false), (320, RR 60 9 a59 x3.1 0 false)] 131) ?_
                    refine sb 123 (eqI x3.2 y22.2) ?_ ?_
                    · refine sg 31 (mkE [(125, .nils), (124, .own 320 0), (123, B true), (123, B (eqI x3.2 y22.2)), (122, B (eqI x3.2 y22.2)), (121, B (eqI x3.2 y22.2)), (120, I y22.2), (119, I x3.2), (118, B true), (118, B x53), (117, B x53), (116, B x53), (115, .nils), (114, LL a25 x2.1), (113, B true), (113, B (eqI x2.2 x4)), (112, B (eqI x2.2 x4)), (111, B (eqI x2.2 x4)), (110, I x4), (109, I x2.2), (108, B true), (108, B (x1.2.1 == false)), (107, B (x1.2.1 == false)), (106, B (x1.2.1 == false)), (105, B false), (104, B x1.2.1), (103, B true), (103, B (eqS x1.1 (ByteArray.mk #[]))), (102, B (eqS x1.1 (ByteArray.mk #[]))), (101, B (eqS x1.1 (ByteArray.mk #[]))), (100, S (ByteArray.mk #[])), (99, S x1.1), (98, B true), (98, B (eqI x1.2.2 y22.1)), (97, B (eqI x1.2.2 y22.1)), (96, I y22.1), (95, I x1.2.2), (4, .ba 32 0), (5, .ba 40 0), (9, S x1.1), (10, B x1.2.1), (11, I x1.2.2), (12, LL a25 x2.1), (13, I x2.2), (14, .own 320 0), (15, I x3.2), (17, I y22.1), (18, I y22.2), (19, I x4), (20, S (ByteArray.mk #[])), (21, B false), (22, .nils), (23, .nils), (91, B (eqI y22.2 0))] [(32, .box [S p0.f0, I p0.f1, I p0.f2, LL a37 p0.f3] false), (40, .box [I p1.f0, I p1.f1, I p1.f2, I p1.f3] false), (320, RR 60 9 a59 x3.1 0 false)] 131) ?_
                      refine co 126 [320] (h25 x3.1 []) (fun x54 => ?_)
                      refine sg 34 (mkE [(128, B x54), (127, B x54), (126, B x54), (125, .nils), (124, .own 320 0), (123, B true), (123, B (eqI x3.2 y22.2)), (122, B (eqI x3.2 y22.2)), (121, B (eqI x3.2 y22.2)), (120, I y22.2), (119, I x3.2), (118, B true), (118, B x53), (117, B x53), (116, B x53), (115, .nils), (114, LL a25 x2.1), (113, B true), (113, B (eqI x2.2 x4)), (112, B (eqI x2.2 x4)), (111, B (eqI x2.2 x4)), (110, I x4), (109, I x2.2), (108, B true), (108, B (x1.2.1 == false)), (107, B (x1.2.1 == false)), (106, B (x1.2.1 == false)), (105, B false), (104, B x1.2.1), (103, B true), (103, B (eqS x1.1 (ByteArray.mk #[]))), (102, B (eqS x1.1 (ByteArray.mk #[]))), (101, B (eqS x1.1 (ByteArray.mk #[]))), (100, S (ByteArray.mk #[])), (99, S x1.1), (98, B true), (98, B (eqI x1.2.2 y22.1)), (97, B (eqI x1.2.2 y22.1)), (96, I y22.1), (95, I x1.2.2), (4, .ba 32 0), (5, .ba 40 0), (9, S x1.1), (10, B x1.2.1), (11, I x1.2.2), (12, LL a25 x2.1), (13, I x2.2), (14, .own 320 0), (15, I x3.2), (17, I y22.1), (18, I y22.2), (19, I x4), (20, S (ByteArray.mk #[])), (21, B false), (22, .nils), (23, .nils), (91, B (eqI y22.2 0))] [(32, .box [S p0.f0, I p0.f1, I p0.f2, LL a37 p0.f3] false), (40, .box [I p1.f0, I p1.f1, I p1.f2, I p1.f3] false), (320, RR 60 9 a59 x3.1 0 false)] 131) ?_
                      refine sb 128 x54 ?_ ?_
                      · refine co 129 [] (h26) (fun x55 => ?_)
                        refine se (mkE [(8, B x55)] [] 131) ?_
                        refine pN ?_
                        refine pS ?_
                        refine gE ?_
                        exact pL
                      · refine se (mkE [(8, B false)] [] 131) ?_
                        refine pN ?_
                        refine pS ?_
                        refine gE ?_
                        exact pL
                    · refine se (mkE [(8, B false)] [] 131) ?_
                      refine pN ?_
                      refine pS ?_
                      refine gE ?_
                      exact pL
                  · refine se (mkE [(8, B false)] [] 131) ?_
                    refine pN ?_
                    refine pS ?_
                    refine gE ?_
                    exact pL
                · refine se (mkE [(8, B false)] [] 131) ?_
                  refine pN ?_
                  refine pS ?_
                  refine gE ?_
                  exact pL
              · refine se (mkE [(8, B false)] [] 131) ?_
                refine pN ?_
                refine pS ?_
                refine gE ?_
                exact pL
            · refine se (mkE [(8, B false)] [] 131) ?_
              refine pN ?_
              refine pS ?_
              refine gE ?_
              exact pL
          · refine se (mkE [(8, B false)] [] 131) ?_
            refine pN ?_
            refine pS ?_
            refine gE ?_
            exact pL
theorem F6 (m : Nat) (hm : 11 ≤ m) (p0 : S23) (p1 : S25) (p2 : Int) (p3 : Int) : callA Tryz.prog cfg m 6 [a23 p0, a25 p1, I p2, I p3] = (T6 p0 p1 p2 p3).map B := by
  obtain ⟨q, rfl⟩ : ∃ q, m = q + 1 := ⟨m - 1, by omega⟩
  exact (callA_body (fn := Tryz.f6) (c := body_ Tryz.f6) q _ (by kernel_rfl) (by kernel_rfl) (by kernel_rfl)).trans (B6 _ (fun p0 p1 p2 => F12 q (by omega) p0 p1 p2) (fun p0 => F13 q (by omega) p0) (fun p0 p1 => F14 q (by omega) p0 p1) (fun p0 => F15 q (by omega) p0) (fun p0 => F16 q (by omega) p0) (fun p0 => F17 q (by omega) p0) (fun p0 p1 => F18 q (by omega) p0 p1) (fun p0 => F19 q (by omega) p0) (fun p0 p1 p2 => F20 q (by omega) p0 p1 p2) (fun p0 => F21 q (by omega) p0) (fun p0 => F22 q (by omega) p0) (fun p0 p1 => F23 q (by omega) p0 p1) (fun p0 p1 => F24 q (by omega) p0 p1) (fun p0 p1 => F25 q (by omega) p0 p1) (F26 q (by omega)) p0 p1 p2 p3)

noncomputable def L27_4 (p0 : (List S37)) (p1 : (List S37)) (z0 : Int) : Option (Int ⊕ ((Int × Bool) ⊕ Unit)) := (bif (ltI z0 (lenL p0)) then ((listAt p0 z0).bind fun x1 => ((listAt p1 z0).bind fun x2 => (bif (!allB [eqB x1.f0 x2.f0, allB [eqI x1.f1.f0 x2.f1.f0, eqI x1.f1.f1 x2.f1.f1, eqI x1.f1.f2 x2.f1.f2, eqI x1.f1.f3 x2.f1.f3]]) then (some (.inr (.inr ()))) else (some (.inl (addI .i64 z0 1)))))) else (some (.inr (.inl (z0, (ltI z0 (lenL p0)))))))
theorem L27_4_ok (C : Callee) (p0 : (List S37)) (p1 : (List S37)) (z0 : Int) : runs Tryz.prog C (cfg.fn 27) (finLoop ((cfg.fn 27).keep 4) ((cfg.fn 27).al 4)) [] (execA Tryz.prog C (cfg.fn 27) (nr Tryz.f27 [false, false, true, false, true, true]) ((fun z0 : Int => (mkE [(0, LL a37 p0), (1, LL a37 p1), (12, I (lenL p0)), (13, I z0)] [] 26)) z0)) = (L27_4 p0 p1 z0).map (Sum.elim (fun z => .inl ((fun z0 : Int => (mkE [(0, LL a37 p0), (1, LL a37 p1), (12, I (lenL p0)), (13, I z0)] [] 26)) z)) (fun x => .inr ((Sum.elim (fun (x : (Int × Bool)) => (.exit 0, (mkE [(0, LL a37 p0), (1, LL a37 p1), (12, I (lenL p0)), (13, I x.1), (14, B x.2)] [] 26))) (fun (x : Unit) => (.ret, (mkE [(4, B false)] [] 26)))) x))) := by
  unfold L27_4
  refine gS 0 ?_
  refine gR 4 (rg Tryz.f27 4) ?_
  refine se (mkE [(0, LL a37 p0), (1, LL a37 p1), (12, I (lenL p0)), (13, I z0), (14, B (ltI z0 (lenL p0)))] [] 26) ?_
  refine pN ?_
  refine pS ?_
  refine gS 5 ?_
  refine gC 14 (ltI z0 (lenL p0)) ?_ ?_
  · refine gK ?_
    refine pN ?_
    refine pS ?_
    refine gS 8 ?_
    refine gB 1 ?_
    refine gS 6 ?_
    refine gR 5 (rg Tryz.f27 5) ?_
    refine se (mkE [(0, LL a37 p0), (1, LL a37 p1), (5, I z0), (12, I (lenL p0)), (13, I z0)] [] 26) ?_
    refine pN ?_
    refine pS ?_
    refine gS 0 ?_
    refine gD 6 9 (rg Tryz.f27 6) [0, 1, 2, 3, 4, 5, 6, 7, 8] ?_
    refine dg 2 [(some 16, qe (LL a37 p0)), (some 17, qe (I z0))] ?_
    refine dv 18 (mkE [(17, I z0), (16, LL a37 p0), (0, LL a37 p0), (1, LL a37 p1), (5, I z0), (12, I (lenL p0)), (13, I z0)] [] 26) (addrE 22 38 5 a37 .i64 p0 z0) (fun x1 => ?_)
    refine dg 6 [(some 16, qe (LL a37 p0)), (some 17, qe (I z0)), (some 18, qe (.ia [S x1.f0, I x1.f1.f0, I x1.f1.f1, I x1.f1.f2, I x1.f1.f3] 0)), (some 19, qe (a37 x1)), (some 20, qe (LL a37 p1)), (some 21, qe (I z0))] ?_
    refine dv 22 (mkE [(21, I z0), (20, LL a37 p1), (0, LL a37 p0), (1, LL a37 p1), (5, I z0), (12, I (lenL p0)), (13, I z0)] [] 26) (addrE 22 38 5 a37 .i64 p1 z0) (fun x2 => ?_)
    refine dg 8 [(some 16, qe (LL a37 p0)), (some 17, qe (I z0)), (some 18, qe (.ia [S x1.f0, I x1.f1.f0, I x1.f1.f1, I x1.f1.f2, I x1.f1.f3] 0)), (some 19, qe (a37 x1)), (some 20, qe (LL a37 p1)), (some 21, qe (I z0)), (some 22, qe (.ia [S x2.f0, I x2.f1.f0, I x2.f1.f1, I x2.f1.f2, I x2.f1.f3] 0)), (some 23, qe (a37 x2))] ?_
    refine df 24 (B (!allB [eqB x1.f0 x2.f0, allB [eqI x1.f1.f0 x2.f1.f0, eqI x1.f1.f1 x2.f1.f1, eqI x1.f1.f2 x2.f1.f2, eqI x1.f1.f3 x2.f1.f3]])) (mkE [(23, a37 x2), (22, .ia [S x2.f0, I x2.f1.f0, I x2.f1.f1, I x2.f1.f2, I x2.f1.f3] 0), (21, I z0), (20, LL a37 p1), (19, a37 x1), (18, .ia [S x1.f0, I x1.f1.f0, I x1.f1.f1, I x1.f1.f2, I x1.f1.f3] 0), (17, I z0), (16, LL a37 p0), (0, LL a37 p0), (1, LL a37 p1), (5, I z0), (12, I (lenL p0)), (13, I z0)] [] 26) (neqE 38 (.tmp 19) (.tmp 23) [S x1.f0, I x1.f1.f0, I x1.f1.f1, I x1.f1.f2, I x1.f1.f3] [S x2.f0, I x2.f1.f0, I x2.f1.f1, I x2.f1.f2, I x2.f1.f3] [.string x1.f0, .int .i64 x1.f1.f0, .int .i64 x1.f1.f1, .int .i64 x1.f1.f2, .int .i64 x1.f1.f3] [.string x2.f0, .int .i64 x2.f1.f0, .int .i64 x2.f1.f1, .int .i64 x2.f1.f2, .int .i64 x2.f1.f3] [eqB x1.f0 x2.f0, allB [eqI x1.f1.f0 x2.f1.f0, eqI x1.f1.f1 x2.f1.f1, eqI x1.f1.f2 x2.f1.f2, eqI x1.f1.f3 x2.f1.f3]] (hb := (hb_of (hb_step 0 (by kernel_rfl) (by kernel_rfl) (hb_step 1 (by kernel_rfl) (fieldEq_sub 9998 [.int .i64 x1.f1.f0, .int .i64 x1.f1.f1, .int .i64 x1.f1.f2, .int .i64 x1.f1.f3] [.int .i64 x2.f1.f0, .int .i64 x2.f1.f1, .int .i64 x2.f1.f2, .int .i64 x2.f1.f3] [eqI x1.f1.f0 x2.f1.f0, eqI x1.f1.f1 x2.f1.f1, eqI x1.f1.f2 x2.f1.f2, eqI x1.f1.f3 x2.f1.f3] (by kernel_rfl) (by kernel_rfl) (by kernel_rfl) (by kernel_rfl) (by kernel_rfl) (by kernel_rfl)) (hb_end 2 (by kernel_rfl))))))) ?_
    refine de (mkE [(24, B (!allB [eqB x1.f0 x2.f0, allB [eqI x1.f1.f0 x2.f1.f0, eqI x1.f1.f1 x2.f1.f1, eqI x1.f1.f2 x2.f1.f2, eqI x1.f1.f3 x2.f1.f3]])), (23, a37 x2), (22, .ia [S x2.f0, I x2.f1.f0, I x2.f1.f1, I x2.f1.f2, I x2.f1.f3] 0), (21, I z0), (20, LL a37 p1), (19, a37 x1), (18, .ia [S x1.f0, I x1.f1.f0, I x1.f1.f1, I x1.f1.f2, I x1.f1.f3] 0), (17, I z0), (16, LL a37 p0), (0, LL a37 p0), (1, LL a37 p1), (5, I z0), (12, I (lenL p0)), (13, I z0)] [] 26) ?_
    refine se (mkE [(0, LL a37 p0), (1, LL a37 p1), (12, I (lenL p0)), (13, I z0), (24, B (!allB [eqB x1.f0 x2.f0, allB [eqI x1.f1.f0 x2.f1.f0, eqI x1.f1.f1 x2.f1.f1, eqI x1.f1.f2 x2.f1.f2, eqI x1.f1.f3 x2.f1.f3]]))] [] 26) ?_
    refine pN ?_
    refine pS ?_
    refine gC 24 (!allB [eqB x1.f0 x2.f0, allB [eqI x1.f1.f0 x2.f1.f0, eqI x1.f1.f1 x2.f1.f1, eqI x1.f1.f2 x2.f1.f2, eqI x1.f1.f3 x2.f1.f3]]) ?_ ?_
    · refine gS 0 ?_
      refine gR 7 (rg Tryz.f27 7) ?_
      refine se (mkE [(4, B false)] [] 26) ?_
      refine pN ?_
      refine pS ?_
      refine gE ?_
      exact pL
    · refine gK ?_
      refine pB ?_
      refine pN ?_
      refine pS ?_
      refine gR 8 (rg Tryz.f27 8) ?_
      refine se (mkE [(0, LL a37 p0), (1, LL a37 p1), (12, I (lenL p0)), (13, I (addI .i64 z0 1))] [] 26) ?_
      exact pL
  · refine gX 0 ?_
    exact pL
noncomputable def T27 (p0 : (List S37)) (p1 : (List S37)) : Option Bool := (bif (neI (lenL p0) (lenL p1)) then (some false) else ((iter (L27_4 p0 p1) 0).bind fun y3 => (Sum.elim (fun y3a => (some true)) (fun y3b => (some false)) y3)))
theorem B27 (C : Callee) (p0 : (List S37)) (p1 : (List S37)) : runs Tryz.prog C (cfg.fn 27) (finFn Tryz.prog (cfg.fn 27).byval Tryz.f27) [] (execA Tryz.prog C (cfg.fn 27) (nr Tryz.f27 []) (frame0 [LL a37 p0, LL a37 p1] 26 false)) = (T27 p0 p1).map B := by
  unfold T27
  refine gS 1 ?_
  refine gR 0 (rg Tryz.f27 0) ?_
  refine se (mkE [(0, LL a37 p0), (1, LL a37 p1)] [] 26) ?_
  refine pN ?_
  refine pS ?_
  refine gS 3 ?_
  refine gS 0 ?_
  refine gR 1 (rg Tryz.f27 1) ?_
  refine sg 1 (mkE [(6, LL a37 p0), (0, LL a37 p0), (1, LL a37 p1)] [] 26) ?_
  refine eo 7 (I (lenL p0)) (lenE 22 a37 p0) ?_
  refine sg 3 (mkE [(8, LL a37 p1), (7, I (lenL p0)), (6, LL a37 p0), (0, LL a37 p0), (1, LL a37 p1)] [] 26) ?_
  refine eo 9 (I (lenL p1)) (lenE 22 a37 p1) ?_
  refine se (mkE [(0, LL a37 p0), (1, LL a37 p1), (10, B (neI (lenL p0) (lenL p1)))] [] 26) ?_
  refine pN ?_
  refine pS ?_
  refine gC 10 (neI (lenL p0) (lenL p1)) ?_ ?_
  · refine gS 0 ?_
    refine gR 2 (rg Tryz.f27 2) ?_
    refine se (mkE [(4, B false)] [] 26) ?_
    refine pN ?_
    refine pS ?_
    refine gE ?_
    exact pL
  · refine gK ?_
    refine pN ?_
    refine pS ?_
    refine gS 9 ?_
    refine gS 4 ?_
    refine gR 3 (rg Tryz.f27 3) ?_
    refine sg 1 (mkE [(11, LL a37 p0), (0, LL a37 p0), (1, LL a37 p1), (10, B (neI (lenL p0) (lenL p1)))] [] 26) ?_
    refine eo 12 (I (lenL p0)) (lenE 22 a37 p0) ?_
    refine se (mkE [(0, LL a37 p0), (1, LL a37 p1), (12, I (lenL p0)), (13, I 0)] [] 26) ?_
    refine pN ?_
    refine pS ?_
    refine gB 0 ?_
    refine lo [(0, none), (1, none), (12, none), (13, none)] [] (L27_4 p0 p1) (fun z0 : Int => (mkE [(0, LL a37 p0), (1, LL a37 p1), (12, I (lenL p0)), (13, I z0)] [] 26)) (Sum.elim (fun (x : (Int × Bool)) => (.exit 0, (mkE [(0, LL a37 p0), (1, LL a37 p1), (12, I (lenL p0)), (13, I x.1), (14, B x.2)] [] 26))) (fun (x : Unit) => (.ret, (mkE [(4, B false)] [] 26)))) 0 (fun z => L27_4_ok C p0 p1 z) ?_
    intro y3
    refine ss y3 (Z := (Sum.elim (fun (x : (Int × Bool)) => (.exit 0, (mkE [(0, LL a37 p0), (1, LL a37 p1), (12, I (lenL p0)), (13, I x.1), (14, B x.2)] [] 26))) (fun (x : Unit) => (.ret, (mkE [(4, B false)] [] 26))))) (fun y3a => ?_) (fun y3b => ?_)
    · refine pH ?_
      refine pN ?_
      refine pS ?_
      refine gS 0 ?_
      refine gR 9 (rg Tryz.f27 9) ?_
      refine se (mkE [(4, B true)] [] 26) ?_
      refine pN ?_
      refine pS ?_
      refine gE ?_
      exact pL
    · exact pL
theorem F27 (m : Nat) (hm : 1 ≤ m) (p0 : (List S37)) (p1 : (List S37)) : callA Tryz.prog cfg m 27 [LL a37 p0, LL a37 p1] = (T27 p0 p1).map B := by
  obtain ⟨q, rfl⟩ : ∃ q, m = q + 1 := ⟨m - 1, by omega⟩
  exact (callA_body (fn := Tryz.f27) (c := body_ Tryz.f27) q _ (by kernel_rfl) (by kernel_rfl) (by kernel_rfl)).trans (B27 _ p0 p1)

noncomputable def T7 (p0 : S23) (p1 : S23) : Option Bool := (bif (eqS p0.f0 p1.f0) then (bif (eqI p0.f1 p1.f1) then (bif (eqI p0.f2 p1.f2) then ((T27 p0.f3 p1.f3).bind fun x1 => (some x1)) else (some false)) else (some false)) else (some false))
theorem B7 (C : Callee) (h27 : ∀ (p0 : (List S37)) (p1 : (List S37)), C 27 [LL a37 p0, LL a37 p1] = (T27 p0 p1).map B) (p0 : S23) (p1 : S23) : runs Tryz.prog C (cfg.fn 7) (finFn Tryz.prog (cfg.fn 7).byval Tryz.f7) [] (execA Tryz.prog C (cfg.fn 7) (nr Tryz.f7 []) (frame0 [a23 p0, a23 p1] 31 false)) = (T7 p0 p1).map B := by
  unfold T7
  refine gS 1 ?_
  refine gR 0 (rg Tryz.f7 0) ?_
  refine se (mkE [(2, .ba 16 0), (3, .ba 24 0)] [(16, .box [S p0.f0, I p0.f1, I p0.f2, LL a37 p0.f3] false), (24, .box [S p1.f0, I p1.f1, I p1.f2, LL a37 p1.f3] false)] 31) ?_
  refine pN ?_
  refine pS ?_
  refine gS 0 ?_
  refine gR 1 (rg Tryz.f7 1) ?_
  refine sg 6 (mkE [(10, B (eqS p0.f0 p1.f0)), (9, B (eqS p0.f0 p1.f0)), (8, S p1.f0), (7, .ba 24 0), (6, S p0.f0), (5, .ba 16 0), (2, .ba 16 0), (3, .ba 24 0)] [(16, .box [S p0.f0, I p0.f1, I p0.f2, LL a37 p0.f3] false), (24, .box [S p1.f0, I p1.f1, I p1.f2, LL a37 p1.f3] false)] 31) ?_
  refine sb 10 (eqS p0.f0 p1.f0) ?_ ?_
  · refine sg 13 (mkE [(17, B (eqI p0.f1 p1.f1)), (16, B (eqI p0.f1 p1.f1)), (15, B (eqI p0.f1 p1.f1)), (14, I p1.f1), (13, .ba 24 1), (12, I p0.f1), (11, .ba 16 1), (10, B true), (10, B (eqS p0.f0 p1.f0)), (9, B (eqS p0.f0 p1.f0)), (8, S p1.f0), (7, .ba 24 0), (6, S p0.f0), (5, .ba 16 0), (2, .ba 16 0), (3, .ba 24 0)] [(16, .box [S p0.f0, I p0.f1, I p0.f2, LL a37 p0.f3] false), (24, .box [S p1.f0, I p1.f1, I p1.f2, LL a37 p1.f3] false)] 31) ?_
    refine sb 17 (eqI p0.f1 p1.f1) ?_ ?_
    · refine sg 20 (mkE [(24, B (eqI p0.f2 p1.f2)), (23, B (eqI p0.f2 p1.f2)), (22, B (eqI p0.f2 p1.f2)), (21, I p1.f2), (20, .ba 24 2), (19, I p0.f2), (18, .ba 16 2), (17, B true), (17, B (eqI p0.f1 p1.f1)), (16, B (eqI p0.f1 p1.f1)), (15, B (eqI p0.f1 p1.f1)), (14, I p1.f1), (13, .ba 24 1), (12, I p0.f1), (11, .ba 16 1), (10, B true), (10, B (eqS p0.f0 p1.f0)), (9, B (eqS p0.f0 p1.f0)), (8, S p1.f0), (7, .ba 24 0), (6, S p0.f0), (5, .ba 16 0), (2, .ba 16 0), (3, .ba 24 0)] [(16, .box [S p0.f0, I p0.f1, I p0.f2, LL a37 p0.f3] false), (24, .box [S p1.f0, I p1.f1, I p1.f2, LL a37 p1.f3] false)] 31) ?_
      refine sb 24 (eqI p0.f2 p1.f2) ?_ ?_
      · refine sg 24 (mkE [(28, LL a37 p1.f3), (27, .ba 24 3), (26, LL a37 p0.f3), (25, .ba 16 3), (24, B true), (24, B (eqI p0.f2 p1.f2)), (23, B (eqI p0.f2 p1.f2)), (22, B (eqI p0.f2 p1.f2)), (21, I p1.f2), (20, .ba 24 2), (19, I p0.f2), (18, .ba 16 2), (17, B true), (17, B (eqI p0.f1 p1.f1)), (16, B (eqI p0.f1 p1.f1)), (15, B (eqI p0.f1 p1.f1)), (14, I p1.f1), (13, .ba 24 1), (12, I p0.f1), (11, .ba 16 1), (10, B true), (10, B (eqS p0.f0 p1.f0)), (9, B (eqS p0.f0 p1.f0)), (8, S p1.f0), (7, .ba 24 0), (6, S p0.f0), (5, .ba 16 0), (2, .ba 16 0), (3, .ba 24 0)] [(16, .box [S p0.f0, I p0.f1, I p0.f2, LL a37 p0.f3] false), (24, .box [S p1.f0, I p1.f1, I p1.f2, LL a37 p1.f3] false)] 31) ?_
        refine co 29 [] (h27 p0.f3 p1.f3) (fun x1 => ?_)
        refine se (mkE [(4, B x1)] [] 31) ?_
        refine pN ?_
        refine pS ?_
        refine gE ?_
        exact pL
      · refine se (mkE [(4, B false)] [] 31) ?_
        refine pN ?_
        refine pS ?_
        refine gE ?_
        exact pL
    · refine se (mkE [(4, B false)] [] 31) ?_
      refine pN ?_
      refine pS ?_
      refine gE ?_
      exact pL
  · refine se (mkE [(4, B false)] [] 31) ?_
    refine pN ?_
    refine pS ?_
    refine gE ?_
    exact pL
theorem F7 (m : Nat) (hm : 2 ≤ m) (p0 : S23) (p1 : S23) : callA Tryz.prog cfg m 7 [a23 p0, a23 p1] = (T7 p0 p1).map B := by
  obtain ⟨q, rfl⟩ : ∃ q, m = q + 1 := ⟨m - 1, by omega⟩
  exact (callA_body (fn := Tryz.f7) (c := body_ Tryz.f7) q _ (by kernel_rfl) (by kernel_rfl) (by kernel_rfl)).trans (B7 _ (fun p0 p1 => F27 q (by omega) p0 p1) p0 p1)

noncomputable def T3 (p0 : S23) (p1 : S25) (p2 : Int) (p3 : Int) : Option Bool := ((T5 p0).bind fun x1 => ((T6 p0 p1 p2 p3).bind fun x2 => (bif x2 then ((T7 p0 x1).bind fun x3 => (some x3)) else (some false))))
theorem B3 (C : Callee) (h5 : ∀ (p0 : S23), C 5 [a23 p0] = (T5 p0).map a23) (h6 : ∀ (p0 : S23) (p1 : S25) (p2 : Int) (p3 : Int), C 6 [a23 p0, a25 p1, I p2, I p3] = (T6 p0 p1 p2 p3).map B) (h7 : ∀ (p0 : S23) (p1 : S23), C 7 [a23 p0, a23 p1] = (T7 p0 p1).map B) (p0 : S23) (p1 : S25) (p2 : Int) (p3 : Int) : runs Tryz.prog C (cfg.fn 3) (finFn Tryz.prog (cfg.fn 3).byval Tryz.f3) [] (execA Tryz.prog C (cfg.fn 3) (nr Tryz.f3 []) (frame0 [a23 p0, a25 p1, I p2, I p3] 22 false)) = (T3 p0 p1 p2 p3).map B := by
  unfold T3
  refine gS 1 ?_
  refine gR 0 (rg Tryz.f3 0) ?_
  refine se (mkE [(2, I p2), (3, I p3), (4, .ba 32 0), (5, .ba 40 0)] [(32, .box [S p0.f0, I p0.f1, I p0.f2, LL a37 p0.f3] false), (40, .box [I p1.f0, I p1.f1, I p1.f2, I p1.f3] false)] 22) ?_
  refine pN ?_
  refine pS ?_
  refine gS 2 ?_
  refine gR 1 (rg Tryz.f3 1) ?_
  refine sg 1 (mkE [(10, a23 p0), (2, I p2), (3, I p3), (4, .ba 32 0), (5, .ba 40 0)] [(32, .box [S p0.f0, I p0.f1, I p0.f2, LL a37 p0.f3] false), (40, .box [I p1.f0, I p1.f1, I p1.f2, I p1.f3] false)] 22) ?_
  refine co 11 [] (h5 p0) (fun x1 => ?_)
  refine se (mkE [(2, I p2), (3, I p3), (4, .ba 32 0), (5, .ba 40 0), (9, .ba 72 0)] [(32, .box [S p0.f0, I p0.f1, I p0.f2, LL a37 p0.f3] false), (40, .box [I p1.f0, I p1.f1, I p1.f2, I p1.f3] false), (72, .box [S x1.f0, I x1.f1, I x1.f2, LL a37 x1.f3] false)] 22) ?_
  refine pN ?_
  refine pS ?_
  refine gS 0 ?_
  refine gR 2 (rg Tryz.f3 2) ?_
  refine sg 4 (mkE [(15, I p3), (14, I p2), (13, a25 p1), (12, a23 p0), (2, I p2), (3, I p3), (4, .ba 32 0), (5, .ba 40 0), (9, .ba 72 0)] [(32, .box [S p0.f0, I p0.f1, I p0.f2, LL a37 p0.f3] false), (40, .box [I p1.f0, I p1.f1, I p1.f2, I p1.f3] false), (72, .box [S x1.f0, I x1.f1, I x1.f2, LL a37 x1.f3] false)] 22) ?_
  refine co 16 [] (h6 p0 p1 p2 p3) (fun x2 => ?_)
  refine sg 6 (mkE [(17, B x2), (16, B x2), (15, I p3), (14, I p2), (13, a25 p1), (12, a23 p0), (2, I p2), (3, I p3), (4, .ba 32 0), (5, .ba 40 0), (9, .ba 72 0)] [(32, .box [S p0.f0, I p0.f1, I p0.f2, LL a37 p0.f3] false), (40, .box [I p1.f0, I p1.f1, I p1.f2, I p1.f3] false), (72, .box [S x1.f0, I x1.f1, I x1.f2, LL a37 x1.f3] false)] 22) ?_
  refine sb 17 x2 ?_ ?_
  · refine sg 8 (mkE [(19, a23 x1), (18, a23 p0), (17, B true), (17, B x2), (16, B x2), (15, I p3), (14, I p2), (13, a25 p1), (12, a23 p0), (2, I p2), (3, I p3), (4, .ba 32 0), (5, .ba 40 0), (9, .ba 72 0)] [(32, .box [S p0.f0, I p0.f1, I p0.f2, LL a37 p0.f3] false), (40, .box [I p1.f0, I p1.f1, I p1.f2, I p1.f3] false), (72, .box [S x1.f0, I x1.f1, I x1.f2, LL a37 x1.f3] false)] 22) ?_
    refine co 20 [] (h7 p0 x1) (fun x3 => ?_)
    refine se (mkE [(8, B x3)] [] 22) ?_
    refine pN ?_
    refine pS ?_
    refine gE ?_
    exact pL
  · refine se (mkE [(8, B false)] [] 22) ?_
    refine pN ?_
    refine pS ?_
    refine gE ?_
    exact pL
theorem F3 (m : Nat) (hm : 12 ≤ m) (p0 : S23) (p1 : S25) (p2 : Int) (p3 : Int) : callA Tryz.prog cfg m 3 [a23 p0, a25 p1, I p2, I p3] = (T3 p0 p1 p2 p3).map B := by
  obtain ⟨q, rfl⟩ : ∃ q, m = q + 1 := ⟨m - 1, by omega⟩
  exact (callA_body (fn := Tryz.f3) (c := body_ Tryz.f3) q _ (by kernel_rfl) (by kernel_rfl) (by kernel_rfl)).trans (B3 _ (fun p0 => F5 q (by omega) p0) (fun p0 p1 p2 p3 => F6 q (by omega) p0 p1 p2 p3) (fun p0 p1 => F7 q (by omega) p0 p1) p0 p1 p2 p3)

end Go.Abs.TU
