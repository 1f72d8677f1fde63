import Derived.Test.YtpakkikhfkhebaaSTSp2
set_option maxRecDepth 100000
set_option linter.unusedVariables false
namespace Go.Abs.TS
open Go.RowKit Go.Proofs Go.Abs
noncomputable def T5 (p0 : S23) (p1 : Int) (p2 : Int) : Option Bool := ((T8 p0 p1 p2).bind fun x1 => ((T9 p0).bind fun x2 => ((T10 p0).bind fun x3 => ((T11 p0).bind fun x4 => ((T12 p0).bind fun x5 => (bif (neI x5 x4) then (some false) else (bif (neI x3.2 x4) then (some false) else (((bif (ltI p1 (-100000)) then ((T14 true 1).bind fun x6 => ((T13 ([x4, x6] : List Int)).bind fun x7 => (some x7))) else (bif (ltI 100000 p1) then ((T14 true 1).bind fun x8 => ((T13 ([x4, x8] : List Int)).bind fun x9 => (some x9))) else (bif (ltI p2 (-100000)) then ((T14 true 1).bind fun x10 => ((T13 ([x4, x10] : List Int)).bind fun x11 => (some x11))) else ((T14 (ltI 100000 p2) 1).bind fun x12 => ((T13 ([x4, x12] : List Int)).bind fun x13 => (some x13)))))) : Option Int).bind fun y14 => (bif (eqI y14 0) then ((T15 p0 p1 p2).bind fun x15 => (bif (neI x1.2.2 y14) then (some false) else (bif (!eqS x1.1 x15.1) then (some false) else (bif (x1.2.1 != x15.2) then (some false) else (bif (neI x4 0) then (bif (eqI x2.2 x4) then (bif (eqI (lenL x2.1) 0) then (bif (eqI (lenL x3.1) 0) then ((T16).bind fun x16 => (some x16)) else (some false)) else (some false)) else (some false)) else ((T18 p0).bind fun x17 => ((T17 x17).bind fun x18 => (bif (eqI x2.2 x18.2) then ((T19 x2.1 x18.1).bind fun x19 => (bif x19 then ((T21 p0).bind fun x20 => ((T20 x3.1 x20).bind fun x21 => (bif x21 then ((T16).bind fun x22 => (some x22)) else (some false)))) else (some false))) else (some false))))))))) else (bif (neI x1.2.2 y14) then (some false) else (bif (!eqS x1.1 (ByteArray.mk #[])) then (some false) else (bif (x1.2.1 != false) then (some false) else (bif (neI x4 0) then (bif (eqI x2.2 x4) then (bif (eqI (lenL x2.1) 0) then (bif (eqI (lenL x3.1) 0) then ((T16).bind fun x23 => (some x23)) else (some false)) else (some false)) else (some false)) else ((T18 p0).bind fun x24 => ((T17 x24).bind fun x25 => (bif (eqI x2.2 x25.2) then ((T19 x2.1 x25.1).bind fun x26 => (bif x26 then ((T21 p0).bind fun x27 => ((T20 x3.1 x27).bind fun x28 => (bif x28 then ((T16).bind fun x29 => (some x29)) else (some false)))) else (some false))) else (some false)))))))))))))))))
theorem B5 (C : Callee) (h10 : ∀ (p0 : S23), C 10 [a23 p0] = (T10 p0).map (fun r => AV.tup [(fun l => AV.fr 9 1 (List.map S l)) r.1, I r.2])) (h11 : ∀ (p0 : S23), C 11 [a23 p0] = (T11 p0).map I) (h12 : ∀ (p0 : S23), C 12 [a23 p0] = (T12 p0).map I) (h13 : ∀ (p0 : (List Int)), C 13 [LL I p0] = (T13 p0).map I) (h14 : ∀ (p0 : Bool) (p1 : Int), C 14 [B p0, I p1] = (T14 p0 p1).map I) (h15 : ∀ (p0 : S23) (p1 : Int) (p2 : Int), C 15 [a23 p0, I p1, I p2] = (T15 p0 p1 p2).map (fun r => AV.tup [S r.1, B r.2])) (h16 : C 16 [] = (T16).map B) (h17 : ∀ (p0 : (List S49)), C 17 [LL a49 p0] = (T17 p0).map (fun r => AV.tup [(LL a49) r.1, I r.2])) (h18 : ∀ (p0 : S23), C 18 [a23 p0] = (T18 p0).map (fun l => AV.fr 50 5 (List.map a49 l))) (h19 : ∀ (p0 : (List S49)) (p1 : (List S49)), C 19 [LL a49 p0, LL a49 p1] = (T19 p0 p1).map B) (h20 : ∀ (p0 : (List ByteArray)) (p1 : (List ByteArray)), C 20 [LL S p0, LL S p1] = (T20 p0 p1).map B) (h21 : ∀ (p0 : S23), C 21 [a23 p0] = (T21 p0).map (fun l => AV.fr 9 1 (List.map S l))) (h8 : ∀ (p0 : S23) (p1 : Int) (p2 : Int), C 8 [a23 p0, I p1, I p2] = (T8 p0 p1 p2).map (fun r => AV.tup [S r.1, B r.2.1, I r.2.2])) (h9 : ∀ (p0 : S23), C 9 [a23 p0] = (T9 p0).map (fun r => AV.tup [(fun l => AV.fr 50 5 (List.map a49 l)) r.1, I r.2])) (p0 : S23) (p1 : Int) (p2 : Int) : runs Try.prog C (cfg.fn 5) (finFn Try.prog (cfg.fn 5).byval Try.f5) [] (execA Try.prog C (cfg.fn 5) (nr Try.f5 []) (frame0 [a23 p0, I p1, I p2] 130 false)) = (T5 p0 p1 p2).map B := by
  unfold T5
  refine gS 1 ?_
  refine gR 0 (rg Try.f5 0) ?_
  refine se (mkE [(1, I p1), (2, I p2), (3, .ba 24 0)] [(24, .box [S p0.f0, I p0.f1, I p0.f2, LL a31 p0.f3] false)] 130) ?_
  refine pN ?_
  refine pS ?_
  refine gS 2 ?_
  refine gR 1 (rg Try.f5 1) ?_
  refine sg 3 (mkE [(23, I p2), (22, I p1), (21, a23 p0), (1, I p1), (2, I p2), (3, .ba 24 0)] [(24, .box [S p0.f0, I p0.f1, I p0.f2, LL a31 p0.f3] false)] 130) ?_
  refine co 24 [] (h8 p0 p1 p2) (fun x1 => ?_)
  refine se (mkE [(1, I p1), (2, I p2), (3, .ba 24 0), (7, S x1.1), (8, B x1.2.1), (9, I x1.2.2)] [(24, .box [S p0.f0, I p0.f1, I p0.f2, LL a31 p0.f3] false)] 130) ?_
  refine pN ?_
  refine pS ?_
  refine gS 3 ?_
  refine gR 2 (rg Try.f5 2) ?_
  refine sg 1 (mkE [(29, a23 p0), (1, I p1), (2, I p2), (3, .ba 24 0), (7, S x1.1), (8, B x1.2.1), (9, I x1.2.2)] [(24, .box [S p0.f0, I p0.f1, I p0.f2, LL a31 p0.f3] false)] 130) ?_
  refine co 30 [] (h9 p0) (fun x2 => ?_)
  refine se (mkE [(1, I p1), (2, I p2), (3, .ba 24 0), (7, S x1.1), (8, B x1.2.1), (9, I x1.2.2), (10, .own 240 0), (11, I x2.2)] [(24, .box [S p0.f0, I p0.f1, I p0.f2, LL a31 p0.f3] false), (240, RR 50 5 a49 x2.1 0 false)] 130) ?_
  refine pN ?_
  refine pS ?_
  refine gS 4 ?_
  refine gR 3 (rg Try.f5 3) ?_
  refine sg 1 (mkE [(34, a23 p0), (1, I p1), (2, I p2), (3, .ba 24 0), (7, S x1.1), (8, B x1.2.1), (9, I x1.2.2), (10, .own 240 0), (11, I x2.2)] [(24, .box [S p0.f0, I p0.f1, I p0.f2, LL a31 p0.f3] false), (240, RR 50 5 a49 x2.1 0 false)] 130) ?_
  refine co 35 [] (h10 p0) (fun x3 => ?_)
  refine se (mkE [(1, I p1), (2, I p2), (3, .ba 24 0), (7, S x1.1), (8, B x1.2.1), (9, I x1.2.2), (10, .own 240 0), (11, I x2.2), (12, .own 280 0), (13, I x3.2)] [(24, .box [S p0.f0, I p0.f1, I p0.f2, LL a31 p0.f3] false), (240, RR 50 5 a49 x2.1 0 false), (280, RR 9 1 S x3.1 0 false)] 130) ?_
  refine pN ?_
  refine pS ?_
  refine gS 5 ?_
  refine gR 4 (rg Try.f5 4) ?_
  refine sg 1 (mkE [(38, a23 p0), (1, I p1), (2, I p2), (3, .ba 24 0), (7, S x1.1), (8, B x1.2.1), (9, I x1.2.2), (10, .own 240 0), (11, I x2.2), (12, .own 280 0), (13, I x3.2)] [(24, .box [S p0.f0, I p0.f1, I p0.f2, LL a31 p0.f3] false), (240, RR 50 5 a49 x2.1 0 false), (280, RR 9 1 S x3.1 0 false)] 130) ?_
  refine co 39 [] (h11 p0) (fun x4 => ?_)
  refine se (mkE [(1, I p1), (2, I p2), (3, .ba 24 0), (7, S x1.1), (8, B x1.2.1), (9, I x1.2.2), (10, .own 240 0), (11, I x2.2), (12, .own 280 0), (13, I x3.2), (14, I x4)] [(24, .box [S p0.f0, I p0.f1, I p0.f2, LL a31 p0.f3] false), (240, RR 50 5 a49 x2.1 0 false), (280, RR 9 1 S x3.1 0 false)] 130) ?_
  refine pN ?_
  refine pS ?_
  refine gS 7 ?_
  refine gS 0 ?_
  refine gR 5 (rg Try.f5 5) ?_
  refine sg 1 (mkE [(40, a23 p0), (1, I p1), (2, I p2), (3, .ba 24 0), (7, S x1.1), (8, B x1.2.1), (9, I x1.2.2), (10, .own 240 0), (11, I x2.2), (12, .own 280 0), (13, I x3.2), (14, I x4)] [(24, .box [S p0.f0, I p0.f1, I p0.f2, LL a31 p0.f3] false), (240, RR 50 5 a49 x2.1 0 false), (280, RR 9 1 S x3.1 0 false)] 130) ?_
  refine co 41 [] (h12 p0) (fun x5 => ?_)
  refine sg 5 (mkE [(44, B (neI x5 x4)), (43, B (neI x5 x4)), (42, I x4), (41, I x5), (40, a23 p0), (1, I p1), (2, I p2), (3, .ba 24 0), (7, S x1.1), (8, B x1.2.1), (9, I x1.2.2), (10, .own 240 0), (11, I x2.2), (12, .own 280 0), (13, I x3.2), (14, I x4)] [(24, .box [S p0.f0, I p0.f1, I p0.f2, LL a31 p0.f3] false), (240, RR 50 5 a49 x2.1 0 false), (280, RR 9 1 S x3.1 0 false)] 130) ?_
  refine sb 44 (neI x5 x4) ?_ ?_
  · refine se (mkE [(1, I p1), (2, I p2), (3, .ba 24 0), (7, S x1.1), (8, B x1.2.1), (9, I x1.2.2), (10, .own 240 0), (11, I x2.2), (12, .own 280 0), (14, I x4), (48, B true)] [(24, .box [S p0.f0, I p0.f1, I p0.f2, LL a31 p0.f3] false), (240, RR 50 5 a49 x2.1 0 false), (280, RR 9 1 S x3.1 0 false)] 130) ?_
    refine pN ?_
    refine pS ?_
    refine gT (.tmp 48) ?_
    refine gS 0 ?_
    refine gR 6 (rg Try.f5 6) ?_
    refine se (mkE [(6, B false)] [] 130) ?_
    refine pN ?_
    refine pS ?_
    refine gE ?_
    exact pL
  · refine se (mkE [(1, I p1), (2, I p2), (3, .ba 24 0), (7, S x1.1), (8, B x1.2.1), (9, I x1.2.2), (10, .own 240 0), (11, I x2.2), (12, .own 280 0), (14, I x4), (48, B (neI x3.2 x4))] [(24, .box [S p0.f0, I p0.f1, I p0.f2, LL a31 p0.f3] false), (240, RR 50 5 a49 x2.1 0 false), (280, RR 9 1 S x3.1 0 false)] 130) ?_
    refine pN ?_
    refine pS ?_
    refine gC 48 (neI x3.2 x4) ?_ ?_
    · refine gS 0 ?_
      refine gR 6 (rg Try.f5 6) ?_
      refine se (mkE [(6, B false)] [] 130) ?_
      refine pN ?_
      refine pS ?_
      refine gE ?_
      exact pL
    · refine gK ?_
      refine pN ?_
      refine pS ?_
      refine jS 8 ((bif (ltI p1 (-100000)) then ((T14 true 1).bind fun x6 => ((T13 ([x4, x6] : List Int)).bind fun x7 => (some x7))) else (bif (ltI 100000 p1) then ((T14 true 1).bind fun x8 => ((T13 ([x4, x8] : List Int)).bind fun x9 => (some x9))) else (bif (ltI p2 (-100000)) then ((T14 true 1).bind fun x10 => ((T13 ([x4, x10] : List Int)).bind fun x11 => (some x11))) else ((T14 (ltI 100000 p2) 1).bind fun x12 => ((T13 ([x4, x12] : List Int)).bind fun x13 => (some x13)))))) : Option Int) (fun (x : Int) => (.normal, (mkE [(1, I p1), (2, I p2), (3, .ba 24 0), (7, S x1.1), (8, B x1.2.1), (9, I x1.2.2), (10, .own 240 0), (11, I x2.2), (12, .own 280 0), (14, I x4), (15, I x)] [(24, .box [S p0.f0, I p0.f1, I p0.f2, LL a31 p0.f3] false), (240, RR 50 5 a49 x2.1 0 false), (280, RR 9 1 S x3.1 0 false)] 130))) ?_ (fun y14 => ?_)
      · refine gR 7 (rg Try.f5 7) ?_
        refine sg 4 (mkE [(52, B (ltI p1 (-100000))), (51, B (ltI p1 (-100000))), (50, I p1), (49, I x4), (1, I p1), (2, I p2), (3, .ba 24 0), (7, S x1.1), (8, B x1.2.1), (9, I x1.2.2), (10, .own 240 0), (11, I x2.2), (12, .own 280 0), (14, I x4), (48, B (neI x3.2 x4))] [(24, .box [S p0.f0, I p0.f1, I p0.f2, LL a31 p0.f3] false), (240, RR 50 5 a49 x2.1 0 false), (280, RR 9 1 S x3.1 0 false)] 130) ?_
        refine sb 52 (ltI p1 (-100000)) ?_ ?_
        · refine sg 15 (mkE [(63, B true), (62, .und), (61, .und), (60, B true), (59, B true), (58, .und), (57, .und), (56, B true), (55, B true), (54, .und), (53, .und), (52, B true), (52, B (ltI p1 (-100000))), (51, B (ltI p1 (-100000))), (50, I p1), (49, I x4), (1, I p1), (2, I p2), (3, .ba 24 0), (7, S x1.1), (8, B x1.2.1), (9, I x1.2.2), (10, .own 240 0), (11, I x2.2), (12, .own 280 0), (14, I x4), (48, B (neI x3.2 x4))] [(24, .box [S p0.f0, I p0.f1, I p0.f2, LL a31 p0.f3] false), (240, RR 50 5 a49 x2.1 0 false), (280, RR 9 1 S x3.1 0 false)] 130) ?_
          refine co 64 [] (h14 true 1) (fun x6 => ?_)
          refine sg 17 (mkE [(65, .own 520 0), (64, I x6), (63, B true), (62, .und), (61, .und), (60, B true), (59, B true), (58, .und), (57, .und), (56, B true), (55, B true), (54, .und), (53, .und), (52, B true), (52, B (ltI p1 (-100000))), (51, B (ltI p1 (-100000))), (50, I p1), (49, I x4), (1, I p1), (2, I p2), (3, .ba 24 0), (7, S x1.1), (8, B x1.2.1), (9, I x1.2.2), (10, .own 240 0), (11, I x2.2), (12, .own 280 0), (14, I x4), (48, B (neI x3.2 x4))] [(520, RR 33 1 I ([x4, x6] : List Int) 0 false), (24, .box [S p0.f0, I p0.f1, I p0.f2, LL a31 p0.f3] false), (240, RR 50 5 a49 x2.1 0 false), (280, RR 9 1 S x3.1 0 false)] 130) ?_
          refine co 66 [520] (h13 ([x4, x6] : List Int)) (fun x7 => ?_)
          refine se (mkE [(1, I p1), (2, I p2), (3, .ba 24 0), (7, S x1.1), (8, B x1.2.1), (9, I x1.2.2), (10, .own 240 0), (11, I x2.2), (12, .own 280 0), (14, I x4), (15, I x7)] [(24, .box [S p0.f0, I p0.f1, I p0.f2, LL a31 p0.f3] false), (240, RR 50 5 a49 x2.1 0 false), (280, RR 9 1 S x3.1 0 false)] 130) ?_
          refine pG (mkE [(1, I p1), (2, I p2), (3, .ba 24 0), (7, S x1.1), (8, B x1.2.1), (9, I x1.2.2), (10, .own 240 0), (11, I x2.2), (12, .own 280 0), (14, I x4), (15, I x7)] [(24, .box [S p0.f0, I p0.f1, I p0.f2, LL a31 p0.f3] false), (240, RR 50 5 a49 x2.1 0 false), (280, RR 9 1 S x3.1 0 false)] 130) ?_
          exact pL
        · refine sg 8 (mkE [(56, B (ltI 100000 p1)), (55, B (ltI 100000 p1)), (54, B (ltI 100000 p1)), (53, I p1), (52, B false), (52, B (ltI p1 (-100000))), (51, B (ltI p1 (-100000))), (50, I p1), (49, I x4), (1, I p1), (2, I p2), (3, .ba 24 0), (7, S x1.1), (8, B x1.2.1), (9, I x1.2.2), (10, .own 240 0), (11, I x2.2), (12, .own 280 0), (14, I x4), (48, B (neI x3.2 x4))] [(24, .box [S p0.f0, I p0.f1, I p0.f2, LL a31 p0.f3] false), (240, RR 50 5 a49 x2.1 0 false), (280, RR 9 1 S x3.1 0 false)] 130) ?_
          refine sb 56 (ltI 100000 p1) ?_ ?_
          · refine sg 15 (mkE [(63, B true), (62, .und), (61, .und), (60, B true), (59, B true), (58, .und), (57, .und), (56, B true), (56, B (ltI 100000 p1)), (55, B (ltI 100000 p1)), (54, B (ltI 100000 p1)), (53, I p1), (52, B false), (52, B (ltI p1 (-100000))), (51, B (ltI p1 (-100000))), (50, I p1), (49, I x4), (1, I p1), (2, I p2), (3, .ba 24 0), (7, S x1.1), (8, B x1.2.1), (9, I x1.2.2), (10, .own 240 0), (11, I x2.2), (12, .own 280 0), (14, I x4), (48, B (neI x3.2 x4))] [(24, .box [S p0.f0, I p0.f1, I p0.f2, LL a31 p0.f3] false), (240, RR 50 5 a49 x2.1 0 false), (280, RR 9 1 S x3.1 0 false)] 130) ?_
            refine co 64 [] (h14 true 1) (fun x8 => ?_)
            refine sg 17 (mkE [(65, .own 520 0), (64, I x8), (63, B true), (62, .und), (61, .und), (60, B true), (59, B true), (58, .und), (57, .und), (56, B true), (56, B (ltI 100000 p1)), (55, B (ltI 100000 p1)), (54, B (ltI 100000 p1)), (53, I p1), (52, B false), (52, B (ltI p1 (-100000))), (51, B (ltI p1 (-100000))), (50, I p1), (49, I x4), (1, I p1), (2, I p2), (3, .ba 24 0), (7, S x1.1), (8, B x1.2.1), (9, I x1.2.2), (10, .own 240 0), (11, I x2.2), (12, .own 280 0), (14, I x4), (48, B (neI x3.2 x4))] [(520, RR 33 1 I ([x4, x8] : List Int) 0 false), (24, .box [S p0.f0, I p0.f1, I p0.f2, LL a31 p0.f3] false), (240, RR 50 5 a49 x2.1 0 false), (280, RR 9 1 S x3.1 0 false)] 130) ?_
            refine co 66 [520] (h13 ([x4, x8] : List Int)) (fun x9 => ?_)
            refine se (mkE [(1, I p1), (2, I p2), (3, .ba 24 0), (7, S x1.1), (8, B x1.2.1), (9, I x1.2.2), (10, .own 240 0), (11, I x2.2), (12, .own 280 0), (14, I x4), (15, I x9)] [(24, .box [S p0.f0, I p0.f1, I p0.f2, LL a31 p0.f3] false), (240, RR 50 5 a49 x2.1 0 false), (280, RR 9 1 S x3.1 0 false)] 130) ?_
            refine pG (mkE [(1, I p1), (2, I p2), (3, .ba 24 0), (7, S x1.1), (8, B x1.2.1), (9, I x1.2.2), (10, .own 240 0), (11, I x2.2), (12, .own 280 0), (14, I x4), (15, I x9)] [(24, .box [S p0.f0, I p0.f1, I p0.f2, LL a31 p0.f3] false), (240, RR 50 5 a49 x2.1 0 false), (280, RR 9 1 S x3.1 0 false)] 130) ?_
            exact pL
          · refine sg 12 (mkE [(60, B (ltI p2 (-100000))), (59, B (ltI p2 (-100000))), (58, B (ltI p2 (-100000))), (57, I p2), (56, B false), (56, B (ltI 100000 p1)), (55, B (ltI 100000 p1)), (54, B (ltI 100000 p1)), (53, I p1), (52, B false), (52, B (ltI p1 (-100000))), (51, B (ltI p1 (-100000))), (50, I p1), (49, I x4), (1, I p1), (2, I p2), (3, .ba 24 0), (7, S x1.1), (8, B x1.2.1), (9, I x1.2.2), (10, .own 240 0), (11, I x2.2), (12, .own 280 0), (14, I x4), (48, B (neI x3.2 x4))] [(24, .box [S p0.f0, I p0.f1, I p0.f2, LL a31 p0.f3] false), (240, RR 50 5 a49 x2.1 0 false), (280, RR 9 1 S x3.1 0 false)] 130) ?_
            refine sb 60 (ltI p2 (-100000)) ?_ ?_
            · refine sg 15 (mkE [(63, B true), (62, .und), (61, .und), (60, B true), (60, B (ltI p2 (-100000))), (59, B (ltI p2 (-100000))), (58, B (ltI p2 (-100000))), (57, I p2), (56, B false), (56, B (ltI 100000 p1)), (55, B (ltI 100000 p1)), (54, B (ltI 100000 p1)), (53, I p1), (52, B false), (52, B (ltI p1 (-100000))), (51, B (ltI p1 (-100000))), (50, I p1), (49, I x4), (1, I p1), (2, I p2), (3, .ba 24 0), (7, S x1.1), (8, B x1.2.1), (9, I x1.2.2), (10, .own 240 0), (11, I x2.2), (12, .own 280 0), (14, I x4), (48, B (neI x3.2 x4))] [(24, .box [S p0.f0, I p0.f1, I p0.f2, LL a31 p0.f3] false), (240, RR 50 5 a49 x2.1 0 false), (280, RR 9 1 S x3.1 0 false)] 130) ?_
              refine co 64 [] (h14 true 1) (fun x10 => ?_)
              refine sg 17 (mkE [(65, .own 520 0), (64, I x10), (63, B true), (62, .und), (61, .und), (60, B true), (60, B (ltI p2 (-100000))), (59, B (ltI p2 (-100000))), (58, B (ltI p2 (-100000))), (57, I p2), (56, B false), (56, B (ltI 100000 p1)), (55, B (ltI 100000 p1)), (54, B (ltI 100000 p1)), (53, I p1), (52, B false), (52, B (ltI p1 (-100000))), (51, B (ltI p1 (-100000))), (50, I p1), (49, I x4), (1, I p1), (2, I p2), (3, .ba 24 0), (7, S x1.1), (8, B x1.2.1), (9, I x1.2.2), (10, .own 240 0), (11, I x2.2), (12, .own 280 0), (14, I x4), (48, B (neI x3.2 x4))] [(520, RR 33 1 I ([x4, x10] : List Int) 0 false), (24, .box [S p0.f0, I p0.f1, I p0.f2, LL a31 p0.f3] false), (240, RR 50 5 a49 x2.1 0 false), (280, RR 9 1 S x3.1 0 false)] 130) ?_
              refine co 66 [520] (h13 ([x4, x10] : List Int)) (fun x11 => ?_)
              refine se (mkE [(1, I p1), (2, I p2), (3, .ba 24 0), (7, S x1.1), (8, B x1.2.1), (9, I x1.2.2), (10, .own 240 0), (11, I x2.2), (12, .own 280 0), (14, I x4), (15, I x11)] [(24, .box [S p0.f0, I p0.f1, I p0.f2, LL a31 p0.f3] false), (240, RR 50 5 a49 x2.1 0 false), (280, RR 9 1 S x3.1 0 false)] 130) ?_
              refine pG (mkE [(1, I p1), (2, I p2), (3, .ba 24 0), (7, S x1.1), (8, B x1.2.1), (9, I x1.2.2), (10, .own 240 0), (11, I x2.2), (12, .own 280 0), (14, I x4), (15, I x11)] [(24, .box [S p0.f0, I p0.f1, I p0.f2, LL a31 p0.f3] false), (240, RR 50 5 a49 x2.1 0 false), (280, RR 9 1 S x3.1 0 false)] 130) ?_
              exact pL
            · refine sg 15 (mkE [(63, B (ltI 100000 p2)), (62, B (ltI 100000 p2)), (61, I p2), (60, B false), (60, B (ltI p2 (-100000))), (59, B (ltI p2 (-100000))), (58, B (ltI p2 (-100000))), (57, I p2), (56, B false), (56, B (ltI 100000 p1)), (55, B (ltI 100000 p1)), (54, B (ltI 100000 p1)), (53, I p1), (52, B false), (52, B (ltI p1 (-100000))), (51, B (ltI p1 (-100000))), (50, I p1), (49, I x4), (1, I p1), (2, I p2), (3, .ba 24 0), (7, S x1.1), (8, B x1.2.1), (9, I x1.2.2), (10, .own 240 0), (11, I x2.2), (12, .own 280 0), (14, I x4), (48, B (neI x3.2 x4))] [(24, .box [S p0.f0, I p0.f1, I p0.f2, LL a31 p0.f3] false), (240, RR 50 5 a49 x2.1 0 false), (280, RR 9 1 S x3.1 0 false)] 130) ?_
              refine co 64 [] (h14 (ltI 100000 p2) 1) (fun x12 => ?_)
              refine sg 17 (mkE [(65, .own 520 0), (64, I x12), (63, B (ltI 100000 p2)), (62, B (ltI 100000 p2)), (61, I p2), (60, B false), (60, B (ltI p2 (-100000))), (59, B (ltI p2 (-100000))), (58, B (ltI p2 (-100000))), (57, I p2), (56, B false), (56, B (ltI 100000 p1)), (55, B (ltI 100000 p1)), (54, B (ltI 100000 p1)), (53, I p1), (52, B false), (52, B (ltI p1 (-100000))), (51, B (ltI p1 (-100000))), (50, I p1), (49, I x4), (1, I p1), (2, I p2), (3, .ba 24 0), (7, S x1.1), (8, B x1.2.1), (9, I x1.2.2), (10, .own 240 0), (11, I x2.2), (12, .own 280 0), (14, I x4), (48, B (neI x3.2 x4))] [(520, RR 33 1 I ([x4, x12] : List Int) 0 false), (24, .box [S p0.f0, I p0.f1, I p0.f2, LL a31 p0.f3] false), (240, RR 50 5 a49 x2.1 0 false), (280, RR 9 1 S x3.1 0 false)] 130) ?_
              refine co 66 [520] (h13 ([x4, x12] : List Int)) (fun x13 => ?_)
              refine se (mkE [(1, I p1), (2, I p2), (3, .ba 24 0), (7, S x1.1), (8, B x1.2.1), (9, I x1.2.2), (10, .own 240 0), (11, I x2.2), (12, .own 280 0), (14, I x4), (15, I x13)] [(24, .box [S p0.f0, I p0.f1, I p0.f2, LL a31 p0.f3] false), (240, RR 50 5 a49 x2.1 0 false), (280, RR 9 1 S x3.1 0 false)] 130) ?_
              refine pG (mkE [(1, I p1), (2, I p2), (3, .ba 24 0), (7, S x1.1), (8, B x1.2.1), (9, I x1.2.2), (10, .own 240 0), (11, I x2.2), (12, .own 280 0), (14, I x4), (15, I x13)] [(24, .box [S p0.f0, I p0.f1, I p0.f2, LL a31 p0.f3] false), (240, RR 50 5 a49 x2.1 0 false), (280, RR 9 1 S x3.1 0 false)] 130) ?_
              exact pL
      refine pS ?_
      refine gS 9 ?_
      refine gR 8 (rg Try.f5 8) ?_
      refine se (mkE [(1, I p1), (2, I p2), (3, .ba 24 0), (7, S x1.1), (8, B x1.2.1), (9, I x1.2.2), (10, .own 240 0), (11, I x2.2), (12, .own 280 0), (14, I x4), (15, I y14), (16, S (ByteArray.mk #[])), (17, B false)] [(24, .box [S p0.f0, I p0.f1, I p0.f2, LL a31 p0.f3] false), (240, RR 50 5 a49 x2.1 0 false), (280, RR 9 1 S x3.1 0 false)] 130) ?_
      refine pN ?_
      refine pS ?_
      refine gS 11 ?_
      refine gS 0 ?_
      refine gR 9 (rg Try.f5 9) ?_
      refine se (mkE [(1, I p1), (2, I p2), (3, .ba 24 0), (7, S x1.1), (8, B x1.2.1), (9, I x1.2.2), (10, .own 240 0), (11, I x2.2), (12, .own 280 0), (14, I x4), (15, I y14), (16, S (ByteArray.mk #[])), (17, B false), (68, B (eqI y14 0))] [(24, .box [S p0.f0, I p0.f1, I p0.f2, LL a31 p0.f3] false), (240, RR 50 5 a49 x2.1 0 false), (280, RR 9 1 S x3.1 0 false)] 130) ?_
      refine pN ?_
      refine pS ?_
      refine gC 68 (eqI y14 0) ?_ ?_
      · refine gR 10 (rg Try.f5 10) ?_
        refine sg 3 (mkE [(72, I p2), (71, I p1), (70, a23 p0), (1, I p1), (2, I p2), (3, .ba 24 0), (7, S x1.1), (8, B x1.2.1), (9, I x1.2.2), (10, .own 240 0), (11, I x2.2), (12, .own 280 0), (14, I x4), (15, I y14), (16, S (ByteArray.mk #[])), (17, B false), (68, B (eqI y14 0))] [(24, .box [S p0.f0, I p0.f1, I p0.f2, LL a31 p0.f3] false), (240, RR 50 5 a49 x2.1 0 false), (280, RR 9 1 S x3.1 0 false)] 130) ?_
        refine co 73 [] (h15 p0 p1 p2) (fun x15 => ?_)
        refine se (mkE [(3, .ba 24 0), (7, S x1.1), (8, B x1.2.1), (9, I x1.2.2), (10, .own 240 0), (11, I x2.2), (12, .own 280 0), (14, I x4), (15, I y14), (16, S x15.1), (17, B x15.2)] [(24, .box [S p0.f0, I p0.f1, I p0.f2, LL a31 p0.f3] false), (240, RR 50 5 a49 x2.1 0 false), (280, RR 9 1 S x3.1 0 false)] 130) ?_
        refine pN ?_
        refine pS ?_
        refine gS 13 ?_
        refine gS 0 ?_
        refine gR 11 (rg Try.f5 11) ?_
        refine sg 4 (mkE [(79, B (neI x1.2.2 y14)), (78, B (neI x1.2.2 y14)), (77, I y14), (76, I x1.2.2), (3, .ba 24 0), (7, S x1.1), (8, B x1.2.1), (9, I x1.2.2), (10, .own 240 0), (11, I x2.2), (12, .own 280 0), (14, I x4), (15, I y14), (16, S x15.1), (17, B x15.2)] [(24, .box [S p0.f0, I p0.f1, I p0.f2, LL a31 p0.f3] false), (240, RR 50 5 a49 x2.1 0 false), (280, RR 9 1 S x3.1 0 false)] 130) ?_
        refine sb 79 (neI x1.2.2 y14) ?_ ?_
        · refine se (mkE [(3, .ba 24 0), (10, .own 240 0), (11, I x2.2), (12, .own 280 0), (14, I x4), (88, B true)] [(24, .box [S p0.f0, I p0.f1, I p0.f2, LL a31 p0.f3] false), (240, RR 50 5 a49 x2.1 0 false), (280, RR 9 1 S x3.1 0 false)] 130) ?_
          refine pN ?_
          refine pS ?_
          refine gT (.tmp 88) ?_
          refine gS 0 ?_
          refine gR 12 (rg Try.f5 12) ?_
          refine se (mkE [(6, B false)] [] 130) ?_
          refine pN ?_
          refine pS ?_
          refine gE ?_
          exact pL
        · refine sg 9 (mkE [(84, B (!eqS x1.1 x15.1)), (83, B (!eqS x1.1 x15.1)), (82, B (!eqS x1.1 x15.1)), (81, S x15.1), (80, S x1.1), (79, B false), (79, B (neI x1.2.2 y14)), (78, B (neI x1.2.2 y14)), (77, I y14), (76, I x1.2.2), (3, .ba 24 0), (7, S x1.1), (8, B x1.2.1), (9, I x1.2.2), (10, .own 240 0), (11, I x2.2), (12, .own 280 0), (14, I x4), (15, I y14), (16, S x15.1), (17, B x15.2)] [(24, .box [S p0.f0, I p0.f1, I p0.f2, LL a31 p0.f3] false), (240, RR 50 5 a49 x2.1 0 false), (280, RR 9 1 S x3.1 0 false)] 130) ?_
          refine sb 84 (!eqS x1.1 x15.1) ?_ ?_
          · refine se (mkE [(3, .ba 24 0), (10, .own 240 0), (11, I x2.2), (12, .own 280 0), (14, I x4), (88, B true)] [(24, .box [S p0.f0, I p0.f1, I p0.f2, LL a31 p0.f3] false), (240, RR 50 5 a49 x2.1 0 false), (280, RR 9 1 S x3.1 0 false)] 130) ?_
            refine pN ?_
            refine pS ?_
            refine gT (.tmp 88) ?_
            refine gS 0 ?_
            refine gR 12 (rg Try.f5 12) ?_
            refine se (mkE [(6, B false)] [] 130) ?_
            refine pN ?_
            refine pS ?_
            refine gE ?_
            exact pL
          · refine se (mkE [(3, .ba 24 0), (10, .own 240 0), (11, I x2.2), (12, .own 280 0), (14, I x4), (88, B (x1.2.1 != x15.2))] [(24, .box [S p0.f0, I p0.f1, I p0.f2, LL a31 p0.f3] false), (240, RR 50 5 a49 x2.1 0 false), (280, RR 9 1 S x3.1 0 false)] 130) ?_
            refine pN ?_
            refine pS ?_
            refine gC 88 (x1.2.1 != x15.2) ?_ ?_
            · refine gS 0 ?_
              refine gR 12 (rg Try.f5 12) ?_
              refine se (mkE [(6, B false)] [] 130) ?_
              refine pN ?_
              refine pS ?_
              refine gE ?_
              exact pL
            · refine gK ?_
              refine pN ?_
              refine pS ?_
              refine gS 15 ?_
              refine gS 0 ?_
              refine gR 13 (rg Try.f5 13) ?_
              refine se (mkE [(3, .ba 24 0), (10, .own 240 0), (11, I x2.2), (12, .own 280 0), (14, I x4), (90, B (neI x4 0))] [(24, .box [S p0.f0, I p0.f1, I p0.f2, LL a31 p0.f3] false), (240, RR 50 5 a49 x2.1 0 false), (280, RR 9 1 S x3.1 0 false)] 130) ?_
              refine pN ?_
              refine pS ?_
              refine gC 90 (neI x4 0) ?_ ?_
              · refine gS 0 ?_
                refine gR 14 (rg Try.f5 14) ?_
                refine sg 4 (mkE [(94, B (eqI x2.2 x4)), (93, B (eqI x2.2 x4)), (92, I x4), (91, I x2.2), (3, .ba 24 0), (10, .own 240 0), (11, I x2.2), (12, .own 280 0), (14, I x4), (90, B (neI x4 0))] [(24, .box [S p0.f0, I p0.f1, I p0.f2, LL a31 p0.f3] false), (240, RR 50 5 a49 x2.1 0 false), (280, RR 9 1 S x3.1 0 false)] 130) ?_
                refine sb 94 (eqI x2.2 x4) ?_ ?_
                · refine sg 5 (mkE [(95, .own 240 0), (94, B true), (94, B (eqI x2.2 x4)), (93, B (eqI x2.2 x4)), (92, I x4), (91, I x2.2), (3, .ba 24 0), (10, .own 240 0), (11, I x2.2), (12, .own 280 0), (14, I x4), (90, B (neI x4 0))] [(24, .box [S p0.f0, I p0.f1, I p0.f2, LL a31 p0.f3] false), (240, RR 50 5 a49 x2.1 0 false), (280, RR 9 1 S x3.1 0 false)] 130) ?_
                  refine eo 96 (I (lenL x2.1)) (lenOE 36 50 5 a49 x2.1) ?_
                  refine sg 9 (mkE [(99, B (eqI (lenL x2.1) 0)), (98, B (eqI (lenL x2.1) 0)), (97, B (eqI (lenL x2.1) 0)), (96, I (lenL x2.1)), (95, .own 240 0), (94, B true), (94, B (eqI x2.2 x4)), (93, B (eqI x2.2 x4)), (92, I x4), (91, I x2.2), (3, .ba 24 0), (10, .own 240 0), (11, I x2.2), (12, .own 280 0), (14, I x4), (90, B (neI x4 0))] [(24, .box [S p0.f0, I p0.f1, I p0.f2, LL a31 p0.f3] false), (240, RR 50 5 a49 x2.1 0 false), (280, RR 9 1 S x3.1 0 false)] 130) ?_
                  refine sb 99 (eqI (lenL x2.1) 0) ?_ ?_
                  · refine sg 10 (mkE [(100, .own 280 0), (99, B true), (99, B (eqI (lenL x2.1) 0)), (98, B (eqI (lenL x2.1) 0)), (97, B (eqI (lenL x2.1) 0)), (96, I (lenL x2.1)), (95, .own 240 0), (94, B true), (94, B (eqI x2.2 x4)), (93, B (eqI x2.2 x4)), (92, I x4), (91, I x2.2), (3, .ba 24 0), (10, .own 240 0), (11, I x2.2), (12, .own 280 0), (14, I x4), (90, B (neI x4 0))] [(24, .box [S p0.f0, I p0.f1, I p0.f2, LL a31 p0.f3] false), (240, RR 50 5 a49 x2.1 0 false), (280, RR 9 1 S x3.1 0 false)] 130) ?_
                    refine eo 101 (I (lenL x3.1)) (lenOE 39 9 1 S x3.1) ?_
                    refine sg 14 (mkE [(104, B (eqI (lenL x3.1) 0)), (103, B (eqI (lenL x3.1) 0)), (102, B (eqI (lenL x3.1) 0)), (101, I (lenL x3.1)), (100, .own 280 0), (99, B true), (99, B (eqI (lenL x2.1) 0)), (98, B (eqI (lenL x2.1) 0)), (97, B (eqI (lenL x2.1) 0)), (96, I (lenL x2.1)), (95, .own 240 0), (94, B true), (94, B (eqI x2.2 x4)), (93, B (eqI x2.2 x4)), (92, I x4), (91, I x2.2), (3, .ba 24 0), (10, .own 240 0), (11, I x2.2), (12, .own 280 0), (14, I x4), (90, B (neI x4 0))] [(24, .box [S p0.f0, I p0.f1, I p0.f2, LL a31 p0.f3] false), (240, RR 50 5 a49 x2.1 0 false), (280, RR 9 1 S x3.1 0 false)] 130) ?_
                    refine sb 104 (eqI (lenL x3.1) 0) ?_ ?_
                    · refine co 105 [] (h16) (fun x16 => ?_)
                      refine se (mkE [(6, B x16)] [] 130) ?_
                      refine pN ?_
                      refine pS ?_
                      refine gE ?_
                      exact pL
                    · refine se (mkE [(6, B false)] [] 130) ?_
                      refine pN ?_
                      refine pS ?_
                      refine gE ?_
                      exact pL
                  · refine se (mkE [(6, B false)] [] 130) ?_
                    refine pN ?_
                    refine pS ?_
                    refine gE ?_
                    exact pL
                · refine se (mkE [(6, B false)] [] 130) ?_
                  refine pN ?_
                  refine pS ?_
                  refine gE ?_
                  exact pL
              · refine gK ?_
                refine pN ?_
                refine pS ?_
                refine gS 16 ?_
                refine gR 15 (rg Try.f5 15) ?_
                refine sg 1 (mkE [(108, a23 p0), (3, .ba 24 0), (10, .own 240 0), (11, I x2.2), (12, .own 280 0), (14, I x4), (90, B (neI x4 0))] [(24, .box [S p0.f0, I p0.f1, I p0.f2, LL a31 p0.f3] false), (240, RR 50 5 a49 x2.1 0 false), (280, RR 9 1 S x3.1 0 false)] 130) ?_
                refine co 109 [] (h18 p0) (fun x17 => ?_)
                refine co 110 [872] (h17 x17) (fun x18 => ?_)
                refine se (mkE [(3, .ba 24 0), (10, .own 240 0), (11, I x2.2), (12, .own 280 0), (18, LL a49 x18.1), (19, I x18.2)] [(24, .box [S p0.f0, I p0.f1, I p0.f2, LL a31 p0.f3] false), (240, RR 50 5 a49 x2.1 0 false), (280, RR 9 1 S x3.1 0 false)] 130) ?_
                refine pN ?_
                refine pS ?_
                refine gS 0 ?_
                refine gR 16 (rg Try.f5 16) ?_
                refine sg 4 (mkE [(116, B (eqI x2.2 x18.2)), (115, B (eqI x2.2 x18.2)), (114, I x18.2), (113, I x2.2), (3, .ba 24 0), (10, .own 240 0), (11, I x2.2), (12, .own 280 0), (18, LL a49 x18.1), (19, I x18.2)] [(24, .box [S p0.f0, I p0.f1, I p0.f2, LL a31 p0.f3] false), (240, RR 50 5 a49 x2.1 0 false), (280, RR 9 1 S x3.1 0 false)] 130) ?_
                refine sb 116 (eqI x2.2 x18.2) ?_ ?_
                · refine sg 6 (mkE [(118, LL a49 x18.1), (117, .own 240 0), (116, B true), (116, B (eqI x2.2 x18.2)), (115, B (eqI x2.2 x18.2)), (114, I x18.2), (113, I x2.2), (3, .ba 24 0), (10, .own 240 0), (11, I x2.2), (12, .own 280 0), (18, LL a49 x18.1), (19, I x18.2)] [(24, .box [S p0.f0, I p0.f1, I p0.f2, LL a31 p0.f3] false), (240, RR 50 5 a49 x2.1 0 false), (280, RR 9 1 S x3.1 0 false)] 130) ?_
                  refine co 119 [240] (h19 x2.1 x18.1) (fun x19 => ?_)
                  refine sg 9 (mkE [(121, B x19), (120, B x19), (119, B x19), (118, LL a49 x18.1), (117, .own 240 0), (116, B true), (116, B (eqI x2.2 x18.2)), (115, B (eqI x2.2 x18.2)), (114, I x18.2), (113, I x2.2), (3, .ba 24 0), (10, .own 240 0), (11, I x2.2), (12, .own 280 0), (18, LL a49 x18.1), (19, I x18.2)] [(24, .box [S p0.f0, I p0.f1, I p0.f2, LL a31 p0.f3] false), (240, RR 50 5 a49 x2.1 0 false), (280, RR 9 1 S x3.1 0 false)] 130) ?_
                  refine sb 121 x19 ?_ ?_
                  · refine sg 11 (mkE [(123, a23 p0), (122, .own 280 0), (121, B true), (121, B x19), (120, B x19), (119, B x19), (118, LL a49 x18.1), (117, .own 240 0), (116, B true), (116, B (eqI x2.2 x18.2)), (115, B (eqI x2.2 x18.2)), (114, I x18.2), (113, I x2.2), (3, .ba 24 0), (10, .own 240 0), (11, I x2.2), (12, .own 280 0), (18, LL a49 x18.1), (19, I x18.2)] [(24, .box [S p0.f0, I p0.f1, I p0.f2, LL a31 p0.f3] false), (240, RR 50 5 a49 x2.1 0 false), (280, RR 9 1 S x3.1 0 false)] 130) ?_
                    refine co 124 [] (h21 p0) (fun x20 => ?_)
                    refine co 125 [280, 992] (h20 x3.1 x20) (fun x21 => ?_)
                    refine sg 15 (mkE [(127, B x21), (126, B x21), (125, B x21), (124, .own 992 0), (123, a23 p0), (122, .own 280 0), (121, B true), (121, B x19), (120, B x19), (119, B x19), (118, LL a49 x18.1), (117, .own 240 0), (116, B true), (116, B (eqI x2.2 x18.2)), (115, B (eqI x2.2 x18.2)), (114, I x18.2), (113, I x2.2), (3, .ba 24 0), (10, .own 240 0), (11, I x2.2), (12, .own 280 0), (18, LL a49 x18.1), (19, I x18.2)] [(992, RR 9 1 S x20 0 false), (24, .box [S p0.f0, I p0.f1, I p0.f2, LL a31 p0.f3] false), (240, RR 50 5 a49 x2.1 0 false), (280, RR 9 1 S x3.1 0 false)] 130) ?_
                    refine sb 127 x21 ?_ ?_
                    · refine co 128 [] (h16) (fun x22 => ?_)
                      refine se (mkE [(6, B x22)] [] 130) ?_
                      refine pN ?_
                      refine pS ?_
                      refine gE ?_
                      exact pL
                    · refine se (mkE [(6, B false)] [] 130) ?_
                      refine pN ?_
                      refine pS ?_
                      refine gE ?_
                      exact pL
                  · refine se (mkE [(6, B false)] [] 130) ?_
                    refine pN ?_
                    refine pS ?_
                    refine gE ?_
                    exact pL
                · refine se (mkE [(6, B false)] [] 130) ?_
                  refine pN ?_
                  refine pS ?_
                  refine gE ?_
                  exact pL
      · refine gK ?_
        refine pN ?_
        refine pS ?_
        refine gS 13 ?_
        refine gS 0 ?_
        refine gR 11 (rg Try.f5 11) ?_
        refine sg 4 (mkE [(79, B (neI x1.2.2 y14)), (78, B (neI x1.2.2 y14)), (77, I y14), (76, I x1.2.2), (1, I p1), (2, I p2), (3, .ba 24 0), (7, S x1.1), (8, B x1.2.1), (9, I x1.2.2), (10, .own 240 0), (11, I x2.2), (12, .own 280 0), (14, I x4), (15, I y14), (16, S (ByteArray.mk #[])), (17, B false), (68, B (eqI y14 0))] [(24, .box [S p0.f0, I p0.f1, I p0.f2, LL a31 p0.f3] false), (240, RR 50 5 a49 x2.1 0 false), (280, RR 9 1 S x3.1 0 false)] 130) ?_
        refine sb 79 (neI x1.2.2 y14) ?_ ?_
        · refine se (mkE [(3, .ba 24 0), (10, .own 240 0), (11, I x2.2), (12, .own 280 0), (14, I x4), (88, B true)] [(24, .box [S p0.f0, I p0.f1, I p0.f2, LL a31 p0.f3] false), (240, RR 50 5 a49 x2.1 0 false), (280, RR 9 1 S x3.1 0 false)] 130) ?_
          refine pN ?_
          refine pS ?_
          refine gT (.tmp 88) ?_
          refine gS 0 ?_
          refine gR 12 (rg Try.f5 12) ?_
          refine se (mkE [(6, B false)] [] 130) ?_
          refine pN ?_
          refine pS ?_
          refine gE ?_
          exact pL
        · refine sg 9 (mkE [(84, B (!eqS x1.1 (ByteArray.mk #[]))), (83, B (!eqS x1.1 (ByteArray.mk #[]))), (82, B (!eqS x1.1 (ByteArray.mk #[]))), (81, S (ByteArray.mk #[])), (80, S x1.1), (79, B false), (79, B (neI x1.2.2 y14)), (78, B (neI x1.2.2 y14)), (77, I y14), (76, I x1.2.2), (1, I p1), (2, I p2), (3, .ba 24 0), (7, S x1.1), (8, B x1.2.1), (9, I x1.2.2), (10, .own 240 0), (11, I x2.2), (12, .own 280 0), (14, I x4), (15, I y14), (16, S (ByteArray.mk #[])), (17, B false), (68, B (eqI y14 0))] [(24, .box [S p0.f0, I p0.f1, I p0.f2, LL a31 p0.f3] false), (240, RR 50 5 a49 x2.1 0 false), (280, RR 9 1 S x3.1 0 false)] 130) ?_
          refine sb 84 (!eqS x1.1 (ByteArray.mk #[])) ?_ ?_
          · refine se (mkE [(3, .ba 24 0), (10, .own 240 0), (11, I x2.2), (12, .own 280 0), (14, I x4), (88, B true)] [(24, .box [S p0.f0, I p0.f1, I p0.f2, LL a31 p0.f3] false), (240, RR 50 5 a49 x2.1 0 false), (280, RR 9 1 S x3.1 0 false)] 130) ?_
            refine pN ?_
            refine pS ?_
            refine gT (.tmp 88) ?_
            refine gS 0 ?_
            refine gR 12 (rg Try.f5 12) ?_
            refine se (mkE [(6, B false)] [] 130) ?_
            refine pN ?_
            refine pS ?_
            refine gE ?_
            exact pL
          · refine se (mkE [(3, .ba 24 0), (10, .own 240 0), (11, I x2.2), (12, .own 280 0), (14, I x4), (88, B (x1.2.1 != false))] [(24, .box [S p0.f0, I p0.f1, I p0.f2, LL a31 p0.f3] false), (240, RR 50 5 a49 x2.1 0 false), (280, RR 9 1 S x3.1 0 false)] 130) ?_
            refine pN ?_
            refine pS ?_
            refine gC 88 (x1.2.1 != false) ?_ ?_
            · refine gS 0 ?_
              refine gR 12 (rg Try.f5 12) ?_
              refine se (mkE [(6, B false)] [] 130) ?_
              refine pN ?_
              refine pS ?_
              refine gE ?_
              exact pL
            · refine gK ?_
              refine pN ?_
              refine pS ?_
              refine gS 15 ?_
              refine gS 0 ?_
              refine gR 13 (rg Try.f5 13) ?_
              refine se (mkE [(3, .ba 24 0), (10, .own 240 0), (11, I x2.2), (12, .own 280 0), (14, I x4), (90, B (neI x4 0))] [(24, .box [S p0.f0, I p0.f1, I p0.f2, LL a31 p0.f3] false), (240, RR 50 5 a49 x2.1 0 false), (280, RR 9 1 S x3.1 0 false)] 130) ?_
              refine pN ?_
              refine pS ?_
              refine gC 90 (neI x4 0) ?_ ?_
              · refine gS 0 ?_
                refine gR 14 (rg Try.f5 14) ?_
                refine sg 4 (mkE [(94, B (eqI x2.2 x4)), (93, B (eqI x2.2 x4)), (92, I x4), (91, I x2.2), (3, .ba 24 0), (10, .own 240 0), (11, I x2.2), (12, .own 280 0), (14, I x4), (90, B (neI x4 0))] [(24, .box [S p0.f0, I p0.f1, I p0.f2, LL a31 p0.f3] false), (240, RR 50 5 a49 x2.1 0 false), (280, RR 9 1 S x3.1 0 false)] 130) ?_
                refine sb 94 (eqI x2.2 x4) ?_ ?_
                · refine sg 5 (mkE [(95, .own 240 0), (94, B true), (94, B (eqI x2.2 x4)), (93, B (eqI x2.2 x4)), (92, I x4), (91, I x2.2), (3, .ba 24 0), (10, .own 240 0), (11, I x2.2), (12, .own 280 0), (14, I x4), (90, B (neI x4 0))] [(24, .box [S p0.f0, I p0.f1, I p0.f2, LL a31 p0.f3] false), (240, RR 50 5 a49 x2.1 0 false), (280, RR 9 1 S x3.1 0 false)] 130) ?_
                  refine eo 96 (I (lenL x2.1)) (lenOE 36 50 5 a49 x2.1) ?_
                  refine sg 9 (mkE [(99, B (eqI (lenL x2.1) 0)), (98, B (eqI (lenL x2.1) 0)), (97, B (eqI (lenL x2.1) 0)), (96, I (lenL x2.1)), (95, .own 240 0), (94, B true), (94, B (eqI x2.2 x4)), (93, B (eqI x2.2 x4)), (92, I x4), (91, I x2.2), (3, .ba 24 0), (10, .own 240 0), (11, I x2.2), (12, .own 280 0), (14, I x4), (90, B (neI x4 0))] [(24, .box [S p0.f0, I p0.f1, I p0.f2, LL a31 p0.f3] false), (240, RR 50 5 a49 x2.1 0 false), (280, RR 9 1 S x3.1 0 false)] 130) ?_
                  refine sb 99 (eqI (lenL x2.1) 0) ?_ ?_
                  · refine sg 10 (mkE [(100, .own 280 0), (99, B true), (99, B (eqI (lenL x2.1) 0)), (98, B (eqI (lenL x2.1) 0)), (97, B (eqI (lenL x2.1) 0)), (96, I (lenL x2.1)), (95, .own 240 0), (94, B true), (94, B (eqI x2.2 x4)), (93, B (eqI x2.2 x4)), (92, I x4), (91, I x2.2), (3, .ba 24 0), (10, .own 240 0), (11, I x2.2), (12, .own 280 0), (14, I x4), (90, B (neI x4 0))] [(24, .box [S p0.f0, I p0.f1, I p0.f2, LL a31 p0.f3] false), (240, RR 50 5 a49 x2.1 0 false), (280, RR 9 1 S x3.1 0 false)] 130) ?_
                    refine eo 101 (I (lenL x3.1)) (lenOE 39 9 1 S x3.1) ?_
                    refine sg 14 (mkE [(104, B (eqI (lenL x3.1) 0)), (103, B (eqI (lenL x3.1) 0)), (102, B (eqI (lenL x3.1) 0)), (101, I (lenL x3.1)), (100, .own 280 0), (99, B true), (99, B (eqI (lenL x2.1) 0)), (98, B (eqI (lenL x2.1) 0)), (97, B (eqI (lenL x2.1) 0)), (96, I (lenL x2.1)), (95, .own 240 0), (94, B true), (94, B (eqI x2.2 x4)), (93, B (eqI x2.2 x4)), (92, I x4), (91, I x2.2), (3, .ba 24 0), (10, .own 240 0), (11, I x2.2), (12, .own 280 0), (14, I x4), (90, B (neI x4 0))] [(24, .box [S p0.f0, I p0.f1, I p0.f2, LL a31 p0.f3] false), (240, RR 50 5 a49 x2.1 0 false), (280, RR 9 1 S x3.1 0 false)] 130) ?_
                    refine sb 104 (eqI (lenL x3.1) 0) ?_ ?_
                    · refine co 105 [] (h16) (fun x23 => ?_)
                      refine se (mkE [(6, B x23)] [] 130) ?_
                      refine pN ?_
                      refine pS ?_
                      refine gE ?_
                      exact pL
                    · refine se (mkE [(6, B false)] [] 130) ?_
                      refine pN ?_
                      refine pS ?_
                      refine gE ?_
                      exact pL
                  · refine se (mkE [(6, B false)] [] 130) ?_
                    refine pN ?_
                    refine pS ?_
                    refine gE ?_
                    exact pL
                · refine se (mkE [(6, B false)] [] 130) ?_
                  refine pN ?_
                  refine pS ?_
                  refine gE ?_
                  exact pL
              · refine gK ?_
                refine pN ?_
                refine pS ?_
                refine gS 16 ?_
                refine gR 15 (rg Try.f5 15) ?_
                refine sg 1 (mkE [(108, a23 p0), (3, .ba 24 0), (10, .own 240 0), (11, I x2.2), (12, .own 280 0), (14, I x4), (90, B (neI x4 0))] [(24, .box [S p0.f0, I p0.f1, I p0.f2, LL a31 p0.f3] false), (240, RR 50 5 a49 x2.1 0 false), (280, RR 9 1 S x3.1 0 false)] 130) ?_
                refine co 109 [] (h18 p0) (fun x24 => ?_)
                refine co 110 [872] (h17 x24) (fun x25 => ?_)
                refine se (mkE [(3, .ba 24 0), (10, .own 240 0), (11, I x2.2), (12, .own 280 0), (18, LL a49 x25.1), (19, I x25.2)] [(24, .box [S p0.f0, I p0.f1, I p0.f2, LL a31 p0.f3] false), (240, RR 50 5 a49 x2.1 0 false), (280, RR 9 1 S x3.1 0 false)] 130) ?_
                refine pN ?_
                refine pS ?_
                refine gS 0 ?_
                refine gR 16 (rg Try.f5 16) ?_
                refine sg 4 (mkE [(116, B (eqI x2.2 x25.2)), (115, B (eqI x2.2 x25.2)), (114, I x25.2), (113, I x2.2), (3, .ba 24 0), (10, .own 240 0), (11, I x2.2), (12, .own 280 0), (18, LL a49 x25.1), (19, I x25.2)] [(24, .box [S p0.f0, I p0.f1, I p0.f2, LL a31 p0.f3] false), (240, RR 50 5 a49 x2.1 0 false), (280, RR 9 1 S x3.1 0 false)] 130) ?_
                refine sb 116 (eqI x2.2 x25.2) ?_ ?_
                · refine sg 6 (mkE [(118, LL a49 x25.1), (117, .own 240 0), (116, B true), (116, B (eqI x2.2 x25.2)), (115, B (eqI x2.2 x25.2)), (114, I x25.2), (113, I x2.2), (3, .ba 24 0), (10, .own 240 0), (11, I x2.2), (12, .own 280 0), (18, LL a49 x25.1), (19, I x25.2)] [(24, .box [S p0.f0, I p0.f1, I p0.f2, LL a31 p0.f3] false), (240, RR 50 5 a49 x2.1 0 false), (280, RR 9 1 S x3.1 0 false)] 130) ?_
                  refine co 119 [240] (h19 x2.1 x25.1) (fun x26 => ?_)
                  refine sg 9 (mkE [(121, B x26), (120, B x26), (119, B x26), (118, LL a49 x25.1), (117, .own 240 0), (116, B true), (116, B (eqI x2.2 x25.2)), (115, B (eqI x2.2 x25.2)), (114, I x25.2), (113, I x2.2), (3, .ba 24 0), (10, .own 240 0), (11, I x2.2), (12, .own 280 0), (18, LL a49 x25.1), (19, I x25.2)] [(24, .box [S p0.f0, I p0.f1, I p0.f2, LL a31 p0.f3] false), (240, RR 50 5 a49 x2.1 0 false), (280, RR 9 1 S x3.1 0 false)] 130) ?_
                  refine sb 121 x26 ?_ ?_
                  · refine sg 11 (mkE [(123, a23 p0), (122, .own 280 0), (121, B true), (121, B x26), (120, B x26), (119, B x26), (118, LL a49 x25.1), (117, .own 240 0), (116, B true), (116, B (eqI x2.2 x25.2)), (115, B (eqI x2.2 x25.2)), (114, I x25.2), (113, I x2.2), (3, .ba 24 0), (10, .own 240 0), (11, I x2.2), (12, .own 280 0), (18, LL a49 x25.1), (19, I x25.2)] [(24, .box [S p0.f0, I p0.f1, I p0.f2, LL a31 p0.f3] false), (240, RR 50 5 a49 x2.1 0 false), (280, RR 9 1 S x3.1 0 false)] 130) ?_
                    refine co 124 [] (h21 p0) (fun x27 => ?_)
                    refine co 125 [280, 992] (h20 x3.1 x27) (fun x28 => ?_)
                    refine sg 15 (mkE [(127, B x28), (126, B x28), (125, B x28), (124, .own 992 0), (123, a23 p0), (122, .own 280 0), (121, B true), (121, B x26), (120, B x26), (119, B x26), (118, LL a49 x25.1), (117, .own 240 0), (116, B true), (116, B (eqI x2.2 x25.2)), (115, B (eqI x2.2 x25.2)), (114, I x25.2), (113, I x2.2), (3, .ba 24 0), (10, .own 240 0), (11, I x2.2), (12, .own 280 0), (18, LL a49 x25.1), (19, I x25.2)] [(992, RR 9 1 S x27 0 false), (24, .box [S p0.f0, I p0.f1, I p0.f2, LL a31 p0.f3] false), (240, RR 50 5 a49 x2.1 0 false), (280, RR 9 1 S x3.1 0 false)] 130) ?_
                    refine sb 127 x28 ?_ ?_
                    · refine co 128 [] (h16) (fun x29 => ?_)
                      refine se (mkE [(6, B x29)] [] 130) ?_
                      refine pN ?_
                      refine pS ?_
                      refine gE ?_
                      exact pL
                    · refine se (mkE [(6, B false)] [] 130) ?_
                      refine pN ?_
                      refine pS ?_
                      refine gE ?_
                      exact pL
                  · refine se (mkE [(6, B false)] [] 130) ?_
                    refine pN ?_
                    refine pS ?_
                    refine gE ?_
                    exact pL
                · refine se (mkE [(6, B false)] [] 130) ?_
                  refine pN ?_
                  refine pS ?_
                  refine gE ?_
                  exact pL
theorem F5 (m : Nat) (hm : 8 ≤ m) (p0 : S23) (p1 : Int) (p2 : Int) : callA Try.prog cfg m 5 [a23 p0, I p1, I p2] = (T5 p0 p1 p2).map B := by
  obtain ⟨q, rfl⟩ : ∃ q, m = q + 1 := ⟨m - 1, by omega⟩
  exact (callA_body (fn := Try.f5) (c := body_ Try.f5) q _ (by kernel_rfl) (by kernel_rfl) (by kernel_rfl)).trans (B5 _ (fun p0 => F10 q (by omega) p0) (fun p0 => F11 q (by omega) p0) (fun p0 => F12 q (by omega) p0) (fun p0 => F13 q (by omega) p0) (fun p0 p1 => F14 q (by omega) p0 p1) (fun p0 p1 p2 => F15 q (by omega) p0 p1 p2) (F16 q (by omega)) (fun p0 => F17 q (by omega) p0) (fun p0 => F18 q (by omega) p0) (fun p0 p1 => F19 q (by omega) p0 p1) (fun p0 p1 => F20 q (by omega) p0 p1) (fun p0 => F21 q (by omega) p0) (fun p0 p1 p2 => F8 q (by omega) p0 p1 p2) (fun p0 => F9 q (by omega) p0) p0 p1 p2)

noncomputable def L22_4 (p0 : (List S31)) (p1 : (List S31)) (z0 : Int) : Option (Int ⊕ ((Int × Bool) ⊕ Unit)) := (bif (ltI z0 (lenL p0)) then ((listAt p0 z0).bind fun x1 => ((listAt p1 z0).bind fun x2 => (bif (!allB [eqB x1.f0 x2.f0, allB [eqI x1.f1.f0 x2.f1.f0, eqI x1.f1.f1 x2.f1.f1, eqI x1.f1.f2 x2.f1.f2, eqI x1.f1.f3 x2.f1.f3], eqI x1.f2 x2.f2]) then (some (.inr (.inr ()))) else (some (.inl (addI .i64 z0 1)))))) else (some (.inr (.inl (z0, (ltI z0 (lenL p0)))))))
theorem L22_4_ok (C : Callee) (p0 : (List S31)) (p1 : (List S31)) (z0 : Int) : runs Try.prog C (cfg.fn 22) (finLoop ((cfg.fn 22).keep 4) ((cfg.fn 22).al 4)) [] (execA Try.prog C (cfg.fn 22) (nr Try.f22 [false, false, true, false, true, true]) ((fun z0 : Int => (mkE [(0, LL a31 p0), (1, LL a31 p1), (12, I (lenL p0)), (13, I z0)] [] 26)) z0)) = (L22_4 p0 p1 z0).map (Sum.elim (fun z => .inl ((fun z0 : Int => (mkE [(0, LL a31 p0), (1, LL a31 p1), (12, I (lenL p0)), (13, I z0)] [] 26)) z)) (fun x => .inr ((Sum.elim (fun (x : (Int × Bool)) => (.exit 0, (mkE [(0, LL a31 p0), (1, LL a31 p1), (12, I (lenL p0)), (13, I x.1), (14, B x.2)] [] 26))) (fun (x : Unit) => (.ret, (mkE [(4, B false)] [] 26)))) x))) := by
  unfold L22_4
  refine gS 0 ?_
  refine gR 4 (rg Try.f22 4) ?_
  refine se (mkE [(0, LL a31 p0), (1, LL a31 p1), (12, I (lenL p0)), (13, I z0), (14, B (ltI z0 (lenL p0)))] [] 26) ?_
  refine pN ?_
  refine pS ?_
  refine gS 5 ?_
  refine gC 14 (ltI z0 (lenL p0)) ?_ ?_
  · refine gK ?_
    refine pN ?_
    refine pS ?_
    refine gS 8 ?_
    refine gB 1 ?_
    refine gS 6 ?_
    refine gR 5 (rg Try.f22 5) ?_
    refine se (mkE [(0, LL a31 p0), (1, LL a31 p1), (5, I z0), (12, I (lenL p0)), (13, I z0)] [] 26) ?_
    refine pN ?_
    refine pS ?_
    refine gS 0 ?_
    refine gD 6 9 (rg Try.f22 6) [0, 1, 2, 3, 4, 5, 6, 7, 8] ?_
    refine dg 2 [(some 16, qe (LL a31 p0)), (some 17, qe (I z0))] ?_
    refine dv 18 (mkE [(17, I z0), (16, LL a31 p0), (0, LL a31 p0), (1, LL a31 p1), (5, I z0), (12, I (lenL p0)), (13, I z0)] [] 26) (addrE 22 32 6 a31 .i64 p0 z0) (fun x1 => ?_)
    refine dg 6 [(some 16, qe (LL a31 p0)), (some 17, qe (I z0)), (some 18, qe (.ia [S x1.f0, I x1.f1.f0, I x1.f1.f1, I x1.f1.f2, I x1.f1.f3, I x1.f2] 0)), (some 19, qe (a31 x1)), (some 20, qe (LL a31 p1)), (some 21, qe (I z0))] ?_
    refine dv 22 (mkE [(21, I z0), (20, LL a31 p1), (0, LL a31 p0), (1, LL a31 p1), (5, I z0), (12, I (lenL p0)), (13, I z0)] [] 26) (addrE 22 32 6 a31 .i64 p1 z0) (fun x2 => ?_)
    refine dg 8 [(some 16, qe (LL a31 p0)), (some 17, qe (I z0)), (some 18, qe (.ia [S x1.f0, I x1.f1.f0, I x1.f1.f1, I x1.f1.f2, I x1.f1.f3, I x1.f2] 0)), (some 19, qe (a31 x1)), (some 20, qe (LL a31 p1)), (some 21, qe (I z0)), (some 22, qe (.ia [S x2.f0, I x2.f1.f0, I x2.f1.f1, I x2.f1.f2, I x2.f1.f3, I x2.f2] 0)), (some 23, qe (a31 x2))] ?_
    refine df 24 (B (!allB [eqB x1.f0 x2.f0, allB [eqI x1.f1.f0 x2.f1.f0, eqI x1.f1.f1 x2.f1.f1, eqI x1.f1.f2 x2.f1.f2, eqI x1.f1.f3 x2.f1.f3], eqI x1.f2 x2.f2])) (mkE [(23, a31 x2), (22, .ia [S x2.f0, I x2.f1.f0, I x2.f1.f1, I x2.f1.f2, I x2.f1.f3, I x2.f2] 0), (21, I z0), (20, LL a31 p1), (19, a31 x1), (18, .ia [S x1.f0, I x1.f1.f0, I x1.f1.f1, I x1.f1.f2, I x1.f1.f3, I x1.f2] 0), (17, I z0), (16, LL a31 p0), (0, LL a31 p0), (1, LL a31 p1), (5, I z0), (12, I (lenL p0)), (13, I z0)] [] 26) (neqE 32 (.tmp 19) (.tmp 23) [S x1.f0, I x1.f1.f0, I x1.f1.f1, I x1.f1.f2, I x1.f1.f3, I x1.f2] [S x2.f0, I x2.f1.f0, I x2.f1.f1, I x2.f1.f2, I x2.f1.f3, I x2.f2] [.string x1.f0, .int .i64 x1.f1.f0, .int .i64 x1.f1.f1, .int .i64 x1.f1.f2, .int .i64 x1.f1.f3, .int .i64 x1.f2] [.string x2.f0, .int .i64 x2.f1.f0, .int .i64 x2.f1.f1, .int .i64 x2.f1.f2, .int .i64 x2.f1.f3, .int .i64 x2.f2] [eqB x1.f0 x2.f0, allB [eqI x1.f1.f0 x2.f1.f0, eqI x1.f1.f1 x2.f1.f1, eqI x1.f1.f2 x2.f1.f2, eqI x1.f1.f3 x2.f1.f3], eqI x1.f2 x2.f2] (hb := (hb_of (hb_step 0 (by kernel_rfl) (by kernel_rfl) (hb_step 1 (by kernel_rfl) (fieldEq_sub 9998 [.int .i64 x1.f1.f0, .int .i64 x1.f1.f1, .int .i64 x1.f1.f2, .int .i64 x1.f1.f3] [.int .i64 x2.f1.f0, .int .i64 x2.f1.f1, .int .i64 x2.f1.f2, .int .i64 x2.f1.f3] [eqI x1.f1.f0 x2.f1.f0, eqI x1.f1.f1 x2.f1.f1, eqI x1.f1.f2 x2.f1.f2, eqI x1.f1.f3 x2.f1.f3] (by kernel_rfl) (by kernel_rfl) (by kernel_rfl) (by kernel_rfl) (by kernel_rfl) (by kernel_rfl)) (hb_step 2 (by kernel_rfl) (by kernel_rfl) (hb_end 3 (by kernel_rfl)))))))) ?_
    refine de (mkE [(24, B (!allB [eqB x1.f0 x2.f0, allB [eqI x1.f1.f0 x2.f1.f0, eqI x1.f1.f1 x2.f1.f1, eqI x1.f1.f2 x2.f1.f2, eqI x1.f1.f3 x2.f1.f3], eqI x1.f2 x2.f2])), (23, a31 x2), (22, .ia [S x2.f0, I x2.f1.f0, I x2.f1.f1, I x2.f1.f2, I x2.f1.f3, I x2.f2] 0), (21, I z0), (20, LL a31 p1), (19, a31 x1), (18, .ia [S x1.f0, I x1.f1.f0, I x1.f1.f1, I x1.f1.f2, I x1.f1.f3, I x1.f2] 0), (17, I z0), (16, LL a31 p0), (0, LL a31 p0), (1, LL a31 p1), (5, I z0), (12, I (lenL p0)), (13, I z0)] [] 26) ?_
    refine se (mkE [(0, LL a31 p0), (1, LL a31 p1), (12, I (lenL p0)), (13, I z0), (24, B (!allB [eqB x1.f0 x2.f0, allB [eqI x1.f1.f0 x2.f1.f0, eqI x1.f1.f1 x2.f1.f1, eqI x1.f1.f2 x2.f1.f2, eqI x1.f1.f3 x2.f1.f3], eqI x1.f2 x2.f2]))] [] 26) ?_
    refine pN ?_
    refine pS ?_
    refine gC 24 (!allB [eqB x1.f0 x2.f0, allB [eqI x1.f1.f0 x2.f1.f0, eqI x1.f1.f1 x2.f1.f1, eqI x1.f1.f2 x2.f1.f2, eqI x1.f1.f3 x2.f1.f3], eqI x1.f2 x2.f2]) ?_ ?_
    · refine gS 0 ?_
      refine gR 7 (rg Try.f22 7) ?_
      refine se (mkE [(4, B false)] [] 26) ?_
      refine pN ?_
      refine pS ?_
      refine gE ?_
      exact pL
    · refine gK ?_
      refine pB ?_
      refine pN ?_
      refine pS ?_
      refine gR 8 (rg Try.f22 8) ?_
      refine se (mkE [(0, LL a31 p0), (1, LL a31 p1), (12, I (lenL p0)), (13, I (addI .i64 z0 1))] [] 26) ?_
      exact pL
  · refine gX 0 ?_
    exact pL
noncomputable def T22 (p0 : (List S31)) (p1 : (List S31)) : Option Bool := (bif (neI (lenL p0) (lenL p1)) then (some false) else ((iter (L22_4 p0 p1) 0).bind fun y3 => (Sum.elim (fun y3a => (some true)) (fun y3b => (some false)) y3)))
theorem B22 (C : Callee) (p0 : (List S31)) (p1 : (List S31)) : runs Try.prog C (cfg.fn 22) (finFn Try.prog (cfg.fn 22).byval Try.f22) [] (execA Try.prog C (cfg.fn 22) (nr Try.f22 []) (frame0 [LL a31 p0, LL a31 p1] 26 false)) = (T22 p0 p1).map B := by
  unfold T22
  refine gS 1 ?_
  refine gR 0 (rg Try.f22 0) ?_
  refine se (mkE [(0, LL a31 p0), (1, LL a31 p1)] [] 26) ?_
  refine pN ?_
  refine pS ?_
  refine gS 3 ?_
  refine gS 0 ?_
  refine gR 1 (rg Try.f22 1) ?_
  refine sg 1 (mkE [(6, LL a31 p0), (0, LL a31 p0), (1, LL a31 p1)] [] 26) ?_
  refine eo 7 (I (lenL p0)) (lenE 22 a31 p0) ?_
  refine sg 3 (mkE [(8, LL a31 p1), (7, I (lenL p0)), (6, LL a31 p0), (0, LL a31 p0), (1, LL a31 p1)] [] 26) ?_
  refine eo 9 (I (lenL p1)) (lenE 22 a31 p1) ?_
  refine se (mkE [(0, LL a31 p0), (1, LL a31 p1), (10, B (neI (lenL p0) (lenL p1)))] [] 26) ?_
  refine pN ?_
  refine pS ?_
  refine gC 10 (neI (lenL p0) (lenL p1)) ?_ ?_
  · refine gS 0 ?_
    refine gR 2 (rg Try.f22 2) ?_
    refine se (mkE [(4, B false)] [] 26) ?_
    refine pN ?_
    refine pS ?_
    refine gE ?_
    exact pL
  · refine gK ?_
    refine pN ?_
    refine pS ?_
    refine gS 9 ?_
    refine gS 4 ?_
    refine gR 3 (rg Try.f22 3) ?_
    refine sg 1 (mkE [(11, LL a31 p0), (0, LL a31 p0), (1, LL a31 p1), (10, B (neI (lenL p0) (lenL p1)))] [] 26) ?_
    refine eo 12 (I (lenL p0)) (lenE 22 a31 p0) ?_
    refine se (mkE [(0, LL a31 p0), (1, LL a31 p1), (12, I (lenL p0)), (13, I 0)] [] 26) ?_
    refine pN ?_
    refine pS ?_
    refine gB 0 ?_
    refine lo [(0, none), (1, none), (12, none), (13, none)] [] (L22_4 p0 p1) (fun z0 : Int => (mkE [(0, LL a31 p0), (1, LL a31 p1), (12, I (lenL p0)), (13, I z0)] [] 26)) (Sum.elim (fun (x : (Int × Bool)) => (.exit 0, (mkE [(0, LL a31 p0), (1, LL a31 p1), (12, I (lenL p0)), (13, I x.1), (14, B x.2)] [] 26))) (fun (x : Unit) => (.ret, (mkE [(4, B false)] [] 26)))) 0 (fun z => L22_4_ok C p0 p1 z) ?_
    intro y3
    refine ss y3 (Z := (Sum.elim (fun (x : (Int × Bool)) => (.exit 0, (mkE [(0, LL a31 p0), (1, LL a31 p1), (12, I (lenL p0)), (13, I x.1), (14, B x.2)] [] 26))) (fun (x : Unit) => (.ret, (mkE [(4, B false)] [] 26))))) (fun y3a => ?_) (fun y3b => ?_)
    · refine pH ?_
      refine pN ?_
      refine pS ?_
      refine gS 0 ?_
      refine gR 9 (rg Try.f22 9) ?_
      refine se (mkE [(4, B true)] [] 26) ?_
      refine pN ?_
      refine pS ?_
      refine gE ?_
      exact pL
    · exact pL
theorem F22 (m : Nat) (hm : 1 ≤ m) (p0 : (List S31)) (p1 : (List S31)) : callA Try.prog cfg m 22 [LL a31 p0, LL a31 p1] = (T22 p0 p1).map B := by
  obtain ⟨q, rfl⟩ : ∃ q, m = q + 1 := ⟨m - 1, by omega⟩
  exact (callA_body (fn := Try.f22) (c := body_ Try.f22) q _ (by kernel_rfl) (by kernel_rfl) (by kernel_rfl)).trans (B22 _ p0 p1)

noncomputable def T6 (p0 : S23) (p1 : S23) : Option Bool := (bif (eqS p0.f0 p1.f0) then (bif (eqI p0.f1 p1.f1) then (bif (eqI p0.f2 p1.f2) then ((T22 p0.f3 p1.f3).bind fun x1 => (some x1)) else (some false)) else (some false)) else (some false))
theorem B6 (C : Callee) (h22 : ∀ (p0 : (List S31)) (p1 : (List S31)), C 22 [LL a31 p0, LL a31 p1] = (T22 p0 p1).map B) (p0 : S23) (p1 : S23) : runs Try.prog C (cfg.fn 6) (finFn Try.prog (cfg.fn 6).byval Try.f6) [] (execA Try.prog C (cfg.fn 6) (nr Try.f6 []) (frame0 [a23 p0, a23 p1] 31 false)) = (T6 p0 p1).map B := by
  unfold T6
  refine gS 1 ?_
  refine gR 0 (rg Try.f6 0) ?_
  refine se (mkE [(2, .ba 16 0), (3, .ba 24 0)] [(16, .box [S p0.f0, I p0.f1, I p0.f2, LL a31 p0.f3] false), (24, .box [S p1.f0, I p1.f1, I p1.f2, LL a31 p1.f3] false)] 31) ?_
  refine pN ?_
  refine pS ?_
  refine gS 0 ?_
  refine gR 1 (rg Try.f6 1) ?_
  refine sg 6 (mkE [(10, B (eqS p0.f0 p1.f0)), (9, B (eqS p0.f0 p1.f0)), (8, S p1.f0), (7, .ba 24 0), (6, S p0.f0), (5, .ba 16 0), (2, .ba 16 0), (3, .ba 24 0)] [(16, .box [S p0.f0, I p0.f1, I p0.f2, LL a31 p0.f3] false), (24, .box [S p1.f0, I p1.f1, I p1.f2, LL a31 p1.f3] false)] 31) ?_
  refine sb 10 (eqS p0.f0 p1.f0) ?_ ?_
  · refine sg 13 (mkE [(17, B (eqI p0.f1 p1.f1)), (16, B (eqI p0.f1 p1.f1)), (15, B (eqI p0.f1 p1.f1)), (14, I p1.f1), (13, .ba 24 1), (12, I p0.f1), (11, .ba 16 1), (10, B true), (10, B (eqS p0.f0 p1.f0)), (9, B (eqS p0.f0 p1.f0)), (8, S p1.f0), (7, .ba 24 0), (6, S p0.f0), (5, .ba 16 0), (2, .ba 16 0), (3, .ba 24 0)] [(16, .box [S p0.f0, I p0.f1, I p0.f2, LL a31 p0.f3] false), (24, .box [S p1.f0, I p1.f1, I p1.f2, LL a31 p1.f3] false)] 31) ?_
    refine sb 17 (eqI p0.f1 p1.f1) ?_ ?_
    · refine sg 20 (mkE [(24, B (eqI p0.f2 p1.f2)), (23, B (eqI p0.f2 p1.f2)), (22, B (eqI p0.f2 p1.f2)), (21, I p1.f2), (20, .ba 24 2), (19, I p0.f2), (18, .ba 16 2), (17, B true), (17, B (eqI p0.f1 p1.f1)), (16, B (eqI p0.f1 p1.f1)), (15, B (eqI p0.f1 p1.f1)), (14, I p1.f1), (13, .ba 24 1), (12, I p0.f1), (11, .ba 16 1), (10, B true), (10, B (eqS p0.f0 p1.f0)), (9, B (eqS p0.f0 p1.f0)), (8, S p1.f0), (7, .ba 24 0), (6, S p0.f0), (5, .ba 16 0), (2, .ba 16 0), (3, .ba 24 0)] [(16, .box [S p0.f0, I p0.f1, I p0.f2, LL a31 p0.f3] false), (24, .box [S p1.f0, I p1.f1, I p1.f2, LL a31 p1.f3] false)] 31) ?_
      refine sb 24 (eqI p0.f2 p1.f2) ?_ ?_
      · refine sg 24 (mkE [(28, LL a31 p1.f3), (27, .ba 24 3), (26, LL a31 p0.f3), (25, .ba 16 3), (24, B true), (24, B (eqI p0.f2 p1.f2)), (23, B (eqI p0.f2 p1.f2)), (22, B (eqI p0.f2 p1.f2)), (21, I p1.f2), (20, .ba 24 2), (19, I p0.f2), (18, .ba 16 2), (17, B true), (17, B (eqI p0.f1 p1.f1)), (16, B (eqI p0.f1 p1.f1)), (15, B (eqI p0.f1 p1.f1)), (14, I p1.f1), (13, .ba 24 1), (12, I p0.f1), (11, .ba 16 1), (10, B true), (10, B (eqS p0.f0 p1.f0)), (9, B (eqS p0.f0 p1.f0)), (8, S p1.f0), (7, .ba 24 0), (6, S p0.f0), (5, .ba 16 0), (2, .ba 16 0), (3, .ba 24 0)] [(16, .box [S p0.f0, I p0.f1, I p0.f2, LL a31 p0.f3] false), (24, .box [S p1.f0, I p1.f1, I p1.f2, LL a31 p1.f3] false)] 31) ?_
        refine co 29 [] (h22 p0.f3 p1.f3) (fun x1 => ?_)
        refine se (mkE [(4, B x1)] [] 31) ?_
        refine pN ?_
        refine pS ?_
        refine gE ?_
        exact pL
      · refine se (mkE [(4, B false)] [] 31) ?_
        refine pN ?_
        refine pS ?_
        refine gE ?_
        exact pL
    · refine se (mkE [(4, B false)] [] 31) ?_
      refine pN ?_
      refine pS ?_
      refine gE ?_
      exact pL
  · refine se (mkE [(4, B false)] [] 31) ?_
    refine pN ?_
    refine pS ?_
    refine gE ?_
    exact pL
theorem F6 (m : Nat) (hm : 2 ≤ m) (p0 : S23) (p1 : S23) : callA Try.prog cfg m 6 [a23 p0, a23 p1] = (T6 p0 p1).map B := by
  obtain ⟨q, rfl⟩ : ∃ q, m = q + 1 := ⟨m - 1, by omega⟩
  exact (callA_body (fn := Try.f6) (c := body_ Try.f6) q _ (by kernel_rfl) (by kernel_rfl) (by kernel_rfl)).trans (B6 _ (fun p0 p1 => F22 q (by omega) p0 p1) p0 p1)

noncomputable def T3 (p0 : S23) (p1 : Int) (p2 : Int) : Option Bool := ((T4 p0).bind fun x1 => ((T5 p0 p1 p2).bind fun x2 => (bif x2 then ((T6 p0 x1).bind fun x3 => (some x3)) else (some false))))
theorem B3 (C : Callee) (h4 : ∀ (p0 : S23), C 4 [a23 p0] = (T4 p0).map a23) (h5 : ∀ (p0 : S23) (p1 : Int) (p2 : Int), C 5 [a23 p0, I p1, I p2] = (T5 p0 p1 p2).map B) (h6 : ∀ (p0 : S23) (p1 : S23), C 6 [a23 p0, a23 p1] = (T6 p0 p1).map B) (p0 : S23) (p1 : Int) (p2 : Int) : runs Try.prog C (cfg.fn 3) (finFn Try.prog (cfg.fn 3).byval Try.f3) [] (execA Try.prog C (cfg.fn 3) (nr Try.f3 []) (frame0 [a23 p0, I p1, I p2] 19 false)) = (T3 p0 p1 p2).map B := by
  unfold T3
  refine gS 1 ?_
  refine gR 0 (rg Try.f3 0) ?_
  refine se (mkE [(1, I p1), (2, I p2), (3, .ba 24 0)] [(24, .box [S p0.f0, I p0.f1, I p0.f2, LL a31 p0.f3] false)] 19) ?_
  refine pN ?_
  refine pS ?_
  refine gS 2 ?_
  refine gR 1 (rg Try.f3 1) ?_
  refine sg 1 (mkE [(8, a23 p0), (1, I p1), (2, I p2), (3, .ba 24 0)] [(24, .box [S p0.f0, I p0.f1, I p0.f2, LL a31 p0.f3] false)] 19) ?_
  refine co 9 [] (h4 p0) (fun x1 => ?_)
  refine se (mkE [(1, I p1), (2, I p2), (3, .ba 24 0), (7, .ba 56 0)] [(24, .box [S p0.f0, I p0.f1, I p0.f2, LL a31 p0.f3] false), (56, .box [S x1.f0, I x1.f1, I x1.f2, LL a31 x1.f3] false)] 19) ?_
  refine pN ?_
  refine pS ?_
  refine gS 0 ?_
  refine gR 2 (rg Try.f3 2) ?_
  refine sg 3 (mkE [(12, I p2), (11, I p1), (10, a23 p0), (1, I p1), (2, I p2), (3, .ba 24 0), (7, .ba 56 0)] [(24, .box [S p0.f0, I p0.f1, I p0.f2, LL a31 p0.f3] false), (56, .box [S x1.f0, I x1.f1, I x1.f2, LL a31 x1.f3] false)] 19) ?_
  refine co 13 [] (h5 p0 p1 p2) (fun x2 => ?_)
  refine sg 5 (mkE [(14, B x2), (13, B x2), (12, I p2), (11, I p1), (10, a23 p0), (1, I p1), (2, I p2), (3, .ba 24 0), (7, .ba 56 0)] [(24, .box [S p0.f0, I p0.f1, I p0.f2, LL a31 p0.f3] false), (56, .box [S x1.f0, I x1.f1, I x1.f2, LL a31 x1.f3] false)] 19) ?_
  refine sb 14 x2 ?_ ?_
  · refine sg 7 (mkE [(16, a23 x1), (15, a23 p0), (14, B true), (14, B x2), (13, B x2), (12, I p2), (11, I p1), (10, a23 p0), (1, I p1), (2, I p2), (3, .ba 24 0), (7, .ba 56 0)] [(24, .box [S p0.f0, I p0.f1, I p0.f2, LL a31 p0.f3] false), (56, .box [S x1.f0, I x1.f1, I x1.f2, LL a31 x1.f3] false)] 19) ?_
    refine co 17 [] (h6 p0 x1) (fun x3 => ?_)
    refine se (mkE [(6, B x3)] [] 19) ?_
    refine pN ?_
    refine pS ?_
    refine gE ?_
    exact pL
  · refine se (mkE [(6, B false)] [] 19) ?_
    refine pN ?_
    refine pS ?_
    refine gE ?_
    exact pL
theorem F3 (m : Nat) (hm : 9 ≤ m) (p0 : S23) (p1 : Int) (p2 : Int) : callA Try.prog cfg m 3 [a23 p0, I p1, I p2] = (T3 p0 p1 p2).map B := by
  obtain ⟨q, rfl⟩ : ∃ q, m = q + 1 := ⟨m - 1, by omega⟩
  exact (callA_body (fn := Try.f3) (c := body_ Try.f3) q _ (by kernel_rfl) (by kernel_rfl) (by kernel_rfl)).trans (B3 _ (fun p0 => F4 q (by omega) p0) (fun p0 p1 p2 => F5 q (by omega) p0 p1 p2) (fun p0 p1 => F6 q (by omega) p0 p1) p0 p1 p2)

end Go.Abs.TS
