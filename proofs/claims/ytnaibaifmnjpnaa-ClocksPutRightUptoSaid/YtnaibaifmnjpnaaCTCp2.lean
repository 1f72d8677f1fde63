import Derived.Test.YtnaibaifmnjpnaaCTCp1
set_option maxRecDepth 100000
set_option linter.unusedVariables false
namespace Go.Abs.TC
open Go.RowKit Go.Proofs Go.Abs
noncomputable def T13 (p0 : (List S24)) (p1 : ByteArray) (p2 : Int) : Option Bool := ((T44 p0 p1 p2).bind fun x1 => ((T45 p0 p1 p2).bind fun x2 => ((T46 p0 p1).bind fun x3 => ((T47 p0).bind fun x4 => ((T48 p0).bind fun x5 => (bif (neI x5 x4) then (some false) else ((T51 p1).bind fun x6 => ((T50 (!x6) 5).bind fun x7 => ((T49 ([x4, x7] : List Int)).bind fun x8 => ((T52 p2).bind fun x9 => ((T49 ([x8, x9] : List Int)).bind fun x10 => ((T52 p2).bind fun x11 => ((T49 ([x8, x11] : List Int)).bind fun x12 => (bif (eqI x10 0) then ((T53 p0 p1 p2).bind fun x13 => (bif (eqI x12 0) then ((T54 p0 p1 p2).bind fun x14 => (bif (eqI x8 0) then ((T55 p0 p1).bind fun x15 => ((T50 (!x15.2) 8).bind fun x16 => (bif (eqI x1.2 x13.2) then (bif (eqI x1.1 x13.1) then (bif (eqI x2.2 x14.2) then (bif (eqI x2.1 x14.1) then (bif (eqI x3.2 x16) then (bif (allB [eqI x3.1.f0 x15.1.f0, eqI x3.1.f1 x15.1.f1]) then ((T56).bind fun x17 => (some x17)) else (some false)) else (some false)) else (some false)) else (some false)) else (some false)) else (some false)))) else (bif (eqI x1.2 x13.2) then (bif (eqI x1.1 x13.1) then (bif (eqI x2.2 x14.2) then (bif (eqI x2.1 x14.1) then (bif (eqI x3.2 x8) then (bif (allB [eqI x3.1.f0 0, eqI x3.1.f1 0]) then ((T56).bind fun x18 => (some x18)) else (some false)) else (some false)) else (some false)) else (some false)) else (some false)) else (some false)))) else (bif (eqI x8 0) then ((T55 p0 p1).bind fun x19 => ((T50 (!x19.2) 8).bind fun x20 => (bif (eqI x1.2 x13.2) then (bif (eqI x1.1 x13.1) then (bif (eqI x2.2 x12) then (bif (eqI x2.1 0) then (bif (eqI x3.2 x20) then (bif (allB [eqI x3.1.f0 x19.1.f0, eqI x3.1.f1 x19.1.f1]) then ((T56).bind fun x21 => (some x21)) else (some false)) else (some false)) else (some false)) else (some false)) else (some false)) else (some false)))) else (bif (eqI x1.2 x13.2) then (bif (eqI x1.1 x13.1) then (bif (eqI x2.2 x12) then (bif (eqI x2.1 0) then (bif (eqI x3.2 x8) then (bif (allB [eqI x3.1.f0 0, eqI x3.1.f1 0]) then ((T56).bind fun x22 => (some x22)) else (some false)) else (some false)) else (some false)) else (some false)) else (some false)) else (some false))))) else (bif (eqI x12 0) then ((T54 p0 p1 p2).bind fun x23 => (bif (eqI x8 0) then ((T55 p0 p1).bind fun x24 => ((T50 (!x24.2) 8).bind fun x25 => (bif (eqI x1.2 x10) then (bif (eqI x1.1 0) then (bif (eqI x2.2 x23.2) then (bif (eqI x2.1 x23.1) then (bif (eqI x3.2 x25) then (bif (allB [eqI x3.1.f0 x24.1.f0, eqI x3.1.f1 x24.1.f1]) then ((T56).bind fun x26 => (some x26)) else (some false)) else (some false)) else (some false)) else (some false)) else (some false)) else (some false)))) else (bif (eqI x1.2 x10) then (bif (eqI x1.1 0) then (bif (eqI x2.2 x23.2) then (bif (eqI x2.1 x23.1) then (bif (eqI x3.2 x8) then (bif (allB [eqI x3.1.f0 0, eqI x3.1.f1 0]) then ((T56).bind fun x27 => (some x27)) else (some false)) else (some false)) else (some false)) else (some false)) else (some false)) else (some false)))) else (bif (eqI x8 0) then ((T55 p0 p1).bind fun x28 => ((T50 (!x28.2) 8).bind fun x29 => (bif (eqI x1.2 x10) then (bif (eqI x1.1 0) then (bif (eqI x2.2 x12) then (bif (eqI x2.1 0) then (bif (eqI x3.2 x29) then (bif (allB [eqI x3.1.f0 x28.1.f0, eqI x3.1.f1 x28.1.f1]) then ((T56).bind fun x30 => (some x30)) else (some false)) else (some false)) else (some false)) else (some false)) else (some false)) else (some false)))) else (bif (eqI x1.2 x10) then (bif (eqI x1.1 0) then (bif (eqI x2.2 x12) then (bif (eqI x2.1 0) then (bif (eqI x3.2 x8) then (bif (allB [eqI x3.1.f0 0, eqI x3.1.f1 0]) then ((T56).bind fun x31 => (some x31)) else (some false)) else (some false)) else (some false)) else (some false)) else (some false)) else (some false))))))))))))))))))
theorem B13 (C : Callee) (h44 : ∀ (p0 : (List S24)) (p1 : ByteArray) (p2 : Int), C 44 [LL a24 p0, S p1, I p2] = (T44 p0 p1 p2).map (fun r => AV.tup [I r.1, I r.2])) (h45 : ∀ (p0 : (List S24)) (p1 : ByteArray) (p2 : Int), C 45 [LL a24 p0, S p1, I p2] = (T45 p0 p1 p2).map (fun r => AV.tup [I r.1, I r.2])) (h46 : ∀ (p0 : (List S24)) (p1 : ByteArray), C 46 [LL a24 p0, S p1] = (T46 p0 p1).map (fun r => AV.tup [a79 r.1, I r.2])) (h47 : ∀ (p0 : (List S24)), C 47 [LL a24 p0] = (T47 p0).map I) (h48 : ∀ (p0 : (List S24)), C 48 [LL a24 p0] = (T48 p0).map I) (h49 : ∀ (p0 : (List Int)), C 49 [LL I p0] = (T49 p0).map I) (h50 : ∀ (p0 : Bool) (p1 : Int), C 50 [B p0, I p1] = (T50 p0 p1).map I) (h51 : ∀ (p0 : ByteArray), C 51 [S p0] = (T51 p0).map B) (h52 : ∀ (p0 : Int), C 52 [I p0] = (T52 p0).map I) (h53 : ∀ (p0 : (List S24)) (p1 : ByteArray) (p2 : Int), C 53 [LL a24 p0, S p1, I p2] = (T53 p0 p1 p2).map (fun r => AV.tup [I r.1, I r.2])) (h54 : ∀ (p0 : (List S24)) (p1 : ByteArray) (p2 : Int), C 54 [LL a24 p0, S p1, I p2] = (T54 p0 p1 p2).map (fun r => AV.tup [I r.1, I r.2])) (h55 : ∀ (p0 : (List S24)) (p1 : ByteArray), C 55 [LL a24 p0, S p1] = (T55 p0 p1).map (fun r => AV.tup [a79 r.1, B r.2])) (h56 : C 56 [] = (T56).map B) (p0 : (List S24)) (p1 : ByteArray) (p2 : Int) : runs Try.prog C (cfg.fn 13) (finFn Try.prog (cfg.fn 13).byval Try.f13) [] (execA Try.prog C (cfg.fn 13) (nr Try.f13 []) (frame0 [LL a24 p0, S p1, I p2] 129)) = (T13 p0 p1 p2).map B := by
  unfold T13
  refine gS 1 ?_
  refine gR 0 (rg Try.f13 0) ?_
  refine se (mkE [(0, LL a24 p0), (1, S p1), (2, I p2)] [] 129) ?_
  refine pN ?_
  refine pS ?_
  refine gS 2 ?_
  refine gR 1 (rg Try.f13 1) ?_
  refine sg 3 (mkE [(26, I p2), (25, S p1), (24, LL a24 p0), (0, LL a24 p0), (1, S p1), (2, I p2)] [] 129) ?_
  refine co 27 [] (h44 p0 p1 p2) (fun x1 => ?_)
  refine se (mkE [(0, LL a24 p0), (1, S p1), (2, I p2), (7, I x1.1), (8, I x1.2)] [] 129) ?_
  refine pN ?_
  refine pS ?_
  refine gS 3 ?_
  refine gR 2 (rg Try.f13 2) ?_
  refine sg 3 (mkE [(33, I p2), (32, S p1), (31, LL a24 p0), (0, LL a24 p0), (1, S p1), (2, I p2), (7, I x1.1), (8, I x1.2)] [] 129) ?_
  refine co 34 [] (h45 p0 p1 p2) (fun x2 => ?_)
  refine se (mkE [(0, LL a24 p0), (1, S p1), (2, I p2), (7, I x1.1), (8, I x1.2), (9, I x2.1), (10, I x2.2)] [] 129) ?_
  refine pN ?_
  refine pS ?_
  refine gS 4 ?_
  refine gR 3 (rg Try.f13 3) ?_
  refine sg 2 (mkE [(39, S p1), (38, LL a24 p0), (0, LL a24 p0), (1, S p1), (2, I p2), (7, I x1.1), (8, I x1.2), (9, I x2.1), (10, I x2.2)] [] 129) ?_
  refine co 40 [] (h46 p0 p1) (fun x3 => ?_)
  refine se (mkE [(0, LL a24 p0), (1, S p1), (2, I p2), (7, I x1.1), (8, I x1.2), (9, I x2.1), (10, I x2.2), (11, .ba 88 0), (12, I x3.2)] [(88, .box [I x3.1.f0, I x3.1.f1] false)] 129) ?_
  refine pN ?_
  refine pS ?_
  refine gS 5 ?_
  refine gR 4 (rg Try.f13 4) ?_
  refine sg 1 (mkE [(43, LL a24 p0), (0, LL a24 p0), (1, S p1), (2, I p2), (7, I x1.1), (8, I x1.2), (9, I x2.1), (10, I x2.2), (11, .ba 88 0), (12, I x3.2)] [(88, .box [I x3.1.f0, I x3.1.f1] false)] 129) ?_
  refine co 44 [] (h47 p0) (fun x4 => ?_)
  refine se (mkE [(0, LL a24 p0), (1, S p1), (2, I p2), (7, I x1.1), (8, I x1.2), (9, I x2.1), (10, I x2.2), (11, .ba 88 0), (12, I x3.2), (13, I x4)] [(88, .box [I x3.1.f0, I x3.1.f1] false)] 129) ?_
  refine pN ?_
  refine pS ?_
  refine gS 7 ?_
  refine gS 0 ?_
  refine gR 5 (rg Try.f13 5) ?_
  refine sg 1 (mkE [(45, LL a24 p0), (0, LL a24 p0), (1, S p1), (2, I p2), (7, I x1.1), (8, I x1.2), (9, I x2.1), (10, I x2.2), (11, .ba 88 0), (12, I x3.2), (13, I x4)] [(88, .box [I x3.1.f0, I x3.1.f1] false)] 129) ?_
  refine co 46 [] (h48 p0) (fun x5 => ?_)
  refine se (mkE [(0, LL a24 p0), (1, S p1), (2, I p2), (7, I x1.1), (8, I x1.2), (9, I x2.1), (10, I x2.2), (11, .ba 88 0), (12, I x3.2), (13, I x4), (48, B (neI x5 x4))] [(88, .box [I x3.1.f0, I x3.1.f1] false)] 129) ?_
  refine pN ?_
  refine pS ?_
  refine gC 48 (neI x5 x4) ?_ ?_
  · refine gS 0 ?_
    refine gR 6 (rg Try.f13 6) ?_
    refine se (mkE [(6, B false)] [] 129) ?_
    refine pN ?_
    refine pS ?_
    refine gE ?_
    exact pL
  · refine gK ?_
    refine pN ?_
    refine pS ?_
    refine gS 8 ?_
    refine gR 7 (rg Try.f13 7) ?_
    refine sg 2 (mkE [(50, S p1), (49, I x4), (0, LL a24 p0), (1, S p1), (2, I p2), (7, I x1.1), (8, I x1.2), (9, I x2.1), (10, I x2.2), (11, .ba 88 0), (12, I x3.2), (13, I x4), (48, B (neI x5 x4))] [(88, .box [I x3.1.f0, I x3.1.f1] false)] 129) ?_
    refine co 51 [] (h51 p1) (fun x6 => ?_)
    refine sg 4 (mkE [(52, B (!x6)), (51, B x6), (50, S p1), (49, I x4), (0, LL a24 p0), (1, S p1), (2, I p2), (7, I x1.1), (8, I x1.2), (9, I x2.1), (10, I x2.2), (11, .ba 88 0), (12, I x3.2), (13, I x4), (48, B (neI x5 x4))] [(88, .box [I x3.1.f0, I x3.1.f1] false)] 129) ?_
    refine co 53 [] (h50 (!x6) 5) (fun x7 => ?_)
    refine sg 6 (mkE [(54, .own 432 0), (53, I x7), (52, B (!x6)), (51, B x6), (50, S p1), (49, I x4), (0, LL a24 p0), (1, S p1), (2, I p2), (7, I x1.1), (8, I x1.2), (9, I x2.1), (10, I x2.2), (11, .ba 88 0), (12, I x3.2), (13, I x4), (48, B (neI x5 x4))] [(432, RR 69 1 I ([x4, x7] : List Int) 0 false), (88, .box [I x3.1.f0, I x3.1.f1] false)] 129) ?_
    refine co 55 [432] (h49 ([x4, x7] : List Int)) (fun x8 => ?_)
    refine se (mkE [(0, LL a24 p0), (1, S p1), (2, I p2), (7, I x1.1), (8, I x1.2), (9, I x2.1), (10, I x2.2), (11, .ba 88 0), (12, I x3.2), (14, I x8)] [(88, .box [I x3.1.f0, I x3.1.f1] false)] 129) ?_
    refine pN ?_
    refine pS ?_
    refine gS 9 ?_
    refine gR 8 (rg Try.f13 8) ?_
    refine sg 2 (mkE [(57, I p2), (56, I x8), (0, LL a24 p0), (1, S p1), (2, I p2), (7, I x1.1), (8, I x1.2), (9, I x2.1), (10, I x2.2), (11, .ba 88 0), (12, I x3.2), (14, I x8)] [(88, .box [I x3.1.f0, I x3.1.f1] false)] 129) ?_
    refine co 58 [] (h52 p2) (fun x9 => ?_)
    refine sg 4 (mkE [(59, .own 472 0), (58, I x9), (57, I p2), (56, I x8), (0, LL a24 p0), (1, S p1), (2, I p2), (7, I x1.1), (8, I x1.2), (9, I x2.1), (10, I x2.2), (11, .ba 88 0), (12, I x3.2), (14, I x8)] [(472, RR 69 1 I ([x8, x9] : List Int) 0 false), (88, .box [I x3.1.f0, I x3.1.f1] false)] 129) ?_
    refine co 60 [472] (h49 ([x8, x9] : List Int)) (fun x10 => ?_)
    refine sg 7 (mkE [(62, I p2), (61, I x8), (60, I x10), (59, .own 472 0), (58, I x9), (57, I p2), (56, I x8), (0, LL a24 p0), (1, S p1), (2, I p2), (7, I x1.1), (8, I x1.2), (9, I x2.1), (10, I x2.2), (11, .ba 88 0), (12, I x3.2), (14, I x8)] [(472, RR 69 1 I ([x8, x9] : List Int) 0 false), (88, .box [I x3.1.f0, I x3.1.f1] false)] 129) ?_
    refine co 63 [] (h52 p2) (fun x11 => ?_)
    refine sg 9 (mkE [(64, .own 512 0), (63, I x11), (62, I p2), (61, I x8), (60, I x10), (59, .own 472 0), (58, I x9), (57, I p2), (56, I x8), (0, LL a24 p0), (1, S p1), (2, I p2), (7, I x1.1), (8, I x1.2), (9, I x2.1), (10, I x2.2), (11, .ba 88 0), (12, I x3.2), (14, I x8)] [(512, RR 69 1 I ([x8, x11] : List Int) 0 false), (472, RR 69 1 I ([x8, x9] : List Int) 0 false), (88, .box [I x3.1.f0, I x3.1.f1] false)] 129) ?_
    refine co 65 [512] (h49 ([x8, x11] : List Int)) (fun x12 => ?_)
    refine se (mkE [(0, LL a24 p0), (1, S p1), (2, I p2), (7, I x1.1), (8, I x1.2), (9, I x2.1), (10, I x2.2), (11, .ba 88 0), (12, I x3.2), (15, I x10), (16, I x12), (17, I x8)] [(88, .box [I x3.1.f0, I x3.1.f1] false)] 129) ?_
    refine pN ?_
    refine pS ?_
    refine gS 10 ?_
    refine gR 9 (rg Try.f13 9) ?_
    refine se (mkE [(0, LL a24 p0), (1, S p1), (2, I p2), (7, I x1.1), (8, I x1.2), (9, I x2.1), (10, I x2.2), (11, .ba 88 0), (12, I x3.2), (15, I x10), (16, I x12), (17, I x8), (18, I 0), (19, I 0), (20, .ba 160 0)] [(88, .box [I x3.1.f0, I x3.1.f1] false), (160, .box [I 0, I 0] false)] 129) ?_
    refine pN ?_
    refine pS ?_
    refine gS 12 ?_
    refine gS 0 ?_
    refine gR 10 (rg Try.f13 10) ?_
    refine se (mkE [(0, LL a24 p0), (1, S p1), (2, I p2), (7, I x1.1), (8, I x1.2), (9, I x2.1), (10, I x2.2), (11, .ba 88 0), (12, I x3.2), (15, I x10), (16, I x12), (17, I x8), (18, I 0), (19, I 0), (20, .ba 160 0), (69, B (eqI x10 0))] [(88, .box [I x3.1.f0, I x3.1.f1] false), (160, .box [I 0, I 0] false)] 129) ?_
    refine pN ?_
    refine pS ?_
    refine gC 69 (eqI x10 0) ?_ ?_
    · refine gR 11 (rg Try.f13 11) ?_
      refine sg 3 (mkE [(73, I p2), (72, S p1), (71, LL a24 p0), (0, LL a24 p0), (1, S p1), (2, I p2), (7, I x1.1), (8, I x1.2), (9, I x2.1), (10, I x2.2), (11, .ba 88 0), (12, I x3.2), (15, I x10), (16, I x12), (17, I x8), (18, I 0), (19, I 0), (20, .ba 160 0), (69, B (eqI x10 0))] [(88, .box [I x3.1.f0, I x3.1.f1] false), (160, .box [I 0, I 0] false)] 129) ?_
      refine co 74 [] (h53 p0 p1 p2) (fun x13 => ?_)
      refine se (mkE [(0, LL a24 p0), (1, S p1), (2, I p2), (7, I x1.1), (8, I x1.2), (9, I x2.1), (10, I x2.2), (11, .ba 88 0), (12, I x3.2), (15, I x13.2), (16, I x12), (17, I x8), (18, I x13.1), (19, I 0), (20, .ba 160 0)] [(88, .box [I x3.1.f0, I x3.1.f1] false), (160, .box [I 0, I 0] false)] 129) ?_
      refine pN ?_
      refine pS ?_
      refine gS 14 ?_
      refine gS 0 ?_
      refine gR 12 (rg Try.f13 12) ?_
      refine se (mkE [(0, LL a24 p0), (1, S p1), (2, I p2), (7, I x1.1), (8, I x1.2), (9, I x2.1), (10, I x2.2), (11, .ba 88 0), (12, I x3.2), (15, I x13.2), (16, I x12), (17, I x8), (18, I x13.1), (19, I 0), (20, .ba 160 0), (78, B (eqI x12 0))] [(88, .box [I x3.1.f0, I x3.1.f1] false), (160, .box [I 0, I 0] false)] 129) ?_
      refine pN ?_
      refine pS ?_
      refine gC 78 (eqI x12 0) ?_ ?_
      · refine gR 13 (rg Try.f13 13) ?_
        refine sg 3 (mkE [(82, I p2), (81, S p1), (80, LL a24 p0), (0, LL a24 p0), (1, S p1), (2, I p2), (7, I x1.1), (8, I x1.2), (9, I x2.1), (10, I x2.2), (11, .ba 88 0), (12, I x3.2), (15, I x13.2), (16, I x12), (17, I x8), (18, I x13.1), (19, I 0), (20, .ba 160 0), (78, B (eqI x12 0))] [(88, .box [I x3.1.f0, I x3.1.f1] false), (160, .box [I 0, I 0] false)] 129) ?_
        refine co 83 [] (h54 p0 p1 p2) (fun x14 => ?_)
        refine se (mkE [(0, LL a24 p0), (1, S p1), (7, I x1.1), (8, I x1.2), (9, I x2.1), (10, I x2.2), (11, .ba 88 0), (12, I x3.2), (15, I x13.2), (16, I x14.2), (17, I x8), (18, I x13.1), (19, I x14.1), (20, .ba 160 0)] [(88, .box [I x3.1.f0, I x3.1.f1] false), (160, .box [I 0, I 0] false)] 129) ?_
        refine pN ?_
        refine pS ?_
        refine gS 17 ?_
        refine gS 0 ?_
        refine gR 14 (rg Try.f13 14) ?_
        refine se (mkE [(0, LL a24 p0), (1, S p1), (7, I x1.1), (8, I x1.2), (9, I x2.1), (10, I x2.2), (11, .ba 88 0), (12, I x3.2), (15, I x13.2), (16, I x14.2), (17, I x8), (18, I x13.1), (19, I x14.1), (20, .ba 160 0), (87, B (eqI x8 0))] [(88, .box [I x3.1.f0, I x3.1.f1] false), (160, .box [I 0, I 0] false)] 129) ?_
        refine pN ?_
        refine pS ?_
        refine gC 87 (eqI x8 0) ?_ ?_
        · refine gS 16 ?_
          refine gR 15 (rg Try.f13 15) ?_
          refine sg 2 (mkE [(90, S p1), (89, LL a24 p0), (0, LL a24 p0), (1, S p1), (7, I x1.1), (8, I x1.2), (9, I x2.1), (10, I x2.2), (11, .ba 88 0), (12, I x3.2), (15, I x13.2), (16, I x14.2), (17, I x8), (18, I x13.1), (19, I x14.1), (20, .ba 160 0), (87, B (eqI x8 0))] [(88, .box [I x3.1.f0, I x3.1.f1] false), (160, .box [I 0, I 0] false)] 129) ?_
          refine co 91 [] (h55 p0 p1) (fun x15 => ?_)
          refine se (mkE [(7, I x1.1), (8, I x1.2), (9, I x2.1), (10, I x2.2), (11, .ba 88 0), (12, I x3.2), (15, I x13.2), (16, I x14.2), (18, I x13.1), (19, I x14.1), (20, .ba 160 0), (21, .ba 168 0), (22, B x15.2)] [(88, .box [I x3.1.f0, I x3.1.f1] false), (160, .box [I 0, I 0] false), (168, .box [I x15.1.f0, I x15.1.f1] false)] 129) ?_
          refine pN ?_
          refine pS ?_
          refine gD 16 4 (rg Try.f13 16) [0, 1, 2, 3, 4, 5] ?_
          refine dg 3 [(some 94, qe (a79 x15.1)), (some 95, qe (B x15.2)), (some 96, qe (B (!x15.2)))] ?_
          refine dc 97 [] (mkE [(96, B (!x15.2)), (95, B x15.2), (7, I x1.1), (8, I x1.2), (9, I x2.1), (10, I x2.2), (11, .ba 88 0), (12, I x3.2), (15, I x13.2), (16, I x14.2), (18, I x13.1), (19, I x14.1), (20, .ba 160 0), (21, .ba 168 0), (22, B x15.2)] [(88, .box [I x3.1.f0, I x3.1.f1] false), (160, .box [I 0, I 0] false), (168, .box [I x15.1.f0, I x15.1.f1] false)] 129) (h50 (!x15.2) 8) (fun x16 => ?_)
          refine de (mkE [(97, I x16), (96, B (!x15.2)), (95, B x15.2), (94, a79 x15.1), (7, I x1.1), (8, I x1.2), (9, I x2.1), (10, I x2.2), (11, .ba 88 0), (12, I x3.2), (15, I x13.2), (16, I x14.2), (18, I x13.1), (19, I x14.1), (20, .ba 160 0), (21, .ba 168 0), (22, B x15.2)] [(88, .box [I x3.1.f0, I x3.1.f1] false), (160, .box [I 0, I 0] false), (168, .box [I x15.1.f0, I x15.1.f1] false)] 129) ?_
          refine se (mkE [(7, I x1.1), (8, I x1.2), (9, I x2.1), (10, I x2.2), (11, .ba 88 0), (12, I x3.2), (15, I x13.2), (16, I x14.2), (17, I x16), (18, I x13.1), (19, I x14.1), (20, .ba 160 0)] [(88, .box [I x3.1.f0, I x3.1.f1] false), (160, .box [I x15.1.f0, I x15.1.f1] false)] 129) ?_
          refine pN ?_
          refine pS ?_
          refine gS 0 ?_
          refine gR 17 (rg Try.f13 17) ?_
          refine sg 4 (mkE [(101, B (eqI x1.2 x13.2)), (100, B (eqI x1.2 x13.2)), (99, I x13.2), (98, I x1.2), (7, I x1.1), (8, I x1.2), (9, I x2.1), (10, I x2.2), (11, .ba 88 0), (12, I x3.2), (15, I x13.2), (16, I x14.2), (17, I x16), (18, I x13.1), (19, I x14.1), (20, .ba 160 0)] [(88, .box [I x3.1.f0, I x3.1.f1] false), (160, .box [I x15.1.f0, I x15.1.f1] false)] 129) ?_
          refine sb 101 (eqI x1.2 x13.2) ?_ ?_
          · refine sg 9 (mkE [(106, B (eqI x1.1 x13.1)), (105, B (eqI x1.1 x13.1)), (104, B (eqI x1.1 x13.1)), (103, I x13.1), (102, I x1.1), (101, B true), (101, B (eqI x1.2 x13.2)), (100, B (eqI x1.2 x13.2)), (99, I x13.2), (98, I x1.2), (7, I x1.1), (8, I x1.2), (9, I x2.1), (10, I x2.2), (11, .ba 88 0), (12, I x3.2), (15, I x13.2), (16, I x14.2), (17, I x16), (18, I x13.1), (19, I x14.1), (20, .ba 160 0)] [(88, .box [I x3.1.f0, I x3.1.f1] false), (160, .box [I x15.1.f0, I x15.1.f1] false)] 129) ?_
            refine sb 106 (eqI x1.1 x13.1) ?_ ?_
            · refine sg 14 (mkE [(111, B (eqI x2.2 x14.2)), (110, B (eqI x2.2 x14.2)), (109, B (eqI x2.2 x14.2)), (108, I x14.2), (107, I x2.2), (106, B true), (106, B (eqI x1.1 x13.1)), (105, B (eqI x1.1 x13.1)), (104, B (eqI x1.1 x13.1)), (103, I x13.1), (102, I x1.1), (101, B true), (101, B (eqI x1.2 x13.2)), (100, B (eqI x1.2 x13.2)), (99, I x13.2), (98, I x1.2), (7, I x1.1), (8, I x1.2), (9, I x2.1), (10, I x2.2), (11, .ba 88 0), (12, I x3.2), (15, I x13.2), (16, I x14.2), (17, I x16), (18, I x13.1), (19, I x14.1), (20, .ba 160 0)] [(88, .box [I x3.1.f0, I x3.1.f1] false), (160, .box [I x15.1.f0, I x15.1.f1] false)] 129) ?_
              refine sb 111 (eqI x2.2 x14.2) ?_ ?_
              · refine sg 19 (mkE [(116, B (eqI x2.1 x14.1)), (115, B (eqI x2.1 x14.1)), (114, B (eqI x2.1 x14.1)), (113, I x14.1), (112, I x2.1), (111, B true), (111, B (eqI x2.2 x14.2)), (110, B (eqI x2.2 x14.2)), (109, B (eqI x2.2 x14.2)), (108, I x14.2), (107, I x2.2), (106, B true), (106, B (eqI x1.1 x13.1)), (105, B (eqI x1.1 x13.1)), (104, B (eqI x1.1 x13.1)), (103, I x13.1), (102, I x1.1), (101, B true), (101, B (eqI x1.2 x13.2)), (100, B (eqI x1.2 x13.2)), (99, I x13.2), (98, I x1.2), (7, I x1.1), (8, I x1.2), (9, I x2.1), (10, I x2.2), (11, .ba 88 0), (12, I x3.2), (15, I x13.2), (16, I x14.2), (17, I x16), (18, I x13.1), (19, I x14.1), (20, .ba 160 0)] [(88, .box [I x3.1.f0, I x3.1.f1] false), (160, .box [I x15.1.f0, I x15.1.f1] false)] 129) ?_
                refine sb 116 (eqI x2.1 x14.1) ?_ ?_
                · refine sg 24 (mkE [(121, B (eqI x3.2 x16)), (120, B (eqI x3.2 x16)), (119, B (eqI x3.2 x16)), (118, I x16), (117, I x3.2), (116, B true), (116, B (eqI x2.1 x14.1)), (115, B (eqI x2.1 x14.1)), (114, B (eqI x2.1 x14.1)), (113, I x14.1), (112, I x2.1), (111, B true), (111, B (eqI x2.2 x14.2)), (110, B (eqI x2.2 x14.2)), (109, B (eqI x2.2 x14.2)), (108, I x14.2), (107, I x2.2), (106, B true), (106, B (eqI x1.1 x13.1)), (105, B (eqI x1.1 x13.1)), (104, B (eqI x1.1 x13.1)), (103, I x13.1), (102, I x1.1), (101, B true), (101, B (eqI x1.2 x13.2)), (100, B (eqI x1.2 x13.2)), (99, I x13.2), (98, I x1.2), (7, I x1.1), (8, I x1.2), (9, I x2.1), (10, I x2.2), (11, .ba 88 0), (12, I x3.2), (15, I x13.2), (16, I x14.2), (17, I x16), (18, I x13.1), (19, I x14.1), (20, .ba 160 0)] [(88, .box [I x3.1.f0, I x3.1.f1] false), (160, .box [I x15.1.f0, I x15.1.f1] false)] 129) ?_
                  refine sb 121 (eqI x3.2 x16) ?_ ?_
                  · refine sg 26 (mkE [(123, a79 x15.1), (122, a79 x3.1), (121, B true), (121, B (eqI x3.2 x16)), (120, B (eqI x3.2 x16)), (119, B (eqI x3.2 x16)), (118, I x16), (117, I x3.2), (116, B true), (116, B (eqI x2.1 x14.1)), (115, B (eqI x2.1 x14.1)), (114, B (eqI x2.1 x14.1)), (113, I x14.1), (112, I x2.1), (111, B true), (111, B (eqI x2.2 x14.2)), (110, B (eqI x2.2 x14.2)), (109, B (eqI x2.2 x14.2)), (108, I x14.2), (107, I x2.2), (106, B true), (106, B (eqI x1.1 x13.1)), (105, B (eqI x1.1 x13.1)), (104, B (eqI x1.1 x13.1)), (103, I x13.1), (102, I x1.1), (101, B true), (101, B (eqI x1.2 x13.2)), (100, B (eqI x1.2 x13.2)), (99, I x13.2), (98, I x1.2), (7, I x1.1), (8, I x1.2), (9, I x2.1), (10, I x2.2), (11, .ba 88 0), (12, I x3.2), (15, I x13.2), (16, I x14.2), (17, I x16), (18, I x13.1), (19, I x14.1), (20, .ba 160 0)] [(88, .box [I x3.1.f0, I x3.1.f1] false), (160, .box [I x15.1.f0, I x15.1.f1] false)] 129) ?_
                    refine eo 124 (B (allB [eqI x3.1.f0 x15.1.f0, eqI x3.1.f1 x15.1.f1])) (eqlE 80 (.tmp 122) (.tmp 123) [I x3.1.f0, I x3.1.f1] [I x15.1.f0, I x15.1.f1] [.int .i64 x3.1.f0, .int .i64 x3.1.f1] [.int .i64 x15.1.f0, .int .i64 x15.1.f1] [eqI x3.1.f0 x15.1.f0, eqI x3.1.f1 x15.1.f1]) ?_
                    refine sg 29 (mkE [(126, B (allB [eqI x3.1.f0 x15.1.f0, eqI x3.1.f1 x15.1.f1])), (125, B (allB [eqI x3.1.f0 x15.1.f0, eqI x3.1.f1 x15.1.f1])), (124, B (allB [eqI x3.1.f0 x15.1.f0, eqI x3.1.f1 x15.1.f1])), (123, a79 x15.1), (122, a79 x3.1), (121, B true), (121, B (eqI x3.2 x16)), (120, B (eqI x3.2 x16)), (119, B (eqI x3.2 x16)), (118, I x16), (117, I x3.2), (116, B true), (116, B (eqI x2.1 x14.1)), (115, B (eqI x2.1 x14.1)), (114, B (eqI x2.1 x14.1)), (113, I x14.1), (112, I x2.1), (111, B true), (111, B (eqI x2.2 x14.2)), (110, B (eqI x2.2 x14.2)), (109, B (eqI x2.2 x14.2)), (108, I x14.2), (107, I x2.2), (106, B true), (106, B (eqI x1.1 x13.1)), (105, B (eqI x1.1 x13.1)), (104, B (eqI x1.1 x13.1)), (103, I x13.1), (102, I x1.1), (101, B true), (101, B (eqI x1.2 x13.2)), (100, B (eqI x1.2 x13.2)), (99, I x13.2), (98, I x1.2), (7, I x1.1), (8, I x1.2), (9, I x2.1), (10, I x2.2), (11, .ba 88 0), (12, I x3.2), (15, I x13.2), (16, I x14.2), (17, I x16), (18, I x13.1), (19, I x14.1), (20, .ba 160 0)] [(88, .box [I x3.1.f0, I x3.1.f1] false), (160, .box [I x15.1.f0, I x15.1.f1] false)] 129) ?_
                    refine sb 126 (allB [eqI x3.1.f0 x15.1.f0, eqI x3.1.f1 x15.1.f1]) ?_ ?_
                    · refine co 127 [] (h56) (fun x17 => ?_)
                      refine se (mkE [(6, B x17)] [] 129) ?_
                      refine pN ?_
                      refine pS ?_
                      refine gE ?_
                      exact pL
                    · refine se (mkE [(6, B false)] [] 129) ?_
                      refine pN ?_
                      refine pS ?_
                      refine gE ?_
                      exact pL
                  · refine se (mkE [(6, B false)] [] 129) ?_
                    refine pN ?_
                    refine pS ?_
                    refine gE ?_
                    exact pL
                · refine se (mkE [(6, B false)] [] 129) ?_
                  refine pN ?_
                  refine pS ?_
                  refine gE ?_
                  exact pL
              · refine se (mkE [(6, B false)] [] 129) ?_
                refine pN ?_
                refine pS ?_
                refine gE ?_
                exact pL
            · refine se (mkE [(6, B false)] [] 129) ?_
              refine pN ?_
              refine pS ?_
              refine gE ?_
              exact pL
          · refine se (mkE [(6, B false)] [] 129) ?_
            refine pN ?_
            refine pS ?_
            refine gE ?_
            exact pL
        · refine gK ?_
          refine pN ?_
          refine pS ?_
          refine gS 0 ?_
          refine gR 17 (rg Try.f13 17) ?_
          refine sg 4 (mkE [(101, B (eqI x1.2 x13.2)), (100, B (eqI x1.2 x13.2)), (99, I x13.2), (98, I x1.2), (0, LL a24 p0), (1, S p1), (7, I x1.1), (8, I x1.2), (9, I x2.1), (10, I x2.2), (11, .ba 88 0), (12, I x3.2), (15, I x13.2), (16, I x14.2), (17, I x8), (18, I x13.1), (19, I x14.1), (20, .ba 160 0), (87, B (eqI x8 0))] [(88, .box [I x3.1.f0, I x3.1.f1] false), (160, .box [I 0, I 0] false)] 129) ?_
          refine sb 101 (eqI x1.2 x13.2) ?_ ?_
          · refine sg 9 (mkE [(106, B (eqI x1.1 x13.1)), (105, B (eqI x1.1 x13.1)), (104, B (eqI x1.1 x13.1)), (103, I x13.1), (102, I x1.1), (101, B true), (101, B (eqI x1.2 x13.2)), (100, B (eqI x1.2 x13.2)), (99, I x13.2), (98, I x1.2), (0, LL a24 p0), (1, S p1), (7, I x1.1), (8, I x1.2), (9, I x2.1), (10, I x2.2), (11, .ba 88 0), (12, I x3.2), (15, I x13.2), (16, I x14.2), (17, I x8), (18, I x13.1), (19, I x14.1), (20, .ba 160 0), (87, B (eqI x8 0))] [(88, .box [I x3.1.f0, I x3.1.f1] false), (160, .box [I 0, I 0] false)] 129) ?_
            refine sb 106 (eqI x1.1 x13.1) ?_ ?_
            · refine sg 14 (mkE [(111, B (eqI x2.2 x14.2)), (110, B (eqI x2.2 x14.2)), (109, B (eqI x2.2 x14.2)), (108, I x14.2), (107, I x2.2), (106, B true), (106, B (eqI x1.1 x13.1)), (105, B (eqI x1.1 x13.1)), (104, B (eqI x1.1 x13.1)), (103, I x13.1), (102, I x1.1), (101, B true), (101, B (eqI x1.2 x13.2)), (100, B (eqI x1.2 x13.2)), (99, I x13.2), (98, I x1.2), (0, LL a24 p0), (1, S p1), (7, I x1.1), (8, I x1.2), (9, I x2.1), (10, I x2.2), (11, .ba 88 0), (12, I x3.2), (15, I x13.2), (16, I x14.2), (17, I x8), (18, I x13.1), (19, I x14.1), (20, .ba 160 0), (87, B (eqI x8 0))] [(88, .box [I x3.1.f0, I x3.1.f1] false), (160, .box [I 0, I 0] false)] 129) ?_
              refine sb 111 (eqI x2.2 x14.2) ?_ ?_
              · refine sg 19 (mkE [(116, B (eqI x2.1 x14.1)), (115, B (eqI x2.1 x14.1)), (114, B (eqI x2.1 x14.1)), (113, I x14.1), (112, I x2.1), (111, B true), (111, B (eqI x2.2 x14.2)), (110, B (eqI x2.2 x14.2)), (109, B (eqI x2.2 x14.2)), (108, I x14.2), (107, I x2.2), (106, B true), (106, B (eqI x1.1 x13.1)), (105, B (eqI x1.1 x13.1)), (104, B (eqI x1.1 x13.1)), (103, I x13.1), (102, I x1.1), (101, B true), (101, B (eqI x1.2 x13.2)), (100, B (eqI x1.2 x13.2)), (99, I x13.2), (98, I x1.2), (0, LL a24 p0), (1, S p1), (7, I x1.1), (8, I x1.2), (9, I x2.1), (10, I x2.2), (11, .ba 88 0), (12, I x3.2), (15, I x13.2), (16, I x14.2), (17, I x8), (18, I x13.1), (19, I x14.1), (20, .ba 160 0), (87, B (eqI x8 0))] [(88, .box [I x3.1.f0, I x3.1.f1] false), (160, .box [I 0, I 0] false)] 129) ?_
                refine sb 116 (eqI x2.1 x14.1) ?_ ?_
                · refine sg 24 (mkE [(121, B (eqI x3.2 x8)), (120, B (eqI x3.2 x8)), (119, B (eqI x3.2 x8)), (118, I x8), (117, I x3.2), (116, B true), (116, B (eqI x2.1 x14.1)), (115, B (eqI x2.1 x14.1)), (114, B (eqI x2.1 x14.1)), (113, I x14.1), (112, I x2.1), (111, B true), (111, B (eqI x2.2 x14.2)), (110, B (eqI x2.2 x14.2)), (109, B (eqI x2.2 x14.2)), (108, I x14.2), (107, I x2.2), (106, B true), (106, B (eqI x1.1 x13.1)), (105, B (eqI x1.1 x13.1)), (104, B (eqI x1.1 x13.1)), (103, I x13.1), (102, I x1.1), (101, B true), (101, B (eqI x1.2 x13.2)), (100, B (eqI x1.2 x13.2)), (99, I x13.2), (98, I x1.2), (0, LL a24 p0), (1, S p1), (7, I x1.1), (8, I x1.2), (9, I x2.1), (10, I x2.2), (11, .ba 88 0), (12, I x3.2), (15, I x13.2), (16, I x14.2), (17, I x8), (18, I x13.1), (19, I x14.1), (20, .ba 160 0), (87, B (eqI x8 0))] [(88, .box [I x3.1.f0, I x3.1.f1] false), (160, .box [I 0, I 0] false)] 129) ?_
                  refine sb 121 (eqI x3.2 x8) ?_ ?_
                  · refine sg 26 (mkE [(123, .agg [I 0, I 0]), (122, a79 x3.1), (121, B true), (121, B (eqI x3.2 x8)), (120, B (eqI x3.2 x8)), (119, B (eqI x3.2 x8)), (118, I x8), (117, I x3.2), (116, B true), (116, B (eqI x2.1 x14.1)), (115, B (eqI x2.1 x14.1)), (114, B (eqI x2.1 x14.1)), (113, I x14.1), (112, I x2.1), (111, B true), (111, B (eqI x2.2 x14.2)), (110, B (eqI x2.2 x14.2)), (109, B (eqI x2.2 x14.2)), (108, I x14.2), (107, I x2.2), (106, B true), (106, B (eqI x1.1 x13.1)), (105, B (eqI x1.1 x13.1)), (104, B (eqI x1.1 x13.1)), (103, I x13.1), (102, I x1.1), (101, B true), (101, B (eqI x1.2 x13.2)), (100, B (eqI x1.2 x13.2)), (99, I x13.2), (98, I x1.2), (0, LL a24 p0), (1, S p1), (7, I x1.1), (8, I x1.2), (9, I x2.1), (10, I x2.2), (11, .ba 88 0), (12, I x3.2), (15, I x13.2), (16, I x14.2), (17, I x8), (18, I x13.1), (19, I x14.1), (20, .ba 160 0), (87, B (eqI x8 0))] [(88, .box [I x3.1.f0, I x3.1.f1] false), (160, .box [I 0, I 0] false)] 129) ?_
                    refine eo 124 (B (allB [eqI x3.1.f0 0, eqI x3.1.f1 0])) (eqlE 80 (.tmp 122) (.tmp 123) [I x3.1.f0, I x3.1.f1] [I 0, I 0] [.int .i64 x3.1.f0, .int .i64 x3.1.f1] [.int .i64 0, .int .i64 0] [eqI x3.1.f0 0, eqI x3.1.f1 0]) ?_
                    refine sg 29 (mkE [(126, B (allB [eqI x3.1.f0 0, eqI x3.1.f1 0])), (125, B (allB [eqI x3.1.f0 0, eqI x3.1.f1 0])), (124, B (allB [eqI x3.1.f0 0, eqI x3.1.f1 0])), (123, .agg [I 0, I 0]), (122, a79 x3.1), (121, B true), (121, B (eqI x3.2 x8)), (120, B (eqI x3.2 x8)), (119, B (eqI x3.2 x8)), (118, I x8), (117, I x3.2), (116, B true), (116, B (eqI x2.1 x14.1)), (115, B (eqI x2.1 x14.1)), (114, B (eqI x2.1 x14.1)), (113, I x14.1), (112, I x2.1), (111, B true), (111, B (eqI x2.2 x14.2)), (110, B (eqI x2.2 x14.2)), (109, B (eqI x2.2 x14.2)), (108, I x14.2), (107, I x2.2), (106, B true), (106, B (eqI x1.1 x13.1)), (105, B (eqI x1.1 x13.1)), (104, B (eqI x1.1 x13.1)), (103, I x13.1), (102, I x1.1), (101, B true), (101, B (eqI x1.2 x13.2)), (100, B (eqI x1.2 x13.2)), (99, I x13.2), (98, I x1.2), (0, LL a24 p0), (1, S p1), (7, I x1.1), (8, I x1.2), (9, I x2.1), (10, I x2.2), (11, .ba 88 0), (12, I x3.2), (15, I x13.2), (16, I x14.2), (17, I x8), (18, I x13.1), (19, I x14.1), (20, .ba 160 0), (87, B (eqI x8 0))] [(88, .box [I x3.1.f0, I x3.1.f1] false), (160, .box [I 0, I 0] false)] 129) ?_
                    refine sb 126 (allB [eqI x3.1.f0 0, eqI x3.1.f1 0]) ?_ ?_
                    · refine co 127 [] (h56) (fun x18 => ?_)
                      refine se (mkE [(6, B x18)] [] 129) ?_
                      refine pN ?_
                      refine pS ?_
                      refine gE ?_
                      exact pL
                    · refine se (mkE [(6, B false)] [] 129) ?_
                      refine pN ?_
                      refine pS ?_
                      refine gE ?_
                      exact pL
                  · refine se (mkE [(6, B false)] [] 129) ?_
                    refine pN ?_
                    refine pS ?_
                    refine gE ?_
                    exact pL
                · refine se (mkE [(6, B false)] [] 129) ?_
                  refine pN ?_
                  refine pS ?_
                  refine gE ?_
                  exact pL
              · refine se (mkE [(6, B false)] [] 129) ?_
                refine pN ?_
                refine pS ?_
                refine gE ?_
                exact pL
            · refine se (mkE [(6, B false)] [] 129) ?_
              refine pN ?_
              refine pS ?_
              refine gE ?_
              exact pL
          · refine se (mkE [(6, B false)] [] 129) ?_
            refine pN ?_
            refine pS ?_
            refine gE ?_
            exact pL
      · refine gK ?_
        refine pN ?_
        refine pS ?_
        refine gS 17 ?_
        refine gS 0 ?_
        refine gR 14 (rg Try.f13 14) ?_
        refine se (mkE [(0, LL a24 p0), (1, S p1), (7, I x1.1), (8, I x1.2), (9, I x2.1), (10, I x2.2), (11, .ba 88 0), (12, I x3.2), (15, I x13.2), (16, I x12), (17, I x8), (18, I x13.1), (19, I 0), (20, .ba 160 0), (87, B (eqI x8 0))] [(88, .box [I x3.1.f0, I x3.1.f1] false), (160, .box [I 0, I 0] false)] 129) ?_
        refine pN ?_
        refine pS ?_
        refine gC 87 (eqI x8 0) ?_ ?_
        · refine gS 16 ?_
          refine gR 15 (rg Try.f13 15) ?_
          refine sg 2 (mkE [(90, S p1), (89, LL a24 p0), (0, LL a24 p0), (1, S p1), (7, I x1.1), (8, I x1.2), (9, I x2.1), (10, I x2.2), (11, .ba 88 0), (12, I x3.2), (15, I x13.2), (16, I x12), (17, I x8), (18, I x13.1), (19, I 0), (20, .ba 160 0), (87, B (eqI x8 0))] [(88, .box [I x3.1.f0, I x3.1.f1] false), (160, .box [I 0, I 0] false)] 129) ?_
          refine co 91 [] (h55 p0 p1) (fun x19 => ?_)
          refine se (mkE [(7, I x1.1), (8, I x1.2), (9, I x2.1), (10, I x2.2), (11, .ba 88 0), (12, I x3.2), (15, I x13.2), (16, I x12), (18, I x13.1), (19, I 0), (20, .ba 160 0), (21, .ba 168 0), (22, B x19.2)] [(88, .box [I x3.1.f0, I x3.1.f1] false), (160, .box [I 0, I 0] false), (168, .box [I x19.1.f0, I x19.1.f1] false)] 129) ?_
          refine pN ?_
          refine pS ?_
          refine gD 16 4 (rg Try.f13 16) [0, 1, 2, 3, 4, 5] ?_
          refine dg 3 [(some 94, qe (a79 x19.1)), (some 95, qe (B x19.2)), (some 96, qe (B (!x19.2)))] ?_
          refine dc 97 [] (mkE [(96, B (!x19.2)), (95, B x19.2), (7, I x1.1), (8, I x1.2), (9, I x2.1), (10, I x2.2), (11, .ba 88 0), (12, I x3.2), (15, I x13.2), (16, I x12), (18, I x13.1), (19, I 0), (20, .ba 160 0), (21, .ba 168 0), (22, B x19.2)] [(88, .box [I x3.1.f0, I x3.1.f1] false), (160, .box [I 0, I 0] false), (168, .box [I x19.1.f0, I x19.1.f1] false)] 129) (h50 (!x19.2) 8) (fun x20 => ?_)
          refine de (mkE [(97, I x20), (96, B (!x19.2)), (95, B x19.2), (94, a79 x19.1), (7, I x1.1), (8, I x1.2), (9, I x2.1), (10, I x2.2), (11, .ba 88 0), (12, I x3.2), (15, I x13.2), (16, I x12), (18, I x13.1), (19, I 0), (20, .ba 160 0), (21, .ba 168 0), (22, B x19.2)] [(88, .box [I x3.1.f0, I x3.1.f1] false), (160, .box [I 0, I 0] false), (168, .box [I x19.1.f0, I x19.1.f1] false)] 129) ?_
          refine se (mkE [(7, I x1.1), (8, I x1.2), (9, I x2.1), (10, I x2.2), (11, .ba 88 0), (12, I x3.2), (15, I x13.2), (16, I x12), (17, I x20), (18, I x13.1), (19, I 0), (20, .ba 160 0)] [(88, .box [I x3.1.f0, I x3.1.f1] false), (160, .box [I x19.1.f0, I x19.1.f1] false)] 129) ?_
          refine pN ?_
          refine pS ?_
          refine gS 0 ?_
          refine gR 17 (rg Try.f13 17) ?_
          refine sg 4 (mkE [(101, B (eqI x1.2 x13.2)), (100, B (eqI x1.2 x13.2)), (99, I x13.2), (98, I x1.2), (7, I x1.1), (8, I x1.2), (9, I x2.1), (10, I x2.2), (11, .ba 88 0), (12, I x3.2), (15, I x13.2), (16, I x12), (17, I x20), (18, I x13.1), (19, I 0), (20, .ba 160 0)] [(88, .box [I x3.1.f0, I x3.1.f1] false), (160, .box [I x19.1.f0, I x19.1.f1] false)] 129) ?_
          refine sb 101 (eqI x1.2 x13.2) ?_ ?_
          · refine sg 9 (mkE [(106, B (eqI x1.1 x13.1)), (105, B (eqI x1.1 x13.1)), (104, B (eqI x1.1 x13.1)), (103, I x13.1), (102, I x1.1), (101, B true), (101, B (eqI x1.2 x13.2)), (100, B (eqI x1.2 x13.2)), (99, I x13.2), (98, I x1.2), (7, I x1.1), (8, I x1.2), (9, I x2.1), (10, I x2.2), (11, .ba 88 0), (12, I x3.2), (15, I x13.2), (16, I x12), (17, I x20), (18, I x13.1), (19, I 0), (20, .ba 160 0)] [(88, .box [I x3.1.f0, I x3.1.f1] false), (160, .box [I x19.1.f0, I x19.1.f1] false)] 129) ?_
            refine sb 106 (eqI x1.1 x13.1) ?_ ?_
            · refine sg 14 (mkE [(111, B (eqI x2.2 x12)), (110, B (eqI x2.2 x12)), (109, B (eqI x2.2 x12)), (108, I x12), (107, I x2.2), (106, B true), (106, B (eqI x1.1 x13.1)), (105, B (eqI x1.1 x13.1)), (104, B (eqI x1.1 x13.1)), (103, I x13.1), (102, I x1.1), (101, B true), (101, B (eqI x1.2 x13.2)), (100, B (eqI x1.2 x13.2)), (99, I x13.2), (98, I x1.2), (7, I x1.1), (8, I x1.2), (9, I x2.1), (10, I x2.2), (11, .ba 88 0), (12, I x3.2), (15, I x13.2), (16, I x12), (17, I x20), (18, I x13.1), (19, I 0), (20, .ba 160 0)] [(88, .box [I x3.1.f0, I x3.1.f1] false), (160, .box [I x19.1.f0, I x19.1.f1] false)] 129) ?_
              refine sb 111 (eqI x2.2 x12) ?_ ?_
              · refine sg 19 (mkE [(116, B (eqI x2.1 0)), (115, B (eqI x2.1 0)), (114, B (eqI x2.1 0)), (113, I 0), (112, I x2.1), (111, B true), (111, B (eqI x2.2 x12)), (110, B (eqI x2.2 x12)), (109, B (eqI x2.2 x12)), (108, I x12), (107, I x2.2), (106, B true), (106, B (eqI x1.1 x13.1)), (105, B (eqI x1.1 x13.1)), (104, B (eqI x1.1 x13.1)), (103, I x13.1), (102, I x1.1), (101, B true), (101, B (eqI x1.2 x13.2)), (100, B (eqI x1.2 x13.2)), (99, I x13.2), (98, I x1.2), (7, I x1.1), (8, I x1.2), (9, I x2.1), (10, I x2.2), (11, .ba 88 0), (12, I x3.2), (15, I x13.2), (16, I x12), (17, I x20), (18, I x13.1), (19, I 0), (20, .ba 160 0)] [(88, .box [I x3.1.f0, I x3.1.f1] false), (160, .box [I x19.1.f0, I x19.1.f1] false)] 129) ?_
                refine sb 116 (eqI x2.1 0) ?_ ?_
                · refine sg 24 (mkE [(121, B (eqI x3.2 x20)), (120, B (eqI x3.2 x20)), (119, B (eqI x3.2 x20)), (118, I x20), (117, I x3.2), (116, B true), (116, B (eqI x2.1 0)), (115, B (eqI x2.1 0)), (114, B (eqI x2.1 0)), (113, I 0), (112, I x2.1), (111, B true), (111, B (eqI x2.2 x12)), (110, B (eqI x2.2 x12)), (109, B (eqI x2.2 x12)), (108, I x12), (107, I x2.2), (106, B true), (106, B (eqI x1.1 x13.1)), (105, B (eqI x1.1 x13.1)), (104, B (eqI x1.1 x13.1)), (103, I x13.1), (102, I x1.1), (101, B true), (101, B (eqI x1.2 x13.2)), (100, B (eqI x1.2 x13.2)), (99, I x13.2), (98, I x1.2), (7, I x1.1), (8, I x1.2), (9, I x2.1), (10, I x2.2), (11, .ba 88 0), (12, I x3.2), (15, I x13.2), (16, I x12), (17, I x20), (18, I x13.1), (19, I 0), (20, .ba 160 0)] [(88, .box [I x3.1.f0, I x3.1.f1] false), (160, .box [I x19.1.f0, I x19.1.f1] false)] 129) ?_
                  refine sb 121 (eqI x3.2 x20) ?_ ?_
                  · refine sg 26 (mkE [(123, a79 x19.1), (122, a79 x3.1), (121, B true), (121, B (eqI x3.2 x20)), (120, B (eqI x3.2 x20)), (119, B (eqI x3.2 x20)), (118, I x20), (117, I x3.2), (116, B true), (116, B (eqI x2.1 0)), (115, B (eqI x2.1 0)), (114, B (eqI x2.1 0)), (113, I 0), (112, I x2.1), (111, B true), (111, B (eqI x2.2 x12)), (110, B (eqI x2.2 x12)), (109, B (eqI x2.2 x12)), (108, I x12), (107, I x2.2), (106, B true), (106, B (eqI x1.1 x13.1)), (105, B (eqI x1.1 x13.1)), (104, B (eqI x1.1 x13.1)), (103, I x13.1), (102, I x1.1), (101, B true), (101, B (eqI x1.2 x13.2)), (100, B (eqI x1.2 x13.2)), (99, I x13.2), (98, I x1.2), (7, I x1.1), (8, I x1.2), (9, I x2.1), (10, I x2.2), (11, .ba 88 0), (12, I x3.2), (15, I x13.2), (16, I x12), (17, I x20), (18, I x13.1), (19, I 0), (20, .ba 160 0)] [(88, .box [I x3.1.f0, I x3.1.f1] false), (160, .box [I x19.1.f0, I x19.1.f1] false)] 129) ?_
                    refine eo 124 (B (allB [eqI x3.1.f0 x19.1.f0, eqI x3.1.f1 x19.1.f1])) (eqlE 80 (.tmp 122) (.tmp 123) [I x3.1.f0, I x3.1.f1] [I x19.1.f0, I x19.1.f1] [.int .i64 x3.1.f0, .int .i64 x3.1.f1] [.int .i64 x19.1.f0, .int .i64 x19.1.f1] [eqI x3.1.f0 x19.1.f0, eqI x3.1.f1 x19.1.f1]) ?_
                    refine sg 29 (mkE [(126, B (allB [eqI x3.1.f0 x19.1.f0, eqI x3.1.f1 x19.1.f1])), (125, B (allB [eqI x3.1.f0 x19.1.f0, eqI x3.1.f1 x19.1.f1])), (124, B (allB [eqI x3.1.f0 x19.1.f0, eqI x3.1.f1 x19.1.f1])), (123, a79 x19.1), (122, a79 x3.1), (121, B true), (121, B (eqI x3.2 x20)), (120, B (eqI x3.2 x20)), (119, B (eqI x3.2 x20)), (118, I x20), (117, I x3.2), (116, B true), (116, B (eqI x2.1 0)), (115, B (eqI x2.1 0)), (114, B (eqI x2.1 0)), (113, I 0), (112, I x2.1), (111, B true), (111, B (eqI x2.2 x12)), (110, B (eqI x2.2 x12)), (109, B (eqI x2.2 x12)), (108, I x12), (107, I x2.2), (106, B true), (106, B (eqI x1.1 x13.1)), (105, B (eqI x1.1 x13.1)), (104, B (eqI x1.1 x13.1)), (103, I x13.1), (102, I x1.1), (101, B true), (101, B (eqI x1.2 x13.2)), (100, B (eqI x1.2 x13.2)), (99, I x13.2), (98, I x1.2), (7, I x1.1), (8, I x1.2), (9, I x2.1), (10, I x2.2), (11, .ba 88 0), (12, I x3.2), (15, I x13.2), (16, I x12), (17, I x20), (18, I x13.1), (19, I 0), (20, .ba 160 0)] [(88, .box [I x3.1.f0, I x3.1.f1] false), (160, .box [I x19.1.f0, I x19.1.f1] false)] 129) ?_
                    refine sb 126 (allB [eqI x3.1.f0 x19.1.f0, eqI x3.1.f1 x19.1.f1]) ?_ ?_
                    · refine co 127 [] (h56) (fun x21 => ?_)
                      refine se (mkE [(6, B x21)] [] 129) ?_
                      refine pN ?_
                      refine pS ?_
                      refine gE ?_
                      exact pL
                    · refine se (mkE [(6, B false)] [] 129) ?_
                      refine pN ?_
                      refine pS ?_
                      refine gE ?_
                      exact pL
                  · refine se (mkE [(6, B false)] [] 129) ?_
                    refine pN ?_
                    refine pS ?_
                    refine gE ?_
                    exact pL
                · refine se (mkE [(6, B false)] [] 129) ?_
                  refine pN ?_
                  refine pS ?_
                  refine gE ?_
                  exact pL
              · refine se (mkE [(6, B false)] [] 129) ?_
                refine pN ?_
                refine pS ?_
                refine gE ?_
                exact pL
            · refine se (mkE [(6, B false)] [] 129) ?_
              refine pN ?_
              refine pS ?_
              refine gE ?_
              exact pL
          · refine se (mkE [(6, B false)] [] 129) ?_
            refine pN ?_
            refine pS ?_
            refine gE ?_
            exact pL
        · refine gK ?_
          refine pN ?_
          refine pS ?_
          refine gS 0 ?_
          refine gR 17 (rg Try.f13 17) ?_
          refine sg 4 (mkE [(101, B (eqI x1.2 x13.2)), (100, B (eqI x1.2 x13.2)), (99, I x13.2), (98, I x1.2), (0, LL a24 p0), (1, S p1), (7, I x1.1), (8, I x1.2), (9, I x2.1), (10, I x2.2), (11, .ba 88 0), (12, I x3.2), (15, I x13.2), (16, I x12), (17, I x8), (18, I x13.1), (19, I 0), (20, .ba 160 0), (87, B (eqI x8 0))] [(88, .box [I x3.1.f0, I x3.1.f1] false), (160, .box [I 0, I 0] false)] 129) ?_
          refine sb 101 (eqI x1.2 x13.2) ?_ ?_
          · refine sg 9 (mkE [(106, B (eqI x1.1 x13.1)), (105, B (eqI x1.1 x13.1)), (104, B (eqI x1.1 x13.1)), (103, I x13.1), (102, I x1.1), (101, B true), (101, B (eqI x1.2 x13.2)), (100, B (eqI x1.2 x13.2)), (99, I x13.2), (98, I x1.2), (0, LL a24 p0), (1, S p1), (7, I x1.1), (8, I x1.2), (9, I x2.1), (10, I x2.2), (11, .ba 88 0), (12, I x3.2), (15, I x13.2), (16, I x12), (17, I x8), (18, I x13.1), (19, I 0), (20, .ba 160 0), (87, B (eqI x8 0))] [(88, .box [I x3.1.f0, I x3.1.f1] false), (160, .box [I 0, I 0] false)] 129) ?_
            refine sb 106 (eqI x1.1 x13.1) ?_ ?_
            · refine sg 14 (mkE [(111, B (eqI x2.2 x12)), (110, B (eqI x2.2 x12)), (109, B (eqI x2.2 x12)), (108, I x12), (107, I x2.2), (106, B true), (106, B (eqI x1.1 x13.1)), (105, B (eqI x1.1 x13.1)), (104, B (eqI x1.1 x13.1)), (103, I x13.1), (102, I x1.1), (101, B true), (101, B (eqI x1.2 x13.2)), (100, B (eqI x1.2 x13.2)), (99, I x13.2), (98, I x1.2), (0, LL a24 p0), (1, S p1), (7, I x1.1), (8, I x1.2), (9, I x2.1), (10, I x2.2), (11, .ba 88 0), (12, I x3.2), (15, I x13.2), (16, I x12), (17, I x8), (18, I x13.1), (19, I 0), (20, .ba 160 0), (87, B (eqI x8 0))] [(88, .box [I x3.1.f0, I x3.1.f1] false), (160, .box [I 0, I 0] false)] 129) ?_
              refine sb 111 (eqI x2.2 x12) ?_ ?_
              · refine sg 19 (mkE [(116, B (eqI x2.1 0)), (115, B (eqI x2.1 0)), (114, B (eqI x2.1 0)), (113, I 0), (112, I x2.1), (111, B true), (111, B (eqI x2.2 x12)), (110, B (eqI x2.2 x12)), (109, B (eqI x2.2 x12)), (108, I x12), (107, I x2.2), (106, B true), (106, B (eqI x1.1 x13.1)), (105, B (eqI x1.1 x13.1)), (104, B (eqI x1.1 x13.1)), (103, I x13.1), (102, I x1.1), (101, B true), (101, B (eqI x1.2 x13.2)), (100, B (eqI x1.2 x13.2)), (99, I x13.2), (98, I x1.2), (0, LL a24 p0), (1, S p1), (7, I x1.1), (8, I x1.2), (9, I x2.1), (10, I x2.2), (11, .ba 88 0), (12, I x3.2), (15, I x13.2), (16, I x12), (17, I x8), (18, I x13.1), (19, I 0), (20, .ba 160 0), (87, B (eqI x8 0))] [(88, .box [I x3.1.f0, I x3.1.f1] false), (160, .box [I 0, I 0] false)] 129) ?_
                refine sb 116 (eqI x2.1 0) ?_ ?_
                · refine sg 24 (mkE [(121, B (eqI x3.2 x8)), (120, B (eqI x3.2 x8)), (119, B (eqI x3.2 x8)), (118, I x8), (117, I x3.2), (116, B true), (116, B (eqI x2.1 0)), (115, B (eqI x2.1 0)), (114, B (eqI x2.1 0)), (113, I 0), (112, I x2.1), (111, B true), (111, B (eqI x2.2 x12)), (110, B (eqI x2.2 x12)), (109, B (eqI x2.2 x12)), (108, I x12), (107, I x2.2), (106, B true), (106, B (eqI x1.1 x13.1)), (105, B (eqI x1.1 x13.1)), (104, B (eqI x1.1 x13.1)), (103, I x13.1), (102, I x1.1), (101, B true), (101, B (eqI x1.2 x13.2)), (100, B (eqI x1.2 x13.2)), (99, I x13.2), (98, I x1.2), (0, LL a24 p0), (1, S p1), (7, I x1.1), (8, I x1.2), (9, I x2.1), (10, I x2.2), (11, .ba 88 0), (12, I x3.2), (15, I x13.2), (16, I x12), (17, I x8), (18, I x13.1), (19, I 0), (20, .ba 160 0), (87, B (eqI x8 0))] [(88, .box [I x3.1.f0, I x3.1.f1] false), (160, .box [I 0, I 0] false)] 129) ?_
                  refine sb 121 (eqI x3.2 x8) ?_ ?_
                  · refine sg 26 (mkE [(123, .agg [I 0, I 0]), (122, a79 x3.1), (121, B true), (121, B (eqI x3.2 x8)), (120, B (eqI x3.2 x8)), (119, B (eqI x3.2 x8)), (118, I x8), (117, I x3.2), (116, B true), (116, B (eqI x2.1 0)), (115, B (eqI x2.1 0)), (114, B (eqI x2.1 0)), (113, I 0), (112, I x2.1), (111, B true), (111, B (eqI x2.2 x12)), (110, B (eqI x2.2 x12)), (109, B (eqI x2.2 x12)), (108, I x12), (107, I x2.2), (106, B true), (106, B (eqI x1.1 x13.1)), (105, B (eqI x1.1 x13.1)), (104, B (eqI x1.1 x13.1)), (103, I x13.1), (102, I x1.1), (101, B true), (101, B (eqI x1.2 x13.2)), (100, B (eqI x1.2 x13.2)), (99, I x13.2), (98, I x1.2), (0, LL a24 p0), (1, S p1), (7, I x1.1), (8, I x1.2), (9, I x2.1), (10, I x2.2), (11, .ba 88 0), (12, I x3.2), (15, I x13.2), (16, I x12), (17, I x8), (18, I x13.1), (19, I 0), (20, .ba 160 0), (87, B (eqI x8 0))] [(88, .box [I x3.1.f0, I x3.1.f1] false), (160, .box [I 0, I 0] false)] 129) ?_
                    refine eo 124 (B (allB [eqI x3.1.f0 0, eqI x3.1.f1 0])) (eqlE 80 (.tmp 122) (.tmp 123) [I x3.1.f0, I x3.1.f1] [I 0, I 0] [.int .i64 x3.1.f0, .int .i64 x3.1.f1] [.int .i64 0, .int .i64 0] [eqI x3.1.f0 0, eqI x3.1.f1 0]) ?_
                    refine sg 29 (mkE [(126, B (allB [eqI x3.1.f0 0, eqI x3.1.f1 0])), (125, B (allB [eqI x3.1.f0 0, eqI x3.1.f1 0])), (124, B (allB [eqI x3.1.f0 0, eqI x3.1.f1 0])), (123, .agg [I 0, I 0]), (122, a79 x3.1), (121, B true), (121, B (eqI x3.2 x8)), (120, B (eqI x3.2 x8)), (119, B (eqI x3.2 x8)), (118, I x8), (117, I x3.2), (116, B true), (116, B (eqI x2.1 0)), (115, B (eqI x2.1 0)), (114, B (eqI x2.1 0)), (113, I 0), (112, I x2.1), (111, B true), (111, B (eqI x2.2 x12)), (110, B (eqI x2.2 x12)), (109, B (eqI x2.2 x12)), (108, I x12), (107, I x2.2), (106, B true), (106, B (eqI x1.1 x13.1)), (105, B (eqI x1.1 x13.1)), (104, B (eqI x1.1 x13.1)), (103, I x13.1), (102, I x1.1), (101, B true), (101, B (eqI x1.2 x13.2)), (100, B (eqI x1.2 x13.2)), (99, I x13.2), (98, I x1.2), (0, LL a24 p0), (1, S p1), (7, I x1.1), (8, I x1.2), (9, I x2.1), (10, I x2.2), (11, .ba 88 0), (12, I x3.2), (15, I x13.2), (16, I x12), (17, I x8), (18, I x13.1), (19, I 0), (20, .ba 160 0), (87, B (eqI x8 0))] [(88, .box [I x3.1.f0, I x3.1.f1] false), (160, .box [I 0, I 0] false)] 129) ?_
                    refine sb 126 (allB [eqI x3.1.f0 0, eqI x3.1.f1 0]) ?_ ?_
                    · refine co 127 [] (h56) (fun x22 => ?_)
                      refine se (mkE [(6, B x22)] [] 129) ?_
                      refine pN ?_
                      refine pS ?_
                      refine gE ?_
                      exact pL
                    · refine se (mkE [(6, B false)] [] 129) ?_
                      refine pN ?_
                      refine pS ?_
                      refine gE ?_
                      exact pL
                  · refine se (mkE [(6, B false)] [] 129) ?_
                    refine pN ?_
                    refine pS ?_
                    refine gE ?_
                    exact pL
                · refine se (mkE [(6, B false)] [] 129) ?_
                  refine pN ?_
                  refine pS ?_
                  refine gE ?_
                  exact pL
              · refine se (mkE [(6, B false)] [] 129) ?_
                refine pN ?_
                refine pS ?_
                refine gE ?_
                exact pL
            · refine se (mkE [(6, B false)] [] 129) ?_
              refine pN ?_
              refine pS ?_
              refine gE ?_
              exact pL
          · refine se (mkE [(6, B false)] [] 129) ?_
            refine pN ?_
            refine pS ?_
            refine gE ?_
            exact pL
    · refine gK ?_
      refine pN ?_
      refine pS ?_
      refine gS 14 ?_
      refine gS 0 ?_
      refine gR 12 (rg Try.f13 12) ?_
      refine se (mkE [(0, LL a24 p0), (1, S p1), (2, I p2), (7, I x1.1), (8, I x1.2), (9, I x2.1), (10, I x2.2), (11, .ba 88 0), (12, I x3.2), (15, I x10), (16, I x12), (17, I x8), (18, I 0), (19, I 0), (20, .ba 160 0), (78, B (eqI x12 0))] [(88, .box [I x3.1.f0, I x3.1.f1] false), (160, .box [I 0, I 0] false)] 129) ?_
      refine pN ?_
      refine pS ?_
      refine gC 78 (eqI x12 0) ?_ ?_
      · refine gR 13 (rg Try.f13 13) ?_
        refine sg 3 (mkE [(82, I p2), (81, S p1), (80, LL a24 p0), (0, LL a24 p0), (1, S p1), (2, I p2), (7, I x1.1), (8, I x1.2), (9, I x2.1), (10, I x2.2), (11, .ba 88 0), (12, I x3.2), (15, I x10), (16, I x12), (17, I x8), (18, I 0), (19, I 0), (20, .ba 160 0), (78, B (eqI x12 0))] [(88, .box [I x3.1.f0, I x3.1.f1] false), (160, .box [I 0, I 0] false)] 129) ?_
        refine co 83 [] (h54 p0 p1 p2) (fun x23 => ?_)
        refine se (mkE [(0, LL a24 p0), (1, S p1), (7, I x1.1), (8, I x1.2), (9, I x2.1), (10, I x2.2), (11, .ba 88 0), (12, I x3.2), (15, I x10), (16, I x23.2), (17, I x8), (18, I 0), (19, I x23.1), (20, .ba 160 0)] [(88, .box [I x3.1.f0, I x3.1.f1] false), (160, .box [I 0, I 0] false)] 129) ?_
        refine pN ?_
        refine pS ?_
        refine gS 17 ?_
        refine gS 0 ?_
        refine gR 14 (rg Try.f13 14) ?_
        refine se (mkE [(0, LL a24 p0), (1, S p1), (7, I x1.1), (8, I x1.2), (9, I x2.1), (10, I x2.2), (11, .ba 88 0), (12, I x3.2), (15, I x10), (16, I x23.2), (17, I x8), (18, I 0), (19, I x23.1), (20, .ba 160 0), (87, B (eqI x8 0))] [(88, .box [I x3.1.f0, I x3.1.f1] false), (160, .box [I 0, I 0] false)] 129) ?_
        refine pN ?_
        refine pS ?_
        refine gC 87 (eqI x8 0) ?_ ?_
        · refine gS 16 ?_
          refine gR 15 (rg Try.f13 15) ?_
          refine sg 2 (mkE [(90, S p1), (89, LL a24 p0), (0, LL a24 p0), (1, S p1), (7, I x1.1), (8, I x1.2), (9, I x2.1), (10, I x2.2), (11, .ba 88 0), (12, I x3.2), (15, I x10), (16, I x23.2), (17, I x8), (18, I 0), (19, I x23.1), (20, .ba 160 0), (87, B (eqI x8 0))] [(88, .box [I x3.1.f0, I x3.1.f1] false), (160, .box [I 0, I 0] false)] 129) ?_
          refine co 91 [] (h55 p0 p1) (fun x24 => ?_)
          refine se (mkE [(7, I x1.1), (8, I x1.2), (9, I x2.1), (10, I x2.2), (11, .ba 88 0), (12, I x3.2), (15, I x10), (16, I x23.2), (18, I 0), (19, I x23.1), (20, .ba 160 0), (21, .ba 168 0), (22, B x24.2)] [(88, .box [I x3.1.f0, I x3.1.f1] false), (160, .box [I 0, I 0] false), (168, .box [I x24.1.f0, I x24.1.f1] false)] 129) ?_
          refine pN ?_
          refine pS ?_
          refine gD 16 4 (rg Try.f13 16) [0, 1, 2, 3, 4, 5] ?_
          refine dg 3 [(some 94, qe (a79 x24.1)), (some 95, qe (B x24.2)), (some 96, qe (B (!x24.2)))] ?_
          refine dc 97 [] (mkE [(96, B (!x24.2)), (95, B x24.2), (7, I x1.1), (8, I x1.2), (9, I x2.1), (10, I x2.2), (11, .ba 88 0), (12, I x3.2), (15, I x10), (16, I x23.2), (18, I 0), (19, I x23.1), (20, .ba 160 0), (21, .ba 168 0), (22, B x24.2)] [(88, .box [I x3.1.f0, I x3.1.f1] false), (160, .box [I 0, I 0] false), (168, .box [I x24.1.f0, I x24.1.f1] false)] 129) (h50 (!x24.2) 8) (fun x25 => ?_)
          refine de (mkE [(97, I x25), (96, B (!x24.2)), (95, B x24.2), (94, a79 x24.1), (7, I x1.1), (8, I x1.2), (9, I x2.1), (10, I x2.2), (11, .ba 88 0), (12, I x3.2), (15, I x10), (16, I x23.2), (18, I 0), (19, I x23.1), (20, .ba 160 0), (21, .ba 168 0), (22, B x24.2)] [(88, .box [I x3.1.f0, I x3.1.f1] false), (160, .box [I 0, I 0] false), (168, .box [I x24.1.f0, I x24.1.f1] false)] 129) ?_
          refine se (mkE [(7, I x1.1), (8, I x1.2), (9, I x2.1), (10, I x2.2), (11, .ba 88 0), (12, I x3.2), (15, I x10), (16, I x23.2), (17, I x25), (18, I 0), (19, I x23.1), (20, .ba 160 0)] [(88, .box [I x3.1.f0, I x3.1.f1] false), (160, .box [I x24.1.f0, I x24.1.f1] false)] 129) ?_
          refine pN ?_
          refine pS ?_
          refine gS 0 ?_
          refine gR 17 (rg Try.f13 17) ?_
          refine sg 4 (mkE [(101, B (eqI x1.2 x10)), (100, B (eqI x1.2 x10)), (99, I x10), (98, I x1.2), (7, I x1.1), (8, I x1.2), (9, I x2.1), (10, I x2.2), (11, .ba 88 0), (12, I x3.2), (15, I x10), (16, I x23.2), (17, I x25), (18, I 0), (19, I x23.1), (20, .ba 160 0)] [(88, .box [I x3.1.f0, I x3.1.f1] false), (160, .box [I x24.1.f0, I x24.1.f1] false)] 129) ?_
          refine sb 101 (eqI x1.2 x10) ?_ ?_
          · refine sg 9 (mkE [(106, B (eqI x1.1 0)), (105, B (eqI x1.1 0)), (104, B (eqI x1.1 0)), (103, I 0), (102, I x1.1), (101, B true), (101, B (eqI x1.2 x10)), (100, B (eqI x1.2 x10)), (99, I x10), (98, I x1.2), (7, I x1.1), (8, I x1.2), (9, I x2.1), (10, I x2.2), (11, .ba 88 0), (12, I x3.2), (15, I x10), (16, I x23.2), (17, I x25), (18, I 0), (19, I x23.1), (20, .ba 160 0)] [(88, .box [I x3.1.f0, I x3.1.f1] false), (160, .box [I x24.1.f0, I x24.1.f1] false)] 129) ?_
            refine sb 106 (eqI x1.1 0) ?_ ?_
            · refine sg 14 (mkE [(111, B (eqI x2.2 x23.2)), (110, B (eqI x2.2 x23.2)), (109, B (eqI x2.2 x23.2)), (108, I x23.2), (107, I x2.2), (106, B true), (106, B (eqI x1.1 0)), (105, B (eqI x1.1 0)), (104, B (eqI x1.1 0)), (103, I 0), (102, I x1.1), (101, B true), (101, B (eqI x1.2 x10)), (100, B (eqI x1.2 x10)), (99, I x10), (98, I x1.2), (7, I x1.1), (8, I x1.2), (9, I x2.1), (10, I x2.2), (11, .ba 88 0), (12, I x3.2), (15, I x10), (16, I x23.2), (17, I x25), (18, I 0), (19, I x23.1), (20, .ba 160 0)] [(88, .box [I x3.1.f0, I x3.1.f1] false), (160, .box [I x24.1.f0, I x24.1.f1] false)] 129) ?_
              refine sb 111 (eqI x2.2 x23.2) ?_ ?_
              · refine sg 19 (mkE [(116, B (eqI x2.1 x23.1)), (115, B (eqI x2.1 x23.1)), (114, B (eqI x2.1 x23.1)), (113, I x23.1), (112, I x2.1), (111, B true), (111, B (eqI x2.2 x23.2)), (110, B (eqI x2.2 x23.2)), (109, B (eqI x2.2 x23.2)), (108, I x23.2), (107, I x2.2), (106, B true), (106, B (eqI x1.1 0)), (105, B (eqI x1.1 0)), (104, B (eqI x1.1 0)), (103, I 0), (102, I x1.1), (101, B true), (101, B (eqI x1.2 x10)), (100, B (eqI x1.2 x10)), (99, I x10), (98, I x1.2), (7, I x1.1), (8, I x1.2), (9, I x2.1), (10, I x2.2), (11, .ba 88 0), (12, I x3.2), (15, I x10), (16, I x23.2), (17, I x25), (18, I 0), (19, I x23.1), (20, .ba 160 0)] [(88, .box [I x3.1.f0, I x3.1.f1] false), (160, .box [I x24.1.f0, I x24.1.f1] false)] 129) ?_
                refine sb 116 (eqI x2.1 x23.1) ?_ ?_
                · refine sg 24 (mkE [(121, B (eqI x3.2 x25)), (120, B (eqI x3.2 x25)), (119, B (eqI x3.2 x25)), (118, I x25), (117, I x3.2), (116, B true), (116, B (eqI x2.1 x23.1)), (115, B (eqI x2.1 x23.1)), (114, B (eqI x2.1 x23.1)), (113, I x23.1), (112, I x2.1), (111, B true), (111, B (eqI x2.2 x23.2)), (110, B (eqI x2.2 x23.2)), (109, B (eqI x2.2 x23.2)), (108, I x23.2), (107, I x2.2), (106, B true), (106, B (eqI x1.1 0)), (105, B (eqI x1.1 0)), (104, B (eqI x1.1 0)), (103, I 0), (102, I x1.1), (101, B true), (101, B (eqI x1.2 x10)), (100, B (eqI x1.2 x10)), (99, I x10), (98, I x1.2), (7, I x1.1), (8, I x1.2), (9, I x2.1), (10, I x2.2), (11, .ba 88 0), (12, I x3.2), (15, I x10), (16, I x23.2), (17, I x25), (18, I 0), (19, I x23.1), (20, .ba 160 0)] [(88, .box [I x3.1.f0, I x3.1.f1] false), (160, .box [I x24.1.f0, I x24.1.f1] false)] 129) ?_
                  refine sb 121 (eqI x3.2 x25) ?_ ?_
                  · refine sg 26 (mkE [(123, a79 x24.1), (122, a79 x3.1), (121, B true), (121, B (eqI x3.2 x25)), (120, B (eqI x3.2 x25)), (119, B (eqI x3.2 x25)), (118, I x25), (117, I x3.2), (116, B true), (116, B (eqI x2.1 x23.1)), (115, B (eqI x2.1 x23.1)), (114, B (eqI x2.1 x23.1)), (113, I x23.1), (112, I x2.1), (111, B true), (111, B (eqI x2.2 x23.2)), (110, B (eqI x2.2 x23.2)), (109, B (eqI x2.2 x23.2)), (108, I x23.2), (107, I x2.2), (106, B true), (106, B (eqI x1.1 0)), (105, B (eqI x1.1 0)), (104, B (eqI x1.1 0)), (103, I 0), (102, I x1.1), (101, B true), (101, B (eqI x1.2 x10)), (100, B (eqI x1.2 x10)), (99, I x10), (98, I x1.2), (7, I x1.1), (8, I x1.2), (9, I x2.1), (10, I x2.2), (11, .ba 88 0), (12, I x3.2), (15, I x10), (16, I x23.2), (17, I x25), (18, I 0), (19, I x23.1), (20, .ba 160 0)] [(88, .box [I x3.1.f0, I x3.1.f1] false), (160, .box [I x24.1.f0, I x24.1.f1] false)] 129) ?_
                    refine eo 124 (B (allB [eqI x3.1.f0 x24.1.f0, eqI x3.1.f1 x24.1.f1])) (eqlE 80 (.tmp 122) (.tmp 123) [I x3.1.f0, I x3.1.f1] [I x24.1.f0, I x24.1.f1] [.int .i64 x3.1.f0, .int .i64 x3.1.f1] [.int .i64 x24.1.f0, .int .i64 x24.1.f1] [eqI x3.1.f0 x24.1.f0, eqI x3.1.f1 x24.1.f1]) ?_
                    refine sg 29 (mkE [(126, B (allB [eqI x3.1.f0 x24.1.f0, eqI x3.1.f1 x24.1.f1])), (125, B (allB [eqI x3.1.f0 x24.1.f0, eqI x3.1.f1 x24.1.f1])), (124, B (allB [eqI x3.1.f0 x24.1.f0, eqI x3.1.f1 x24.1.f1])), (123, a79 x24.1), (122, a79 x3.1), (121, B true), (121, B (eqI x3.2 x25)), (120, B (eqI x3.2 x25)), (119, B (eqI x3.2 x25)), (118, I x25), (117, I x3.2), (116, B true), (116, B (eqI x2.1 x23.1)), (115, B (eqI x2.1 x23.1)), (114, B (eqI x2.1 x23.1)), (113, I x23.1), (112, I x2.1), (111, B true), (111, B (eqI x2.2 x23.2)), (110, B (eqI x2.2 x23.2)), (109, B (eqI x2.2 x23.2)), (108, I x23.2), (107, I x2.2), (106, B true), (106, B (eqI x1.1 0)), (105, B (eqI x1.1 0)), (104, B (eqI x1.1 0)), (103, I 0), (102, I x1.1), (101, B true), (101, B (eqI x1.2 x10)), (100, B (eqI x1.2 x10)), (99, I x10), (98, I x1.2), (7, I x1.1), (8, I x1.2), (9, I x2.1), (10, I x2.2), (11, .ba 88 0), (12, I x3.2), (15, I x10), (16, I x23.2), (17, I x25), (18, I 0), (19, I x23.1), (20, .ba 160 0)] [(88, .box [I x3.1.f0, I x3.1.f1] false), (160, .box [I x24.1.f0, I x24.1.f1] false)] 129) ?_
                    refine sb 126 (allB [eqI x3.1.f0 x24.1.f0, eqI x3.1.f1 x24.1.f1]) ?_ ?_
                    · refine co 127 [] (h56) (fun x26 => ?_)
                      refine se (mkE [(6, B x26)] [] 129) ?_
                      refine pN ?_
                      refine pS ?_
                      refine gE ?_
                      exact pL
                    · refine se (mkE [(6, B false)] [] 129) ?_
                      refine pN ?_
                      refine pS ?_
                      refine gE ?_
                      exact pL
                  · refine se (mkE [(6, B false)] [] 129) ?_
                    refine pN ?_
                    refine pS ?_
                    refine gE ?_
                    exact pL
                · refine se (mkE [(6, B false)] [] 129) ?_
                  refine pN ?_
                  refine pS ?_
                  refine gE ?_
                  exact pL
              · refine se (mkE [(6, B false)] [] 129) ?_
                refine pN ?_
                refine pS ?_
                refine gE ?_
                exact pL
            · refine se (mkE [(6, B false)] [] 129) ?_
              refine pN ?_
              refine pS ?_
              refine gE ?_
              exact pL
          · refine se (mkE [(6, B false)] [] 129) ?_
            refine pN ?_
            refine pS ?_
            refine gE ?_
            exact pL
        · refine gK ?_
          refine pN ?_
          refine pS ?_
          refine gS 0 ?_
          refine gR 17 (rg Try.f13 17) ?_
          refine sg 4 (mkE [(101, B (eqI x1.2 x10)), (100, B (eqI x1.2 x10)), (99, I x10), (98, I x1.2), (0, LL a24 p0), (1, S p1), (7, I x1.1), (8, I x1.2), (9, I x2.1), (10, I x2.2), (11, .ba 88 0), (12, I x3.2), (15, I x10), (16, I x23.2), (17, I x8), (18, I 0), (19, I x23.1), (20, .ba 160 0), (87, B (eqI x8 0))] [(88, .box [I x3.1.f0, I x3.1.f1] false), (160, .box [I 0, I 0] false)] 129) ?_
          refine sb 101 (eqI x1.2 x10) ?_ ?_
          · refine sg 9 (mkE [(106, B (eqI x1.1 0)), (105, B (eqI x1.1 0)), (104, B (eqI x1.1 0)), (103, I 0), (102, I x1.1), (101, B true), (101, B (eqI x1.2 x10)), (100, B (eqI x1.2 x10)), (99, I x10), (98, I x1.2), (0, LL a24 p0), (1, S p1), (7, I x1.1), (8, I x1.2), (9, I x2.1), (10, I x2.2), (11, .ba 88 0), (12, I x3.2), (15, I x10), (16, I x23.2), (17, I x8), (18, I 0), (19, I x23.1), (20, .ba 160 0), (87, B (eqI x8 0))] [(88, .box [I x3.1.f0, I x3.1.f1] false), (160, .box [I 0, I 0] false)] 129) ?_
            refine sb 106 (eqI x1.1 0) ?_ ?_
            · refine sg 14 (mkE [(111, B (eqI x2.2 x23.2)), (110, B (eqI x2.2 x23.2)), (109, B (eqI x2.2 x23.2)), (108, I x23.2), (107, I x2.2), (106, B true), (106, B (eqI x1.1 0)), (105, B (eqI x1.1 0)), (104, B (eqI x1.1 0)), (103, I 0), (102, I x1.1), (101, B true), (101, B (eqI x1.2 x10)), (100, B (eqI x1.2 x10)), (99, I x10), (98, I x1.2), (0, LL a24 p0), (1, S p1), (7, I x1.1), (8, I x1.2), (9, I x2.1), (10, I x2.2), (11, .ba 88 0), (12, I x3.2), (15, I x10), (16, I x23.2), (17, I x8), (18, I 0), (19, I x23.1), (20, .ba 160 0), (87, B (eqI x8 0))] [(88, .box [I x3.1.f0, I x3.1.f1] false), (160, .box [I 0, I 0] false)] 129) ?_
              refine sb 111 (eqI x2.2 x23.2) ?_ ?_
              · refine sg 19 (mkE [(116, B (eqI x2.1 x23.1)), (115, B (eqI x2.1 x23.1)), (114, B (eqI x2.1 x23.1)), (113, I x23.1), (112, I x2.1), (111, B true), (111, B (eqI x2.2 x23.2)), (110, B (eqI x2.2 x23.2)), (109, B (eqI x2.2 x23.2)), (108, I x23.2), (107, I x2.2), (106, B true), (106, B (eqI x1.1 0)), (105, B (eqI x1.1 0)), (104, B (eqI x1.1 0)), (103, I 0), (102, I x1.1), (101, B true), (101, B (eqI x1.2 x10)), (100, B (eqI x1.2 x10)), (99, I x10), (98, I x1.2), (0, LL a24 p0), (1, S p1), (7, I x1.1), (8, I x1.2), (9, I x2.1), (10, I x2.2), (11, .ba 88 0), (12, I x3.2), (15, I x10), (16, I x23.2), (17, I x8), (18, I 0), (19, I x23.1), (20, .ba 160 0), (87, B (eqI x8 0))] [(88, .box [I x3.1.f0, I x3.1.f1] false), (160, .box [I 0, I 0] false)] 129) ?_
                refine sb 116 (eqI x2.1 x23.1) ?_ ?_
                · refine sg 24 (mkE [(121, B (eqI x3.2 x8)), (120, B (eqI x3.2 x8)), (119, B (eqI x3.2 x8)), (118, I x8), (117, I x3.2), (116, B true), (116, B (eqI x2.1 x23.1)), (115, B (eqI x2.1 x23.1)), (114, B (eqI x2.1 x23.1)), (113, I x23.1), (112, I x2.1), (111, B true), (111, B (eqI x2.2 x23.2)), (110, B (eqI x2.2 x23.2)), (109, B (eqI x2.2 x23.2)), (108, I x23.2), (107, I x2.2), (106, B true), (106, B (eqI x1.1 0)), (105, B (eqI x1.1 0)), (104, B (eqI x1.1 0)), (103, I 0), (102, I x1.1), (101, B true), (101, B (eqI x1.2 x10)), (100, B (eqI x1.2 x10)), (99, I x10), (98, I x1.2), (0, LL a24 p0), (1, S p1), (7, I x1.1), (8, I x1.2), (9, I x2.1), (10, I x2.2), (11, .ba 88 0), (12, I x3.2), (15, I x10), (16, I x23.2), (17, I x8), (18, I 0), (19, I x23.1), (20, .ba 160 0), (87, B (eqI x8 0))] [(88, .box [I x3.1.f0, I x3.1.f1] false), (160, .box [I 0, I 0] false)] 129) ?_
                  refine sb 121 (eqI x3.2 x8) ?_ ?_
                  · refine sg 26 (mkE [(123, .agg [I 0, I 0]), (122, a79 x3.1), (121, B true), (121, B (eqI x3.2 x8)), (120, B (eqI x3.2 x8)), (119, B (eqI x3.2 x8)), (118, I x8), (117, I x3.2), (116, B true), (116, B (eqI x2.1 x23.1)), (115, B (eqI x2.1 x23.1)), (114, B (eqI x2.1 x23.1)), (113, I x23.1), (112, I x2.1), (111, B true), (111, B (eqI x2.2 x23.2)), (110, B (eqI x2.2 x23.2)), (109, B (eqI x2.2 x23.2)), (108, I x23.2), (107, I x2.2), (106, B true), (106, B (eqI x1.1 0)), (105, B (eqI x1.1 0)), (104, B (eqI x1.1 0)), (103, I 0), (102, I x1.1), (101, B true), (101, B (eqI x1.2 x10)), (100, B (eqI x1.2 x10)), (99, I x10), (98, I x1.2), (0, LL a24 p0), (1, S p1), (7, I x1.1), (8, I x1.2), (9, I x2.1), (10, I x2.2), (11, .ba 88 0), (12, I x3.2), (15, I x10), (16, I x23.2), (17, I x8), (18, I 0), (19, I x23.1), (20, .ba 160 0), (87, B (eqI x8 0))] [(88, .box [I x3.1.f0, I x3.1.f1] false), (160, .box [I 0, I 0] false)] 129) ?_
                    refine eo 124 (B (allB [eqI x3.1.f0 0, eqI x3.1.f1 0])) (eqlE 80 (.tmp 122) (.tmp 123) [I x3.1.f0, I x3.1.f1] [I 0, I 0] [.int .i64 x3.1.f0, .int .i64 x3.1.f1] [.int .i64 0, .int .i64 0] [eqI x3.1.f0 0, eqI x3.1.f1 0]) ?_
                    refine sg 29 (mkE [(126, B (allB [eqI x3.1.f0 0, eqI x3.1.f1 0])), (125, B (allB [eqI x3.1.f0 0, eqI x3.1.f1 0])), (124, B (allB [eqI x3.1.f0 0, eqI x3.1.f1 0])), (123, .agg [I 0, I 0]), (122, a79 x3.1), (121, B true), (121, B (eqI x3.2 x8)), (120, B (eqI x3.2 x8)), (119, B (eqI x3.2 x8)), (118, I x8), (117, I x3.2), (116, B true), (116, B (eqI x2.1 x23.1)), (115, B (eqI x2.1 x23.1)), (114, B (eqI x2.1 x23.1)), (113, I x23.1), (112, I x2.1), (111, B true), (111, B (eqI x2.2 x23.2)), (110, B (eqI x2.2 x23.2)), (109, B (eqI x2.2 x23.2)), (108, I x23.2), (107, I x2.2), (106, B true), (106, B (eqI x1.1 0)), (105, B (eqI x1.1 0)), (104, B (eqI x1.1 0)), (103, I 0), (102, I x1.1), (101, B true), (101, B (eqI x1.2 x10)), (100, B (eqI x1.2 x10)), (99, I x10), (98, I x1.2), (0, LL a24 p0), (1, S p1), (7, I x1.1), (8, I x1.2), (9, I x2.1), (10, I x2.2), (11, .ba 88 0), (12, I x3.2), (15, I x10), (16, I x23.2), (17, I x8), (18, I 0), (19, I x23.1), (20, .ba 160 0), (87, B (eqI x8 0))] [(88, .box [I x3.1.f0, I x3.1.f1] false), (160, .box [I 0, I 0] false)] 129) ?_
                    refine sb 126 (allB [eqI x3.1.f0 0, eqI x3.1.f1 0]) ?_ ?_
                    · refine co 127 [] (h56) (fun x27 => ?_)
                      refine se (mkE [(6, B x27)] [] 129) ?_
                      refine pN ?_
                      refine pS ?_
                      refine gE ?_
                      exact pL
                    · refine se (mkE [(6, B false)] [] 129) ?_
                      refine pN ?_
                      refine pS ?_
                      refine gE ?_
                      exact pL
                  · refine se (mkE [(6, B false)] [] 129) ?_
                    refine pN ?_
                    refine pS ?_
                    refine gE ?_
                    exact pL
                · refine se (mkE [(6, B false)] [] 129) ?_
                  refine pN ?_
                  refine pS ?_
                  refine gE ?_
                  exact pL
              · refine se (mkE [(6, B false)] [] 129) ?_
                refine pN ?_
                refine pS ?_
                refine gE ?_
                exact pL
            · refine se (mkE [(6, B false)] [] 129) ?_
              refine pN ?_
              refine pS ?_
              refine gE ?_
              exact pL
          · refine se (mkE [(6, B false)] [] 129) ?_
            refine pN ?_
            refine pS ?_
            refine gE ?_
            exact pL
      · refine gK ?_
        refine pN ?_
        refine pS ?_
        refine gS 17 ?_
        refine gS 0 ?_
        refine gR 14 (rg Try.f13 14) ?_
        refine se (mkE [(0, LL a24 p0), (1, S p1), (7, I x1.1), (8, I x1.2), (9, I x2.1), (10, I x2.2), (11, .ba 88 0), (12, I x3.2), (15, I x10), (16, I x12), (17, I x8), (18, I 0), (19, I 0), (20, .ba 160 0), (87, B (eqI x8 0))] [(88, .box [I x3.1.f0, I x3.1.f1] false), (160, .box [I 0, I 0] false)] 129) ?_
        refine pN ?_
        refine pS ?_
        refine gC 87 (eqI x8 0) ?_ ?_
        · refine gS 16 ?_
          refine gR 15 (rg Try.f13 15) ?_
          refine sg 2 (mkE [(90, S p1), (89, LL a24 p0), (0, LL a24 p0), (1, S p1), (7, I x1.1), (8, I x1.2), (9, I x2.1), (10, I x2.2), (11, .ba 88 0), (12, I x3.2), (15, I x10), (16, I x12), (17, I x8), (18, I 0), (19, I 0), (20, .ba 160 0), (87, B (eqI x8 0))] [(88, .box [I x3.1.f0, I x3.1.f1] false), (160, .box [I 0, I 0] false)] 129) ?_
          refine co 91 [] (h55 p0 p1) (fun x28 => ?_)
          refine se (mkE [(7, I x1.1), (8, I x1.2), (9, I x2.1), (10, I x2.2), (11, .ba 88 0), (12, I x3.2), (15, I x10), (16, I x12), (18, I 0), (19, I 0), (20, .ba 160 0), (21, .ba 168 0), (22, B x28.2)] [(88, .box [I x3.1.f0, I x3.1.f1] false), (160, .box [I 0, I 0] false), (168, .box [I x28.1.f0, I x28.1.f1] false)] 129) ?_
          refine pN ?_
          refine pS ?_
          refine gD 16 4 (rg Try.f13 16) [0, 1, 2, 3, 4, 5] ?_
          refine dg 3 [(some 94, qe (a79 x28.1)), (some 95, qe (B x28.2)), (some 96, qe (B (!x28.2)))] ?_
          refine dc 97 [] (mkE [(96, B (!x28.2)), (95, B x28.2), (7, I x1.1), (8, I x1.2), (9, I x2.1), (10, I x2.2), (11, .ba 88 0), (12, I x3.2), (15, I x10), (16, I x12), (18, I 0), (19, I 0), (20, .ba 160 0), (21, .ba 168 0), (22, B x28.2)] [(88, .box [I x3.1.f0, I x3.1.f1] false), (160, .box [I 0, I 0] false), (168, .box [I x28.1.f0, I x28.1.f1] false)] 129) (h50 (!x28.2) 8) (fun x29 => ?_)
          refine de (mkE [(97, I x29), (96, B (!x28.2)), (95, B x28.2), (94, a79 x28.1), (7, I x1.1), (8, I x1.2), (9, I x2.1), (10, I x2.2), (11, .ba 88 0), (12, I x3.2), (15, I x10), (16, I x12), (18, I 0), (19, I 0), (20, .ba 160 0), (21, .ba 168 0), (22, B x28.2)] [(88, .box [I x3.1.f0, I x3.1.f1] false), (160, .box [I 0, I 0] false), (168, .box [I x28.1.f0, I x28.1.f1] false)] 129) ?_
          refine se (mkE [(7, I x1.1), (8, I x1.2), (9, I x2.1), (10, I x2.2), (11, .ba 88 0), (12, I x3.2), (15, I x10), (16, I x12), (17, I x29), (18, I 0), (19, I 0), (20, .ba 160 0)] [(88, .box [I x3.1.f0, I x3.1.f1] false), (160, .box [I x28.1.f0, I x28.1.f1] false)] 129) ?_
          refine pN ?_
          refine pS ?_
          refine gS 0 ?_
          refine gR 17 (rg Try.f13 17) ?_
          refine sg 4 (mkE [(101, B (eqI x1.2 x10)), (100, B (eqI x1.2 x10)), (99, I x10), (98, I x1.2), (7, I x1.1), (8, I x1.2), (9, I x2.1), (10, I x2.2), (11, .ba 88 0), (12, I x3.2), (15, I x10), (16, I x12), (17, I x29), (18, I 0), (19, I 0), (20, .ba 160 0)] [(88, .box [I x3.1.f0, I x3.1.f1] false), (160, .box [I x28.1.f0, I x28.1.f1] false)] 129) ?_
          refine sb 101 (eqI x1.2 x10) ?_ ?_
          · refine sg 9 (mkE [(106, B (eqI x1.1 0)), (105, B (eqI x1.1 0)), (104, B (eqI x1.1 0)), (103, I 0), (102, I x1.1), (101, B true), (101, B (eqI x1.2 x10)), (100, B (eqI x1.2 x10)), (99, I x10), (98, I x1.2), (7, I x1.1), (8, I x1.2), (9, I x2.1), (10, I x2.2), (11, .ba 88 0), (12, I x3.2), (15, I x10), (16, I x12), (17, I x29), (18, I 0), (19, I 0), (20, .ba 160 0)] [(88, .box [I x3.1.f0, I x3.1.f1] false), (160, .box [I x28.1.f0, I x28.1.f1] false)] 129) ?_
            refine sb 106 (eqI x1.1 0) ?_ ?_
            · refine sg 14 (mkE [(111, B (eqI x2.2 x12)), (110, B (eqI x2.2 x12)), (109, B (eqI x2.2 x12)), (108, I x12), (107, I x2.2), (106, B true), (106, B (eqI x1.1 0)), (105, B (eqI x1.1 0)), (104, B (eqI x1.1 0)), (103, I 0), (102, I x1.1), (101, B true), (101, B (eqI x1.2 x10)), (100, B (eqI x1.2 x10)), (99, I x10), (98, I x1.2), (7, I x1.1), (8, I x1.2), (9, I x2.1), (10, I x2.2), (11, .ba 88 0), (12, I x3.2), (15, I x10), (16, I x12), (17, I x29), (18, I 0), (19, I 0), (20, .ba 160 0)] [(88, .box [I x3.1.f0, I x3.1.f1] false), (160, .box [I x28.1.f0, I x28.1.f1] false)] 129) ?_
              refine sb 111 (eqI x2.2 x12) ?_ ?_
              · refine sg 19 (mkE [(116, B (eqI x2.1 0)), (115, B (eqI x2.1 0)), (114, B (eqI x2.1 0)), (113, I 0), (112, I x2.1), (111, B true), (111, B (eqI x2.2 x12)), (110, B (eqI x2.2 x12)), (109, B (eqI x2.2 x12)), (108, I x12), (107, I x2.2), (106, B true), (106, B (eqI x1.1 0)), (105, B (eqI x1.1 0)), (104, B (eqI x1.1 0)), (103, I 0), (102, I x1.1), (101, B true), (101, B (eqI x1.2 x10)), (100, B (eqI x1.2 x10)), (99, I x10), (98, I x1.2), (7, I x1.1), (8, I x1.2), (9, I x2.1), (10, I x2.2), (11, .ba 88 0), (12, I x3.2), (15, I x10), (16, I x12), (17, I x29), (18, I 0), (19, I 0), (20, .ba 160 0)] [(88, .box [I x3.1.f0, I x3.1.f1] false), (160, .box [I x28.1.f0, I x28.1.f1] false)] 129) ?_
                refine sb 116 (eqI x2.1 0) ?_ ?_
                · refine sg 24 (mkE [(121, B (eqI x3.2 x29)), (120, B (eqI x3.2 x29)), (119, B (eqI x3.2 x29)), (118, I x29), (117, I x3.2), (116, B true), (116, B (eqI x2.1 0)), (115, B (eqI x2.1 0)), (114, B (eqI x2.1 0)), (113, I 0), (112, I x2.1), (111, B true), (111, B (eqI x2.2 x12)), (110, B (eqI x2.2 x12)), (109, B (eqI x2.2 x12)), (108, I x12), (107, I x2.2), (106, B true), (106, B (eqI x1.1 0)), (105, B (eqI x1.1 0)), (104, B (eqI x1.1 0)), (103, I 0), (102, I x1.1), (101, B true), (101, B (eqI x1.2 x10)), (100, B (eqI x1.2 x10)), (99, I x10), (98, I x1.2), (7, I x1.1), (8, I x1.2), (9, I x2.1), (10, I x2.2), (11, .ba 88 0), (12, I x3.2), (15, I x10), (16, I x12), (17, I x29), (18, I 0), (19, I 0), (20, .ba 160 0)] [(88, .box [I x3.1.f0, I x3.1.f1] false), (160, .box [I x28.1.f0, I x28.1.f1] false)] 129) ?_
                  refine sb 121 (eqI x3.2 x29) ?_ ?_
                  · refine sg 26 (mkE [(123, a79 x28.1), (122, a79 x3.1), (121, B true), (121, B (eqI x3.2 x29)), (120, B (eqI x3.2 x29)), (119, B (eqI x3.2 x29)), (118, I x29), (117, I x3.2), (116, B true), (116, B (eqI x2.1 0)), (115, B (eqI x2.1 0)), (114, B (eqI x2.1 0)), (113, I 0), (112, I x2.1), (111, B true), (111, B (eqI x2.2 x12)), (110, B (eqI x2.2 x12)), (109, B (eqI x2.2 x12)), (108, I x12), (107, I x2.2), (106, B true), (106, B (eqI x1.1 0)), (105, B (eqI x1.1 0)), (104, B (eqI x1.1 0)), (103, I 0), (102, I x1.1), (101, B true), (101, B (eqI x1.2 x10)), (100, B (eqI x1.2 x10)), (99, I x10), (98, I x1.2), (7, I x1.1), (8, I x1.2), (9, I x2.1), (10, I x2.2), (11, .ba 88 0), (12, I x3.2), (15, I x10), (16, I x12), (17, I x29), (18, I 0), (19, I 0), (20, .ba 160 0)] [(88, .box [I x3.1.f0, I x3.1.f1] false), (160, .box [I x28.1.f0, I x28.1.f1] false)] 129) ?_
                    refine eo 124 (B (allB [eqI x3.1.f0 x28.1.f0, eqI x3.1.f1 x28.1.f1])) (eqlE 80 (.tmp 122) (.tmp 123) [I x3.1.f0, I x3.1.f1] [I x28.1.f0, I x28.1.f1] [.int .i64 x3.1.f0, .int .i64 x3.1.f1] [.int .i64 x28.1.f0, .int .i64 x28.1.f1] [eqI x3.1.f0 x28.1.f0, eqI x3.1.f1 x28.1.f1]) ?_
                    refine sg 29 (mkE [(126, B (allB [eqI x3.1.f0 x28.1.f0, eqI x3.1.f1 x28.1.f1])), (125, B (allB [eqI x3.1.f0 x28.1.f0, eqI x3.1.f1 x28.1.f1])), (124, B (allB [eqI x3.1.f0 x28.1.f0, eqI x3.1.f1 x28.1.f1])), (123, a79 x28.1), (122, a79 x3.1), (121, B true), (121, B (eqI x3.2 x29)), (120, B (eqI x3.2 x29)), (119, B (eqI x3.2 x29)), (118, I x29), (117, I x3.2), (116, B true), (116, B (eqI x2.1 0)), (115, B (eqI x2.1 0)), (114, B (eqI x2.1 0)), (113, I 0), (112, I x2.1), (111, B true), (111, B (eqI x2.2 x12)), (110, B (eqI x2.2 x12)), (109, B (eqI x2.2 x12)), (108, I x12), (107, I x2.2), (106, B true), (106, B (eqI x1.1 0)), (105, B (eqI x1.1 0)), (104, B (eqI x1.1 0)), (103, I 0), (102, I x1.1), (101, B true), (101, B (eqI x1.2 x10)), (100, B (eqI x1.2 x10)), (99, I x10), (98, I x1.2), (7, I x1.1), (8, I x1.2), (9, I x2.1), (10, I x2.2), (11, .ba 88 0), (12, I x3.2), (15, I x10), (16, I x12), (17, I x29), (18, I 0), (19, I 0), (20, .ba 160 0)] [(88, .box [I x3.1.f0, I x3.1.f1] false), (160, .box [I x28.1.f0, I x28.1.f1] false)] 129) ?_
                    refine sb 126 (allB [eqI x3.1.f0 x28.1.f0, eqI x3.1.f1 x28.1.f1]) ?_ ?_
                    · refine co 127 [] (h56) (fun x30 => ?_)
                      refine se (mkE [(6, B x30)] [] 129) ?_
                      refine pN ?_
                      refine pS ?_
                      refine gE ?_
                      exact pL
                    · refine se (mkE [(6, B false)] [] 129) ?_
                      refine pN ?_
                      refine pS ?_
                      refine gE ?_
                      exact pL
                  · refine se (mkE [(6, B false)] [] 129) ?_
                    refine pN ?_
                    refine pS ?_
                    refine gE ?_
                    exact pL
                · refine se (mkE [(6, B false)] [] 129) ?_
                  refine pN ?_
                  refine pS ?_
                  refine gE ?_
                  exact pL
              · refine se (mkE [(6, B false)] [] 129) ?_
                refine pN ?_
                refine pS ?_
                refine gE ?_
                exact pL
            · refine se (mkE [(6, B false)] [] 129) ?_
              refine pN ?_
              refine pS ?_
              refine gE ?_
              exact pL
          · refine se (mkE [(6, B false)] [] 129) ?_
            refine pN ?_
            refine pS ?_
            refine gE ?_
            exact pL
        · refine gK ?_
          refine pN ?_
          refine pS ?_
          refine gS 0 ?_
          refine gR 17 (rg Try.f13 17) ?_
          refine sg 4 (mkE [(101, B (eqI x1.2 x10)), (100, B (eqI x1.2 x10)), (99, I x10), (98, I x1.2), (0, LL a24 p0), (1, S p1), (7, I x1.1), (8, I x1.2), (9, I x2.1), (10, I x2.2), (11, .ba 88 0), (12, I x3.2), (15, I x10), (16, I x12), (17, I x8), (18, I 0), (19, I 0), (20, .ba 160 0), (87, B (eqI x8 0))] [(88, .box [I x3.1.f0, I x3.1.f1] false), (160, .box [I 0, I 0] false)] 129) ?_
          refine sb 101 (eqI x1.2 x10) ?_ ?_
          · refine sg 9 (mkE [(106, B (eqI x1.1 0)), (105, B (eqI x1.1 0)), (104, B (eqI x1.1 0)), (103, I 0), (102, I x1.1), (101, B true), (101, B (eqI x1.2 x10)), (100, B (eqI x1.2 x10)), (99, I x10), (98, I x1.2), (0, LL a24 p0), (1, S p1), (7, I x1.1), (8, I x1.2), (9, I x2.1), (10, I x2.2), (11, .ba 88 0), (12, I x3.2), (15, I x10), (16, I x12), (17, I x8), (18, I 0), (19, I 0), (20, .ba 160 0), (87, B (eqI x8 0))] [(88, .box [I x3.1.f0, I x3.1.f1] false), (160, .box [I 0, I 0] false)] 129) ?_
            refine sb 106 (eqI x1.1 0) ?_ ?_
            · refine sg 14 (mkE [(111, B (eqI x2.2 x12)), (110, B (eqI x2.2 x12)), (109, B (eqI x2.2 x12)), (108, I x12), (107, I x2.2), (106, B true), (106, B (eqI x1.1 0)), (105, B (eqI x1.1 0)), (104, B (eqI x1.1 0)), (103, I 0), (102, I x1.1), (101, B true), (101, B (eqI x1.2 x10)), (100, B (eqI x1.2 x10)), (99, I x10), (98, I x1.2), (0, LL a24 p0), (1, S p1), (7, I x1.1), (8, I x1.2), (9, I x2.1), (10, I x2.2), (11, .ba 88 0), (12, I x3.2), (15, I x10), (16, I x12), (17, I x8), (18, I 0), (19, I 0), (20, .ba 160 0), (87, B (eqI x8 0))] [(88, .box [I x3.1.f0, I x3.1.f1] false), (160, .box [I 0, I 0] false)] 129) ?_
              refine sb 111 (eqI x2.2 x12) ?_ ?_
              · refine sg 19 (mkE [(116, B (eqI x2.1 0)), (115, B (eqI x2.1 0)), (114, B (eqI x2.1 0)), (113, I 0), (112, I x2.1), (111, B true), (111, B (eqI x2.2 x12)), (110, B (eqI x2.2 x12)), (109, B (eqI x2.2 x12)), (108, I x12), (107, I x2.2), (106, B true), (106, B (eqI x1.1 0)), (105, B (eqI x1.1 0)), (104, B (eqI x1.1 0)), (103, I 0), (102, I x1.1), (101, B true), (101, B (eqI x1.2 x10)), (100, B (eqI x1.2 x10)), (99, I x10), (98, I x1.2), (0, LL a24 p0), (1, S p1), (7, I x1.1), (8, I x1.2), (9, I x2.1), (10, I x2.2), (11, .ba 88 0), (12, I x3.2), (15, I x10), (16, I x12), (17, I x8), (18, I 0), (19, I 0), (20, .ba 160 0), (87, B (eqI x8 0))] [(88, .box [I x3.1.f0, I x3.1.f1] false), (160, .box [I 0, I 0] false)] 129) ?_
                refine sb 116 (eqI x2.1 0) ?_ ?_
                · refine sg 24 (mkE [(121, B (eqI x3.2 x8)), (120, B (eqI x3.2 x8)), (119, B (eqI x3.2 x8)), (118, I x8), (117, I x3.2), (116, B true), (116, B (eqI x2.1 0)), (115, B (eqI x2.1 0)), (114, B (eqI x2.1 0)), (113, I 0), (112, I x2.1), (111, B true), (111, B (eqI x2.2 x12)), (110, B (eqI x2.2 x12)), (109, B (eqI x2.2 x12)), (108, I x12), (107, I x2.2), (106, B true), (106, B (eqI x1.1 0)), (105, B (eqI x1.1 0)), (104, B (eqI x1.1 0)), (103, I 0), (102, I x1.1), (101, B true), (101, B (eqI x1.2 x10)), (100, B (eqI x1.2 x10)), (99, I x10), (98, I x1.2), (0, LL a24 p0), (1, S p1), (7, I x1.1), (8, I x1.2), (9, I x2.1), (10, I x2.2), (11, .ba 88 0), (12, I x3.2), (15, I x10), (16, I x12), (17, I x8), (18, I 0), (19, I 0), (20, .ba 160 0), (87, B (eqI x8 0))] [(88, .box [I x3.1.f0, I x3.1.f1] false), (160, .box [I 0, I 0] false)] 129) ?_
                  refine sb 121 (eqI x3.2 x8) ?_ ?_
                  · refine sg 26 (mkE [(123, .agg [I 0, I 0]), (122, a79 x3.1), (121, B true), (121, B (eqI x3.2 x8)), (120, B (eqI x3.2 x8)), (119, B (eqI x3.2 x8)), (118, I x8), (117, I x3.2), (116, B true), (116, B (eqI x2.1 0)), (115, B (eqI x2.1 0)), (114, B (eqI x2.1 0)), (113, I 0), (112, I x2.1), (111, B true), (111, B (eqI x2.2 x12)), (110, B (eqI x2.2 x12)), (109, B (eqI x2.2 x12)), (108, I x12), (107, I x2.2), (106, B true), (106, B (eqI x1.1 0)), (105, B (eqI x1.1 0)), (104, B (eqI x1.1 0)), (103, I 0), (102, I x1.1), (101, B true), (101, B (eqI x1.2 x10)), (100, B (eqI x1.2 x10)), (99, I x10), (98, I x1.2), (0, LL a24 p0), (1, S p1), (7, I x1.1), (8, I x1.2), (9, I x2.1), (10, I x2.2), (11, .ba 88 0), (12, I x3.2), (15, I x10), (16, I x12), (17, I x8), (18, I 0), (19, I 0), (20, .ba 160 0), (87, B (eqI x8 0))] [(88, .box [I x3.1.f0, I x3.1.f1] false), (160, .box [I 0, I 0] false)] 129) ?_
                    refine eo 124 (B (allB [eqI x3.1.f0 0, eqI x3.1.f1 0])) (eqlE 80 (.tmp 122) (.tmp 123) [I x3.1.f0, I x3.1.f1] [I 0, I 0] [.int .i64 x3.1.f0, .int .i64 x3.1.f1] [.int .i64 0, .int .i64 0] [eqI x3.1.f0 0, eqI x3.1.f1 0]) ?_
                    refine sg 29 (mkE [(126, B (allB [eqI x3.1.f0 0, eqI x3.1.f1 0])), (125, B (allB [eqI x3.1.f0 0, eqI x3.1.f1 0])), (124, B (allB [eqI x3.1.f0 0, eqI x3.1.f1 0])), (123, .agg [I 0, I 0]), (122, a79 x3.1), (121, B true), (121, B (eqI x3.2 x8)), (120, B (eqI x3.2 x8)), (119, B (eqI x3.2 x8)), (118, I x8), (117, I x3.2), (116, B true), (116, B (eqI x2.1 0)), (115, B (eqI x2.1 0)), (114, B (eqI x2.1 0)), (113, I 0), (112, I x2.1), (111, B true), (111, B (eqI x2.2 x12)), (110, B (eqI x2.2 x12)), (109, B (eqI x2.2 x12)), (108, I x12), (107, I x2.2), (106, B true), (106, B (eqI x1.1 0)), (105, B (eqI x1.1 0)), (104, B (eqI x1.1 0)), (103, I 0), (102, I x1.1), (101, B true), (101, B (eqI x1.2 x10)), (100, B (eqI x1.2 x10)), (99, I x10), (98, I x1.2), (0, LL a24 p0), (1, S p1), (7, I x1.1), (8, I x1.2), (9, I x2.1), (10, I x2.2), (11, .ba 88 0), (12, I x3.2), (15, I x10), (16, I x12), (17, I x8), (18, I 0), (19, I 0), (20, .ba 160 0), (87, B (eqI x8 0))] [(88, .box [I x3.1.f0, I x3.1.f1] false), (160, .box [I 0, I 0] false)] 129) ?_
                    refine sb 126 (allB [eqI x3.1.f0 0, eqI x3.1.f1 0]) ?_ ?_
                    · refine co 127 [] (h56) (fun x31 => ?_)
                      refine se (mkE [(6, B x31)] [] 129) ?_
                      refine pN ?_
                      refine pS ?_
                      refine gE ?_
                      exact pL
                    · refine se (mkE [(6, B false)] [] 129) ?_
                      refine pN ?_
                      refine pS ?_
                      refine gE ?_
                      exact pL
                  · refine se (mkE [(6, B false)] [] 129) ?_
                    refine pN ?_
                    refine pS ?_
                    refine gE ?_
                    exact pL
                · refine se (mkE [(6, B false)] [] 129) ?_
                  refine pN ?_
                  refine pS ?_
                  refine gE ?_
                  exact pL
              · refine se (mkE [(6, B false)] [] 129) ?_
                refine pN ?_
                refine pS ?_
                refine gE ?_
                exact pL
            · refine se (mkE [(6, B false)] [] 129) ?_
              refine pN ?_
              refine pS ?_
              refine gE ?_
              exact pL
          · refine se (mkE [(6, B false)] [] 129) ?_
            refine pN ?_
            refine pS ?_
            refine gE ?_
            exact pL
theorem F13 (m : Nat) (hm : 8 ≤ m) (p0 : (List S24)) (p1 : ByteArray) (p2 : Int) : callA Try.prog cfg m 13 [LL a24 p0, S p1, I p2] = (T13 p0 p1 p2).map B := by
  obtain ⟨q, rfl⟩ : ∃ q, m = q + 1 := ⟨m - 1, by omega⟩
  exact (callA_body (fn := Try.f13) (c := body_ Try.f13) q _ (by kernel_rfl) (by kernel_rfl) (by kernel_rfl)).trans (B13 _ (fun p0 p1 p2 => F44 q (by omega) p0 p1 p2) (fun p0 p1 p2 => F45 q (by omega) p0 p1 p2) (fun p0 p1 => F46 q (by omega) p0 p1) (fun p0 => F47 q (by omega) p0) (fun p0 => F48 q (by omega) p0) (fun p0 => F49 q (by omega) p0) (fun p0 p1 => F50 q (by omega) p0 p1) (fun p0 => F51 q (by omega) p0) (fun p0 => F52 q (by omega) p0) (fun p0 p1 p2 => F53 q (by omega) p0 p1 p2) (fun p0 p1 p2 => F54 q (by omega) p0 p1 p2) (fun p0 p1 => F55 q (by omega) p0 p1) (F56 q (by omega)) p0 p1 p2)

noncomputable def L14_4 (p0 : (List S24)) (p1 : (List S24)) (z0 : Int) : Option (Int ⊕ ((Int × Bool) ⊕ Unit)) := (bif (ltI z0 (lenL p0)) then ((listAt p0 z0).bind fun x1 => ((listAt p1 z0).bind fun x2 => (bif (!allB [eqB x1.f0 x2.f0, eqI x1.f1 x2.f1, eqI x1.f2 x2.f2]) then (some (.inr (.inr ()))) else (some (.inl (addI .i64 z0 1)))))) else (some (.inr (.inl (z0, (ltI z0 (lenL p0)))))))
theorem L14_4_ok (C : Callee) (p0 : (List S24)) (p1 : (List S24)) (z0 : Int) : runs Try.prog C (cfg.fn 14) (finLoop ((cfg.fn 14).keep 4) ((cfg.fn 14).al 4)) [] (execA Try.prog C (cfg.fn 14) (nr Try.f14 [false, false, true, false, true, true]) ((fun z0 : Int => (mkE [(0, LL a24 p0), (1, LL a24 p1), (12, I (lenL p0)), (13, I z0)] [] 26)) z0)) = (L14_4 p0 p1 z0).map (Sum.elim (fun z => .inl ((fun z0 : Int => (mkE [(0, LL a24 p0), (1, LL a24 p1), (12, I (lenL p0)), (13, I z0)] [] 26)) z)) (fun x => .inr ((Sum.elim (fun (x : (Int × Bool)) => (.exit 0, (mkE [(0, LL a24 p0), (1, LL a24 p1), (12, I (lenL p0)), (13, I x.1), (14, B x.2)] [] 26))) (fun (x : Unit) => (.ret, (mkE [(4, B false)] [] 26)))) x))) := by
  unfold L14_4
  refine gS 0 ?_
  refine gR 4 (rg Try.f14 4) ?_
  refine se (mkE [(0, LL a24 p0), (1, LL a24 p1), (12, I (lenL p0)), (13, I z0), (14, B (ltI z0 (lenL p0)))] [] 26) ?_
  refine pN ?_
  refine pS ?_
  refine gS 5 ?_
  refine gC 14 (ltI z0 (lenL p0)) ?_ ?_
  · refine gK ?_
    refine pN ?_
    refine pS ?_
    refine gS 8 ?_
    refine gB 1 ?_
    refine gS 6 ?_
    refine gR 5 (rg Try.f14 5) ?_
    refine se (mkE [(0, LL a24 p0), (1, LL a24 p1), (5, I z0), (12, I (lenL p0)), (13, I z0)] [] 26) ?_
    refine pN ?_
    refine pS ?_
    refine gS 0 ?_
    refine gD 6 9 (rg Try.f14 6) [0, 1, 2, 3, 4, 5, 6, 7, 8] ?_
    refine dg 2 [(some 16, qe (LL a24 p0)), (some 17, qe (I z0))] ?_
    refine dv 18 (mkE [(17, I z0), (16, LL a24 p0), (0, LL a24 p0), (1, LL a24 p1), (5, I z0), (12, I (lenL p0)), (13, I z0)] [] 26) (addrE 22 25 3 a24 .i64 p0 z0) (fun x1 => ?_)
    refine dg 6 [(some 16, qe (LL a24 p0)), (some 17, qe (I z0)), (some 18, qe (.ia [S x1.f0, I x1.f1, I x1.f2] 0)), (some 19, qe (a24 x1)), (some 20, qe (LL a24 p1)), (some 21, qe (I z0))] ?_
    refine dv 22 (mkE [(21, I z0), (20, LL a24 p1), (0, LL a24 p0), (1, LL a24 p1), (5, I z0), (12, I (lenL p0)), (13, I z0)] [] 26) (addrE 22 25 3 a24 .i64 p1 z0) (fun x2 => ?_)
    refine dg 8 [(some 16, qe (LL a24 p0)), (some 17, qe (I z0)), (some 18, qe (.ia [S x1.f0, I x1.f1, I x1.f2] 0)), (some 19, qe (a24 x1)), (some 20, qe (LL a24 p1)), (some 21, qe (I z0)), (some 22, qe (.ia [S x2.f0, I x2.f1, I x2.f2] 0)), (some 23, qe (a24 x2))] ?_
    refine df 24 (B (!allB [eqB x1.f0 x2.f0, eqI x1.f1 x2.f1, eqI x1.f2 x2.f2])) (mkE [(23, a24 x2), (22, .ia [S x2.f0, I x2.f1, I x2.f2] 0), (21, I z0), (20, LL a24 p1), (19, a24 x1), (18, .ia [S x1.f0, I x1.f1, I x1.f2] 0), (17, I z0), (16, LL a24 p0), (0, LL a24 p0), (1, LL a24 p1), (5, I z0), (12, I (lenL p0)), (13, I z0)] [] 26) (neqE 25 (.tmp 19) (.tmp 23) [S x1.f0, I x1.f1, I x1.f2] [S x2.f0, I x2.f1, I x2.f2] [.string x1.f0, .int .i64 x1.f1, .int .i64 x1.f2] [.string x2.f0, .int .i64 x2.f1, .int .i64 x2.f2] [eqB x1.f0 x2.f0, eqI x1.f1 x2.f1, eqI x1.f2 x2.f2]) ?_
    refine de (mkE [(24, B (!allB [eqB x1.f0 x2.f0, eqI x1.f1 x2.f1, eqI x1.f2 x2.f2])), (23, a24 x2), (22, .ia [S x2.f0, I x2.f1, I x2.f2] 0), (21, I z0), (20, LL a24 p1), (19, a24 x1), (18, .ia [S x1.f0, I x1.f1, I x1.f2] 0), (17, I z0), (16, LL a24 p0), (0, LL a24 p0), (1, LL a24 p1), (5, I z0), (12, I (lenL p0)), (13, I z0)] [] 26) ?_
    refine se (mkE [(0, LL a24 p0), (1, LL a24 p1), (12, I (lenL p0)), (13, I z0), (24, B (!allB [eqB x1.f0 x2.f0, eqI x1.f1 x2.f1, eqI x1.f2 x2.f2]))] [] 26) ?_
    refine pN ?_
    refine pS ?_
    refine gC 24 (!allB [eqB x1.f0 x2.f0, eqI x1.f1 x2.f1, eqI x1.f2 x2.f2]) ?_ ?_
    · refine gS 0 ?_
      refine gR 7 (rg Try.f14 7) ?_
      refine se (mkE [(4, B false)] [] 26) ?_
      refine pN ?_
      refine pS ?_
      refine gE ?_
      exact pL
    · refine gK ?_
      refine pB ?_
      refine pN ?_
      refine pS ?_
      refine gR 8 (rg Try.f14 8) ?_
      refine se (mkE [(0, LL a24 p0), (1, LL a24 p1), (12, I (lenL p0)), (13, I (addI .i64 z0 1))] [] 26) ?_
      exact pL
  · refine gX 0 ?_
    exact pL
noncomputable def T14 (p0 : (List S24)) (p1 : (List S24)) : Option Bool := (bif (neI (lenL p0) (lenL p1)) then (some false) else ((iter (L14_4 p0 p1) 0).bind fun y3 => (Sum.elim (fun y3a => (some true)) (fun y3b => (some false)) y3)))
theorem B14 (C : Callee) (p0 : (List S24)) (p1 : (List S24)) : runs Try.prog C (cfg.fn 14) (finFn Try.prog (cfg.fn 14).byval Try.f14) [] (execA Try.prog C (cfg.fn 14) (nr Try.f14 []) (frame0 [LL a24 p0, LL a24 p1] 26)) = (T14 p0 p1).map B := by
  unfold T14
  refine gS 1 ?_
  refine gR 0 (rg Try.f14 0) ?_
  refine se (mkE [(0, LL a24 p0), (1, LL a24 p1)] [] 26) ?_
  refine pN ?_
  refine pS ?_
  refine gS 3 ?_
  refine gS 0 ?_
  refine gR 1 (rg Try.f14 1) ?_
  refine sg 1 (mkE [(6, LL a24 p0), (0, LL a24 p0), (1, LL a24 p1)] [] 26) ?_
  refine eo 7 (I (lenL p0)) (lenE 22 a24 p0) ?_
  refine sg 3 (mkE [(8, LL a24 p1), (7, I (lenL p0)), (6, LL a24 p0), (0, LL a24 p0), (1, LL a24 p1)] [] 26) ?_
  refine eo 9 (I (lenL p1)) (lenE 22 a24 p1) ?_
  refine se (mkE [(0, LL a24 p0), (1, LL a24 p1), (10, B (neI (lenL p0) (lenL p1)))] [] 26) ?_
  refine pN ?_
  refine pS ?_
  refine gC 10 (neI (lenL p0) (lenL p1)) ?_ ?_
  · refine gS 0 ?_
    refine gR 2 (rg Try.f14 2) ?_
    refine se (mkE [(4, B false)] [] 26) ?_
    refine pN ?_
    refine pS ?_
    refine gE ?_
    exact pL
  · refine gK ?_
    refine pN ?_
    refine pS ?_
    refine gS 9 ?_
    refine gS 4 ?_
    refine gR 3 (rg Try.f14 3) ?_
    refine sg 1 (mkE [(11, LL a24 p0), (0, LL a24 p0), (1, LL a24 p1), (10, B (neI (lenL p0) (lenL p1)))] [] 26) ?_
    refine eo 12 (I (lenL p0)) (lenE 22 a24 p0) ?_
    refine se (mkE [(0, LL a24 p0), (1, LL a24 p1), (12, I (lenL p0)), (13, I 0)] [] 26) ?_
    refine pN ?_
    refine pS ?_
    refine gB 0 ?_
    refine lo [(0, none), (1, none), (12, none), (13, none)] [] (L14_4 p0 p1) (fun z0 : Int => (mkE [(0, LL a24 p0), (1, LL a24 p1), (12, I (lenL p0)), (13, I z0)] [] 26)) (Sum.elim (fun (x : (Int × Bool)) => (.exit 0, (mkE [(0, LL a24 p0), (1, LL a24 p1), (12, I (lenL p0)), (13, I x.1), (14, B x.2)] [] 26))) (fun (x : Unit) => (.ret, (mkE [(4, B false)] [] 26)))) 0 (fun z => L14_4_ok C p0 p1 z) ?_
    intro y3
    refine ss y3 (Z := (Sum.elim (fun (x : (Int × Bool)) => (.exit 0, (mkE [(0, LL a24 p0), (1, LL a24 p1), (12, I (lenL p0)), (13, I x.1), (14, B x.2)] [] 26))) (fun (x : Unit) => (.ret, (mkE [(4, B false)] [] 26))))) (fun y3a => ?_) (fun y3b => ?_)
    · refine pH ?_
      refine pN ?_
      refine pS ?_
      refine gS 0 ?_
      refine gR 9 (rg Try.f14 9) ?_
      refine se (mkE [(4, B true)] [] 26) ?_
      refine pN ?_
      refine pS ?_
      refine gE ?_
      exact pL
    · exact pL
theorem F14 (m : Nat) (hm : 1 ≤ m) (p0 : (List S24)) (p1 : (List S24)) : callA Try.prog cfg m 14 [LL a24 p0, LL a24 p1] = (T14 p0 p1).map B := by
  obtain ⟨q, rfl⟩ : ∃ q, m = q + 1 := ⟨m - 1, by omega⟩
  exact (callA_body (fn := Try.f14) (c := body_ Try.f14) q _ (by kernel_rfl) (by kernel_rfl) (by kernel_rfl)).trans (B14 _ p0 p1)

noncomputable def T3 (p0 : (List S24)) (p1 : ByteArray) (p2 : Int) : Option Bool := ((appO 32 ([] : List S24) p0).bind fun x1 => ((T13 p0 p1 p2).bind fun x2 => (bif x2 then ((T14 p0 x1).bind fun x3 => (some x3)) else (some false))))
theorem B3 (C : Callee) (h12 : ∀ (p0 : (List S24)), C 12 [LL a24 p0] = (appO 32 ([] : List S24) p0).map (fun l => AV.fr 25 3 (List.map a24 l))) (h13 : ∀ (p0 : (List S24)) (p1 : ByteArray) (p2 : Int), C 13 [LL a24 p0, S p1, I p2] = (T13 p0 p1 p2).map B) (h14 : ∀ (p0 : (List S24)) (p1 : (List S24)), C 14 [LL a24 p0, LL a24 p1] = (T14 p0 p1).map B) (p0 : (List S24)) (p1 : ByteArray) (p2 : Int) : runs Try.prog C (cfg.fn 3) (finFn Try.prog (cfg.fn 3).byval Try.f3) [] (execA Try.prog C (cfg.fn 3) (nr Try.f3 []) (frame0 [LL a24 p0, S p1, I p2] 19)) = (T3 p0 p1 p2).map B := by
  unfold T3
  refine gS 1 ?_
  refine gR 0 (rg Try.f3 0) ?_
  refine se (mkE [(0, LL a24 p0), (1, S p1), (2, I p2)] [] 19) ?_
  refine pN ?_
  refine pS ?_
  refine gS 2 ?_
  refine gR 1 (rg Try.f3 1) ?_
  refine sg 1 (mkE [(8, LL a24 p0), (0, LL a24 p0), (1, S p1), (2, I p2)] [] 19) ?_
  refine co 9 [] (h12 p0) (fun x1 => ?_)
  refine se (mkE [(0, LL a24 p0), (1, S p1), (2, I p2), (7, .own 72 0)] [(72, RR 25 3 a24 x1 0 false)] 19) ?_
  refine pN ?_
  refine pS ?_
  refine gS 0 ?_
  refine gR 2 (rg Try.f3 2) ?_
  refine sg 3 (mkE [(12, I p2), (11, S p1), (10, LL a24 p0), (0, LL a24 p0), (1, S p1), (2, I p2), (7, .own 72 0)] [(72, RR 25 3 a24 x1 0 false)] 19) ?_
  refine co 13 [] (h13 p0 p1 p2) (fun x2 => ?_)
  refine sg 5 (mkE [(14, B x2), (13, B x2), (12, I p2), (11, S p1), (10, LL a24 p0), (0, LL a24 p0), (1, S p1), (2, I p2), (7, .own 72 0)] [(72, RR 25 3 a24 x1 0 false)] 19) ?_
  refine sb 14 x2 ?_ ?_
  · refine sg 7 (mkE [(16, .own 72 0), (15, LL a24 p0), (14, B true), (14, B x2), (13, B x2), (12, I p2), (11, S p1), (10, LL a24 p0), (0, LL a24 p0), (1, S p1), (2, I p2), (7, .own 72 0)] [(72, RR 25 3 a24 x1 0 false)] 19) ?_
    refine co 17 [72] (h14 p0 x1) (fun x3 => ?_)
    refine se (mkE [(6, B x3)] [] 19) ?_
    refine pN ?_
    refine pS ?_
    refine gE ?_
    exact pL
  · refine se (mkE [(6, B false)] [] 19) ?_
    refine pN ?_
    refine pS ?_
    refine gE ?_
    exact pL
theorem F3 (m : Nat) (hm : 9 ≤ m) (p0 : (List S24)) (p1 : ByteArray) (p2 : Int) : callA Try.prog cfg m 3 [LL a24 p0, S p1, I p2] = (T3 p0 p1 p2).map B := by
  obtain ⟨q, rfl⟩ : ∃ q, m = q + 1 := ⟨m - 1, by omega⟩
  exact (callA_body (fn := Try.f3) (c := body_ Try.f3) q _ (by kernel_rfl) (by kernel_rfl) (by kernel_rfl)).trans (B3 _ (fun p0 => F12 q (by omega) p0) (fun p0 p1 p2 => F13 q (by omega) p0 p1 p2) (fun p0 p1 => F14 q (by omega) p0 p1) p0 p1 p2)

end Go.Abs.TC
