import Derived.Test.YtpakkikhfkhebaaSTSp1
set_option maxRecDepth 100000
set_option linter.unusedVariables false
namespace Go.Abs.TS
open Go.RowKit Go.Proofs Go.Abs
noncomputable def L11_9 (p0 : S23) (z0 : (ByteArray × Int)) : Option ((ByteArray × Int) ⊕ ((ByteArray × Int × Bool) ⊕ Int)) := (bif (ltI z0.2 (lenL p0.f3)) then ((listAt p0.f3 z0.2).bind fun x4 => ((T28 x4.f0).bind fun x5 => (bif (!x5) then (some (.inr (.inr 5))) else ((T30 x4.f1).bind fun x6 => (bif (neI x6 0) then (some (.inr (.inr x6))) else ((T31 x4.f1 p0.f1 p0.f2).bind fun x7 => (bif (!x7) then (some (.inr (.inr 3))) else ((T32 x4.f2 0 1000).bind fun x8 => (bif (!x8) then (some (.inr (.inr 1))) else (bif (ltS x4.f0 z0.1 || eqS x4.f0 z0.1) then (some (.inr (.inr 7))) else (some (.inl (x4.f0, (addI .i64 z0.2 1)))))))))))))) else (some (.inr (.inl (z0.1, z0.2, (ltI z0.2 (lenL p0.f3)))))))
theorem L11_9_ok (C : Callee) (h28 : ∀ (p0 : ByteArray), C 28 [S p0] = (T28 p0).map B) (h30 : ∀ (p0 : S29), C 30 [a29 p0] = (T30 p0).map I) (h31 : ∀ (p0 : S29) (p1 : Int) (p2 : Int), C 31 [a29 p0, I p1, I p2] = (T31 p0 p1 p2).map B) (h32 : ∀ (p0 : Int) (p1 : Int) (p2 : Int), C 32 [I p0, I p1, I p2] = (T32 p0 p1 p2).map B) (p0 : S23) (z0 : (ByteArray × Int)) : runs Try.prog C (cfg.fn 11) (finLoop ((cfg.fn 11).keep 9) ((cfg.fn 11).al 9)) [] (execA Try.prog C (cfg.fn 11) (nr Try.f11 [false, false, true, false, true, true, true]) ((fun z0 : (ByteArray × Int) => (mkE [(1, .ba 8 0), (3, S z0.1), (29, LL a31 p0.f3), (30, I (lenL p0.f3)), (31, I z0.2)] [(8, .box [S p0.f0, I p0.f1, I p0.f2, LL a31 p0.f3] false)] 67)) z0)) = (L11_9 p0 z0).map (Sum.elim (fun z => .inl ((fun z0 : (ByteArray × Int) => (mkE [(1, .ba 8 0), (3, S z0.1), (29, LL a31 p0.f3), (30, I (lenL p0.f3)), (31, I z0.2)] [(8, .box [S p0.f0, I p0.f1, I p0.f2, LL a31 p0.f3] false)] 67)) z)) (fun x => .inr ((Sum.elim (fun (x : (ByteArray × Int × Bool)) => (.exit 1, (mkE [(1, .ba 8 0), (3, S x.1), (29, LL a31 p0.f3), (30, I (lenL p0.f3)), (31, I x.2.1), (32, B x.2.2)] [(8, .box [S p0.f0, I p0.f1, I p0.f2, LL a31 p0.f3] false)] 67))) (fun (x : Int) => (.ret, (mkE [(2, I x)] [] 67)))) x))) := by
  unfold L11_9
  refine gS 0 ?_
  refine gR 9 (rg Try.f11 9) ?_
  refine se (mkE [(1, .ba 8 0), (3, S z0.1), (29, LL a31 p0.f3), (30, I (lenL p0.f3)), (31, I z0.2), (32, B (ltI z0.2 (lenL p0.f3)))] [(8, .box [S p0.f0, I p0.f1, I p0.f2, LL a31 p0.f3] false)] 67) ?_
  refine pN ?_
  refine pS ?_
  refine gS 10 ?_
  refine gC 32 (ltI z0.2 (lenL p0.f3)) ?_ ?_
  · refine gK ?_
    refine pN ?_
    refine pS ?_
    refine gS 23 ?_
    refine gB 2 ?_
    refine gS 11 ?_
    refine gR 10 (rg Try.f11 10) ?_
    refine vo 33 (addrE 22 32 6 a31 .i64 p0.f3 z0.2) (fun x4 => ?_)
    refine se (mkE [(1, .ba 8 0), (3, S z0.1), (5, .ba 40 0), (29, LL a31 p0.f3), (30, I (lenL p0.f3)), (31, I z0.2)] [(8, .box [S p0.f0, I p0.f1, I p0.f2, LL a31 p0.f3] false), (40, .box [S x4.f0, I x4.f1.f0, I x4.f1.f1, I x4.f1.f2, I x4.f1.f3, I x4.f2] false)] 67) ?_
    refine pN ?_
    refine pS ?_
    refine gS 13 ?_
    refine gS 0 ?_
    refine gR 11 (rg Try.f11 11) ?_
    refine sg 2 (mkE [(36, S x4.f0), (35, .ba 40 0), (1, .ba 8 0), (3, S z0.1), (5, .ba 40 0), (29, LL a31 p0.f3), (30, I (lenL p0.f3)), (31, I z0.2)] [(8, .box [S p0.f0, I p0.f1, I p0.f2, LL a31 p0.f3] false), (40, .box [S x4.f0, I x4.f1.f0, I x4.f1.f1, I x4.f1.f2, I x4.f1.f3, I x4.f2] false)] 67) ?_
    refine co 37 [] (h28 x4.f0) (fun x5 => ?_)
    refine se (mkE [(1, .ba 8 0), (3, S z0.1), (5, .ba 40 0), (29, LL a31 p0.f3), (30, I (lenL p0.f3)), (31, I z0.2), (38, B (!x5))] [(8, .box [S p0.f0, I p0.f1, I p0.f2, LL a31 p0.f3] false), (40, .box [S x4.f0, I x4.f1.f0, I x4.f1.f1, I x4.f1.f2, I x4.f1.f3, I x4.f2] false)] 67) ?_
    refine pN ?_
    refine pS ?_
    refine gC 38 (!x5) ?_ ?_
    · refine gS 0 ?_
      refine gR 12 (rg Try.f11 12) ?_
      refine se (mkE [(2, I 5)] [] 67) ?_
      refine pN ?_
      refine pS ?_
      refine gE ?_
      exact pL
    · refine gK ?_
      refine pN ?_
      refine pS ?_
      refine gS 16 ?_
      refine gS 14 ?_
      refine gR 13 (rg Try.f11 13) ?_
      refine sg 2 (mkE [(40, a29 x4.f1), (39, .ba 40 1), (1, .ba 8 0), (3, S z0.1), (5, .ba 40 0), (29, LL a31 p0.f3), (30, I (lenL p0.f3)), (31, I z0.2), (38, B (!x5))] [(8, .box [S p0.f0, I p0.f1, I p0.f2, LL a31 p0.f3] false), (40, .box [S x4.f0, I x4.f1.f0, I x4.f1.f1, I x4.f1.f2, I x4.f1.f3, I x4.f2] false)] 67) ?_
      refine co 41 [] (h30 x4.f1) (fun x6 => ?_)
      refine se (mkE [(1, .ba 8 0), (3, S z0.1), (5, .ba 40 0), (6, I x6), (29, LL a31 p0.f3), (30, I (lenL p0.f3)), (31, I z0.2)] [(8, .box [S p0.f0, I p0.f1, I p0.f2, LL a31 p0.f3] false), (40, .box [S x4.f0, I x4.f1.f0, I x4.f1.f1, I x4.f1.f2, I x4.f1.f3, I x4.f2] false)] 67) ?_
      refine pN ?_
      refine pS ?_
      refine gS 0 ?_
      refine gR 14 (rg Try.f11 14) ?_
      refine se (mkE [(1, .ba 8 0), (3, S z0.1), (5, .ba 40 0), (6, I x6), (29, LL a31 p0.f3), (30, I (lenL p0.f3)), (31, I z0.2), (43, B (neI x6 0))] [(8, .box [S p0.f0, I p0.f1, I p0.f2, LL a31 p0.f3] false), (40, .box [S x4.f0, I x4.f1.f0, I x4.f1.f1, I x4.f1.f2, I x4.f1.f3, I x4.f2] false)] 67) ?_
      refine pN ?_
      refine pS ?_
      refine gC 43 (neI x6 0) ?_ ?_
      · refine gS 0 ?_
        refine gR 15 (rg Try.f11 15) ?_
        refine se (mkE [(2, I x6)] [] 67) ?_
        refine pN ?_
        refine pS ?_
        refine gE ?_
        exact pL
      · refine gK ?_
        refine pN ?_
        refine pS ?_
        refine gS 22 ?_
        refine gB 3 ?_
        refine gS 0 ?_
        refine gR 16 (rg Try.f11 16) ?_
        refine sg 6 (mkE [(51, I p0.f2), (50, .ba 8 2), (49, I p0.f1), (48, .ba 8 1), (47, a29 x4.f1), (46, .ba 40 1), (1, .ba 8 0), (3, S z0.1), (5, .ba 40 0), (6, I x6), (29, LL a31 p0.f3), (30, I (lenL p0.f3)), (31, I z0.2), (43, B (neI x6 0))] [(8, .box [S p0.f0, I p0.f1, I p0.f2, LL a31 p0.f3] false), (40, .box [S x4.f0, I x4.f1.f0, I x4.f1.f1, I x4.f1.f2, I x4.f1.f3, I x4.f2] false)] 67) ?_
        refine co 52 [] (h31 x4.f1 p0.f1 p0.f2) (fun x7 => ?_)
        refine se (mkE [(1, .ba 8 0), (3, S z0.1), (5, .ba 40 0), (29, LL a31 p0.f3), (30, I (lenL p0.f3)), (31, I z0.2), (45, B (!x7))] [(8, .box [S p0.f0, I p0.f1, I p0.f2, LL a31 p0.f3] false), (40, .box [S x4.f0, I x4.f1.f0, I x4.f1.f1, I x4.f1.f2, I x4.f1.f3, I x4.f2] false)] 67) ?_
        refine pN ?_
        refine pS ?_
        refine gC 45 (!x7) ?_ ?_
        · refine gS 0 ?_
          refine gR 17 (rg Try.f11 17) ?_
          refine se (mkE [(2, I 3)] [] 67) ?_
          refine pN ?_
          refine pS ?_
          refine gE ?_
          exact pL
        · refine gS 0 ?_
          refine gR 18 (rg Try.f11 18) ?_
          refine sg 2 (mkE [(56, I x4.f2), (55, .ba 40 5), (1, .ba 8 0), (3, S z0.1), (5, .ba 40 0), (29, LL a31 p0.f3), (30, I (lenL p0.f3)), (31, I z0.2), (45, B (!x7))] [(8, .box [S p0.f0, I p0.f1, I p0.f2, LL a31 p0.f3] false), (40, .box [S x4.f0, I x4.f1.f0, I x4.f1.f1, I x4.f1.f2, I x4.f1.f3, I x4.f2] false)] 67) ?_
          refine co 57 [] (h32 x4.f2 0 1000) (fun x8 => ?_)
          refine se (mkE [(1, .ba 8 0), (3, S z0.1), (5, .ba 40 0), (29, LL a31 p0.f3), (30, I (lenL p0.f3)), (31, I z0.2), (54, B (!x8))] [(8, .box [S p0.f0, I p0.f1, I p0.f2, LL a31 p0.f3] false), (40, .box [S x4.f0, I x4.f1.f0, I x4.f1.f1, I x4.f1.f2, I x4.f1.f3, I x4.f2] false)] 67) ?_
          refine pN ?_
          refine pS ?_
          refine gC 54 (!x8) ?_ ?_
          · refine gS 0 ?_
            refine gR 19 (rg Try.f11 19) ?_
            refine se (mkE [(2, I 1)] [] 67) ?_
            refine pN ?_
            refine pS ?_
            refine gE ?_
            exact pL
          · refine gS 0 ?_
            refine gR 20 (rg Try.f11 20) ?_
            refine se (mkE [(1, .ba 8 0), (5, .ba 40 0), (29, LL a31 p0.f3), (30, I (lenL p0.f3)), (31, I z0.2), (59, B (ltS x4.f0 z0.1 || eqS x4.f0 z0.1))] [(8, .box [S p0.f0, I p0.f1, I p0.f2, LL a31 p0.f3] false), (40, .box [S x4.f0, I x4.f1.f0, I x4.f1.f1, I x4.f1.f2, I x4.f1.f3, I x4.f2] false)] 67) ?_
            refine pN ?_
            refine pS ?_
            refine gC 59 (ltS x4.f0 z0.1 || eqS x4.f0 z0.1) ?_ ?_
            · refine gS 0 ?_
              refine gR 21 (rg Try.f11 21) ?_
              refine se (mkE [(2, I 7)] [] 67) ?_
              refine pN ?_
              refine pS ?_
              refine gE ?_
              exact pL
            · refine gK ?_
              refine pB ?_
              refine pN ?_
              refine pS ?_
              refine gR 22 (rg Try.f11 22) ?_
              refine se (mkE [(1, .ba 8 0), (3, S x4.f0), (29, LL a31 p0.f3), (30, I (lenL p0.f3)), (31, I z0.2)] [(8, .box [S p0.f0, I p0.f1, I p0.f2, LL a31 p0.f3] false)] 67) ?_
              refine pB ?_
              refine pN ?_
              refine pS ?_
              refine gR 23 (rg Try.f11 23) ?_
              refine se (mkE [(1, .ba 8 0), (3, S x4.f0), (29, LL a31 p0.f3), (30, I (lenL p0.f3)), (31, I (addI .i64 z0.2 1))] [(8, .box [S p0.f0, I p0.f1, I p0.f2, LL a31 p0.f3] false)] 67) ?_
              exact pL
  · refine gX 1 ?_
    exact pL
noncomputable def T11 (p0 : S23) : Option Int := ((T28 p0.f0).bind fun x1 => (bif (!x1) then (some 5) else ((T29 p0.f1).bind fun x2 => (bif (!x2) then (some 1) else ((T29 p0.f2).bind fun x3 => (bif (!x3) then (some 1) else (bif (ltI 30 (lenL p0.f3)) then (some 2) else ((iter (L11_9 p0) ((ByteArray.mk #[]), 0)).bind fun y9 => (Sum.elim (fun y9a => (some 0)) (fun y9b => (some y9b)) y9)))))))))
theorem B11 (C : Callee) (h28 : ∀ (p0 : ByteArray), C 28 [S p0] = (T28 p0).map B) (h29 : ∀ (p0 : Int), C 29 [I p0] = (T29 p0).map B) (h30 : ∀ (p0 : S29), C 30 [a29 p0] = (T30 p0).map I) (h31 : ∀ (p0 : S29) (p1 : Int) (p2 : Int), C 31 [a29 p0, I p1, I p2] = (T31 p0 p1 p2).map B) (h32 : ∀ (p0 : Int) (p1 : Int) (p2 : Int), C 32 [I p0, I p1, I p2] = (T32 p0 p1 p2).map B) (p0 : S23) : runs Try.prog C (cfg.fn 11) (finFn Try.prog (cfg.fn 11).byval Try.f11) [] (execA Try.prog C (cfg.fn 11) (nr Try.f11 []) (frame0 [a23 p0] 67 false)) = (T11 p0).map I := by
  unfold T11
  refine gS 1 ?_
  refine gR 0 (rg Try.f11 0) ?_
  refine se (mkE [(1, .ba 8 0)] [(8, .box [S p0.f0, I p0.f1, I p0.f2, LL a31 p0.f3] false)] 67) ?_
  refine pN ?_
  refine pS ?_
  refine gS 7 ?_
  refine gB 0 ?_
  refine gS 0 ?_
  refine gR 1 (rg Try.f11 1) ?_
  refine sg 2 (mkE [(9, S p0.f0), (8, .ba 8 0), (1, .ba 8 0)] [(8, .box [S p0.f0, I p0.f1, I p0.f2, LL a31 p0.f3] false)] 67) ?_
  refine co 10 [] (h28 p0.f0) (fun x1 => ?_)
  refine se (mkE [(1, .ba 8 0), (7, B (!x1))] [(8, .box [S p0.f0, I p0.f1, I p0.f2, LL a31 p0.f3] false)] 67) ?_
  refine pN ?_
  refine pS ?_
  refine gC 7 (!x1) ?_ ?_
  · refine gS 0 ?_
    refine gR 2 (rg Try.f11 2) ?_
    refine se (mkE [(2, I 5)] [] 67) ?_
    refine pN ?_
    refine pS ?_
    refine gE ?_
    exact pL
  · refine gS 0 ?_
    refine gR 3 (rg Try.f11 3) ?_
    refine sg 2 (mkE [(14, I p0.f1), (13, .ba 8 1), (1, .ba 8 0), (7, B (!x1))] [(8, .box [S p0.f0, I p0.f1, I p0.f2, LL a31 p0.f3] false)] 67) ?_
    refine co 15 [] (h29 p0.f1) (fun x2 => ?_)
    refine sg 5 (mkE [(17, B (!x2)), (16, B (!x2)), (15, B x2), (14, I p0.f1), (13, .ba 8 1), (1, .ba 8 0), (7, B (!x1))] [(8, .box [S p0.f0, I p0.f1, I p0.f2, LL a31 p0.f3] false)] 67) ?_
    refine sb 17 (!x2) ?_ ?_
    · refine se (mkE [(1, .ba 8 0), (12, B true)] [(8, .box [S p0.f0, I p0.f1, I p0.f2, LL a31 p0.f3] false)] 67) ?_
      refine pN ?_
      refine pS ?_
      refine gT (.tmp 12) ?_
      refine gS 0 ?_
      refine gR 4 (rg Try.f11 4) ?_
      refine se (mkE [(2, I 1)] [] 67) ?_
      refine pN ?_
      refine pS ?_
      refine gE ?_
      exact pL
    · refine sg 7 (mkE [(19, I p0.f2), (18, .ba 8 2), (17, B false), (17, B (!x2)), (16, B (!x2)), (15, B x2), (14, I p0.f1), (13, .ba 8 1), (1, .ba 8 0), (7, B (!x1))] [(8, .box [S p0.f0, I p0.f1, I p0.f2, LL a31 p0.f3] false)] 67) ?_
      refine co 20 [] (h29 p0.f2) (fun x3 => ?_)
      refine se (mkE [(1, .ba 8 0), (12, B (!x3))] [(8, .box [S p0.f0, I p0.f1, I p0.f2, LL a31 p0.f3] false)] 67) ?_
      refine pN ?_
      refine pS ?_
      refine gC 12 (!x3) ?_ ?_
      · refine gS 0 ?_
        refine gR 4 (rg Try.f11 4) ?_
        refine se (mkE [(2, I 1)] [] 67) ?_
        refine pN ?_
        refine pS ?_
        refine gE ?_
        exact pL
      · refine gS 0 ?_
        refine gR 5 (rg Try.f11 5) ?_
        refine sg 2 (mkE [(25, LL a31 p0.f3), (24, .ba 8 3), (1, .ba 8 0), (12, B (!x3))] [(8, .box [S p0.f0, I p0.f1, I p0.f2, LL a31 p0.f3] false)] 67) ?_
        refine eo 26 (I (lenL p0.f3)) (lenE 22 a31 p0.f3) ?_
        refine se (mkE [(1, .ba 8 0), (23, B (ltI 30 (lenL p0.f3)))] [(8, .box [S p0.f0, I p0.f1, I p0.f2, LL a31 p0.f3] false)] 67) ?_
        refine pN ?_
        refine pS ?_
        refine gC 23 (ltI 30 (lenL p0.f3)) ?_ ?_
        · refine gS 0 ?_
          refine gR 6 (rg Try.f11 6) ?_
          refine se (mkE [(2, I 2)] [] 67) ?_
          refine pN ?_
          refine pS ?_
          refine gE ?_
          exact pL
        · refine gK ?_
          refine pB ?_
          refine pN ?_
          refine pS ?_
          refine gS 8 ?_
          refine gR 7 (rg Try.f11 7) ?_
          refine se (mkE [(1, .ba 8 0), (3, S (ByteArray.mk #[]))] [(8, .box [S p0.f0, I p0.f1, I p0.f2, LL a31 p0.f3] false)] 67) ?_
          refine pN ?_
          refine pS ?_
          refine gS 24 ?_
          refine gS 9 ?_
          refine gR 8 (rg Try.f11 8) ?_
          refine sg 2 (mkE [(29, LL a31 p0.f3), (28, .ba 8 3), (1, .ba 8 0), (3, S (ByteArray.mk #[]))] [(8, .box [S p0.f0, I p0.f1, I p0.f2, LL a31 p0.f3] false)] 67) ?_
          refine eo 30 (I (lenL p0.f3)) (lenE 22 a31 p0.f3) ?_
          refine se (mkE [(1, .ba 8 0), (3, S (ByteArray.mk #[])), (29, LL a31 p0.f3), (30, I (lenL p0.f3)), (31, I 0)] [(8, .box [S p0.f0, I p0.f1, I p0.f2, LL a31 p0.f3] false)] 67) ?_
          refine pN ?_
          refine pS ?_
          refine gB 1 ?_
          refine lo [(1, none), (3, none), (29, none), (30, none), (31, none)] [] (L11_9 p0) (fun z0 : (ByteArray × Int) => (mkE [(1, .ba 8 0), (3, S z0.1), (29, LL a31 p0.f3), (30, I (lenL p0.f3)), (31, I z0.2)] [(8, .box [S p0.f0, I p0.f1, I p0.f2, LL a31 p0.f3] false)] 67)) (Sum.elim (fun (x : (ByteArray × Int × Bool)) => (.exit 1, (mkE [(1, .ba 8 0), (3, S x.1), (29, LL a31 p0.f3), (30, I (lenL p0.f3)), (31, I x.2.1), (32, B x.2.2)] [(8, .box [S p0.f0, I p0.f1, I p0.f2, LL a31 p0.f3] false)] 67))) (fun (x : Int) => (.ret, (mkE [(2, I x)] [] 67)))) ((ByteArray.mk #[]), 0) (fun z => L11_9_ok C h28 h30 h31 h32 p0 z) ?_
          intro y9
          refine ss y9 (Z := (Sum.elim (fun (x : (ByteArray × Int × Bool)) => (.exit 1, (mkE [(1, .ba 8 0), (3, S x.1), (29, LL a31 p0.f3), (30, I (lenL p0.f3)), (31, I x.2.1), (32, B x.2.2)] [(8, .box [S p0.f0, I p0.f1, I p0.f2, LL a31 p0.f3] false)] 67))) (fun (x : Int) => (.ret, (mkE [(2, I x)] [] 67))))) (fun y9a => ?_) (fun y9b => ?_)
          · refine pH ?_
            refine pN ?_
            refine pS ?_
            refine gS 0 ?_
            refine gR 24 (rg Try.f11 24) ?_
            refine se (mkE [(2, I 0)] [] 67) ?_
            refine pN ?_
            refine pS ?_
            refine gE ?_
            exact pL
          · exact pL
theorem F11 (m : Nat) (hm : 5 ≤ m) (p0 : S23) : callA Try.prog cfg m 11 [a23 p0] = (T11 p0).map I := by
  obtain ⟨q, rfl⟩ : ∃ q, m = q + 1 := ⟨m - 1, by omega⟩
  exact (callA_body (fn := Try.f11) (c := body_ Try.f11) q _ (by kernel_rfl) (by kernel_rfl) (by kernel_rfl)).trans (B11 _ (fun p0 => F28 q (by omega) p0) (fun p0 => F29 q (by omega) p0) (fun p0 => F30 q (by omega) p0) (fun p0 p1 p2 => F31 q (by omega) p0 p1 p2) (fun p0 p1 p2 => F32 q (by omega) p0 p1 p2) p0)

noncomputable def T14 (p0 : Bool) (p1 : Int) : Option Int := (bif p0 then (some p1) else (some 0))
theorem B14 (C : Callee) (p0 : Bool) (p1 : Int) : runs Try.prog C (cfg.fn 14) (finFn Try.prog (cfg.fn 14).byval Try.f14) [] (execA Try.prog C (cfg.fn 14) (nr Try.f14 []) (frame0 [B p0, I p1] 7 false)) = (T14 p0 p1).map I := by
  unfold T14
  refine gS 1 ?_
  refine gR 0 (rg Try.f14 0) ?_
  refine se (mkE [(0, B p0), (1, I p1)] [] 7) ?_
  refine pN ?_
  refine pS ?_
  refine gS 3 ?_
  refine gS 0 ?_
  refine gR 1 (rg Try.f14 1) ?_
  refine se (mkE [(1, I p1), (5, B p0)] [] 7) ?_
  refine pN ?_
  refine pS ?_
  refine gC 5 p0 ?_ ?_
  · refine gS 0 ?_
    refine gR 2 (rg Try.f14 2) ?_
    refine se (mkE [(4, I p1)] [] 7) ?_
    refine pN ?_
    refine pS ?_
    refine gE ?_
    exact pL
  · refine gK ?_
    refine pN ?_
    refine pS ?_
    refine gS 0 ?_
    refine gR 3 (rg Try.f14 3) ?_
    refine se (mkE [(4, I 0)] [] 7) ?_
    refine pN ?_
    refine pS ?_
    refine gE ?_
    exact pL
theorem F14 (m : Nat) (hm : 1 ≤ m) (p0 : Bool) (p1 : Int) : callA Try.prog cfg m 14 [B p0, I p1] = (T14 p0 p1).map I := by
  obtain ⟨q, rfl⟩ : ∃ q, m = q + 1 := ⟨m - 1, by omega⟩
  exact (callA_body (fn := Try.f14) (c := body_ Try.f14) q _ (by kernel_rfl) (by kernel_rfl) (by kernel_rfl)).trans (B14 _ p0 p1)

noncomputable def L13_2 (p0 : (List Int)) (z0 : Int) : Option (Int ⊕ ((Int × Bool) ⊕ Int)) := (bif (ltI z0 (lenL p0)) then ((listAt p0 z0).bind fun x1 => (bif (neI x1 0) then (some (.inr (.inr x1))) else (some (.inl (addI .i64 z0 1))))) else (some (.inr (.inl (z0, (ltI z0 (lenL p0)))))))
theorem L13_2_ok (C : Callee) (p0 : (List Int)) (z0 : Int) : runs Try.prog C (cfg.fn 13) (finLoop ((cfg.fn 13).keep 2) ((cfg.fn 13).al 2)) [] (execA Try.prog C (cfg.fn 13) (nr Try.f13 [false, false, true, false, true]) ((fun z0 : Int => (mkE [(5, LL I p0), (6, I (lenL p0)), (7, I z0)] [] 15)) z0)) = (L13_2 p0 z0).map (Sum.elim (fun z => .inl ((fun z0 : Int => (mkE [(5, LL I p0), (6, I (lenL p0)), (7, I z0)] [] 15)) z)) (fun x => .inr ((Sum.elim (fun (x : (Int × Bool)) => (.exit 0, (mkE [(5, LL I p0), (6, I (lenL p0)), (7, I x.1), (8, B x.2)] [] 15))) (fun (x : Int) => (.ret, (mkE [(2, I x)] [] 15)))) x))) := by
  unfold L13_2
  refine gS 0 ?_
  refine gR 2 (rg Try.f13 2) ?_
  refine se (mkE [(5, LL I p0), (6, I (lenL p0)), (7, I z0), (8, B (ltI z0 (lenL p0)))] [] 15) ?_
  refine pN ?_
  refine pS ?_
  refine gS 3 ?_
  refine gC 8 (ltI z0 (lenL p0)) ?_ ?_
  · refine gK ?_
    refine pN ?_
    refine pS ?_
    refine gS 6 ?_
    refine gB 1 ?_
    refine gS 4 ?_
    refine gR 3 (rg Try.f13 3) ?_
    refine vo 9 (addrE 66 33 1 I .i64 p0 z0) (fun x1 => ?_)
    refine se (mkE [(4, I x1), (5, LL I p0), (6, I (lenL p0)), (7, I z0)] [] 15) ?_
    refine pN ?_
    refine pS ?_
    refine gS 0 ?_
    refine gR 4 (rg Try.f13 4) ?_
    refine se (mkE [(4, I x1), (5, LL I p0), (6, I (lenL p0)), (7, I z0), (12, B (neI x1 0))] [] 15) ?_
    refine pN ?_
    refine pS ?_
    refine gC 12 (neI x1 0) ?_ ?_
    · refine gS 0 ?_
      refine gR 5 (rg Try.f13 5) ?_
      refine se (mkE [(2, I x1)] [] 15) ?_
      refine pN ?_
      refine pS ?_
      refine gE ?_
      exact pL
    · refine gK ?_
      refine pB ?_
      refine pN ?_
      refine pS ?_
      refine gR 6 (rg Try.f13 6) ?_
      refine se (mkE [(5, LL I p0), (6, I (lenL p0)), (7, I (addI .i64 z0 1))] [] 15) ?_
      exact pL
  · refine gX 0 ?_
    exact pL
noncomputable def T13 (p0 : (List Int)) : Option Int := ((iter (L13_2 p0) 0).bind fun y2 => (Sum.elim (fun y2a => (some 0)) (fun y2b => (some y2b)) y2))
theorem B13 (C : Callee) (p0 : (List Int)) : runs Try.prog C (cfg.fn 13) (finFn Try.prog (cfg.fn 13).byval Try.f13) [] (execA Try.prog C (cfg.fn 13) (nr Try.f13 []) (frame0 [LL I p0] 15 false)) = (T13 p0).map I := by
  unfold T13
  refine gS 1 ?_
  refine gR 0 (rg Try.f13 0) ?_
  refine se (mkE [(0, LL I p0)] [] 15) ?_
  refine pN ?_
  refine pS ?_
  refine gS 7 ?_
  refine gS 2 ?_
  refine gR 1 (rg Try.f13 1) ?_
  refine sg 1 (mkE [(5, LL I p0), (0, LL I p0)] [] 15) ?_
  refine eo 6 (I (lenL p0)) (lenE 66 I p0) ?_
  refine se (mkE [(5, LL I p0), (6, I (lenL p0)), (7, I 0)] [] 15) ?_
  refine pN ?_
  refine pS ?_
  refine gB 0 ?_
  refine lo [(5, none), (6, none), (7, none)] [] (L13_2 p0) (fun z0 : Int => (mkE [(5, LL I p0), (6, I (lenL p0)), (7, I z0)] [] 15)) (Sum.elim (fun (x : (Int × Bool)) => (.exit 0, (mkE [(5, LL I p0), (6, I (lenL p0)), (7, I x.1), (8, B x.2)] [] 15))) (fun (x : Int) => (.ret, (mkE [(2, I x)] [] 15)))) 0 (fun z => L13_2_ok C p0 z) ?_
  intro y2
  refine ss y2 (Z := (Sum.elim (fun (x : (Int × Bool)) => (.exit 0, (mkE [(5, LL I p0), (6, I (lenL p0)), (7, I x.1), (8, B x.2)] [] 15))) (fun (x : Int) => (.ret, (mkE [(2, I x)] [] 15))))) (fun y2a => ?_) (fun y2b => ?_)
  · refine pH ?_
    refine pN ?_
    refine pS ?_
    refine gS 0 ?_
    refine gR 7 (rg Try.f13 7) ?_
    refine se (mkE [(2, I 0)] [] 15) ?_
    refine pN ?_
    refine pS ?_
    refine gE ?_
    exact pL
  · exact pL
theorem F13 (m : Nat) (hm : 1 ≤ m) (p0 : (List Int)) : callA Try.prog cfg m 13 [LL I p0] = (T13 p0).map I := by
  obtain ⟨q, rfl⟩ : ∃ q, m = q + 1 := ⟨m - 1, by omega⟩
  exact (callA_body (fn := Try.f13) (c := body_ Try.f13) q _ (by kernel_rfl) (by kernel_rfl) (by kernel_rfl)).trans (B13 _ p0)

noncomputable def T38 (p0 : S29) (p1 : Int) (p2 : Int) : Option Bool := ((T32 p1 p0.f0 (subI .i64 (addI .i64 p0.f0 p0.f2) 1)).bind fun x1 => (bif x1 then ((T32 p2 p0.f1 (subI .i64 (addI .i64 p0.f1 p0.f3) 1)).bind fun x2 => (some x2)) else (some false)))
theorem B38 (C : Callee) (h32 : ∀ (p0 : Int) (p1 : Int) (p2 : Int), C 32 [I p0, I p1, I p2] = (T32 p0 p1 p2).map B) (p0 : S29) (p1 : Int) (p2 : Int) : runs Try.prog C (cfg.fn 38) (finFn Try.prog (cfg.fn 38).byval Try.f38) [] (execA Try.prog C (cfg.fn 38) (nr Try.f38 []) (frame0 [a29 p0, I p1, I p2] 29 false)) = (T38 p0 p1 p2).map B := by
  unfold T38
  refine gS 1 ?_
  refine gR 0 (rg Try.f38 0) ?_
  refine se (mkE [(1, I p1), (2, I p2), (3, .ba 24 0)] [(24, .box [I p0.f0, I p0.f1, I p0.f2, I p0.f3] false)] 29) ?_
  refine pN ?_
  refine pS ?_
  refine gS 0 ?_
  refine gR 1 (rg Try.f38 1) ?_
  refine sg 9 (mkE [(15, I (subI .i64 (addI .i64 p0.f0 p0.f2) 1)), (14, I (addI .i64 p0.f0 p0.f2)), (13, I p0.f2), (12, .ba 24 2), (11, I p0.f0), (10, .ba 24 0), (9, I p0.f0), (8, .ba 24 0), (7, I p1), (1, I p1), (2, I p2), (3, .ba 24 0)] [(24, .box [I p0.f0, I p0.f1, I p0.f2, I p0.f3] false)] 29) ?_
  refine co 16 [] (h32 p1 p0.f0 (subI .i64 (addI .i64 p0.f0 p0.f2) 1)) (fun x1 => ?_)
  refine sg 11 (mkE [(17, B x1), (16, B x1), (15, I (subI .i64 (addI .i64 p0.f0 p0.f2) 1)), (14, I (addI .i64 p0.f0 p0.f2)), (13, I p0.f2), (12, .ba 24 2), (11, I p0.f0), (10, .ba 24 0), (9, I p0.f0), (8, .ba 24 0), (7, I p1), (1, I p1), (2, I p2), (3, .ba 24 0)] [(24, .box [I p0.f0, I p0.f1, I p0.f2, I p0.f3] false)] 29) ?_
  refine sb 17 x1 ?_ ?_
  · refine sg 20 (mkE [(26, I (subI .i64 (addI .i64 p0.f1 p0.f3) 1)), (25, I (addI .i64 p0.f1 p0.f3)), (24, I p0.f3), (23, .ba 24 3), (22, I p0.f1), (21, .ba 24 1), (20, I p0.f1), (19, .ba 24 1), (18, I p2), (17, B true), (17, B x1), (16, B x1), (15, I (subI .i64 (addI .i64 p0.f0 p0.f2) 1)), (14, I (addI .i64 p0.f0 p0.f2)), (13, I p0.f2), (12, .ba 24 2), (11, I p0.f0), (10, .ba 24 0), (9, I p0.f0), (8, .ba 24 0), (7, I p1), (1, I p1), (2, I p2), (3, .ba 24 0)] [(24, .box [I p0.f0, I p0.f1, I p0.f2, I p0.f3] false)] 29) ?_
    refine co 27 [] (h32 p2 p0.f1 (subI .i64 (addI .i64 p0.f1 p0.f3) 1)) (fun x2 => ?_)
    refine se (mkE [(6, B x2)] [] 29) ?_
    refine pN ?_
    refine pS ?_
    refine gE ?_
    exact pL
  · refine se (mkE [(6, B false)] [] 29) ?_
    refine pN ?_
    refine pS ?_
    refine gE ?_
    exact pL
theorem F38 (m : Nat) (hm : 2 ≤ m) (p0 : S29) (p1 : Int) (p2 : Int) : callA Try.prog cfg m 38 [a29 p0, I p1, I p2] = (T38 p0 p1 p2).map B := by
  obtain ⟨q, rfl⟩ : ∃ q, m = q + 1 := ⟨m - 1, by omega⟩
  exact (callA_body (fn := Try.f38) (c := body_ Try.f38) q _ (by kernel_rfl) (by kernel_rfl) (by kernel_rfl)).trans (B38 _ (fun p0 p1 p2 => F32 q (by omega) p0 p1 p2) p0 p1 p2)

noncomputable def L15_3 (p0 : S23) (p1 : Int) (p2 : Int) (z0 : (Int × Int)) : Option ((Int × Int) ⊕ (Int × Int × Bool)) := (bif (ltI z0.2 (lenL p0.f3)) then ((listAt p0.f3 z0.2).bind fun x1 => ((T38 x1.f1 p1 p2).bind fun x2 => (bif x2 then (bif (ltI z0.1 0) then (some (.inl (z0.2, (addI .i64 z0.2 1)))) else ((listAt p0.f3 z0.1).bind fun x3 => (bif (leI x3.f2 x1.f2) then (some (.inl (z0.2, (addI .i64 z0.2 1)))) else (some (.inl (z0.1, (addI .i64 z0.2 1))))))) else (some (.inl (z0.1, (addI .i64 z0.2 1))))))) else (some (.inr (z0.1, z0.2, (ltI z0.2 (lenL p0.f3))))))
theorem L15_3_ok (C : Callee) (h38 : ∀ (p0 : S29) (p1 : Int) (p2 : Int), C 38 [a29 p0, I p1, I p2] = (T38 p0 p1 p2).map B) (p0 : S23) (p1 : Int) (p2 : Int) (z0 : (Int × Int)) : runs Try.prog C (cfg.fn 15) (finLoop ((cfg.fn 15).keep 3) ((cfg.fn 15).al 3)) [] (execA Try.prog C (cfg.fn 15) (nr Try.f15 [false, false, true, false, true, true]) ((fun z0 : (Int × Int) => (mkE [(1, I p1), (2, I p2), (3, .ba 24 0), (8, I z0.1), (12, LL a31 p0.f3), (13, I (lenL p0.f3)), (14, I z0.2)] [(24, .box [S p0.f0, I p0.f1, I p0.f2, LL a31 p0.f3] false)] 49)) z0)) = (L15_3 p0 p1 p2 z0).map (Sum.elim (fun z => .inl ((fun z0 : (Int × Int) => (mkE [(1, I p1), (2, I p2), (3, .ba 24 0), (8, I z0.1), (12, LL a31 p0.f3), (13, I (lenL p0.f3)), (14, I z0.2)] [(24, .box [S p0.f0, I p0.f1, I p0.f2, LL a31 p0.f3] false)] 49)) z)) (fun x => .inr ((fun (x : (Int × Int × Bool)) => (.exit 0, (mkE [(1, I p1), (2, I p2), (3, .ba 24 0), (8, I x.1), (12, LL a31 p0.f3), (13, I (lenL p0.f3)), (14, I x.2.1), (15, B x.2.2)] [(24, .box [S p0.f0, I p0.f1, I p0.f2, LL a31 p0.f3] false)] 49))) x))) := by
  unfold L15_3
  refine gS 0 ?_
  refine gR 3 (rg Try.f15 3) ?_
  refine se (mkE [(1, I p1), (2, I p2), (3, .ba 24 0), (8, I z0.1), (12, LL a31 p0.f3), (13, I (lenL p0.f3)), (14, I z0.2), (15, B (ltI z0.2 (lenL p0.f3)))] [(24, .box [S p0.f0, I p0.f1, I p0.f2, LL a31 p0.f3] false)] 49) ?_
  refine pN ?_
  refine pS ?_
  refine gS 4 ?_
  refine gC 15 (ltI z0.2 (lenL p0.f3)) ?_ ?_
  · refine gK ?_
    refine pN ?_
    refine pS ?_
    refine gS 7 ?_
    refine gB 1 ?_
    refine gS 5 ?_
    refine gR 4 (rg Try.f15 4) ?_
    refine sg 1 (mkE [(16, I z0.2), (1, I p1), (2, I p2), (3, .ba 24 0), (8, I z0.1), (12, LL a31 p0.f3), (13, I (lenL p0.f3)), (14, I z0.2), (15, B (ltI z0.2 (lenL p0.f3)))] [(24, .box [S p0.f0, I p0.f1, I p0.f2, LL a31 p0.f3] false)] 49) ?_
    refine vo 17 (addrE 22 32 6 a31 .i64 p0.f3 z0.2) (fun x1 => ?_)
    refine se (mkE [(1, I p1), (2, I p2), (3, .ba 24 0), (8, I z0.1), (9, I z0.2), (10, .ba 80 0), (12, LL a31 p0.f3), (13, I (lenL p0.f3)), (14, I z0.2)] [(24, .box [S p0.f0, I p0.f1, I p0.f2, LL a31 p0.f3] false), (80, .box [S x1.f0, I x1.f1.f0, I x1.f1.f1, I x1.f1.f2, I x1.f1.f3, I x1.f2] false)] 49) ?_
    refine pN ?_
    refine pS ?_
    refine gS 0 ?_
    refine gD 5 20 (rg Try.f15 5) [0, 1, 2, 3, 4, 5, 6, 7, 8, 9, 10, 11, 12, 13, 14, 15, 16, 17, 18, 19] ?_
    refine dg 4 [(some 19, qe (.ba 80 1)), (some 20, qe (a29 x1.f1)), (some 21, qe (I p1)), (some 22, qe (I p2))] ?_
    refine dc 23 [] (mkE [(22, I p2), (21, I p1), (20, a29 x1.f1), (19, .ba 80 1), (1, I p1), (2, I p2), (3, .ba 24 0), (8, I z0.1), (9, I z0.2), (10, .ba 80 0), (12, LL a31 p0.f3), (13, I (lenL p0.f3)), (14, I z0.2)] [(24, .box [S p0.f0, I p0.f1, I p0.f2, LL a31 p0.f3] false), (80, .box [S x1.f0, I x1.f1.f0, I x1.f1.f1, I x1.f1.f2, I x1.f1.f3, I x1.f2] false)] 49) (h38 x1.f1 p1 p2) (fun x2 => ?_)
    refine dg 6 [(some 19, qe (.ba 80 1)), (some 20, qe (a29 x1.f1)), (some 21, qe (I p1)), (some 22, qe (I p2)), (some 23, qe (B x2)), (some 24, qe (B x2))] ?_
    refine db 5 24 x2 ?_ ?_
    · refine dg 9 [(some 19, qe (.ba 80 1)), (some 20, qe (a29 x1.f1)), (some 21, qe (I p1)), (some 22, qe (I p2)), (some 23, qe (B x2)), (some 24, qe (B true)), (some 25, qe (I z0.1)), (some 26, qe (B (ltI z0.1 0))), (some 27, qe (B (ltI z0.1 0)))] ?_
      refine db 8 27 (ltI z0.1 0) ?_ ?_
      · refine dg 20 [(some 19, qe (.ba 80 1)), (some 20, qe (a29 x1.f1)), (some 21, qe (I p1)), (some 22, qe (I p2)), (some 23, qe (B x2)), (some 24, qe (B true)), (some 25, qe (I z0.1)), (some 26, qe (B (ltI z0.1 0))), (some 27, qe (B true)), (some 28, qe (.und)), (some 29, qe (.und)), (some 30, qe (.und)), (some 31, qe (.und)), (some 32, qe (.und)), (some 33, qe (.und)), (some 34, qe (.und)), (some 35, qe (.und)), (some 36, qe (.und)), (some 37, qe (B true)), (some 38, qe (B true))] ?_
        refine de (mkE [(38, B true), (37, B true), (36, .und), (35, .und), (34, .und), (33, .und), (32, .und), (31, .und), (30, .und), (29, .und), (28, .und), (27, B true), (26, B (ltI z0.1 0)), (25, I z0.1), (24, B true), (23, B x2), (22, I p2), (21, I p1), (20, a29 x1.f1), (19, .ba 80 1), (1, I p1), (2, I p2), (3, .ba 24 0), (8, I z0.1), (9, I z0.2), (10, .ba 80 0), (12, LL a31 p0.f3), (13, I (lenL p0.f3)), (14, I z0.2)] [(24, .box [S p0.f0, I p0.f1, I p0.f2, LL a31 p0.f3] false), (80, .box [S x1.f0, I x1.f1.f0, I x1.f1.f1, I x1.f1.f2, I x1.f1.f3, I x1.f2] false)] 49) ?_
        refine se (mkE [(1, I p1), (2, I p2), (3, .ba 24 0), (8, I z0.1), (9, I z0.2), (12, LL a31 p0.f3), (13, I (lenL p0.f3)), (14, I z0.2), (38, B true)] [(24, .box [S p0.f0, I p0.f1, I p0.f2, LL a31 p0.f3] false)] 49) ?_
        refine pN ?_
        refine pS ?_
        refine gT (.tmp 38) ?_
        refine gR 6 (rg Try.f15 6) ?_
        refine se (mkE [(1, I p1), (2, I p2), (3, .ba 24 0), (8, I z0.2), (12, LL a31 p0.f3), (13, I (lenL p0.f3)), (14, I z0.2)] [(24, .box [S p0.f0, I p0.f1, I p0.f2, LL a31 p0.f3] false)] 49) ?_
        refine pB ?_
        refine pN ?_
        refine pS ?_
        refine gR 7 (rg Try.f15 7) ?_
        refine se (mkE [(1, I p1), (2, I p2), (3, .ba 24 0), (8, I z0.2), (12, LL a31 p0.f3), (13, I (lenL p0.f3)), (14, I (addI .i64 z0.2 1))] [(24, .box [S p0.f0, I p0.f1, I p0.f2, LL a31 p0.f3] false)] 49) ?_
        exact pL
      · refine dg 14 [(some 19, qe (.ba 80 1)), (some 20, qe (a29 x1.f1)), (some 21, qe (I p1)), (some 22, qe (I p2)), (some 23, qe (B x2)), (some 24, qe (B true)), (some 25, qe (I z0.1)), (some 26, qe (B (ltI z0.1 0))), (some 27, qe (B false)), (some 28, qe (.ba 80 5)), (some 29, qe (I x1.f2)), (some 30, qe (.ba 24 3)), (some 31, qe (LL a31 p0.f3)), (some 32, qe (I z0.1))] ?_
        refine dv 33 (mkE [(32, I z0.1), (31, LL a31 p0.f3), (30, .ba 24 3), (27, B false), (26, B (ltI z0.1 0)), (25, I z0.1), (24, B true), (23, B x2), (22, I p2), (21, I p1), (20, a29 x1.f1), (19, .ba 80 1), (1, I p1), (2, I p2), (3, .ba 24 0), (8, I z0.1), (9, I z0.2), (10, .ba 80 0), (12, LL a31 p0.f3), (13, I (lenL p0.f3)), (14, I z0.2)] [(24, .box [S p0.f0, I p0.f1, I p0.f2, LL a31 p0.f3] false), (80, .box [S x1.f0, I x1.f1.f0, I x1.f1.f1, I x1.f1.f2, I x1.f1.f3, I x1.f2] false)] 49) (addrE 22 32 6 a31 .i64 p0.f3 z0.1) (fun x3 => ?_)
        refine dg 20 [(some 19, qe (.ba 80 1)), (some 20, qe (a29 x1.f1)), (some 21, qe (I p1)), (some 22, qe (I p2)), (some 23, qe (B x2)), (some 24, qe (B true)), (some 25, qe (I z0.1)), (some 26, qe (B (ltI z0.1 0))), (some 27, qe (B false)), (some 28, qe (.ba 80 5)), (some 29, qe (I x1.f2)), (some 30, qe (.ba 24 3)), (some 31, qe (LL a31 p0.f3)), (some 32, qe (I z0.1)), (some 33, qe (.ia [S x3.f0, I x3.f1.f0, I x3.f1.f1, I x3.f1.f2, I x3.f1.f3, I x3.f2] 0)), (some 34, qe (.ia [S x3.f0, I x3.f1.f0, I x3.f1.f1, I x3.f1.f2, I x3.f1.f3, I x3.f2] 5)), (some 35, qe (I x3.f2)), (some 36, qe (B (leI x3.f2 x1.f2))), (some 37, qe (B (leI x3.f2 x1.f2))), (some 38, qe (B (leI x3.f2 x1.f2)))] ?_
        refine de (mkE [(38, B (leI x3.f2 x1.f2)), (37, B (leI x3.f2 x1.f2)), (36, B (leI x3.f2 x1.f2)), (35, I x3.f2), (34, .ia [S x3.f0, I x3.f1.f0, I x3.f1.f1, I x3.f1.f2, I x3.f1.f3, I x3.f2] 5), (33, .ia [S x3.f0, I x3.f1.f0, I x3.f1.f1, I x3.f1.f2, I x3.f1.f3, I x3.f2] 0), (32, I z0.1), (31, LL a31 p0.f3), (30, .ba 24 3), (29, I x1.f2), (28, .ba 80 5), (27, B false), (26, B (ltI z0.1 0)), (25, I z0.1), (24, B true), (23, B x2), (22, I p2), (21, I p1), (20, a29 x1.f1), (19, .ba 80 1), (1, I p1), (2, I p2), (3, .ba 24 0), (8, I z0.1), (9, I z0.2), (10, .ba 80 0), (12, LL a31 p0.f3), (13, I (lenL p0.f3)), (14, I z0.2)] [(24, .box [S p0.f0, I p0.f1, I p0.f2, LL a31 p0.f3] false), (80, .box [S x1.f0, I x1.f1.f0, I x1.f1.f1, I x1.f1.f2, I x1.f1.f3, I x1.f2] false)] 49) ?_
        refine se (mkE [(1, I p1), (2, I p2), (3, .ba 24 0), (8, I z0.1), (9, I z0.2), (12, LL a31 p0.f3), (13, I (lenL p0.f3)), (14, I z0.2), (38, B (leI x3.f2 x1.f2))] [(24, .box [S p0.f0, I p0.f1, I p0.f2, LL a31 p0.f3] false)] 49) ?_
        refine pN ?_
        refine pS ?_
        refine gC 38 (leI x3.f2 x1.f2) ?_ ?_
        · refine gR 6 (rg Try.f15 6) ?_
          refine se (mkE [(1, I p1), (2, I p2), (3, .ba 24 0), (8, I z0.2), (12, LL a31 p0.f3), (13, I (lenL p0.f3)), (14, I z0.2)] [(24, .box [S p0.f0, I p0.f1, I p0.f2, LL a31 p0.f3] false)] 49) ?_
          refine pB ?_
          refine pN ?_
          refine pS ?_
          refine gR 7 (rg Try.f15 7) ?_
          refine se (mkE [(1, I p1), (2, I p2), (3, .ba 24 0), (8, I z0.2), (12, LL a31 p0.f3), (13, I (lenL p0.f3)), (14, I (addI .i64 z0.2 1))] [(24, .box [S p0.f0, I p0.f1, I p0.f2, LL a31 p0.f3] false)] 49) ?_
          exact pL
        · refine gK ?_
          refine pB ?_
          refine pN ?_
          refine pS ?_
          refine gR 7 (rg Try.f15 7) ?_
          refine se (mkE [(1, I p1), (2, I p2), (3, .ba 24 0), (8, I z0.1), (12, LL a31 p0.f3), (13, I (lenL p0.f3)), (14, I (addI .i64 z0.2 1))] [(24, .box [S p0.f0, I p0.f1, I p0.f2, LL a31 p0.f3] false)] 49) ?_
          exact pL
    · refine dg 20 [(some 19, qe (.ba 80 1)), (some 20, qe (a29 x1.f1)), (some 21, qe (I p1)), (some 22, qe (I p2)), (some 23, qe (B x2)), (some 24, qe (B false)), (some 25, qe (.und)), (some 26, qe (.und)), (some 27, qe (.und)), (some 28, qe (.und)), (some 29, qe (.und)), (some 30, qe (.und)), (some 31, qe (.und)), (some 32, qe (.und)), (some 33, qe (.und)), (some 34, qe (.und)), (some 35, qe (.und)), (some 36, qe (.und)), (some 37, qe (.und)), (some 38, qe (B false))] ?_
      refine de (mkE [(38, B false), (37, .und), (36, .und), (35, .und), (34, .und), (33, .und), (32, .und), (31, .und), (30, .und), (29, .und), (28, .und), (27, .und), (26, .und), (25, .und), (24, B false), (23, B x2), (22, I p2), (21, I p1), (20, a29 x1.f1), (19, .ba 80 1), (1, I p1), (2, I p2), (3, .ba 24 0), (8, I z0.1), (9, I z0.2), (10, .ba 80 0), (12, LL a31 p0.f3), (13, I (lenL p0.f3)), (14, I z0.2)] [(24, .box [S p0.f0, I p0.f1, I p0.f2, LL a31 p0.f3] false), (80, .box [S x1.f0, I x1.f1.f0, I x1.f1.f1, I x1.f1.f2, I x1.f1.f3, I x1.f2] false)] 49) ?_
      refine se (mkE [(1, I p1), (2, I p2), (3, .ba 24 0), (8, I z0.1), (9, I z0.2), (12, LL a31 p0.f3), (13, I (lenL p0.f3)), (14, I z0.2), (38, B false)] [(24, .box [S p0.f0, I p0.f1, I p0.f2, LL a31 p0.f3] false)] 49) ?_
      refine pN ?_
      refine pS ?_
      refine gF (.tmp 38) ?_
      refine gK ?_
      refine pB ?_
      refine pN ?_
      refine pS ?_
      refine gR 7 (rg Try.f15 7) ?_
      refine se (mkE [(1, I p1), (2, I p2), (3, .ba 24 0), (8, I z0.1), (12, LL a31 p0.f3), (13, I (lenL p0.f3)), (14, I (addI .i64 z0.2 1))] [(24, .box [S p0.f0, I p0.f1, I p0.f2, LL a31 p0.f3] false)] 49) ?_
      exact pL
  · refine gX 0 ?_
    exact pL
noncomputable def T15 (p0 : S23) (p1 : Int) (p2 : Int) : Option (ByteArray × Bool) := ((iter (L15_3 p0 p1 p2) ((-1), 0)).bind fun y4 => (bif (ltI y4.1 0) then (some ((ByteArray.mk #[]), false)) else ((listAt p0.f3 y4.1).bind fun x5 => (some (x5.f0, true)))))
theorem B15 (C : Callee) (h38 : ∀ (p0 : S29) (p1 : Int) (p2 : Int), C 38 [a29 p0, I p1, I p2] = (T38 p0 p1 p2).map B) (p0 : S23) (p1 : Int) (p2 : Int) : runs Try.prog C (cfg.fn 15) (finFn Try.prog (cfg.fn 15).byval Try.f15) [] (execA Try.prog C (cfg.fn 15) (nr Try.f15 []) (frame0 [a23 p0, I p1, I p2] 49 false)) = (T15 p0 p1 p2).map (fun r => AV.tup [S r.1, B r.2]) := by
  unfold T15
  refine gS 1 ?_
  refine gR 0 (rg Try.f15 0) ?_
  refine se (mkE [(1, I p1), (2, I p2), (3, .ba 24 0)] [(24, .box [S p0.f0, I p0.f1, I p0.f2, LL a31 p0.f3] false)] 49) ?_
  refine pN ?_
  refine pS ?_
  refine gS 2 ?_
  refine gR 1 (rg Try.f15 1) ?_
  refine se (mkE [(1, I p1), (2, I p2), (3, .ba 24 0), (8, I (-1))] [(24, .box [S p0.f0, I p0.f1, I p0.f2, LL a31 p0.f3] false)] 49) ?_
  refine pN ?_
  refine pS ?_
  refine gS 8 ?_
  refine gS 3 ?_
  refine gR 2 (rg Try.f15 2) ?_
  refine sg 2 (mkE [(12, LL a31 p0.f3), (11, .ba 24 3), (1, I p1), (2, I p2), (3, .ba 24 0), (8, I (-1))] [(24, .box [S p0.f0, I p0.f1, I p0.f2, LL a31 p0.f3] false)] 49) ?_
  refine eo 13 (I (lenL p0.f3)) (lenE 22 a31 p0.f3) ?_
  refine se (mkE [(1, I p1), (2, I p2), (3, .ba 24 0), (8, I (-1)), (12, LL a31 p0.f3), (13, I (lenL p0.f3)), (14, I 0)] [(24, .box [S p0.f0, I p0.f1, I p0.f2, LL a31 p0.f3] false)] 49) ?_
  refine pN ?_
  refine pS ?_
  refine gB 0 ?_
  refine lo [(1, none), (2, none), (3, none), (8, none), (12, none), (13, none), (14, none)] [] (L15_3 p0 p1 p2) (fun z0 : (Int × Int) => (mkE [(1, I p1), (2, I p2), (3, .ba 24 0), (8, I z0.1), (12, LL a31 p0.f3), (13, I (lenL p0.f3)), (14, I z0.2)] [(24, .box [S p0.f0, I p0.f1, I p0.f2, LL a31 p0.f3] false)] 49)) (fun (x : (Int × Int × Bool)) => (.exit 0, (mkE [(1, I p1), (2, I p2), (3, .ba 24 0), (8, I x.1), (12, LL a31 p0.f3), (13, I (lenL p0.f3)), (14, I x.2.1), (15, B x.2.2)] [(24, .box [S p0.f0, I p0.f1, I p0.f2, LL a31 p0.f3] false)] 49))) ((-1), 0) (fun z => L15_3_ok C h38 p0 p1 p2 z) ?_
  intro y4
  refine pH ?_
  refine pN ?_
  refine pS ?_
  refine gS 10 ?_
  refine gS 0 ?_
  refine gR 8 (rg Try.f15 8) ?_
  refine se (mkE [(3, .ba 24 0), (8, I y4.1), (42, B (ltI y4.1 0))] [(24, .box [S p0.f0, I p0.f1, I p0.f2, LL a31 p0.f3] false)] 49) ?_
  refine pN ?_
  refine pS ?_
  refine gC 42 (ltI y4.1 0) ?_ ?_
  · refine gS 0 ?_
    refine gR 9 (rg Try.f15 9) ?_
    refine se (mkE [(6, S (ByteArray.mk #[])), (7, B false)] [] 49) ?_
    refine pN ?_
    refine pS ?_
    refine gE ?_
    exact pL
  · refine gK ?_
    refine pN ?_
    refine pS ?_
    refine gS 0 ?_
    refine gR 10 (rg Try.f15 10) ?_
    refine sg 3 (mkE [(45, I y4.1), (44, LL a31 p0.f3), (43, .ba 24 3), (3, .ba 24 0), (8, I y4.1), (42, B (ltI y4.1 0))] [(24, .box [S p0.f0, I p0.f1, I p0.f2, LL a31 p0.f3] false)] 49) ?_
    refine vo 46 (addrE 22 32 6 a31 .i64 p0.f3 y4.1) (fun x5 => ?_)
    refine se (mkE [(6, S x5.f0), (7, B true)] [] 49) ?_
    refine pN ?_
    refine pS ?_
    refine gE ?_
    exact pL
theorem F15 (m : Nat) (hm : 3 ≤ m) (p0 : S23) (p1 : Int) (p2 : Int) : callA Try.prog cfg m 15 [a23 p0, I p1, I p2] = (T15 p0 p1 p2).map (fun r => AV.tup [S r.1, B r.2]) := by
  obtain ⟨q, rfl⟩ : ∃ q, m = q + 1 := ⟨m - 1, by omega⟩
  exact (callA_body (fn := Try.f15) (c := body_ Try.f15) q _ (by kernel_rfl) (by kernel_rfl) (by kernel_rfl)).trans (B15 _ (fun p0 p1 p2 => F38 q (by omega) p0 p1 p2) p0 p1 p2)

noncomputable def L47_4 (p0 : (List S29)) (z0 : Int) : Option (Int ⊕ ((Int × Bool) ⊕ Int)) := (bif (ltI z0 (lenL p0)) then ((listAt p0 z0).bind fun x1 => ((T35 x1).bind fun x2 => (bif (neI x2 0) then (some (.inr (.inr x2))) else (some (.inl (addI .i64 z0 1)))))) else (some (.inr (.inl (z0, (ltI z0 (lenL p0)))))))
theorem L47_4_ok (C : Callee) (h35 : ∀ (p0 : S29), C 35 [a29 p0] = (T35 p0).map I) (p0 : (List S29)) (z0 : Int) : runs Try.prog C (cfg.fn 47) (finLoop ((cfg.fn 47).keep 4) ((cfg.fn 47).al 4)) [] (execA Try.prog C (cfg.fn 47) (nr Try.f47 [false, false, true, false, true, true]) ((fun z0 : Int => (mkE [(9, LL a29 p0), (10, I (lenL p0)), (11, I z0)] [] 21)) z0)) = (L47_4 p0 z0).map (Sum.elim (fun z => .inl ((fun z0 : Int => (mkE [(9, LL a29 p0), (10, I (lenL p0)), (11, I z0)] [] 21)) z)) (fun x => .inr ((Sum.elim (fun (x : (Int × Bool)) => (.exit 0, (mkE [(9, LL a29 p0), (10, I (lenL p0)), (11, I x.1), (12, B x.2)] [] 21))) (fun (x : Int) => (.ret, (mkE [(2, I x)] [] 21)))) x))) := by
  unfold L47_4
  refine gS 0 ?_
  refine gR 4 (rg Try.f47 4) ?_
  refine se (mkE [(9, LL a29 p0), (10, I (lenL p0)), (11, I z0), (12, B (ltI z0 (lenL p0)))] [] 21) ?_
  refine pN ?_
  refine pS ?_
  refine gS 5 ?_
  refine gC 12 (ltI z0 (lenL p0)) ?_ ?_
  · refine gK ?_
    refine pN ?_
    refine pS ?_
    refine gS 9 ?_
    refine gB 1 ?_
    refine gS 6 ?_
    refine gR 5 (rg Try.f47 5) ?_
    refine vo 13 (addrE 59 30 4 a29 .i64 p0 z0) (fun x1 => ?_)
    refine se (mkE [(4, .ba 32 0), (9, LL a29 p0), (10, I (lenL p0)), (11, I z0)] [(32, .box [I x1.f0, I x1.f1, I x1.f2, I x1.f3] false)] 21) ?_
    refine pN ?_
    refine pS ?_
    refine gS 7 ?_
    refine gR 6 (rg Try.f47 6) ?_
    refine sg 1 (mkE [(15, a29 x1), (4, .ba 32 0), (9, LL a29 p0), (10, I (lenL p0)), (11, I z0)] [(32, .box [I x1.f0, I x1.f1, I x1.f2, I x1.f3] false)] 21) ?_
    refine co 16 [] (h35 x1) (fun x2 => ?_)
    refine se (mkE [(5, I x2), (9, LL a29 p0), (10, I (lenL p0)), (11, I z0)] [] 21) ?_
    refine pN ?_
    refine pS ?_
    refine gS 0 ?_
    refine gR 7 (rg Try.f47 7) ?_
    refine se (mkE [(5, I x2), (9, LL a29 p0), (10, I (lenL p0)), (11, I z0), (18, B (neI x2 0))] [] 21) ?_
    refine pN ?_
    refine pS ?_
    refine gC 18 (neI x2 0) ?_ ?_
    · refine gS 0 ?_
      refine gR 8 (rg Try.f47 8) ?_
      refine se (mkE [(2, I x2)] [] 21) ?_
      refine pN ?_
      refine pS ?_
      refine gE ?_
      exact pL
    · refine gK ?_
      refine pB ?_
      refine pN ?_
      refine pS ?_
      refine gR 9 (rg Try.f47 9) ?_
      refine se (mkE [(9, LL a29 p0), (10, I (lenL p0)), (11, I (addI .i64 z0 1))] [] 21) ?_
      exact pL
  · refine gX 0 ?_
    exact pL
noncomputable def T47 (p0 : (List S29)) : Option Int := (bif (ltI 2000 (lenL p0)) then (some 2) else ((iter (L47_4 p0) 0).bind fun y3 => (Sum.elim (fun y3a => (some 0)) (fun y3b => (some y3b)) y3)))
theorem B47 (C : Callee) (h35 : ∀ (p0 : S29), C 35 [a29 p0] = (T35 p0).map I) (p0 : (List S29)) : runs Try.prog C (cfg.fn 47) (finFn Try.prog (cfg.fn 47).byval Try.f47) [] (execA Try.prog C (cfg.fn 47) (nr Try.f47 []) (frame0 [LL a29 p0] 21 false)) = (T47 p0).map I := by
  unfold T47
  refine gS 1 ?_
  refine gR 0 (rg Try.f47 0) ?_
  refine se (mkE [(0, LL a29 p0)] [] 21) ?_
  refine pN ?_
  refine pS ?_
  refine gS 3 ?_
  refine gS 0 ?_
  refine gR 1 (rg Try.f47 1) ?_
  refine sg 1 (mkE [(6, LL a29 p0), (0, LL a29 p0)] [] 21) ?_
  refine eo 7 (I (lenL p0)) (lenE 59 a29 p0) ?_
  refine se (mkE [(0, LL a29 p0), (8, B (ltI 2000 (lenL p0)))] [] 21) ?_
  refine pN ?_
  refine pS ?_
  refine gC 8 (ltI 2000 (lenL p0)) ?_ ?_
  · refine gS 0 ?_
    refine gR 2 (rg Try.f47 2) ?_
    refine se (mkE [(2, I 2)] [] 21) ?_
    refine pN ?_
    refine pS ?_
    refine gE ?_
    exact pL
  · refine gK ?_
    refine pN ?_
    refine pS ?_
    refine gS 10 ?_
    refine gS 4 ?_
    refine gR 3 (rg Try.f47 3) ?_
    refine sg 1 (mkE [(9, LL a29 p0), (0, LL a29 p0), (8, B (ltI 2000 (lenL p0)))] [] 21) ?_
    refine eo 10 (I (lenL p0)) (lenE 59 a29 p0) ?_
    refine se (mkE [(9, LL a29 p0), (10, I (lenL p0)), (11, I 0)] [] 21) ?_
    refine pN ?_
    refine pS ?_
    refine gB 0 ?_
    refine lo [(9, none), (10, none), (11, none)] [] (L47_4 p0) (fun z0 : Int => (mkE [(9, LL a29 p0), (10, I (lenL p0)), (11, I z0)] [] 21)) (Sum.elim (fun (x : (Int × Bool)) => (.exit 0, (mkE [(9, LL a29 p0), (10, I (lenL p0)), (11, I x.1), (12, B x.2)] [] 21))) (fun (x : Int) => (.ret, (mkE [(2, I x)] [] 21)))) 0 (fun z => L47_4_ok C h35 p0 z) ?_
    intro y3
    refine ss y3 (Z := (Sum.elim (fun (x : (Int × Bool)) => (.exit 0, (mkE [(9, LL a29 p0), (10, I (lenL p0)), (11, I x.1), (12, B x.2)] [] 21))) (fun (x : Int) => (.ret, (mkE [(2, I x)] [] 21))))) (fun y3a => ?_) (fun y3b => ?_)
    · refine pH ?_
      refine pN ?_
      refine pS ?_
      refine gS 0 ?_
      refine gR 10 (rg Try.f47 10) ?_
      refine se (mkE [(2, I 0)] [] 21) ?_
      refine pN ?_
      refine pS ?_
      refine gE ?_
      exact pL
    · exact pL
theorem F47 (m : Nat) (hm : 3 ≤ m) (p0 : (List S29)) : callA Try.prog cfg m 47 [LL a29 p0] = (T47 p0).map I := by
  obtain ⟨q, rfl⟩ : ∃ q, m = q + 1 := ⟨m - 1, by omega⟩
  exact (callA_body (fn := Try.f47) (c := body_ Try.f47) q _ (by kernel_rfl) (by kernel_rfl) (by kernel_rfl)).trans (B47 _ (fun p0 => F35 q (by omega) p0) p0)

noncomputable def L48_3 (p0 : (List S29)) (z0 : (Int × Int)) : Option ((Int × Int) ⊕ (Int × Int × Bool)) := (bif (ltI z0.2 (lenL p0)) then ((listAt p0 z0.2).bind fun x1 => (some (.inl ((addI .i64 z0.1 (mulI .i64 x1.f2 x1.f3)), (addI .i64 z0.2 1))))) else (some (.inr (z0.1, z0.2, (ltI z0.2 (lenL p0))))))
theorem L48_3_ok (C : Callee) (p0 : (List S29)) (z0 : (Int × Int)) : runs Try.prog C (cfg.fn 48) (finLoop ((cfg.fn 48).keep 3) ((cfg.fn 48).al 3)) [] (execA Try.prog C (cfg.fn 48) (nr Try.f48 [false, false, true, false, true, true]) ((fun z0 : (Int × Int) => (mkE [(3, I z0.1), (6, LL a29 p0), (7, I (lenL p0)), (8, I z0.2)] [] 21)) z0)) = (L48_3 p0 z0).map (Sum.elim (fun z => .inl ((fun z0 : (Int × Int) => (mkE [(3, I z0.1), (6, LL a29 p0), (7, I (lenL p0)), (8, I z0.2)] [] 21)) z)) (fun x => .inr ((fun (x : (Int × Int × Bool)) => (.exit 0, (mkE [(3, I x.1), (6, LL a29 p0), (7, I (lenL p0)), (8, I x.2.1), (9, B x.2.2)] [] 21))) x))) := by
  unfold L48_3
  refine gS 0 ?_
  refine gR 3 (rg Try.f48 3) ?_
  refine se (mkE [(3, I z0.1), (6, LL a29 p0), (7, I (lenL p0)), (8, I z0.2), (9, B (ltI z0.2 (lenL p0)))] [] 21) ?_
  refine pN ?_
  refine pS ?_
  refine gS 4 ?_
  refine gC 9 (ltI z0.2 (lenL p0)) ?_ ?_
  · refine gK ?_
    refine pN ?_
    refine pS ?_
    refine gS 6 ?_
    refine gB 1 ?_
    refine gS 5 ?_
    refine gR 4 (rg Try.f48 4) ?_
    refine vo 10 (addrE 59 30 4 a29 .i64 p0 z0.2) (fun x1 => ?_)
    refine se (mkE [(3, I z0.1), (5, .ba 40 0), (6, LL a29 p0), (7, I (lenL p0)), (8, I z0.2)] [(40, .box [I x1.f0, I x1.f1, I x1.f2, I x1.f3] false)] 21) ?_
    refine pN ?_
    refine pS ?_
    refine gR 5 (rg Try.f48 5) ?_
    refine se (mkE [(3, I (addI .i64 z0.1 (mulI .i64 x1.f2 x1.f3))), (6, LL a29 p0), (7, I (lenL p0)), (8, I z0.2)] [] 21) ?_
    refine pB ?_
    refine pN ?_
    refine pS ?_
    refine gR 6 (rg Try.f48 6) ?_
    refine se (mkE [(3, I (addI .i64 z0.1 (mulI .i64 x1.f2 x1.f3))), (6, LL a29 p0), (7, I (lenL p0)), (8, I (addI .i64 z0.2 1))] [] 21) ?_
    exact pL
  · refine gX 0 ?_
    exact pL
noncomputable def T48 (p0 : (List S29)) : Option Int := ((iter (L48_3 p0) (0, 0)).bind fun y2 => (some y2.1))
theorem B48 (C : Callee) (p0 : (List S29)) : runs Try.prog C (cfg.fn 48) (finFn Try.prog (cfg.fn 48).byval Try.f48) [] (execA Try.prog C (cfg.fn 48) (nr Try.f48 []) (frame0 [LL a29 p0] 21 false)) = (T48 p0).map I := by
  unfold T48
  refine gS 1 ?_
  refine gR 0 (rg Try.f48 0) ?_
  refine se (mkE [(0, LL a29 p0)] [] 21) ?_
  refine pN ?_
  refine pS ?_
  refine gS 2 ?_
  refine gR 1 (rg Try.f48 1) ?_
  refine se (mkE [(0, LL a29 p0), (3, I 0)] [] 21) ?_
  refine pN ?_
  refine pS ?_
  refine gS 7 ?_
  refine gS 3 ?_
  refine gR 2 (rg Try.f48 2) ?_
  refine sg 1 (mkE [(6, LL a29 p0), (0, LL a29 p0), (3, I 0)] [] 21) ?_
  refine eo 7 (I (lenL p0)) (lenE 59 a29 p0) ?_
  refine se (mkE [(3, I 0), (6, LL a29 p0), (7, I (lenL p0)), (8, I 0)] [] 21) ?_
  refine pN ?_
  refine pS ?_
  refine gB 0 ?_
  refine lo [(3, none), (6, none), (7, none), (8, none)] [] (L48_3 p0) (fun z0 : (Int × Int) => (mkE [(3, I z0.1), (6, LL a29 p0), (7, I (lenL p0)), (8, I z0.2)] [] 21)) (fun (x : (Int × Int × Bool)) => (.exit 0, (mkE [(3, I x.1), (6, LL a29 p0), (7, I (lenL p0)), (8, I x.2.1), (9, B x.2.2)] [] 21))) (0, 0) (fun z => L48_3_ok C p0 z) ?_
  intro y2
  refine pH ?_
  refine pN ?_
  refine pS ?_
  refine gS 0 ?_
  refine gR 7 (rg Try.f48 7) ?_
  refine se (mkE [(2, I y2.1)] [] 21) ?_
  refine pN ?_
  refine pS ?_
  refine gE ?_
  exact pL
theorem F48 (m : Nat) (hm : 1 ≤ m) (p0 : (List S29)) : callA Try.prog cfg m 48 [LL a29 p0] = (T48 p0).map I := by
  obtain ⟨q, rfl⟩ : ∃ q, m = q + 1 := ⟨m - 1, by omega⟩
  exact (callA_body (fn := Try.f48) (c := body_ Try.f48) q _ (by kernel_rfl) (by kernel_rfl) (by kernel_rfl)).trans (B48 _ p0)

noncomputable def T39 (p0 : (List S29)) : Option (Int × Int) := ((T47 p0).bind fun x1 => (bif (neI x1 0) then (some (0, x1)) else ((T44 p0 []).bind fun x2 => ((T48 x2).bind fun x3 => (some (x3, 0))))))
theorem B39 (C : Callee) (h44 : ∀ (p0 : (List S29)) (p1 : (List S29)), C 44 [LL a29 p0, LL a29 p1] = (T44 p0 p1).map (fun l => AV.fr 30 4 (List.map a29 l))) (h47 : ∀ (p0 : (List S29)), C 47 [LL a29 p0] = (T47 p0).map I) (h48 : ∀ (p0 : (List S29)), C 48 [LL a29 p0] = (T48 p0).map I) (p0 : (List S29)) : runs Try.prog C (cfg.fn 39) (finFn Try.prog (cfg.fn 39).byval Try.f39) [] (execA Try.prog C (cfg.fn 39) (nr Try.f39 []) (frame0 [LL a29 p0] 13 false)) = (T39 p0).map (fun r => AV.tup [I r.1, I r.2]) := by
  unfold T39
  refine gS 1 ?_
  refine gR 0 (rg Try.f39 0) ?_
  refine se (mkE [(0, LL a29 p0)] [] 13) ?_
  refine pN ?_
  refine pS ?_
  refine gS 4 ?_
  refine gS 2 ?_
  refine gR 1 (rg Try.f39 1) ?_
  refine sg 1 (mkE [(5, LL a29 p0), (0, LL a29 p0)] [] 13) ?_
  refine co 6 [] (h47 p0) (fun x1 => ?_)
  refine se (mkE [(0, LL a29 p0), (4, I x1)] [] 13) ?_
  refine pN ?_
  refine pS ?_
  refine gS 0 ?_
  refine gR 2 (rg Try.f39 2) ?_
  refine se (mkE [(0, LL a29 p0), (4, I x1), (8, B (neI x1 0))] [] 13) ?_
  refine pN ?_
  refine pS ?_
  refine gC 8 (neI x1 0) ?_ ?_
  · refine gS 0 ?_
    refine gR 3 (rg Try.f39 3) ?_
    refine se (mkE [(2, I 0), (3, I x1)] [] 13) ?_
    refine pN ?_
    refine pS ?_
    refine gE ?_
    exact pL
  · refine gK ?_
    refine pN ?_
    refine pS ?_
    refine gS 0 ?_
    refine gR 4 (rg Try.f39 4) ?_
    refine sg 1 (mkE [(10, LL a29 p0), (0, LL a29 p0), (4, I x1), (8, B (neI x1 0))] [] 13) ?_
    refine co 11 [] (h44 p0 []) (fun x2 => ?_)
    refine co 12 [88] (h48 x2) (fun x3 => ?_)
    refine se (mkE [(2, I x3), (3, I 0)] [] 13) ?_
    refine pN ?_
    refine pS ?_
    refine gE ?_
    exact pL
theorem F39 (m : Nat) (hm : 5 ≤ m) (p0 : (List S29)) : callA Try.prog cfg m 39 [LL a29 p0] = (T39 p0).map (fun r => AV.tup [I r.1, I r.2]) := by
  obtain ⟨q, rfl⟩ : ∃ q, m = q + 1 := ⟨m - 1, by omega⟩
  exact (callA_body (fn := Try.f39) (c := body_ Try.f39) q _ (by kernel_rfl) (by kernel_rfl) (by kernel_rfl)).trans (B39 _ (fun p0 p1 => F44 q (by omega) p0 p1) (fun p0 => F47 q (by omega) p0) (fun p0 => F48 q (by omega) p0) p0)

noncomputable def T16 : Option Bool := ((T39 ([(S29.mk 0 0 2 2), (S29.mk 1 1 2 2)] : List S29)).bind fun x1 => (bif (eqI x1.2 0) then (some (eqI x1.1 7)) else (some false)))
theorem B16 (C : Callee) (h39 : ∀ (p0 : (List S29)), C 39 [LL a29 p0] = (T39 p0).map (fun r => AV.tup [I r.1, I r.2])) : runs Try.prog C (cfg.fn 16) (finFn Try.prog (cfg.fn 16).byval Try.f16) [] (execA Try.prog C (cfg.fn 16) (nr Try.f16 []) (frame0 [] 16 false)) = (T16).map B := by
  unfold T16
  refine gS 1 ?_
  refine gR 0 (rg Try.f16 0) ?_
  refine se (mkE [] [] 16) ?_
  refine pN ?_
  refine pS ?_
  refine gS 2 ?_
  refine gR 1 (rg Try.f16 1) ?_
  refine sg 3 (mkE [(6, .own 48 0), (5, .agg [I 1, I 1, I 2, I 2]), (4, .agg [I 0, I 0, I 2, I 2])] [(48, RR 30 4 a29 ([(S29.mk 0 0 2 2), (S29.mk 1 1 2 2)] : List S29) 0 false)] 16) ?_
  refine co 7 [48] (h39 ([(S29.mk 0 0 2 2), (S29.mk 1 1 2 2)] : List S29)) (fun x1 => ?_)
  refine se (mkE [(1, I x1.1), (2, I x1.2)] [] 16) ?_
  refine pN ?_
  refine pS ?_
  refine gS 0 ?_
  refine gR 2 (rg Try.f16 2) ?_
  refine sg 3 (mkE [(12, B (eqI x1.2 0)), (11, B (eqI x1.2 0)), (10, I x1.2), (1, I x1.1), (2, I x1.2)] [] 16) ?_
  refine sb 12 (eqI x1.2 0) ?_ ?_
  · refine se (mkE [(0, B (eqI x1.1 7))] [] 16) ?_
    refine pN ?_
    refine pS ?_
    refine gE ?_
    exact pL
  · refine se (mkE [(0, B false)] [] 16) ?_
    refine pN ?_
    refine pS ?_
    refine gE ?_
    exact pL
theorem F16 (m : Nat) (hm : 6 ≤ m) : callA Try.prog cfg m 16 [] = (T16).map B := by
  obtain ⟨q, rfl⟩ : ∃ q, m = q + 1 := ⟨m - 1, by omega⟩
  exact (callA_body (fn := Try.f16) (c := body_ Try.f16) q _ (by kernel_rfl) (by kernel_rfl) (by kernel_rfl)).trans (B16 _ (fun p0 => F39 q (by omega) p0))

noncomputable def T50 (p0 : S29) : Option (Int × Int) := (some (p0.f0, (addI .i64 p0.f0 p0.f2)))
theorem B50 (C : Callee) (p0 : S29) : runs Try.prog C (cfg.fn 50) (finFn Try.prog (cfg.fn 50).byval Try.f50) [] (execA Try.prog C (cfg.fn 50) (nr Try.f50 []) (frame0 [a29 p0] 11 false)) = (T50 p0).map (fun r => AV.tup [I r.1, I r.2]) := by
  unfold T50
  refine gS 1 ?_
  refine gR 0 (rg Try.f50 0) ?_
  refine se (mkE [(1, .ba 8 0)] [(8, .box [I p0.f0, I p0.f1, I p0.f2, I p0.f3] false)] 11) ?_
  refine pN ?_
  refine pS ?_
  refine gS 0 ?_
  refine dq 1 (rg Try.f50 1) (mkE [(2, I p0.f0), (3, I (addI .i64 p0.f0 p0.f2))] [] 11) ?_
  refine pN ?_
  refine pS ?_
  refine gE ?_
  exact pL
theorem F50 (m : Nat) (hm : 1 ≤ m) (p0 : S29) : callA Try.prog cfg m 50 [a29 p0] = (T50 p0).map (fun r => AV.tup [I r.1, I r.2]) := by
  obtain ⟨q, rfl⟩ : ∃ q, m = q + 1 := ⟨m - 1, by omega⟩
  exact (callA_body (fn := Try.f50) (c := body_ Try.f50) q _ (by kernel_rfl) (by kernel_rfl) (by kernel_rfl)).trans (B50 _ p0)

noncomputable def L49_3 (p0 : (List S29)) (z0 : ((List Int) × Int)) : Option (((List Int) × Int) ⊕ (Int × Bool × (List Int))) := (bif (ltI z0.2 (lenL p0)) then ((listAt p0 z0.2).bind fun x1 => ((T50 x1).bind fun x2 => ((appO 8 z0.1 ([x2.1, x2.2] : List Int)).bind fun x3 => (some (.inl (x3, (addI .i64 z0.2 1))))))) else (some (.inr (z0.2, (ltI z0.2 (lenL p0)), z0.1))))
theorem L49_3_ok (C : Callee) (h50 : ∀ (p0 : S29), C 50 [a29 p0] = (T50 p0).map (fun r => AV.tup [I r.1, I r.2])) (p0 : (List S29)) (z0 : ((List Int) × Int)) : runs Try.prog C (cfg.fn 49) (finLoop ((cfg.fn 49).keep 3) ((cfg.fn 49).al 3)) [] (execA Try.prog C (cfg.fn 49) (nr Try.f49 [false, false, true, false, true, true]) ((fun z0 : ((List Int) × Int) => (mkE [(1, .fn 50 []), (5, .own 40 0), (10, LL a29 p0), (11, I (lenL p0)), (12, I z0.2)] [(40, RR 3 1 I z0.1 0 false)] 32)) z0)) = (L49_3 p0 z0).map (Sum.elim (fun z => .inl ((fun z0 : ((List Int) × Int) => (mkE [(1, .fn 50 []), (5, .own 40 0), (10, LL a29 p0), (11, I (lenL p0)), (12, I z0.2)] [(40, RR 3 1 I z0.1 0 false)] 32)) z)) (fun x => .inr ((fun (x : (Int × Bool × (List Int))) => (.exit 0, (mkE [(1, .fn 50 []), (5, .own 40 0), (10, LL a29 p0), (11, I (lenL p0)), (12, I x.1), (13, B x.2.1)] [(40, RR 3 1 I x.2.2 0 false)] 32))) x))) := by
  unfold L49_3
  refine gS 0 ?_
  refine gR 3 (rg Try.f49 3) ?_
  refine se (mkE [(1, .fn 50 []), (5, .own 40 0), (10, LL a29 p0), (11, I (lenL p0)), (12, I z0.2), (13, B (ltI z0.2 (lenL p0)))] [(40, RR 3 1 I z0.1 0 false)] 32) ?_
  refine pN ?_
  refine pS ?_
  refine gS 4 ?_
  refine gC 13 (ltI z0.2 (lenL p0)) ?_ ?_
  · refine gK ?_
    refine pN ?_
    refine pS ?_
    refine gS 7 ?_
    refine gB 1 ?_
    refine gS 5 ?_
    refine gR 4 (rg Try.f49 4) ?_
    refine vo 14 (addrE 59 30 4 a29 .i64 p0 z0.2) (fun x1 => ?_)
    refine se (mkE [(1, .fn 50 []), (5, .own 40 0), (7, .ba 56 0), (10, LL a29 p0), (11, I (lenL p0)), (12, I z0.2)] [(40, RR 3 1 I z0.1 0 false), (56, .box [I x1.f0, I x1.f1, I x1.f2, I x1.f3] false)] 32) ?_
    refine pN ?_
    refine pS ?_
    refine gS 6 ?_
    refine gR 5 (rg Try.f49 5) ?_
    refine sg 2 (mkE [(18, a29 x1), (17, .fn 50 []), (1, .fn 50 []), (5, .own 40 0), (7, .ba 56 0), (10, LL a29 p0), (11, I (lenL p0)), (12, I z0.2)] [(40, RR 3 1 I z0.1 0 false), (56, .box [I x1.f0, I x1.f1, I x1.f2, I x1.f3] false)] 32) ?_
    refine co 19 [] (h50 x1) (fun x2 => ?_)
    refine se (mkE [(1, .fn 50 []), (5, .own 40 0), (8, I x2.1), (9, I x2.2), (10, LL a29 p0), (11, I (lenL p0)), (12, I z0.2)] [(40, RR 3 1 I z0.1 0 false)] 32) ?_
    refine pN ?_
    refine pS ?_
    refine gR 6 (rg Try.f49 6) ?_
    refine sg 4 (mkE [(25, .own 200 0), (24, I x2.2), (23, I x2.1), (22, .own 40 0), (1, .fn 50 []), (5, .own 40 0), (8, I x2.1), (9, I x2.2), (10, LL a29 p0), (11, I (lenL p0)), (12, I z0.2)] [(200, RR 3 1 I ([x2.1, x2.2] : List Int) 0 false), (40, RR 3 1 I z0.1 0 false)] 32) ?_
    refine mo (some 26) (apO 75 3 1 8 40 I 0 [200] (y := .own 200 0) (l2 := ([x2.1, x2.2] : List Int))) (fun x3 => ?_)
    refine se (mkE [(1, .fn 50 []), (5, .own 40 1), (10, LL a29 p0), (11, I (lenL p0)), (12, I z0.2)] [(40, RR 3 1 I x3 1 false)] 32) ?_
    refine pB ?_
    refine pN ?_
    refine pS ?_
    refine gR 7 (rg Try.f49 7) ?_
    refine se (mkE [(1, .fn 50 []), (5, .own 40 1), (10, LL a29 p0), (11, I (lenL p0)), (12, I (addI .i64 z0.2 1))] [(40, RR 3 1 I x3 1 false)] 32) ?_
    exact pL
  · refine gX 0 ?_
    exact pL
noncomputable def T49 (p0 : (List S29)) : Option (List Int) := ((iter (L49_3 p0) ([], 0)).bind fun y4 => ((sortIO y4.2.2).bind fun x5 => ((compIO x5).bind fun x6 => (some x6))))
theorem B49 (C : Callee) (h50 : ∀ (p0 : S29), C 50 [a29 p0] = (T50 p0).map (fun r => AV.tup [I r.1, I r.2])) (h56 : ∀ (p0 : (List Int)), C 56 [.fr 3 1 (List.map I p0)] = (sortIO p0).map (fun (r : (List Int)) => AV.inp (.tup []) (.fr 3 1 (List.map I r)))) (h57 : ∀ (p0 : (List Int)), C 57 [.fr 3 1 (List.map I p0)] = (compIO p0).map (fun l => AV.fr 3 1 (List.map I l))) (p0 : (List S29)) : runs Try.prog C (cfg.fn 49) (finFn Try.prog (cfg.fn 49).byval Try.f49) [] (execA Try.prog C (cfg.fn 49) (nr Try.f49 []) (frame0 [LL a29 p0, .fn 50 []] 32 false)) = (T49 p0).map (fun l => AV.fr 3 1 (List.map I l)) := by
  unfold T49
  refine gS 1 ?_
  refine gR 0 (rg Try.f49 0) ?_
  refine se (mkE [(0, LL a29 p0), (1, .fn 50 [])] [] 32) ?_
  refine pN ?_
  refine pS ?_
  refine gS 2 ?_
  refine gR 1 (rg Try.f49 1) ?_
  refine se (mkE [(0, LL a29 p0), (1, .fn 50 []), (5, .nils)] [] 32) ?_
  refine pN ?_
  refine pS ?_
  refine gS 8 ?_
  refine gS 3 ?_
  refine gR 2 (rg Try.f49 2) ?_
  refine sg 1 (mkE [(10, LL a29 p0), (0, LL a29 p0), (1, .fn 50 []), (5, .nils)] [] 32) ?_
  refine eo 11 (I (lenL p0)) (lenE 59 a29 p0) ?_
  refine se (mkE [(1, .fn 50 []), (5, .nils), (10, LL a29 p0), (11, I (lenL p0)), (12, I 0)] [] 32) ?_
  refine pN ?_
  refine pS ?_
  refine gB 0 ?_
  refine lo [(1, none), (5, some (3, 1)), (10, none), (11, none), (12, none)] [] (L49_3 p0) (fun z0 : ((List Int) × Int) => (mkE [(1, .fn 50 []), (5, .own 40 0), (10, LL a29 p0), (11, I (lenL p0)), (12, I z0.2)] [(40, RR 3 1 I z0.1 0 false)] 32)) (fun (x : (Int × Bool × (List Int))) => (.exit 0, (mkE [(1, .fn 50 []), (5, .own 40 0), (10, LL a29 p0), (11, I (lenL p0)), (12, I x.1), (13, B x.2.1)] [(40, RR 3 1 I x.2.2 0 false)] 32))) ([], 0) (fun z => L49_3_ok C h50 p0 z) ?_
  intro y4
  refine pH ?_
  refine pN ?_
  refine pS ?_
  refine gS 9 ?_
  refine gR 8 (rg Try.f49 8) ?_
  refine sg 1 (mkE [(28, .own 40 0), (1, .fn 50 []), (5, .own 40 0), (10, LL a29 p0), (11, I (lenL p0)), (12, I y4.1), (13, B y4.2.1)] [(40, RR 3 1 I y4.2.2 0 false)] 32) ?_
  refine mo (some 29) (ipR 56 3 1 40 0 I y4.2.2 [] [] [] (fun x : (List Int) => .tup []) (fun x : (List Int) => x) (h56 y4.2.2)) (fun x5 => ?_)
  refine se (mkE [(5, .own 40 0)] [(40, RR 3 1 I x5 0 false)] 32) ?_
  refine pN ?_
  refine pS ?_
  refine gS 0 ?_
  refine gR 9 (rg Try.f49 9) ?_
  refine sg 1 (mkE [(30, .own 40 0), (5, .own 40 0)] [(40, RR 3 1 I x5 0 false)] 32) ?_
  refine mo (some 31) (gvO 57 3 1 40 0 I x5 [] [] [] (h57 x5)) (fun x6 => ?_)
  refine se (mkE [(4, .own 40 1)] [(40, RR 3 1 I x6 1 false)] 32) ?_
  refine pN ?_
  refine pS ?_
  refine gE ?_
  exact pL
theorem F49 (m : Nat) (hm : 2 ≤ m) (p0 : (List S29)) : callA Try.prog cfg m 49 [LL a29 p0, .fn 50 []] = (T49 p0).map (fun l => AV.fr 3 1 (List.map I l)) := by
  obtain ⟨q, rfl⟩ : ∃ q, m = q + 1 := ⟨m - 1, by omega⟩
  exact (callA_body (fn := Try.f49) (c := body_ Try.f49) q _ (by kernel_rfl) (by kernel_rfl) (by kernel_rfl)).trans (B49 _ (fun p0 => F50 q (by omega) p0) (fun p0 => F56 q (by omega) p0) (fun p0 => F57 q (by omega) p0) p0)

noncomputable def T51 (p0 : S29) : Option (Int × Int) := (some (p0.f1, (addI .i64 p0.f1 p0.f3)))
theorem B51 (C : Callee) (p0 : S29) : runs Try.prog C (cfg.fn 51) (finFn Try.prog (cfg.fn 51).byval Try.f51) [] (execA Try.prog C (cfg.fn 51) (nr Try.f51 []) (frame0 [a29 p0] 11 false)) = (T51 p0).map (fun r => AV.tup [I r.1, I r.2]) := by
  unfold T51
  refine gS 1 ?_
  refine gR 0 (rg Try.f51 0) ?_
  refine se (mkE [(1, .ba 8 0)] [(8, .box [I p0.f0, I p0.f1, I p0.f2, I p0.f3] false)] 11) ?_
  refine pN ?_
  refine pS ?_
  refine gS 0 ?_
  refine dq 1 (rg Try.f51 1) (mkE [(2, I p0.f1), (3, I (addI .i64 p0.f1 p0.f3))] [] 11) ?_
  refine pN ?_
  refine pS ?_
  refine gE ?_
  exact pL
theorem F51 (m : Nat) (hm : 1 ≤ m) (p0 : S29) : callA Try.prog cfg m 51 [a29 p0] = (T51 p0).map (fun r => AV.tup [I r.1, I r.2]) := by
  obtain ⟨q, rfl⟩ : ∃ q, m = q + 1 := ⟨m - 1, by omega⟩
  exact (callA_body (fn := Try.f51) (c := body_ Try.f51) q _ (by kernel_rfl) (by kernel_rfl) (by kernel_rfl)).trans (B51 _ p0)

noncomputable def L49_1_3 (p0 : (List S29)) (z0 : ((List Int) × Int)) : Option (((List Int) × Int) ⊕ (Int × Bool × (List Int))) := (bif (ltI z0.2 (lenL p0)) then ((listAt p0 z0.2).bind fun x1 => ((T51 x1).bind fun x2 => ((appO 8 z0.1 ([x2.1, x2.2] : List Int)).bind fun x3 => (some (.inl (x3, (addI .i64 z0.2 1))))))) else (some (.inr (z0.2, (ltI z0.2 (lenL p0)), z0.1))))
theorem L49_1_3_ok (C : Callee) (h51 : ∀ (p0 : S29), C 51 [a29 p0] = (T51 p0).map (fun r => AV.tup [I r.1, I r.2])) (p0 : (List S29)) (z0 : ((List Int) × Int)) : runs Try.prog C (cfg.fn 49) (finLoop ((cfg.fn 49).keep 3) ((cfg.fn 49).al 3)) [] (execA Try.prog C (cfg.fn 49) (nr Try.f49 [false, false, true, false, true, true]) ((fun z0 : ((List Int) × Int) => (mkE [(1, .fn 51 []), (5, .own 40 0), (10, LL a29 p0), (11, I (lenL p0)), (12, I z0.2)] [(40, RR 3 1 I z0.1 0 false)] 32)) z0)) = (L49_1_3 p0 z0).map (Sum.elim (fun z => .inl ((fun z0 : ((List Int) × Int) => (mkE [(1, .fn 51 []), (5, .own 40 0), (10, LL a29 p0), (11, I (lenL p0)), (12, I z0.2)] [(40, RR 3 1 I z0.1 0 false)] 32)) z)) (fun x => .inr ((fun (x : (Int × Bool × (List Int))) => (.exit 0, (mkE [(1, .fn 51 []), (5, .own 40 0), (10, LL a29 p0), (11, I (lenL p0)), (12, I x.1), (13, B x.2.1)] [(40, RR 3 1 I x.2.2 0 false)] 32))) x))) := by
  unfold L49_1_3
  refine gS 0 ?_
  refine gR 3 (rg Try.f49 3) ?_
  refine se (mkE [(1, .fn 51 []), (5, .own 40 0), (10, LL a29 p0), (11, I (lenL p0)), (12, I z0.2), (13, B (ltI z0.2 (lenL p0)))] [(40, RR 3 1 I z0.1 0 false)] 32) ?_
  refine pN ?_
  refine pS ?_
  refine gS 4 ?_
  refine gC 13 (ltI z0.2 (lenL p0)) ?_ ?_
  · refine gK ?_
    refine pN ?_
    refine pS ?_
    refine gS 7 ?_
    refine gB 1 ?_
    refine gS 5 ?_
    refine gR 4 (rg Try.f49 4) ?_
    refine vo 14 (addrE 59 30 4 a29 .i64 p0 z0.2) (fun x1 => ?_)
    refine se (mkE [(1, .fn 51 []), (5, .own 40 0), (7, .ba 56 0), (10, LL a29 p0), (11, I (lenL p0)), (12, I z0.2)] [(40, RR 3 1 I z0.1 0 false), (56, .box [I x1.f0, I x1.f1, I x1.f2, I x1.f3] false)] 32) ?_
    refine pN ?_
    refine pS ?_
    refine gS 6 ?_
    refine gR 5 (rg Try.f49 5) ?_
    refine sg 2 (mkE [(18, a29 x1), (17, .fn 51 []), (1, .fn 51 []), (5, .own 40 0), (7, .ba 56 0), (10, LL a29 p0), (11, I (lenL p0)), (12, I z0.2)] [(40, RR 3 1 I z0.1 0 false), (56, .box [I x1.f0, I x1.f1, I x1.f2, I x1.f3] false)] 32) ?_
    refine co 19 [] (h51 x1) (fun x2 => ?_)
    refine se (mkE [(1, .fn 51 []), (5, .own 40 0), (8, I x2.1), (9, I x2.2), (10, LL a29 p0), (11, I (lenL p0)), (12, I z0.2)] [(40, RR 3 1 I z0.1 0 false)] 32) ?_
    refine pN ?_
    refine pS ?_
    refine gR 6 (rg Try.f49 6) ?_
    refine sg 4 (mkE [(25, .own 200 0), (24, I x2.2), (23, I x2.1), (22, .own 40 0), (1, .fn 51 []), (5, .own 40 0), (8, I x2.1), (9, I x2.2), (10, LL a29 p0), (11, I (lenL p0)), (12, I z0.2)] [(200, RR 3 1 I ([x2.1, x2.2] : List Int) 0 false), (40, RR 3 1 I z0.1 0 false)] 32) ?_
    refine mo (some 26) (apO 75 3 1 8 40 I 0 [200] (y := .own 200 0) (l2 := ([x2.1, x2.2] : List Int))) (fun x3 => ?_)
    refine se (mkE [(1, .fn 51 []), (5, .own 40 1), (10, LL a29 p0), (11, I (lenL p0)), (12, I z0.2)] [(40, RR 3 1 I x3 1 false)] 32) ?_
    refine pB ?_
    refine pN ?_
    refine pS ?_
    refine gR 7 (rg Try.f49 7) ?_
    refine se (mkE [(1, .fn 51 []), (5, .own 40 1), (10, LL a29 p0), (11, I (lenL p0)), (12, I (addI .i64 z0.2 1))] [(40, RR 3 1 I x3 1 false)] 32) ?_
    exact pL
  · refine gX 0 ?_
    exact pL
noncomputable def T49_1 (p0 : (List S29)) : Option (List Int) := ((iter (L49_1_3 p0) ([], 0)).bind fun y4 => ((sortIO y4.2.2).bind fun x5 => ((compIO x5).bind fun x6 => (some x6))))
theorem B49_1 (C : Callee) (h51 : ∀ (p0 : S29), C 51 [a29 p0] = (T51 p0).map (fun r => AV.tup [I r.1, I r.2])) (h56 : ∀ (p0 : (List Int)), C 56 [.fr 3 1 (List.map I p0)] = (sortIO p0).map (fun (r : (List Int)) => AV.inp (.tup []) (.fr 3 1 (List.map I r)))) (h57 : ∀ (p0 : (List Int)), C 57 [.fr 3 1 (List.map I p0)] = (compIO p0).map (fun l => AV.fr 3 1 (List.map I l))) (p0 : (List S29)) : runs Try.prog C (cfg.fn 49) (finFn Try.prog (cfg.fn 49).byval Try.f49) [] (execA Try.prog C (cfg.fn 49) (nr Try.f49 []) (frame0 [LL a29 p0, .fn 51 []] 32 false)) = (T49_1 p0).map (fun l => AV.fr 3 1 (List.map I l)) := by
  unfold T49_1
  refine gS 1 ?_
  refine gR 0 (rg Try.f49 0) ?_
  refine se (mkE [(0, LL a29 p0), (1, .fn 51 [])] [] 32) ?_
  refine pN ?_
  refine pS ?_
  refine gS 2 ?_
  refine gR 1 (rg Try.f49 1) ?_
  refine se (mkE [(0, LL a29 p0), (1, .fn 51 []), (5, .nils)] [] 32) ?_
  refine pN ?_
  refine pS ?_
  refine gS 8 ?_
  refine gS 3 ?_
  refine gR 2 (rg Try.f49 2) ?_
  refine sg 1 (mkE [(10, LL a29 p0), (0, LL a29 p0), (1, .fn 51 []), (5, .nils)] [] 32) ?_
  refine eo 11 (I (lenL p0)) (lenE 59 a29 p0) ?_
  refine se (mkE [(1, .fn 51 []), (5, .nils), (10, LL a29 p0), (11, I (lenL p0)), (12, I 0)] [] 32) ?_
  refine pN ?_
  refine pS ?_
  refine gB 0 ?_
  refine lo [(1, none), (5, some (3, 1)), (10, none), (11, none), (12, none)] [] (L49_1_3 p0) (fun z0 : ((List Int) × Int) => (mkE [(1, .fn 51 []), (5, .own 40 0), (10, LL a29 p0), (11, I (lenL p0)), (12, I z0.2)] [(40, RR 3 1 I z0.1 0 false)] 32)) (fun (x : (Int × Bool × (List Int))) => (.exit 0, (mkE [(1, .fn 51 []), (5, .own 40 0), (10, LL a29 p0), (11, I (lenL p0)), (12, I x.1), (13, B x.2.1)] [(40, RR 3 1 I x.2.2 0 false)] 32))) ([], 0) (fun z => L49_1_3_ok C h51 p0 z) ?_
  intro y4
  refine pH ?_
  refine pN ?_
  refine pS ?_
  refine gS 9 ?_
  refine gR 8 (rg Try.f49 8) ?_
  refine sg 1 (mkE [(28, .own 40 0), (1, .fn 51 []), (5, .own 40 0), (10, LL a29 p0), (11, I (lenL p0)), (12, I y4.1), (13, B y4.2.1)] [(40, RR 3 1 I y4.2.2 0 false)] 32) ?_
  refine mo (some 29) (ipR 56 3 1 40 0 I y4.2.2 [] [] [] (fun x : (List Int) => .tup []) (fun x : (List Int) => x) (h56 y4.2.2)) (fun x5 => ?_)
  refine se (mkE [(5, .own 40 0)] [(40, RR 3 1 I x5 0 false)] 32) ?_
  refine pN ?_
  refine pS ?_
  refine gS 0 ?_
  refine gR 9 (rg Try.f49 9) ?_
  refine sg 1 (mkE [(30, .own 40 0), (5, .own 40 0)] [(40, RR 3 1 I x5 0 false)] 32) ?_
  refine mo (some 31) (gvO 57 3 1 40 0 I x5 [] [] [] (h57 x5)) (fun x6 => ?_)
  refine se (mkE [(4, .own 40 1)] [(40, RR 3 1 I x6 1 false)] 32) ?_
  refine pN ?_
  refine pS ?_
  refine gE ?_
  exact pL
theorem F49_1 (m : Nat) (hm : 2 ≤ m) (p0 : (List S29)) : callA Try.prog cfg m 49 [LL a29 p0, .fn 51 []] = (T49_1 p0).map (fun l => AV.fr 3 1 (List.map I l)) := by
  obtain ⟨q, rfl⟩ : ∃ q, m = q + 1 := ⟨m - 1, by omega⟩
  exact (callA_body (fn := Try.f49) (c := body_ Try.f49) q _ (by kernel_rfl) (by kernel_rfl) (by kernel_rfl)).trans (B49_1 _ (fun p0 => F51 q (by omega) p0) (fun p0 => F56 q (by omega) p0) (fun p0 => F57 q (by omega) p0) p0)

noncomputable def T41 (p0 : Int) (p1 : Int) (p2_c0 : ByteArray) (p2_c1 : Int) (p2_c2 : Int) (p2_c3 : (List S31)) (p3_c0 : ByteArray) (p3_c1 : Int) (p3_c2 : Int) (p3_c3 : Int) (p3_c4 : Int) (p3_c5 : Int) : Option Bool := ((T15 (S23.mk p2_c0 p2_c1 p2_c2 p2_c3) p0 p1).bind fun x1 => (some (eqS x1.1 p3_c0)))
theorem B41 (C : Callee) (h15 : ∀ (p0 : S23) (p1 : Int) (p2 : Int), C 15 [a23 p0, I p1, I p2] = (T15 p0 p1 p2).map (fun r => AV.tup [S r.1, B r.2])) (p0 : Int) (p1 : Int) (p2_c0 : ByteArray) (p2_c1 : Int) (p2_c2 : Int) (p2_c3 : (List S31)) (p3_c0 : ByteArray) (p3_c1 : Int) (p3_c2 : Int) (p3_c3 : Int) (p3_c4 : Int) (p3_c5 : Int) : runs Try.prog C (cfg.fn 41) (finFn Try.prog (cfg.fn 41).byval Try.f41) [] (execA Try.prog C (cfg.fn 41) (nr Try.f41 []) (frame0 [I p0, I p1, .ia [S p2_c0, I p2_c1, I p2_c2, LL a31 p2_c3] 0, .ia [S p3_c0, I p3_c1, I p3_c2, I p3_c3, I p3_c4, I p3_c5] 0] 20 false)) = (T41 p0 p1 p2_c0 p2_c1 p2_c2 p2_c3 p3_c0 p3_c1 p3_c2 p3_c3 p3_c4 p3_c5).map B := by
  unfold T41
  refine gS 1 ?_
  refine gR 0 (rg Try.f41 0) ?_
  refine se (mkE [(0, I p0), (1, I p1), (2, .ia [S p2_c0, I p2_c1, I p2_c2, LL a31 p2_c3] 0), (3, .ia [S p3_c0, I p3_c1, I p3_c2, I p3_c3, I p3_c4, I p3_c5] 0)] [] 20) ?_
  refine pN ?_
  refine pS ?_
  refine gS 2 ?_
  refine gR 1 (rg Try.f41 1) ?_
  refine sg 3 (mkE [(12, I p1), (11, I p0), (10, .agg [S p2_c0, I p2_c1, I p2_c2, LL a31 p2_c3]), (0, I p0), (1, I p1), (2, .ia [S p2_c0, I p2_c1, I p2_c2, LL a31 p2_c3] 0), (3, .ia [S p3_c0, I p3_c1, I p3_c2, I p3_c3, I p3_c4, I p3_c5] 0)] [] 20) ?_
  refine co 13 [] (h15 (S23.mk p2_c0 p2_c1 p2_c2 p2_c3) p0 p1) (fun x1 => ?_)
  refine se (mkE [(3, .ia [S p3_c0, I p3_c1, I p3_c2, I p3_c3, I p3_c4, I p3_c5] 0), (7, S x1.1)] [] 20) ?_
  refine pN ?_
  refine pS ?_
  refine gS 0 ?_
  refine gR 2 (rg Try.f41 2) ?_
  refine se (mkE [(6, B (eqS x1.1 p3_c0))] [] 20) ?_
  refine pN ?_
  refine pS ?_
  refine gE ?_
  exact pL
theorem F41 (m : Nat) (hm : 4 ≤ m) (p0 : Int) (p1 : Int) (p2_c0 : ByteArray) (p2_c1 : Int) (p2_c2 : Int) (p2_c3 : (List S31)) (p3_c0 : ByteArray) (p3_c1 : Int) (p3_c2 : Int) (p3_c3 : Int) (p3_c4 : Int) (p3_c5 : Int) : callA Try.prog cfg m 41 [I p0, I p1, .ia [S p2_c0, I p2_c1, I p2_c2, LL a31 p2_c3] 0, .ia [S p3_c0, I p3_c1, I p3_c2, I p3_c3, I p3_c4, I p3_c5] 0] = (T41 p0 p1 p2_c0 p2_c1 p2_c2 p2_c3 p3_c0 p3_c1 p3_c2 p3_c3 p3_c4 p3_c5).map B := by
  obtain ⟨q, rfl⟩ : ∃ q, m = q + 1 := ⟨m - 1, by omega⟩
  exact (callA_body (fn := Try.f41) (c := body_ Try.f41) q _ (by kernel_rfl) (by kernel_rfl) (by kernel_rfl)).trans (B41 _ (fun p0 p1 p2 => F15 q (by omega) p0 p1 p2) p0 p1 p2_c0 p2_c1 p2_c2 p2_c3 p3_c0 p3_c1 p3_c2 p3_c3 p3_c4 p3_c5)

noncomputable def T53 (p0 : S29) (p1 : S29) : Option Bool := (bif (eqI p0.f0 p1.f0) then (bif (eqI p0.f2 p1.f2) then (some (eqI p0.f1 (addI .i64 p1.f1 p1.f3))) else (some false)) else (some false))
theorem B53 (C : Callee) (p0 : S29) (p1 : S29) : runs Try.prog C (cfg.fn 53) (finFn Try.prog (cfg.fn 53).byval Try.f53) [] (execA Try.prog C (cfg.fn 53) (nr Try.f53 []) (frame0 [a29 p0, a29 p1] 27 false)) = (T53 p0 p1).map B := by
  unfold T53
  refine gS 1 ?_
  refine gR 0 (rg Try.f53 0) ?_
  refine se (mkE [(2, .ba 16 0), (3, .ba 24 0)] [(16, .box [I p0.f0, I p0.f1, I p0.f2, I p0.f3] false), (24, .box [I p1.f0, I p1.f1, I p1.f2, I p1.f3] false)] 27) ?_
  refine pN ?_
  refine pS ?_
  refine gS 0 ?_
  refine gR 1 (rg Try.f53 1) ?_
  refine sg 6 (mkE [(10, B (eqI p0.f0 p1.f0)), (9, B (eqI p0.f0 p1.f0)), (8, I p1.f0), (7, .ba 24 0), (6, I p0.f0), (5, .ba 16 0), (2, .ba 16 0), (3, .ba 24 0)] [(16, .box [I p0.f0, I p0.f1, I p0.f2, I p0.f3] false), (24, .box [I p1.f0, I p1.f1, I p1.f2, I p1.f3] false)] 27) ?_
  refine sb 10 (eqI p0.f0 p1.f0) ?_ ?_
  · refine sg 13 (mkE [(17, B (eqI p0.f2 p1.f2)), (16, B (eqI p0.f2 p1.f2)), (15, B (eqI p0.f2 p1.f2)), (14, I p1.f2), (13, .ba 24 2), (12, I p0.f2), (11, .ba 16 2), (10, B true), (10, B (eqI p0.f0 p1.f0)), (9, B (eqI p0.f0 p1.f0)), (8, I p1.f0), (7, .ba 24 0), (6, I p0.f0), (5, .ba 16 0), (2, .ba 16 0), (3, .ba 24 0)] [(16, .box [I p0.f0, I p0.f1, I p0.f2, I p0.f3] false), (24, .box [I p1.f0, I p1.f1, I p1.f2, I p1.f3] false)] 27) ?_
    refine sb 17 (eqI p0.f2 p1.f2) ?_ ?_
    · refine se (mkE [(4, B (eqI p0.f1 (addI .i64 p1.f1 p1.f3)))] [] 27) ?_
      refine pN ?_
      refine pS ?_
      refine gE ?_
      exact pL
    · refine se (mkE [(4, B false)] [] 27) ?_
      refine pN ?_
      refine pS ?_
      refine gE ?_
      exact pL
  · refine se (mkE [(4, B false)] [] 27) ?_
    refine pN ?_
    refine pS ?_
    refine gE ?_
    exact pL
theorem F53 (m : Nat) (hm : 1 ≤ m) (p0 : S29) (p1 : S29) : callA Try.prog cfg m 53 [a29 p0, a29 p1] = (T53 p0 p1).map B := by
  obtain ⟨q, rfl⟩ : ∃ q, m = q + 1 := ⟨m - 1, by omega⟩
  exact (callA_body (fn := Try.f53) (c := body_ Try.f53) q _ (by kernel_rfl) (by kernel_rfl) (by kernel_rfl)).trans (B53 _ p0 p1)

noncomputable def L52_4 (p0 : (List S29)) (p1 : (List S29)) (z0 : Int) : Option (Int ⊕ ((Int × Bool) ⊕ Unit)) := (bif (ltI z0 (lenL p0)) then ((listAt p0 z0).bind fun x1 => ((listAt p1 z0).bind fun x2 => ((T53 x1 x2).bind fun x3 => (bif (!x3) then (some (.inr (.inr ()))) else (some (.inl (addI .i64 z0 1))))))) else (some (.inr (.inl (z0, (ltI z0 (lenL p0)))))))
theorem L52_4_ok (C : Callee) (h53 : ∀ (p0 : S29) (p1 : S29), C 53 [a29 p0, a29 p1] = (T53 p0 p1).map B) (p0 : (List S29)) (p1 : (List S29)) (z0 : Int) : runs Try.prog C (cfg.fn 52) (finLoop ((cfg.fn 52).keep 4) ((cfg.fn 52).al 4)) [] (execA Try.prog C (cfg.fn 52) (nr Try.f52 [false, false, true, false, true, true]) ((fun z0 : Int => (mkE [(1, LL a29 p1), (2, .fn 53 []), (15, LL a29 p0), (16, I (lenL p0)), (17, I z0)] [] 32)) z0)) = (L52_4 p0 p1 z0).map (Sum.elim (fun z => .inl ((fun z0 : Int => (mkE [(1, LL a29 p1), (2, .fn 53 []), (15, LL a29 p0), (16, I (lenL p0)), (17, I z0)] [] 32)) z)) (fun x => .inr ((Sum.elim (fun (x : (Int × Bool)) => (.exit 0, (mkE [(1, LL a29 p1), (2, .fn 53 []), (15, LL a29 p0), (16, I (lenL p0)), (17, I x.1), (18, B x.2)] [] 32))) (fun (x : Unit) => (.ret, (mkE [(6, B false)] [] 32)))) x))) := by
  unfold L52_4
  refine gS 0 ?_
  refine gR 4 (rg Try.f52 4) ?_
  refine se (mkE [(1, LL a29 p1), (2, .fn 53 []), (15, LL a29 p0), (16, I (lenL p0)), (17, I z0), (18, B (ltI z0 (lenL p0)))] [] 32) ?_
  refine pN ?_
  refine pS ?_
  refine gS 5 ?_
  refine gC 18 (ltI z0 (lenL p0)) ?_ ?_
  · refine gK ?_
    refine pN ?_
    refine pS ?_
    refine gS 9 ?_
    refine gB 1 ?_
    refine gS 6 ?_
    refine gR 5 (rg Try.f52 5) ?_
    refine sg 1 (mkE [(19, I z0), (1, LL a29 p1), (2, .fn 53 []), (15, LL a29 p0), (16, I (lenL p0)), (17, I z0), (18, B (ltI z0 (lenL p0)))] [] 32) ?_
    refine vo 20 (addrE 59 30 4 a29 .i64 p0 z0) (fun x1 => ?_)
    refine se (mkE [(1, LL a29 p1), (2, .fn 53 []), (7, I z0), (8, .ba 64 0), (15, LL a29 p0), (16, I (lenL p0)), (17, I z0)] [(64, .box [I x1.f0, I x1.f1, I x1.f2, I x1.f3] false)] 32) ?_
    refine pN ?_
    refine pS ?_
    refine gS 7 ?_
    refine gR 6 (rg Try.f52 6) ?_
    refine sg 2 (mkE [(23, I z0), (22, LL a29 p1), (1, LL a29 p1), (2, .fn 53 []), (7, I z0), (8, .ba 64 0), (15, LL a29 p0), (16, I (lenL p0)), (17, I z0)] [(64, .box [I x1.f0, I x1.f1, I x1.f2, I x1.f3] false)] 32) ?_
    refine vo 24 (addrE 59 30 4 a29 .i64 p1 z0) (fun x2 => ?_)
    refine se (mkE [(1, LL a29 p1), (2, .fn 53 []), (8, .ba 64 0), (9, .ba 72 0), (15, LL a29 p0), (16, I (lenL p0)), (17, I z0)] [(64, .box [I x1.f0, I x1.f1, I x1.f2, I x1.f3] false), (72, .box [I x2.f0, I x2.f1, I x2.f2, I x2.f3] false)] 32) ?_
    refine pN ?_
    refine pS ?_
    refine gS 0 ?_
    refine gR 7 (rg Try.f52 7) ?_
    refine sg 3 (mkE [(28, a29 x2), (27, a29 x1), (26, .fn 53 []), (1, LL a29 p1), (2, .fn 53 []), (8, .ba 64 0), (9, .ba 72 0), (15, LL a29 p0), (16, I (lenL p0)), (17, I z0)] [(64, .box [I x1.f0, I x1.f1, I x1.f2, I x1.f3] false), (72, .box [I x2.f0, I x2.f1, I x2.f2, I x2.f3] false)] 32) ?_
    refine co 29 [] (h53 x1 x2) (fun x3 => ?_)
    refine se (mkE [(1, LL a29 p1), (2, .fn 53 []), (15, LL a29 p0), (16, I (lenL p0)), (17, I z0), (30, B (!x3))] [] 32) ?_
    refine pN ?_
    refine pS ?_
    refine gC 30 (!x3) ?_ ?_
    · refine gS 0 ?_
      refine gR 8 (rg Try.f52 8) ?_
      refine se (mkE [(6, B false)] [] 32) ?_
      refine pN ?_
      refine pS ?_
      refine gE ?_
      exact pL
    · refine gK ?_
      refine pB ?_
      refine pN ?_
      refine pS ?_
      refine gR 9 (rg Try.f52 9) ?_
      refine se (mkE [(1, LL a29 p1), (2, .fn 53 []), (15, LL a29 p0), (16, I (lenL p0)), (17, I (addI .i64 z0 1))] [] 32) ?_
      exact pL
  · refine gX 0 ?_
    exact pL
noncomputable def T52 (p0 : (List S29)) (p1 : (List S29)) : Option Bool := (bif (neI (lenL p0) (lenL p1)) then (some false) else ((iter (L52_4 p0 p1) 0).bind fun y4 => (Sum.elim (fun y4a => (some true)) (fun y4b => (some false)) y4)))
theorem B52 (C : Callee) (h53 : ∀ (p0 : S29) (p1 : S29), C 53 [a29 p0, a29 p1] = (T53 p0 p1).map B) (p0 : (List S29)) (p1 : (List S29)) : runs Try.prog C (cfg.fn 52) (finFn Try.prog (cfg.fn 52).byval Try.f52) [] (execA Try.prog C (cfg.fn 52) (nr Try.f52 []) (frame0 [LL a29 p0, LL a29 p1, .fn 53 []] 32 false)) = (T52 p0 p1).map B := by
  unfold T52
  refine gS 1 ?_
  refine gR 0 (rg Try.f52 0) ?_
  refine se (mkE [(0, LL a29 p0), (1, LL a29 p1), (2, .fn 53 [])] [] 32) ?_
  refine pN ?_
  refine pS ?_
  refine gS 3 ?_
  refine gS 0 ?_
  refine gR 1 (rg Try.f52 1) ?_
  refine sg 1 (mkE [(10, LL a29 p0), (0, LL a29 p0), (1, LL a29 p1), (2, .fn 53 [])] [] 32) ?_
  refine eo 11 (I (lenL p0)) (lenE 59 a29 p0) ?_
  refine sg 3 (mkE [(12, LL a29 p1), (11, I (lenL p0)), (10, LL a29 p0), (0, LL a29 p0), (1, LL a29 p1), (2, .fn 53 [])] [] 32) ?_
  refine eo 13 (I (lenL p1)) (lenE 59 a29 p1) ?_
  refine se (mkE [(0, LL a29 p0), (1, LL a29 p1), (2, .fn 53 []), (14, B (neI (lenL p0) (lenL p1)))] [] 32) ?_
  refine pN ?_
  refine pS ?_
  refine gC 14 (neI (lenL p0) (lenL p1)) ?_ ?_
  · refine gS 0 ?_
    refine gR 2 (rg Try.f52 2) ?_
    refine se (mkE [(6, B false)] [] 32) ?_
    refine pN ?_
    refine pS ?_
    refine gE ?_
    exact pL
  · refine gK ?_
    refine pN ?_
    refine pS ?_
    refine gS 10 ?_
    refine gS 4 ?_
    refine gR 3 (rg Try.f52 3) ?_
    refine sg 1 (mkE [(15, LL a29 p0), (0, LL a29 p0), (1, LL a29 p1), (2, .fn 53 []), (14, B (neI (lenL p0) (lenL p1)))] [] 32) ?_
    refine eo 16 (I (lenL p0)) (lenE 59 a29 p0) ?_
    refine se (mkE [(1, LL a29 p1), (2, .fn 53 []), (15, LL a29 p0), (16, I (lenL p0)), (17, I 0)] [] 32) ?_
    refine pN ?_
    refine pS ?_
    refine gB 0 ?_
    refine lo [(1, none), (2, none), (15, none), (16, none), (17, none)] [] (L52_4 p0 p1) (fun z0 : Int => (mkE [(1, LL a29 p1), (2, .fn 53 []), (15, LL a29 p0), (16, I (lenL p0)), (17, I z0)] [] 32)) (Sum.elim (fun (x : (Int × Bool)) => (.exit 0, (mkE [(1, LL a29 p1), (2, .fn 53 []), (15, LL a29 p0), (16, I (lenL p0)), (17, I x.1), (18, B x.2)] [] 32))) (fun (x : Unit) => (.ret, (mkE [(6, B false)] [] 32)))) 0 (fun z => L52_4_ok C h53 p0 p1 z) ?_
    intro y4
    refine ss y4 (Z := (Sum.elim (fun (x : (Int × Bool)) => (.exit 0, (mkE [(1, LL a29 p1), (2, .fn 53 []), (15, LL a29 p0), (16, I (lenL p0)), (17, I x.1), (18, B x.2)] [] 32))) (fun (x : Unit) => (.ret, (mkE [(6, B false)] [] 32))))) (fun y4a => ?_) (fun y4b => ?_)
    · refine pH ?_
      refine pN ?_
      refine pS ?_
      refine gS 0 ?_
      refine gR 10 (rg Try.f52 10) ?_
      refine se (mkE [(6, B true)] [] 32) ?_
      refine pN ?_
      refine pS ?_
      refine gE ?_
      exact pL
    · exact pL
theorem F52 (m : Nat) (hm : 2 ≤ m) (p0 : (List S29)) (p1 : (List S29)) : callA Try.prog cfg m 52 [LL a29 p0, LL a29 p1, .fn 53 []] = (T52 p0 p1).map B := by
  obtain ⟨q, rfl⟩ : ∃ q, m = q + 1 := ⟨m - 1, by omega⟩
  exact (callA_body (fn := Try.f52) (c := body_ Try.f52) q _ (by kernel_rfl) (by kernel_rfl) (by kernel_rfl)).trans (B52 _ (fun p0 p1 => F53 q (by omega) p0 p1) p0 p1)

noncomputable def L40_9 (p1_c0 : ByteArray) (p1_c1 : Int) (p1_c2 : Int) (p1_c3 : (List S31)) (p1_c4 : ByteArray) (p1_c5 : Int) (p1_c6 : Int) (p1_c7 : Int) (p1_c8 : Int) (p1_c9 : Int) (z0 : ((List Int) × (List Int) × (List S29) × (List S29) × Int)) (z1 : ((List Int) × (List Int) × (List S29) × (List S29) × (List S29) × Int)) : Option (((List Int) × (List Int) × (List S29) × (List S29) × (List S29) × Int) ⊕ (Int × Bool × (List Int) × (List Int) × (List S29) × (List S29) × (List S29))) := (bif (ltI (addI .i64 z1.2.2.2.2.2 1) (lenL z1.1)) then ((idxO (List.length z1.1) z1.2.2.2.2.2).bind fun x3 => ((getN z1.1 x3).bind fun x4 => ((idxO (List.length z1.2.1) z0.2.2.2.2).bind fun x5 => ((getN z1.2.1 x5).bind fun x6 => ((T41 x4 x6 p1_c0 p1_c1 p1_c2 p1_c3 p1_c4 p1_c5 p1_c6 p1_c7 p1_c8 p1_c9).bind fun x7 => (bif (!x7) then (some (.inl (z1.1, z1.2.1, z1.2.2.1, z1.2.2.2.1, z1.2.2.2.2.1, (addI .i64 z1.2.2.2.2.2 1)))) else (bif (leI 0 (subI .i64 (lenL z1.2.2.2.2.1) 1)) then ((idxO (List.length z1.2.2.2.2.1) (subI .i64 (lenL z1.2.2.2.2.1) 1)).bind fun x8 => ((getN z1.2.2.2.2.1 x8).bind fun x9 => ((idxO (List.length z1.2.2.2.2.1) (subI .i64 (lenL z1.2.2.2.2.1) 1)).bind fun x10 => ((getN z1.2.2.2.2.1 x10).bind fun x11 => ((idxO (List.length z1.1) z1.2.2.2.2.2).bind fun x12 => ((getN z1.1 x12).bind fun x13 => (bif (eqI (addI .i64 x9.f0 x11.f2) x13) then ((idxO (List.length z1.1) (addI .i64 z1.2.2.2.2.2 1)).bind fun x14 => ((getN z1.1 x14).bind fun x15 => ((idxO (List.length z1.2.2.2.2.1) (subI .i64 (lenL z1.2.2.2.2.1) 1)).bind fun x16 => ((getN z1.2.2.2.2.1 x16).bind fun x17 => ((idxO (List.length z1.2.2.2.2.1) (subI .i64 (lenL z1.2.2.2.2.1) 1)).bind fun x18 => ((getN z1.2.2.2.2.1 x18).bind fun x19 => (some (.inl (z1.1, z1.2.1, z1.2.2.1, z1.2.2.2.1, (List.set z1.2.2.2.2.1 x18 (S29.mk x19.f0 x19.f1 (subI .i64 x15 x17.f0) x19.f3)), (addI .i64 z1.2.2.2.2.2 1)))))))))) else ((idxO (List.length z1.1) z1.2.2.2.2.2).bind fun x20 => ((getN z1.1 x20).bind fun x21 => ((idxO (List.length z1.2.1) z0.2.2.2.2).bind fun x22 => ((getN z1.2.1 x22).bind fun x23 => ((idxO (List.length z1.1) (addI .i64 z1.2.2.2.2.2 1)).bind fun x24 => ((getN z1.1 x24).bind fun x25 => ((idxO (List.length z1.1) z1.2.2.2.2.2).bind fun x26 => ((getN z1.1 x26).bind fun x27 => ((idxO (List.length z1.2.1) (addI .i64 z0.2.2.2.2 1)).bind fun x28 => ((getN z1.2.1 x28).bind fun x29 => ((idxO (List.length z1.2.1) z0.2.2.2.2).bind fun x30 => ((getN z1.2.1 x30).bind fun x31 => ((appO 32 z1.2.2.2.2.1 ([(S29.mk x21 x23 (subI .i64 x25 x27) (subI .i64 x29 x31))] : List S29)).bind fun x32 => (some (.inl (z1.1, z1.2.1, z1.2.2.1, z1.2.2.2.1, x32, (addI .i64 z1.2.2.2.2.2 1)))))))))))))))))))))))) else ((idxO (List.length z1.1) z1.2.2.2.2.2).bind fun x33 => ((getN z1.1 x33).bind fun x34 => ((idxO (List.length z1.2.1) z0.2.2.2.2).bind fun x35 => ((getN z1.2.1 x35).bind fun x36 => ((idxO (List.length z1.1) (addI .i64 z1.2.2.2.2.2 1)).bind fun x37 => ((getN z1.1 x37).bind fun x38 => ((idxO (List.length z1.1) z1.2.2.2.2.2).bind fun x39 => ((getN z1.1 x39).bind fun x40 => ((idxO (List.length z1.2.1) (addI .i64 z0.2.2.2.2 1)).bind fun x41 => ((getN z1.2.1 x41).bind fun x42 => ((idxO (List.length z1.2.1) z0.2.2.2.2).bind fun x43 => ((getN z1.2.1 x43).bind fun x44 => ((appO 32 z1.2.2.2.2.1 ([(S29.mk x34 x36 (subI .i64 x38 x40) (subI .i64 x42 x44))] : List S29)).bind fun x45 => (some (.inl (z1.1, z1.2.1, z1.2.2.1, z1.2.2.2.1, x45, (addI .i64 z1.2.2.2.2.2 1)))))))))))))))))))))))) else (some (.inr (z1.2.2.2.2.2, (ltI (addI .i64 z1.2.2.2.2.2 1) (lenL z1.1)), z1.1, z1.2.1, z1.2.2.1, z1.2.2.2.1, z1.2.2.2.2.1))))
theorem L40_9_ok (C : Callee) (h41 : ∀ (p0 : Int) (p1 : Int) (p2_c0 : ByteArray) (p2_c1 : Int) (p2_c2 : Int) (p2_c3 : (List S31)) (p3_c0 : ByteArray) (p3_c1 : Int) (p3_c2 : Int) (p3_c3 : Int) (p3_c4 : Int) (p3_c5 : Int), C 41 [I p0, I p1, .ia [S p2_c0, I p2_c1, I p2_c2, LL a31 p2_c3] 0, .ia [S p3_c0, I p3_c1, I p3_c2, I p3_c3, I p3_c4, I p3_c5] 0] = (T41 p0 p1 p2_c0 p2_c1 p2_c2 p2_c3 p3_c0 p3_c1 p3_c2 p3_c3 p3_c4 p3_c5).map B) (p1_c0 : ByteArray) (p1_c1 : Int) (p1_c2 : Int) (p1_c3 : (List S31)) (p1_c4 : ByteArray) (p1_c5 : Int) (p1_c6 : Int) (p1_c7 : Int) (p1_c8 : Int) (p1_c9 : Int) (z0 : ((List Int) × (List Int) × (List S29) × (List S29) × Int)) (z1 : ((List Int) × (List Int) × (List S29) × (List S29) × (List S29) × Int)) : runs Try.prog C (cfg.fn 40) (finLoop ((cfg.fn 40).keep 9) ((cfg.fn 40).al 9)) [] (execA Try.prog C (cfg.fn 40) (nr Try.f40 [false, false, true, false, true, false, false, true, false, false, true, false, true, true, true, true]) ((fun z1 : ((List Int) × (List Int) × (List S29) × (List S29) × (List S29) × Int) => (mkE [(1, .fn 41 [.ia [S p1_c0, I p1_c1, I p1_c2, LL a31 p1_c3] 0, .ia [S p1_c4, I p1_c5, I p1_c6, I p1_c7, I p1_c8, I p1_c9] 0]), (5, .own 40 0), (6, .own 48 0), (7, .own 56 0), (8, .own 64 0), (9, I z0.2.2.2.2), (10, .own 80 0), (11, I z1.2.2.2.2.2)] [(40, RR 3 1 I z1.1 0 false), (48, RR 3 1 I z1.2.1 0 false), (56, RR 30 4 a29 z1.2.2.1 0 false), (64, RR 30 4 a29 z1.2.2.2.1 0 false), (80, RR 30 4 a29 z1.2.2.2.2.1 0 false)] 149)) z1)) = (L40_9 p1_c0 p1_c1 p1_c2 p1_c3 p1_c4 p1_c5 p1_c6 p1_c7 p1_c8 p1_c9 z0 z1).map (Sum.elim (fun z => .inl ((fun z1 : ((List Int) × (List Int) × (List S29) × (List S29) × (List S29) × Int) => (mkE [(1, .fn 41 [.ia [S p1_c0, I p1_c1, I p1_c2, LL a31 p1_c3] 0, .ia [S p1_c4, I p1_c5, I p1_c6, I p1_c7, I p1_c8, I p1_c9] 0]), (5, .own 40 0), (6, .own 48 0), (7, .own 56 0), (8, .own 64 0), (9, I z0.2.2.2.2), (10, .own 80 0), (11, I z1.2.2.2.2.2)] [(40, RR 3 1 I z1.1 0 false), (48, RR 3 1 I z1.2.1 0 false), (56, RR 30 4 a29 z1.2.2.1 0 false), (64, RR 30 4 a29 z1.2.2.2.1 0 false), (80, RR 30 4 a29 z1.2.2.2.2.1 0 false)] 149)) z)) (fun x => .inr ((fun (x : (Int × Bool × (List Int) × (List Int) × (List S29) × (List S29) × (List S29))) => (.exit 2, (mkE [(1, .fn 41 [.ia [S p1_c0, I p1_c1, I p1_c2, LL a31 p1_c3] 0, .ia [S p1_c4, I p1_c5, I p1_c6, I p1_c7, I p1_c8, I p1_c9] 0]), (5, .own 40 0), (6, .own 48 0), (7, .own 56 0), (8, .own 64 0), (9, I z0.2.2.2.2), (10, .own 80 0), (11, I x.1), (30, B x.2.1)] [(40, RR 3 1 I x.2.2.1 0 false), (48, RR 3 1 I x.2.2.2.1 0 false), (56, RR 30 4 a29 x.2.2.2.2.1 0 false), (64, RR 30 4 a29 x.2.2.2.2.2.1 0 false), (80, RR 30 4 a29 x.2.2.2.2.2.2 0 false)] 149))) x))) := by
  unfold L40_9
  refine gS 11 ?_
  refine gS 0 ?_
  refine gR 9 (rg Try.f40 9) ?_
  refine sg 3 (mkE [(28, .own 40 0), (27, I (addI .i64 z1.2.2.2.2.2 1)), (26, I z1.2.2.2.2.2), (1, .fn 41 [.ia [S p1_c0, I p1_c1, I p1_c2, LL a31 p1_c3] 0, .ia [S p1_c4, I p1_c5, I p1_c6, I p1_c7, I p1_c8, I p1_c9] 0]), (5, .own 40 0), (6, .own 48 0), (7, .own 56 0), (8, .own 64 0), (9, I z0.2.2.2.2), (10, .own 80 0), (11, I z1.2.2.2.2.2)] [(40, RR 3 1 I z1.1 0 false), (48, RR 3 1 I z1.2.1 0 false), (56, RR 30 4 a29 z1.2.2.1 0 false), (64, RR 30 4 a29 z1.2.2.2.1 0 false), (80, RR 30 4 a29 z1.2.2.2.2.1 0 false)] 149) ?_
  refine eo 29 (I (lenL z1.1)) (lenOE 75 3 1 I z1.1) ?_
  refine se (mkE [(1, .fn 41 [.ia [S p1_c0, I p1_c1, I p1_c2, LL a31 p1_c3] 0, .ia [S p1_c4, I p1_c5, I p1_c6, I p1_c7, I p1_c8, I p1_c9] 0]), (5, .own 40 0), (6, .own 48 0), (7, .own 56 0), (8, .own 64 0), (9, I z0.2.2.2.2), (10, .own 80 0), (11, I z1.2.2.2.2.2), (30, B (ltI (addI .i64 z1.2.2.2.2.2 1) (lenL z1.1)))] [(40, RR 3 1 I z1.1 0 false), (48, RR 3 1 I z1.2.1 0 false), (56, RR 30 4 a29 z1.2.2.1 0 false), (64, RR 30 4 a29 z1.2.2.2.1 0 false), (80, RR 30 4 a29 z1.2.2.2.2.1 0 false)] 149) ?_
  refine pN ?_
  refine pS ?_
  refine gC 30 (ltI (addI .i64 z1.2.2.2.2.2 1) (lenL z1.1)) ?_ ?_
  · refine gK ?_
    refine pN ?_
    refine pS ?_
    refine gS 10 ?_
    refine gB 3 ?_
    refine gS 12 ?_
    refine gS 0 ?_
    refine gD 11 11 (rg Try.f40 11) [0, 1, 2, 3, 4, 5, 6, 7, 8, 9, 10] ?_
    refine dg 3 [(some 33, qe (.fn 41 [.ia [S p1_c0, I p1_c1, I p1_c2, LL a31 p1_c3] 0, .ia [S p1_c4, I p1_c5, I p1_c6, I p1_c7, I p1_c8, I p1_c9] 0])), (some 34, qe (.own 40 0)), (some 35, qe (I z1.2.2.2.2.2))] ?_
    refine dv 36 (mkE [(35, I z1.2.2.2.2.2), (34, .own 40 0), (1, .fn 41 [.ia [S p1_c0, I p1_c1, I p1_c2, LL a31 p1_c3] 0, .ia [S p1_c4, I p1_c5, I p1_c6, I p1_c7, I p1_c8, I p1_c9] 0]), (5, .own 40 0), (6, .own 48 0), (7, .own 56 0), (8, .own 64 0), (9, I z0.2.2.2.2), (10, .own 80 0), (11, I z1.2.2.2.2.2), (30, B (ltI (addI .i64 z1.2.2.2.2.2 1) (lenL z1.1)))] [(40, RR 3 1 I z1.1 0 false), (48, RR 3 1 I z1.2.1 0 false), (56, RR 30 4 a29 z1.2.2.1 0 false), (64, RR 30 4 a29 z1.2.2.2.1 0 false), (80, RR 30 4 a29 z1.2.2.2.2.1 0 false)] 149) (addrOE 75 3 1 40 0 false I .i64 z1.1 z1.2.2.2.2.2) (fun x3 => ?_)
    refine dv 37 (mkE [(36, .oa 40 0 x3 0), (35, I z1.2.2.2.2.2), (34, .own 40 0), (1, .fn 41 [.ia [S p1_c0, I p1_c1, I p1_c2, LL a31 p1_c3] 0, .ia [S p1_c4, I p1_c5, I p1_c6, I p1_c7, I p1_c8, I p1_c9] 0]), (5, .own 40 0), (6, .own 48 0), (7, .own 56 0), (8, .own 64 0), (9, I z0.2.2.2.2), (10, .own 80 0), (11, I z1.2.2.2.2.2), (30, B (ltI (addI .i64 z1.2.2.2.2.2 1) (lenL z1.1)))] [(40, RR 3 1 I z1.1 0 false), (48, RR 3 1 I z1.2.1 0 false), (56, RR 30 4 a29 z1.2.2.1 0 false), (64, RR 30 4 a29 z1.2.2.2.1 0 false), (80, RR 30 4 a29 z1.2.2.2.2.1 0 false)] 149) (loadOE 3 40 0 x3 0 3 1 1 false false I (fun q : Int => I q) z1.1) (fun x4 => ?_)
    refine dg 7 [(some 33, qe (.fn 41 [.ia [S p1_c0, I p1_c1, I p1_c2, LL a31 p1_c3] 0, .ia [S p1_c4, I p1_c5, I p1_c6, I p1_c7, I p1_c8, I p1_c9] 0])), (some 34, qe (.own 40 0)), (some 35, qe (I z1.2.2.2.2.2)), (some 36, qe (.oa 40 0 x3 0)), (some 37, qe (I x4)), (some 38, qe (.own 48 0)), (some 39, qe (I z0.2.2.2.2))] ?_
    refine dv 40 (mkE [(39, I z0.2.2.2.2), (38, .own 48 0), (1, .fn 41 [.ia [S p1_c0, I p1_c1, I p1_c2, LL a31 p1_c3] 0, .ia [S p1_c4, I p1_c5, I p1_c6, I p1_c7, I p1_c8, I p1_c9] 0]), (5, .own 40 0), (6, .own 48 0), (7, .own 56 0), (8, .own 64 0), (9, I z0.2.2.2.2), (10, .own 80 0), (11, I z1.2.2.2.2.2), (30, B (ltI (addI .i64 z1.2.2.2.2.2 1) (lenL z1.1)))] [(40, RR 3 1 I z1.1 0 false), (48, RR 3 1 I z1.2.1 0 false), (56, RR 30 4 a29 z1.2.2.1 0 false), (64, RR 30 4 a29 z1.2.2.2.1 0 false), (80, RR 30 4 a29 z1.2.2.2.2.1 0 false)] 149) (addrOE 75 3 1 48 0 false I .i64 z1.2.1 z0.2.2.2.2) (fun x5 => ?_)
    refine dv 41 (mkE [(40, .oa 48 0 x5 0), (39, I z0.2.2.2.2), (38, .own 48 0), (1, .fn 41 [.ia [S p1_c0, I p1_c1, I p1_c2, LL a31 p1_c3] 0, .ia [S p1_c4, I p1_c5, I p1_c6, I p1_c7, I p1_c8, I p1_c9] 0]), (5, .own 40 0), (6, .own 48 0), (7, .own 56 0), (8, .own 64 0), (9, I z0.2.2.2.2), (10, .own 80 0), (11, I z1.2.2.2.2.2), (30, B (ltI (addI .i64 z1.2.2.2.2.2 1) (lenL z1.1)))] [(40, RR 3 1 I z1.1 0 false), (48, RR 3 1 I z1.2.1 0 false), (56, RR 30 4 a29 z1.2.2.1 0 false), (64, RR 30 4 a29 z1.2.2.2.1 0 false), (80, RR 30 4 a29 z1.2.2.2.2.1 0 false)] 149) (loadOE 3 48 0 x5 0 3 1 1 false false I (fun q : Int => I q) z1.2.1) (fun x6 => ?_)
    refine dc 42 [] (mkE [(41, I x6), (40, .oa 48 0 x5 0), (39, I z0.2.2.2.2), (38, .own 48 0), (37, I x4), (36, .oa 40 0 x3 0), (35, I z1.2.2.2.2.2), (34, .own 40 0), (33, .fn 41 [.ia [S p1_c0, I p1_c1, I p1_c2, LL a31 p1_c3] 0, .ia [S p1_c4, I p1_c5, I p1_c6, I p1_c7, I p1_c8, I p1_c9] 0]), (1, .fn 41 [.ia [S p1_c0, I p1_c1, I p1_c2, LL a31 p1_c3] 0, .ia [S p1_c4, I p1_c5, I p1_c6, I p1_c7, I p1_c8, I p1_c9] 0]), (5, .own 40 0), (6, .own 48 0), (7, .own 56 0), (8, .own 64 0), (9, I z0.2.2.2.2), (10, .own 80 0), (11, I z1.2.2.2.2.2), (30, B (ltI (addI .i64 z1.2.2.2.2.2 1) (lenL z1.1)))] [(40, RR 3 1 I z1.1 0 false), (48, RR 3 1 I z1.2.1 0 false), (56, RR 30 4 a29 z1.2.2.1 0 false), (64, RR 30 4 a29 z1.2.2.2.1 0 false), (80, RR 30 4 a29 z1.2.2.2.2.1 0 false)] 149) (h41 x4 x6 p1_c0 p1_c1 p1_c2 p1_c3 p1_c4 p1_c5 p1_c6 p1_c7 p1_c8 p1_c9) (fun x7 => ?_)
    refine dg 11 [(some 33, qe (.fn 41 [.ia [S p1_c0, I p1_c1, I p1_c2, LL a31 p1_c3] 0, .ia [S p1_c4, I p1_c5, I p1_c6, I p1_c7, I p1_c8, I p1_c9] 0])), (some 34, qe (.own 40 0)), (some 35, qe (I z1.2.2.2.2.2)), (some 36, qe (.oa 40 0 x3 0)), (some 37, qe (I x4)), (some 38, qe (.own 48 0)), (some 39, qe (I z0.2.2.2.2)), (some 40, qe (.oa 48 0 x5 0)), (some 41, qe (I x6)), (some 42, qe (B x7)), (some 43, qe (B (!x7)))] ?_
    refine de (mkE [(43, B (!x7)), (42, B x7), (41, I x6), (40, .oa 48 0 x5 0), (39, I z0.2.2.2.2), (38, .own 48 0), (37, I x4), (36, .oa 40 0 x3 0), (35, I z1.2.2.2.2.2), (34, .own 40 0), (33, .fn 41 [.ia [S p1_c0, I p1_c1, I p1_c2, LL a31 p1_c3] 0, .ia [S p1_c4, I p1_c5, I p1_c6, I p1_c7, I p1_c8, I p1_c9] 0]), (1, .fn 41 [.ia [S p1_c0, I p1_c1, I p1_c2, LL a31 p1_c3] 0, .ia [S p1_c4, I p1_c5, I p1_c6, I p1_c7, I p1_c8, I p1_c9] 0]), (5, .own 40 0), (6, .own 48 0), (7, .own 56 0), (8, .own 64 0), (9, I z0.2.2.2.2), (10, .own 80 0), (11, I z1.2.2.2.2.2), (30, B (ltI (addI .i64 z1.2.2.2.2.2 1) (lenL z1.1)))] [(40, RR 3 1 I z1.1 0 false), (48, RR 3 1 I z1.2.1 0 false), (56, RR 30 4 a29 z1.2.2.1 0 false), (64, RR 30 4 a29 z1.2.2.2.1 0 false), (80, RR 30 4 a29 z1.2.2.2.2.1 0 false)] 149) ?_
    refine se (mkE [(1, .fn 41 [.ia [S p1_c0, I p1_c1, I p1_c2, LL a31 p1_c3] 0, .ia [S p1_c4, I p1_c5, I p1_c6, I p1_c7, I p1_c8, I p1_c9] 0]), (5, .own 40 0), (6, .own 48 0), (7, .own 56 0), (8, .own 64 0), (9, I z0.2.2.2.2), (10, .own 80 0), (11, I z1.2.2.2.2.2), (43, B (!x7))] [(40, RR 3 1 I z1.1 0 false), (48, RR 3 1 I z1.2.1 0 false), (56, RR 30 4 a29 z1.2.2.1 0 false), (64, RR 30 4 a29 z1.2.2.2.1 0 false), (80, RR 30 4 a29 z1.2.2.2.2.1 0 false)] 149) ?_
    refine pN ?_
    refine pS ?_
    refine gC 43 (!x7) ?_ ?_
    · refine gX 3 ?_
      refine pF ?_
      refine pO ?_
      refine pH ?_
      refine pN ?_
      refine pS ?_
      refine gR 10 (rg Try.f40 10) ?_
      refine se (mkE [(1, .fn 41 [.ia [S p1_c0, I p1_c1, I p1_c2, LL a31 p1_c3] 0, .ia [S p1_c4, I p1_c5, I p1_c6, I p1_c7, I p1_c8, I p1_c9] 0]), (5, .own 40 0), (6, .own 48 0), (7, .own 56 0), (8, .own 64 0), (9, I z0.2.2.2.2), (10, .own 80 0), (11, I (addI .i64 z1.2.2.2.2.2 1))] [(40, RR 3 1 I z1.1 0 false), (48, RR 3 1 I z1.2.1 0 false), (56, RR 30 4 a29 z1.2.2.1 0 false), (64, RR 30 4 a29 z1.2.2.2.1 0 false), (80, RR 30 4 a29 z1.2.2.2.2.1 0 false)] 149) ?_
      exact pL
    · refine gK ?_
      refine pN ?_
      refine pS ?_
      refine gS 13 ?_
      refine gR 12 (rg Try.f40 12) ?_
      refine sg 1 (mkE [(44, .own 80 0), (1, .fn 41 [.ia [S p1_c0, I p1_c1, I p1_c2, LL a31 p1_c3] 0, .ia [S p1_c4, I p1_c5, I p1_c6, I p1_c7, I p1_c8, I p1_c9] 0]), (5, .own 40 0), (6, .own 48 0), (7, .own 56 0), (8, .own 64 0), (9, I z0.2.2.2.2), (10, .own 80 0), (11, I z1.2.2.2.2.2), (43, B (!x7))] [(40, RR 3 1 I z1.1 0 false), (48, RR 3 1 I z1.2.1 0 false), (56, RR 30 4 a29 z1.2.2.1 0 false), (64, RR 30 4 a29 z1.2.2.2.1 0 false), (80, RR 30 4 a29 z1.2.2.2.2.1 0 false)] 149) ?_
      refine eo 45 (I (lenL z1.2.2.2.2.1)) (lenOE 59 30 4 a29 z1.2.2.2.2.1) ?_
      refine se (mkE [(1, .fn 41 [.ia [S p1_c0, I p1_c1, I p1_c2, LL a31 p1_c3] 0, .ia [S p1_c4, I p1_c5, I p1_c6, I p1_c7, I p1_c8, I p1_c9] 0]), (5, .own 40 0), (6, .own 48 0), (7, .own 56 0), (8, .own 64 0), (9, I z0.2.2.2.2), (10, .own 80 0), (11, I z1.2.2.2.2.2), (12, I (subI .i64 (lenL z1.2.2.2.2.1) 1))] [(40, RR 3 1 I z1.1 0 false), (48, RR 3 1 I z1.2.1 0 false), (56, RR 30 4 a29 z1.2.2.1 0 false), (64, RR 30 4 a29 z1.2.2.2.1 0 false), (80, RR 30 4 a29 z1.2.2.2.2.1 0 false)] 149) ?_
      refine pN ?_
      refine pS ?_
      refine gS 0 ?_
      refine gD 13 20 (rg Try.f40 13) [0, 1, 2, 3, 4, 5, 6, 7, 8, 9, 10, 11, 12, 13, 14, 15, 16, 17, 18, 19] ?_
      refine dg 3 [(some 47, qe (I (subI .i64 (lenL z1.2.2.2.2.1) 1))), (some 48, qe (B (leI 0 (subI .i64 (lenL z1.2.2.2.2.1) 1)))), (some 49, qe (B (leI 0 (subI .i64 (lenL z1.2.2.2.2.1) 1))))] ?_
      refine db 2 49 (leI 0 (subI .i64 (lenL z1.2.2.2.2.1) 1)) ?_ ?_
      · refine dg 5 [(some 47, qe (I (subI .i64 (lenL z1.2.2.2.2.1) 1))), (some 48, qe (B (leI 0 (subI .i64 (lenL z1.2.2.2.2.1) 1)))), (some 49, qe (B true)), (some 50, qe (.own 80 0)), (some 51, qe (I (subI .i64 (lenL z1.2.2.2.2.1) 1)))] ?_
        refine dv 52 (mkE [(51, I (subI .i64 (lenL z1.2.2.2.2.1) 1)), (50, .own 80 0), (49, B true), (48, B (leI 0 (subI .i64 (lenL z1.2.2.2.2.1) 1))), (47, I (subI .i64 (lenL z1.2.2.2.2.1) 1)), (1, .fn 41 [.ia [S p1_c0, I p1_c1, I p1_c2, LL a31 p1_c3] 0, .ia [S p1_c4, I p1_c5, I p1_c6, I p1_c7, I p1_c8, I p1_c9] 0]), (5, .own 40 0), (6, .own 48 0), (7, .own 56 0), (8, .own 64 0), (9, I z0.2.2.2.2), (10, .own 80 0), (11, I z1.2.2.2.2.2), (12, I (subI .i64 (lenL z1.2.2.2.2.1) 1))] [(40, RR 3 1 I z1.1 0 false), (48, RR 3 1 I z1.2.1 0 false), (56, RR 30 4 a29 z1.2.2.1 0 false), (64, RR 30 4 a29 z1.2.2.2.1 0 false), (80, RR 30 4 a29 z1.2.2.2.2.1 0 false)] 149) (addrOE 59 30 4 80 0 false a29 .i64 z1.2.2.2.2.1 (subI .i64 (lenL z1.2.2.2.2.1) 1)) (fun x8 => ?_)
        refine dg 7 [(some 47, qe (I (subI .i64 (lenL z1.2.2.2.2.1) 1))), (some 48, qe (B (leI 0 (subI .i64 (lenL z1.2.2.2.2.1) 1)))), (some 49, qe (B true)), (some 50, qe (.own 80 0)), (some 51, qe (I (subI .i64 (lenL z1.2.2.2.2.1) 1))), (some 52, qe (.oa 80 0 x8 0)), (some 53, qe (.oa 80 0 x8 0))] ?_
        refine dv 54 (mkE [(53, .oa 80 0 x8 0), (52, .oa 80 0 x8 0), (51, I (subI .i64 (lenL z1.2.2.2.2.1) 1)), (50, .own 80 0), (49, B true), (48, B (leI 0 (subI .i64 (lenL z1.2.2.2.2.1) 1))), (47, I (subI .i64 (lenL z1.2.2.2.2.1) 1)), (1, .fn 41 [.ia [S p1_c0, I p1_c1, I p1_c2, LL a31 p1_c3] 0, .ia [S p1_c4, I p1_c5, I p1_c6, I p1_c7, I p1_c8, I p1_c9] 0]), (5, .own 40 0), (6, .own 48 0), (7, .own 56 0), (8, .own 64 0), (9, I z0.2.2.2.2), (10, .own 80 0), (11, I z1.2.2.2.2.2), (12, I (subI .i64 (lenL z1.2.2.2.2.1) 1))] [(40, RR 3 1 I z1.1 0 false), (48, RR 3 1 I z1.2.1 0 false), (56, RR 30 4 a29 z1.2.2.1 0 false), (64, RR 30 4 a29 z1.2.2.2.1 0 false), (80, RR 30 4 a29 z1.2.2.2.2.1 0 false)] 149) (loadOE 3 80 0 x8 0 30 4 1 false false a29 (fun q : S29 => I q.f0) z1.2.2.2.2.1) (fun x9 => ?_)
        refine dg 10 [(some 47, qe (I (subI .i64 (lenL z1.2.2.2.2.1) 1))), (some 48, qe (B (leI 0 (subI .i64 (lenL z1.2.2.2.2.1) 1)))), (some 49, qe (B true)), (some 50, qe (.own 80 0)), (some 51, qe (I (subI .i64 (lenL z1.2.2.2.2.1) 1))), (some 52, qe (.oa 80 0 x8 0)), (some 53, qe (.oa 80 0 x8 0)), (some 54, qe (I x9.f0)), (some 55, qe (.own 80 0)), (some 56, qe (I (subI .i64 (lenL z1.2.2.2.2.1) 1)))] ?_
        refine dv 57 (mkE [(56, I (subI .i64 (lenL z1.2.2.2.2.1) 1)), (55, .own 80 0), (49, B true), (48, B (leI 0 (subI .i64 (lenL z1.2.2.2.2.1) 1))), (47, I (subI .i64 (lenL z1.2.2.2.2.1) 1)), (1, .fn 41 [.ia [S p1_c0, I p1_c1, I p1_c2, LL a31 p1_c3] 0, .ia [S p1_c4, I p1_c5, I p1_c6, I p1_c7, I p1_c8, I p1_c9] 0]), (5, .own 40 0), (6, .own 48 0), (7, .own 56 0), (8, .own 64 0), (9, I z0.2.2.2.2), (10, .own 80 0), (11, I z1.2.2.2.2.2), (12, I (subI .i64 (lenL z1.2.2.2.2.1) 1))] [(40, RR 3 1 I z1.1 0 false), (48, RR 3 1 I z1.2.1 0 false), (56, RR 30 4 a29 z1.2.2.1 0 false), (64, RR 30 4 a29 z1.2.2.2.1 0 false), (80, RR 30 4 a29 z1.2.2.2.2.1 0 false)] 149) (addrOE 59 30 4 80 0 false a29 .i64 z1.2.2.2.2.1 (subI .i64 (lenL z1.2.2.2.2.1) 1)) (fun x10 => ?_)
        refine dg 12 [(some 47, qe (I (subI .i64 (lenL z1.2.2.2.2.1) 1))), (some 48, qe (B (leI 0 (subI .i64 (lenL z1.2.2.2.2.1) 1)))), (some 49, qe (B true)), (some 50, qe (.own 80 0)), (some 51, qe (I (subI .i64 (lenL z1.2.2.2.2.1) 1))), (some 52, qe (.oa 80 0 x8 0)), (some 53, qe (.oa 80 0 x8 0)), (some 54, qe (I x9.f0)), (some 55, qe (.own 80 0)), (some 56, qe (I (subI .i64 (lenL z1.2.2.2.2.1) 1))), (some 57, qe (.oa 80 0 x10 0)), (some 58, qe (.oa 80 0 x10 2))] ?_
        refine dv 59 (mkE [(58, .oa 80 0 x10 2), (57, .oa 80 0 x10 0), (56, I (subI .i64 (lenL z1.2.2.2.2.1) 1)), (55, .own 80 0), (49, B true), (48, B (leI 0 (subI .i64 (lenL z1.2.2.2.2.1) 1))), (47, I (subI .i64 (lenL z1.2.2.2.2.1) 1)), (1, .fn 41 [.ia [S p1_c0, I p1_c1, I p1_c2, LL a31 p1_c3] 0, .ia [S p1_c4, I p1_c5, I p1_c6, I p1_c7, I p1_c8, I p1_c9] 0]), (5, .own 40 0), (6, .own 48 0), (7, .own 56 0), (8, .own 64 0), (9, I z0.2.2.2.2), (10, .own 80 0), (11, I z1.2.2.2.2.2), (12, I (subI .i64 (lenL z1.2.2.2.2.1) 1))] [(40, RR 3 1 I z1.1 0 false), (48, RR 3 1 I z1.2.1 0 false), (56, RR 30 4 a29 z1.2.2.1 0 false), (64, RR 30 4 a29 z1.2.2.2.1 0 false), (80, RR 30 4 a29 z1.2.2.2.2.1 0 false)] 149) (loadOE 3 80 0 x10 2 30 4 1 false false a29 (fun q : S29 => I q.f2) z1.2.2.2.2.1) (fun x11 => ?_)
        refine dg 16 [(some 47, qe (I (subI .i64 (lenL z1.2.2.2.2.1) 1))), (some 48, qe (B (leI 0 (subI .i64 (lenL z1.2.2.2.2.1) 1)))), (some 49, qe (B true)), (some 50, qe (.own 80 0)), (some 51, qe (I (subI .i64 (lenL z1.2.2.2.2.1) 1))), (some 52, qe (.oa 80 0 x8 0)), (some 53, qe (.oa 80 0 x8 0)), (some 54, qe (I x9.f0)), (some 55, qe (.own 80 0)), (some 56, qe (I (subI .i64 (lenL z1.2.2.2.2.1) 1))), (some 57, qe (.oa 80 0 x10 0)), (some 58, qe (.oa 80 0 x10 2)), (some 59, qe (I x11.f2)), (some 60, qe (I (addI .i64 x9.f0 x11.f2))), (some 61, qe (.own 40 0)), (some 62, qe (I z1.2.2.2.2.2))] ?_
        refine dv 63 (mkE [(62, I z1.2.2.2.2.2), (61, .own 40 0), (49, B true), (48, B (leI 0 (subI .i64 (lenL z1.2.2.2.2.1) 1))), (47, I (subI .i64 (lenL z1.2.2.2.2.1) 1)), (1, .fn 41 [.ia [S p1_c0, I p1_c1, I p1_c2, LL a31 p1_c3] 0, .ia [S p1_c4, I p1_c5, I p1_c6, I p1_c7, I p1_c8, I p1_c9] 0]), (5, .own 40 0), (6, .own 48 0), (7, .own 56 0), (8, .own 64 0), (9, I z0.2.2.2.2), (10, .own 80 0), (11, I z1.2.2.2.2.2), (12, I (subI .i64 (lenL z1.2.2.2.2.1) 1))] [(40, RR 3 1 I z1.1 0 false), (48, RR 3 1 I z1.2.1 0 false), (56, RR 30 4 a29 z1.2.2.1 0 false), (64, RR 30 4 a29 z1.2.2.2.1 0 false), (80, RR 30 4 a29 z1.2.2.2.2.1 0 false)] 149) (addrOE 75 3 1 40 0 false I .i64 z1.1 z1.2.2.2.2.2) (fun x12 => ?_)
        refine dv 64 (mkE [(63, .oa 40 0 x12 0), (62, I z1.2.2.2.2.2), (61, .own 40 0), (49, B true), (48, B (leI 0 (subI .i64 (lenL z1.2.2.2.2.1) 1))), (47, I (subI .i64 (lenL z1.2.2.2.2.1) 1)), (1, .fn 41 [.ia [S p1_c0, I p1_c1, I p1_c2, LL a31 p1_c3] 0, .ia [S p1_c4, I p1_c5, I p1_c6, I p1_c7, I p1_c8, I p1_c9] 0]), (5, .own 40 0), (6, .own 48 0), (7, .own 56 0), (8, .own 64 0), (9, I z0.2.2.2.2), (10, .own 80 0), (11, I z1.2.2.2.2.2), (12, I (subI .i64 (lenL z1.2.2.2.2.1) 1))] [(40, RR 3 1 I z1.1 0 false), (48, RR 3 1 I z1.2.1 0 false), (56, RR 30 4 a29 z1.2.2.1 0 false), (64, RR 30 4 a29 z1.2.2.2.1 0 false), (80, RR 30 4 a29 z1.2.2.2.2.1 0 false)] 149) (loadOE 3 40 0 x12 0 3 1 1 false false I (fun q : Int => I q) z1.1) (fun x13 => ?_)
        refine dg 20 [(some 47, qe (I (subI .i64 (lenL z1.2.2.2.2.1) 1))), (some 48, qe (B (leI 0 (subI .i64 (lenL z1.2.2.2.2.1) 1)))), (some 49, qe (B true)), (some 50, qe (.own 80 0)), (some 51, qe (I (subI .i64 (lenL z1.2.2.2.2.1) 1))), (some 52, qe (.oa 80 0 x8 0)), (some 53, qe (.oa 80 0 x8 0)), (some 54, qe (I x9.f0)), (some 55, qe (.own 80 0)), (some 56, qe (I (subI .i64 (lenL z1.2.2.2.2.1) 1))), (some 57, qe (.oa 80 0 x10 0)), (some 58, qe (.oa 80 0 x10 2)), (some 59, qe (I x11.f2)), (some 60, qe (I (addI .i64 x9.f0 x11.f2))), (some 61, qe (.own 40 0)), (some 62, qe (I z1.2.2.2.2.2)), (some 63, qe (.oa 40 0 x12 0)), (some 64, qe (I x13)), (some 65, qe (B (eqI (addI .i64 x9.f0 x11.f2) x13))), (some 66, qe (B (eqI (addI .i64 x9.f0 x11.f2) x13)))] ?_
        refine de (mkE [(66, B (eqI (addI .i64 x9.f0 x11.f2) x13)), (65, B (eqI (addI .i64 x9.f0 x11.f2) x13)), (64, I x13), (63, .oa 40 0 x12 0), (62, I z1.2.2.2.2.2), (61, .own 40 0), (60, I (addI .i64 x9.f0 x11.f2)), (59, I x11.f2), (58, .oa 80 0 x10 2), (57, .oa 80 0 x10 0), (56, I (subI .i64 (lenL z1.2.2.2.2.1) 1)), (55, .own 80 0), (54, I x9.f0), (53, .oa 80 0 x8 0), (52, .oa 80 0 x8 0), (51, I (subI .i64 (lenL z1.2.2.2.2.1) 1)), (50, .own 80 0), (49, B true), (48, B (leI 0 (subI .i64 (lenL z1.2.2.2.2.1) 1))), (47, I (subI .i64 (lenL z1.2.2.2.2.1) 1)), (1, .fn 41 [.ia [S p1_c0, I p1_c1, I p1_c2, LL a31 p1_c3] 0, .ia [S p1_c4, I p1_c5, I p1_c6, I p1_c7, I p1_c8, I p1_c9] 0]), (5, .own 40 0), (6, .own 48 0), (7, .own 56 0), (8, .own 64 0), (9, I z0.2.2.2.2), (10, .own 80 0), (11, I z1.2.2.2.2.2), (12, I (subI .i64 (lenL z1.2.2.2.2.1) 1))] [(40, RR 3 1 I z1.1 0 false), (48, RR 3 1 I z1.2.1 0 false), (56, RR 30 4 a29 z1.2.2.1 0 false), (64, RR 30 4 a29 z1.2.2.2.1 0 false), (80, RR 30 4 a29 z1.2.2.2.2.1 0 false)] 149) ?_
        refine se (mkE [(1, .fn 41 [.ia [S p1_c0, I p1_c1, I p1_c2, LL a31 p1_c3] 0, .ia [S p1_c4, I p1_c5, I p1_c6, I p1_c7, I p1_c8, I p1_c9] 0]), (5, .own 40 0), (6, .own 48 0), (7, .own 56 0), (8, .own 64 0), (9, I z0.2.2.2.2), (10, .own 80 0), (11, I z1.2.2.2.2.2), (12, I (subI .i64 (lenL z1.2.2.2.2.1) 1)), (66, B (eqI (addI .i64 x9.f0 x11.f2) x13))] [(40, RR 3 1 I z1.1 0 false), (48, RR 3 1 I z1.2.1 0 false), (56, RR 30 4 a29 z1.2.2.1 0 false), (64, RR 30 4 a29 z1.2.2.2.1 0 false), (80, RR 30 4 a29 z1.2.2.2.2.1 0 false)] 149) ?_
        refine pN ?_
        refine pS ?_
        refine gC 66 (eqI (addI .i64 x9.f0 x11.f2) x13) ?_ ?_
        · refine gD 14 15 (rg Try.f40 14) [0, 1, 2, 3, 4, 5, 6, 7, 8, 9, 10, 11, 12, 13, 14, 15] ?_
          refine dg 5 [(some 67, qe (.own 80 0)), (some 68, qe (I (subI .i64 (lenL z1.2.2.2.2.1) 1))), (some 69, qe (.own 40 0)), (some 70, qe (I z1.2.2.2.2.2)), (some 71, qe (I (addI .i64 z1.2.2.2.2.2 1)))] ?_
          refine dv 72 (mkE [(71, I (addI .i64 z1.2.2.2.2.2 1)), (70, I z1.2.2.2.2.2), (69, .own 40 0), (1, .fn 41 [.ia [S p1_c0, I p1_c1, I p1_c2, LL a31 p1_c3] 0, .ia [S p1_c4, I p1_c5, I p1_c6, I p1_c7, I p1_c8, I p1_c9] 0]), (5, .own 40 0), (6, .own 48 0), (7, .own 56 0), (8, .own 64 0), (9, I z0.2.2.2.2), (10, .own 80 0), (11, I z1.2.2.2.2.2), (12, I (subI .i64 (lenL z1.2.2.2.2.1) 1)), (66, B (eqI (addI .i64 x9.f0 x11.f2) x13))] [(40, RR 3 1 I z1.1 0 false), (48, RR 3 1 I z1.2.1 0 false), (56, RR 30 4 a29 z1.2.2.1 0 false), (64, RR 30 4 a29 z1.2.2.2.1 0 false), (80, RR 30 4 a29 z1.2.2.2.2.1 0 false)] 149) (addrOE 75 3 1 40 0 false I .i64 z1.1 (addI .i64 z1.2.2.2.2.2 1)) (fun x14 => ?_)
          refine dv 73 (mkE [(72, .oa 40 0 x14 0), (71, I (addI .i64 z1.2.2.2.2.2 1)), (70, I z1.2.2.2.2.2), (69, .own 40 0), (1, .fn 41 [.ia [S p1_c0, I p1_c1, I p1_c2, LL a31 p1_c3] 0, .ia [S p1_c4, I p1_c5, I p1_c6, I p1_c7, I p1_c8, I p1_c9] 0]), (5, .own 40 0), (6, .own 48 0), (7, .own 56 0), (8, .own 64 0), (9, I z0.2.2.2.2), (10, .own 80 0), (11, I z1.2.2.2.2.2), (12, I (subI .i64 (lenL z1.2.2.2.2.1) 1)), (66, B (eqI (addI .i64 x9.f0 x11.f2) x13))] [(40, RR 3 1 I z1.1 0 false), (48, RR 3 1 I z1.2.1 0 false), (56, RR 30 4 a29 z1.2.2.1 0 false), (64, RR 30 4 a29 z1.2.2.2.1 0 false), (80, RR 30 4 a29 z1.2.2.2.2.1 0 false)] 149) (loadOE 3 40 0 x14 0 3 1 1 false false I (fun q : Int => I q) z1.1) (fun x15 => ?_)
          refine dg 9 [(some 67, qe (.own 80 0)), (some 68, qe (I (subI .i64 (lenL z1.2.2.2.2.1) 1))), (some 69, qe (.own 40 0)), (some 70, qe (I z1.2.2.2.2.2)), (some 71, qe (I (addI .i64 z1.2.2.2.2.2 1))), (some 72, qe (.oa 40 0 x14 0)), (some 73, qe (I x15)), (some 74, qe (.own 80 0)), (some 75, qe (I (subI .i64 (lenL z1.2.2.2.2.1) 1)))] ?_
          refine dv 76 (mkE [(75, I (subI .i64 (lenL z1.2.2.2.2.1) 1)), (74, .own 80 0), (1, .fn 41 [.ia [S p1_c0, I p1_c1, I p1_c2, LL a31 p1_c3] 0, .ia [S p1_c4, I p1_c5, I p1_c6, I p1_c7, I p1_c8, I p1_c9] 0]), (5, .own 40 0), (6, .own 48 0), (7, .own 56 0), (8, .own 64 0), (9, I z0.2.2.2.2), (10, .own 80 0), (11, I z1.2.2.2.2.2), (12, I (subI .i64 (lenL z1.2.2.2.2.1) 1)), (66, B (eqI (addI .i64 x9.f0 x11.f2) x13))] [(40, RR 3 1 I z1.1 0 false), (48, RR 3 1 I z1.2.1 0 false), (56, RR 30 4 a29 z1.2.2.1 0 false), (64, RR 30 4 a29 z1.2.2.2.1 0 false), (80, RR 30 4 a29 z1.2.2.2.2.1 0 false)] 149) (addrOE 59 30 4 80 0 false a29 .i64 z1.2.2.2.2.1 (subI .i64 (lenL z1.2.2.2.2.1) 1)) (fun x16 => ?_)
          refine dg 11 [(some 67, qe (.own 80 0)), (some 68, qe (I (subI .i64 (lenL z1.2.2.2.2.1) 1))), (some 69, qe (.own 40 0)), (some 70, qe (I z1.2.2.2.2.2)), (some 71, qe (I (addI .i64 z1.2.2.2.2.2 1))), (some 72, qe (.oa 40 0 x14 0)), (some 73, qe (I x15)), (some 74, qe (.own 80 0)), (some 75, qe (I (subI .i64 (lenL z1.2.2.2.2.1) 1))), (some 76, qe (.oa 80 0 x16 0)), (some 77, qe (.oa 80 0 x16 0))] ?_
          refine dv 78 (mkE [(77, .oa 80 0 x16 0), (76, .oa 80 0 x16 0), (75, I (subI .i64 (lenL z1.2.2.2.2.1) 1)), (74, .own 80 0), (1, .fn 41 [.ia [S p1_c0, I p1_c1, I p1_c2, LL a31 p1_c3] 0, .ia [S p1_c4, I p1_c5, I p1_c6, I p1_c7, I p1_c8, I p1_c9] 0]), (5, .own 40 0), (6, .own 48 0), (7, .own 56 0), (8, .own 64 0), (9, I z0.2.2.2.2), (10, .own 80 0), (11, I z1.2.2.2.2.2), (12, I (subI .i64 (lenL z1.2.2.2.2.1) 1)), (66, B (eqI (addI .i64 x9.f0 x11.f2) x13))] [(40, RR 3 1 I z1.1 0 false), (48, RR 3 1 I z1.2.1 0 false), (56, RR 30 4 a29 z1.2.2.1 0 false), (64, RR 30 4 a29 z1.2.2.2.1 0 false), (80, RR 30 4 a29 z1.2.2.2.2.1 0 false)] 149) (loadOE 3 80 0 x16 0 30 4 1 false false a29 (fun q : S29 => I q.f0) z1.2.2.2.2.1) (fun x17 => ?_)
          refine dg 13 [(some 67, qe (.own 80 0)), (some 68, qe (I (subI .i64 (lenL z1.2.2.2.2.1) 1))), (some 69, qe (.own 40 0)), (some 70, qe (I z1.2.2.2.2.2)), (some 71, qe (I (addI .i64 z1.2.2.2.2.2 1))), (some 72, qe (.oa 40 0 x14 0)), (some 73, qe (I x15)), (some 74, qe (.own 80 0)), (some 75, qe (I (subI .i64 (lenL z1.2.2.2.2.1) 1))), (some 76, qe (.oa 80 0 x16 0)), (some 77, qe (.oa 80 0 x16 0)), (some 78, qe (I x17.f0)), (some 79, qe (I (subI .i64 x15 x17.f0)))] ?_
          refine dv 80 (mkE [(79, I (subI .i64 x15 x17.f0)), (78, I x17.f0), (77, .oa 80 0 x16 0), (76, .oa 80 0 x16 0), (75, I (subI .i64 (lenL z1.2.2.2.2.1) 1)), (74, .own 80 0), (73, I x15), (72, .oa 40 0 x14 0), (71, I (addI .i64 z1.2.2.2.2.2 1)), (70, I z1.2.2.2.2.2), (69, .own 40 0), (68, I (subI .i64 (lenL z1.2.2.2.2.1) 1)), (67, .own 80 0), (1, .fn 41 [.ia [S p1_c0, I p1_c1, I p1_c2, LL a31 p1_c3] 0, .ia [S p1_c4, I p1_c5, I p1_c6, I p1_c7, I p1_c8, I p1_c9] 0]), (5, .own 40 0), (6, .own 48 0), (7, .own 56 0), (8, .own 64 0), (9, I z0.2.2.2.2), (10, .own 80 0), (11, I z1.2.2.2.2.2), (12, I (subI .i64 (lenL z1.2.2.2.2.1) 1)), (66, B (eqI (addI .i64 x9.f0 x11.f2) x13))] [(40, RR 3 1 I z1.1 0 false), (48, RR 3 1 I z1.2.1 0 false), (56, RR 30 4 a29 z1.2.2.1 0 false), (64, RR 30 4 a29 z1.2.2.2.1 0 false), (80, RR 30 4 a29 z1.2.2.2.2.1 0 false)] 149) (addrOE 59 30 4 80 0 false a29 .i64 z1.2.2.2.2.1 (subI .i64 (lenL z1.2.2.2.2.1) 1)) (fun x18 => ?_)
          refine dg 15 [(some 67, qe (.own 80 0)), (some 68, qe (I (subI .i64 (lenL z1.2.2.2.2.1) 1))), (some 69, qe (.own 40 0)), (some 70, qe (I z1.2.2.2.2.2)), (some 71, qe (I (addI .i64 z1.2.2.2.2.2 1))), (some 72, qe (.oa 40 0 x14 0)), (some 73, qe (I x15)), (some 74, qe (.own 80 0)), (some 75, qe (I (subI .i64 (lenL z1.2.2.2.2.1) 1))), (some 76, qe (.oa 80 0 x16 0)), (some 77, qe (.oa 80 0 x16 0)), (some 78, qe (I x17.f0)), (some 79, qe (I (subI .i64 x15 x17.f0))), (some 80, qe (.oa 80 0 x18 0)), (some 81, qe (.oa 80 0 x18 2))] ?_
          refine de (mkE [(81, .oa 80 0 x18 2), (80, .oa 80 0 x18 0), (79, I (subI .i64 x15 x17.f0)), (78, I x17.f0), (77, .oa 80 0 x16 0), (76, .oa 80 0 x16 0), (75, I (subI .i64 (lenL z1.2.2.2.2.1) 1)), (74, .own 80 0), (73, I x15), (72, .oa 40 0 x14 0), (71, I (addI .i64 z1.2.2.2.2.2 1)), (70, I z1.2.2.2.2.2), (69, .own 40 0), (68, I (subI .i64 (lenL z1.2.2.2.2.1) 1)), (67, .own 80 0), (1, .fn 41 [.ia [S p1_c0, I p1_c1, I p1_c2, LL a31 p1_c3] 0, .ia [S p1_c4, I p1_c5, I p1_c6, I p1_c7, I p1_c8, I p1_c9] 0]), (5, .own 40 0), (6, .own 48 0), (7, .own 56 0), (8, .own 64 0), (9, I z0.2.2.2.2), (10, .own 80 0), (11, I z1.2.2.2.2.2), (12, I (subI .i64 (lenL z1.2.2.2.2.1) 1)), (66, B (eqI (addI .i64 x9.f0 x11.f2) x13))] [(40, RR 3 1 I z1.1 0 false), (48, RR 3 1 I z1.2.1 0 false), (56, RR 30 4 a29 z1.2.2.1 0 false), (64, RR 30 4 a29 z1.2.2.2.1 0 false), (80, RR 30 4 a29 z1.2.2.2.2.1 0 false)] 149) ?_
          refine mo none (stO 30 4 80 0 x18 2 a29 z1.2.2.2.2.1 [] [I (subI .i64 x15 x17.f0)] (I (subI .i64 x15 x17.f0)) (fun q : S29 => (S29.mk q.f0 q.f1 (subI .i64 x15 x17.f0) q.f3)) 3 (.tmp 81) (.tmp 79) 1) (fun x19 => ?_)
          refine se (mkE [(1, .fn 41 [.ia [S p1_c0, I p1_c1, I p1_c2, LL a31 p1_c3] 0, .ia [S p1_c4, I p1_c5, I p1_c6, I p1_c7, I p1_c8, I p1_c9] 0]), (5, .own 40 0), (6, .own 48 0), (7, .own 56 0), (8, .own 64 0), (9, I z0.2.2.2.2), (10, .own 80 0), (11, I z1.2.2.2.2.2)] [(40, RR 3 1 I z1.1 0 false), (48, RR 3 1 I z1.2.1 0 false), (56, RR 30 4 a29 z1.2.2.1 0 false), (64, RR 30 4 a29 z1.2.2.2.1 0 false), (80, RR 30 4 a29 (List.set z1.2.2.2.2.1 x18 (S29.mk x19.f0 x19.f1 (subI .i64 x15 x17.f0) x19.f3)) 0 false)] 149) ?_
          refine pB ?_
          refine pN ?_
          refine pS ?_
          refine gR 10 (rg Try.f40 10) ?_
          refine se (mkE [(1, .fn 41 [.ia [S p1_c0, I p1_c1, I p1_c2, LL a31 p1_c3] 0, .ia [S p1_c4, I p1_c5, I p1_c6, I p1_c7, I p1_c8, I p1_c9] 0]), (5, .own 40 0), (6, .own 48 0), (7, .own 56 0), (8, .own 64 0), (9, I z0.2.2.2.2), (10, .own 80 0), (11, I (addI .i64 z1.2.2.2.2.2 1))] [(40, RR 3 1 I z1.1 0 false), (48, RR 3 1 I z1.2.1 0 false), (56, RR 30 4 a29 z1.2.2.1 0 false), (64, RR 30 4 a29 z1.2.2.2.1 0 false), (80, RR 30 4 a29 (List.set z1.2.2.2.2.1 x18 (S29.mk x19.f0 x19.f1 (subI .i64 x15 x17.f0) x19.f3)) 0 false)] 149) ?_
          exact pL
        · refine gD 15 31 (rg Try.f40 15) [0, 1, 2, 3, 4, 5, 6, 7, 8, 9, 10, 11, 12, 13, 14, 15, 16, 17, 18, 19, 20, 21, 22, 23, 24, 25, 26, 27, 28, 29, 30, 31, 32] ?_
          refine dg 3 [(some 82, qe (.own 80 0)), (some 83, qe (.own 40 0)), (some 84, qe (I z1.2.2.2.2.2))] ?_
          refine dv 85 (mkE [(84, I z1.2.2.2.2.2), (83, .own 40 0), (1, .fn 41 [.ia [S p1_c0, I p1_c1, I p1_c2, LL a31 p1_c3] 0, .ia [S p1_c4, I p1_c5, I p1_c6, I p1_c7, I p1_c8, I p1_c9] 0]), (5, .own 40 0), (6, .own 48 0), (7, .own 56 0), (8, .own 64 0), (9, I z0.2.2.2.2), (10, .own 80 0), (11, I z1.2.2.2.2.2), (12, I (subI .i64 (lenL z1.2.2.2.2.1) 1)), (66, B (eqI (addI .i64 x9.f0 x11.f2) x13))] [(40, RR 3 1 I z1.1 0 false), (48, RR 3 1 I z1.2.1 0 false), (56, RR 30 4 a29 z1.2.2.1 0 false), (64, RR 30 4 a29 z1.2.2.2.1 0 false), (80, RR 30 4 a29 z1.2.2.2.2.1 0 false)] 149) (addrOE 75 3 1 40 0 false I .i64 z1.1 z1.2.2.2.2.2) (fun x20 => ?_)
          refine dv 86 (mkE [(85, .oa 40 0 x20 0), (84, I z1.2.2.2.2.2), (83, .own 40 0), (1, .fn 41 [.ia [S p1_c0, I p1_c1, I p1_c2, LL a31 p1_c3] 0, .ia [S p1_c4, I p1_c5, I p1_c6, I p1_c7, I p1_c8, I p1_c9] 0]), (5, .own 40 0), (6, .own 48 0), (7, .own 56 0), (8, .own 64 0), (9, I z0.2.2.2.2), (10, .own 80 0), (11, I z1.2.2.2.2.2), (12, I (subI .i64 (lenL z1.2.2.2.2.1) 1)), (66, B (eqI (addI .i64 x9.f0 x11.f2) x13))] [(40, RR 3 1 I z1.1 0 false), (48, RR 3 1 I z1.2.1 0 false), (56, RR 30 4 a29 z1.2.2.1 0 false), (64, RR 30 4 a29 z1.2.2.2.1 0 false), (80, RR 30 4 a29 z1.2.2.2.2.1 0 false)] 149) (loadOE 3 40 0 x20 0 3 1 1 false false I (fun q : Int => I q) z1.1) (fun x21 => ?_)
          refine dg 7 [(some 82, qe (.own 80 0)), (some 83, qe (.own 40 0)), (some 84, qe (I z1.2.2.2.2.2)), (some 85, qe (.oa 40 0 x20 0)), (some 86, qe (I x21)), (some 87, qe (.own 48 0)), (some 88, qe (I z0.2.2.2.2))] ?_
          refine dv 89 (mkE [(88, I z0.2.2.2.2), (87, .own 48 0), (1, .fn 41 [.ia [S p1_c0, I p1_c1, I p1_c2, LL a31 p1_c3] 0, .ia [S p1_c4, I p1_c5, I p1_c6, I p1_c7, I p1_c8, I p1_c9] 0]), (5, .own 40 0), (6, .own 48 0), (7, .own 56 0), (8, .own 64 0), (9, I z0.2.2.2.2), (10, .own 80 0), (11, I z1.2.2.2.2.2), (12, I (subI .i64 (lenL z1.2.2.2.2.1) 1)), (66, B (eqI (addI .i64 x9.f0 x11.f2) x13))] [(40, RR 3 1 I z1.1 0 false), (48, RR 3 1 I z1.2.1 0 false), (56, RR 30 4 a29 z1.2.2.1 0 false), (64, RR 30 4 a29 z1.2.2.2.1 0 false), (80, RR 30 4 a29 z1.2.2.2.2.1 0 false)] 149) (addrOE 75 3 1 48 0 false I .i64 z1.2.1 z0.2.2.2.2) (fun x22 => ?_)
          refine dv 90 (mkE [(89, .oa 48 0 x22 0), (88, I z0.2.2.2.2), (87, .own 48 0), (1, .fn 41 [.ia [S p1_c0, I p1_c1, I p1_c2, LL a31 p1_c3] 0, .ia [S p1_c4, I p1_c5, I p1_c6, I p1_c7, I p1_c8, I p1_c9] 0]), (5, .own 40 0), (6, .own 48 0), (7, .own 56 0), (8, .own 64 0), (9, I z0.2.2.2.2), (10, .own 80 0), (11, I z1.2.2.2.2.2), (12, I (subI .i64 (lenL z1.2.2.2.2.1) 1)), (66, B (eqI (addI .i64 x9.f0 x11.f2) x13))] [(40, RR 3 1 I z1.1 0 false), (48, RR 3 1 I z1.2.1 0 false), (56, RR 30 4 a29 z1.2.2.1 0 false), (64, RR 30 4 a29 z1.2.2.2.1 0 false), (80, RR 30 4 a29 z1.2.2.2.2.1 0 false)] 149) (loadOE 3 48 0 x22 0 3 1 1 false false I (fun q : Int => I q) z1.2.1) (fun x23 => ?_)
          refine dg 12 [(some 82, qe (.own 80 0)), (some 83, qe (.own 40 0)), (some 84, qe (I z1.2.2.2.2.2)), (some 85, qe (.oa 40 0 x20 0)), (some 86, qe (I x21)), (some 87, qe (.own 48 0)), (some 88, qe (I z0.2.2.2.2)), (some 89, qe (.oa 48 0 x22 0)), (some 90, qe (I x23)), (some 91, qe (.own 40 0)), (some 92, qe (I z1.2.2.2.2.2)), (some 93, qe (I (addI .i64 z1.2.2.2.2.2 1)))] ?_
          refine dv 94 (mkE [(93, I (addI .i64 z1.2.2.2.2.2 1)), (92, I z1.2.2.2.2.2), (91, .own 40 0), (1, .fn 41 [.ia [S p1_c0, I p1_c1, I p1_c2, LL a31 p1_c3] 0, .ia [S p1_c4, I p1_c5, I p1_c6, I p1_c7, I p1_c8, I p1_c9] 0]), (5, .own 40 0), (6, .own 48 0), (7, .own 56 0), (8, .own 64 0), (9, I z0.2.2.2.2), (10, .own 80 0), (11, I z1.2.2.2.2.2), (12, I (subI .i64 (lenL z1.2.2.2.2.1) 1)), (66, B (eqI (addI .i64 x9.f0 x11.f2) x13))] [(40, RR 3 1 I z1.1 0 false), (48, RR 3 1 I z1.2.1 0 false), (56, RR 30 4 a29 z1.2.2.1 0 false), (64, RR 30 4 a29 z1.2.2.2.1 0 false), (80, RR 30 4 a29 z1.2.2.2.2.1 0 false)] 149) (addrOE 75 3 1 40 0 false I .i64 z1.1 (addI .i64 z1.2.2.2.2.2 1)) (fun x24 => ?_)
          refine dv 95 (mkE [(94, .oa 40 0 x24 0), (93, I (addI .i64 z1.2.2.2.2.2 1)), (92, I z1.2.2.2.2.2), (91, .own 40 0), (1, .fn 41 [.ia [S p1_c0, I p1_c1, I p1_c2, LL a31 p1_c3] 0, .ia [S p1_c4, I p1_c5, I p1_c6, I p1_c7, I p1_c8, I p1_c9] 0]), (5, .own 40 0), (6, .own 48 0), (7, .own 56 0), (8, .own 64 0), (9, I z0.2.2.2.2), (10, .own 80 0), (11, I z1.2.2.2.2.2), (12, I (subI .i64 (lenL z1.2.2.2.2.1) 1)), (66, B (eqI (addI .i64 x9.f0 x11.f2) x13))] [(40, RR 3 1 I z1.1 0 false), (48, RR 3 1 I z1.2.1 0 false), (56, RR 30 4 a29 z1.2.2.1 0 false), (64, RR 30 4 a29 z1.2.2.2.1 0 false), (80, RR 30 4 a29 z1.2.2.2.2.1 0 false)] 149) (loadOE 3 40 0 x24 0 3 1 1 false false I (fun q : Int => I q) z1.1) (fun x25 => ?_)
          refine dg 16 [(some 82, qe (.own 80 0)), (some 83, qe (.own 40 0)), (some 84, qe (I z1.2.2.2.2.2)), (some 85, qe (.oa 40 0 x20 0)), (some 86, qe (I x21)), (some 87, qe (.own 48 0)), (some 88, qe (I z0.2.2.2.2)), (some 89, qe (.oa 48 0 x22 0)), (some 90, qe (I x23)), (some 91, qe (.own 40 0)), (some 92, qe (I z1.2.2.2.2.2)), (some 93, qe (I (addI .i64 z1.2.2.2.2.2 1))), (some 94, qe (.oa 40 0 x24 0)), (some 95, qe (I x25)), (some 96, qe (.own 40 0)), (some 97, qe (I z1.2.2.2.2.2))] ?_
          refine dv 98 (mkE [(97, I z1.2.2.2.2.2), (96, .own 40 0), (1, .fn 41 [.ia [S p1_c0, I p1_c1, I p1_c2, LL a31 p1_c3] 0, .ia [S p1_c4, I p1_c5, I p1_c6, I p1_c7, I p1_c8, I p1_c9] 0]), (5, .own 40 0), (6, .own 48 0), (7, .own 56 0), (8, .own 64 0), (9, I z0.2.2.2.2), (10, .own 80 0), (11, I z1.2.2.2.2.2), (12, I (subI .i64 (lenL z1.2.2.2.2.1) 1)), (66, B (eqI (addI .i64 x9.f0 x11.f2) x13))] [(40, RR 3 1 I z1.1 0 false), (48, RR 3 1 I z1.2.1 0 false), (56, RR 30 4 a29 z1.2.2.1 0 false), (64, RR 30 4 a29 z1.2.2.2.1 0 false), (80, RR 30 4 a29 z1.2.2.2.2.1 0 false)] 149) (addrOE 75 3 1 40 0 false I .i64 z1.1 z1.2.2.2.2.2) (fun x26 => ?_)
          refine dv 99 (mkE [(98, .oa 40 0 x26 0), (97, I z1.2.2.2.2.2), (96, .own 40 0), (1, .fn 41 [.ia [S p1_c0, I p1_c1, I p1_c2, LL a31 p1_c3] 0, .ia [S p1_c4, I p1_c5, I p1_c6, I p1_c7, I p1_c8, I p1_c9] 0]), (5, .own 40 0), (6, .own 48 0), (7, .own 56 0), (8, .own 64 0), (9, I z0.2.2.2.2), (10, .own 80 0), (11, I z1.2.2.2.2.2), (12, I (subI .i64 (lenL z1.2.2.2.2.1) 1)), (66, B (eqI (addI .i64 x9.f0 x11.f2) x13))] [(40, RR 3 1 I z1.1 0 false), (48, RR 3 1 I z1.2.1 0 false), (56, RR 30 4 a29 z1.2.2.1 0 false), (64, RR 30 4 a29 z1.2.2.2.1 0 false), (80, RR 30 4 a29 z1.2.2.2.2.1 0 false)] 149) (loadOE 3 40 0 x26 0 3 1 1 false false I (fun q : Int => I q) z1.1) (fun x27 => ?_)
          refine dg 22 [(some 82, qe (.own 80 0)), (some 83, qe (.own 40 0)), (some 84, qe (I z1.2.2.2.2.2)), (some 85, qe (.oa 40 0 x20 0)), (some 86, qe (I x21)), (some 87, qe (.own 48 0)), (some 88, qe (I z0.2.2.2.2)), (some 89, qe (.oa 48 0 x22 0)), (some 90, qe (I x23)), (some 91, qe (.own 40 0)), (some 92, qe (I z1.2.2.2.2.2)), (some 93, qe (I (addI .i64 z1.2.2.2.2.2 1))), (some 94, qe (.oa 40 0 x24 0)), (some 95, qe (I x25)), (some 96, qe (.own 40 0)), (some 97, qe (I z1.2.2.2.2.2)), (some 98, qe (.oa 40 0 x26 0)), (some 99, qe (I x27)), (some 100, qe (I (subI .i64 x25 x27))), (some 101, qe (.own 48 0)), (some 102, qe (I z0.2.2.2.2)), (some 103, qe (I (addI .i64 z0.2.2.2.2 1)))] ?_
          refine dv 104 (mkE [(103, I (addI .i64 z0.2.2.2.2 1)), (102, I z0.2.2.2.2), (101, .own 48 0), (1, .fn 41 [.ia [S p1_c0, I p1_c1, I p1_c2, LL a31 p1_c3] 0, .ia [S p1_c4, I p1_c5, I p1_c6, I p1_c7, I p1_c8, I p1_c9] 0]), (5, .own 40 0), (6, .own 48 0), (7, .own 56 0), (8, .own 64 0), (9, I z0.2.2.2.2), (10, .own 80 0), (11, I z1.2.2.2.2.2), (12, I (subI .i64 (lenL z1.2.2.2.2.1) 1)), (66, B (eqI (addI .i64 x9.f0 x11.f2) x13))] [(40, RR 3 1 I z1.1 0 false), (48, RR 3 1 I z1.2.1 0 false), (56, RR 30 4 a29 z1.2.2.1 0 false), (64, RR 30 4 a29 z1.2.2.2.1 0 false), (80, RR 30 4 a29 z1.2.2.2.2.1 0 false)] 149) (addrOE 75 3 1 48 0 false I .i64 z1.2.1 (addI .i64 z0.2.2.2.2 1)) (fun x28 => ?_)
          refine dv 105 (mkE [(104, .oa 48 0 x28 0), (103, I (addI .i64 z0.2.2.2.2 1)), (102, I z0.2.2.2.2), (101, .own 48 0), (1, .fn 41 [.ia [S p1_c0, I p1_c1, I p1_c2, LL a31 p1_c3] 0, .ia [S p1_c4, I p1_c5, I p1_c6, I p1_c7, I p1_c8, I p1_c9] 0]), (5, .own 40 0), (6, .own 48 0), (7, .own 56 0), (8, .own 64 0), (9, I z0.2.2.2.2), (10, .own 80 0), (11, I z1.2.2.2.2.2), (12, I (subI .i64 (lenL z1.2.2.2.2.1) 1)), (66, B (eqI (addI .i64 x9.f0 x11.f2) x13))] [(40, RR 3 1 I z1.1 0 false), (48, RR 3 1 I z1.2.1 0 false), (56, RR 30 4 a29 z1.2.2.1 0 false), (64, RR 30 4 a29 z1.2.2.2.1 0 false), (80, RR 30 4 a29 z1.2.2.2.2.1 0 false)] 149) (loadOE 3 48 0 x28 0 3 1 1 false false I (fun q : Int => I q) z1.2.1) (fun x29 => ?_)
          refine dg 26 [(some 82, qe (.own 80 0)), (some 83, qe (.own 40 0)), (some 84, qe (I z1.2.2.2.2.2)), (some 85, qe (.oa 40 0 x20 0)), (some 86, qe (I x21)), (some 87, qe (.own 48 0)), (some 88, qe (I z0.2.2.2.2)), (some 89, qe (.oa 48 0 x22 0)), (some 90, qe (I x23)), (some 91, qe (.own 40 0)), (some 92, qe (I z1.2.2.2.2.2)), (some 93, qe (I (addI .i64 z1.2.2.2.2.2 1))), (some 94, qe (.oa 40 0 x24 0)), (some 95, qe (I x25)), (some 96, qe (.own 40 0)), (some 97, qe (I z1.2.2.2.2.2)), (some 98, qe (.oa 40 0 x26 0)), (some 99, qe (I x27)), (some 100, qe (I (subI .i64 x25 x27))), (some 101, qe (.own 48 0)), (some 102, qe (I z0.2.2.2.2)), (some 103, qe (I (addI .i64 z0.2.2.2.2 1))), (some 104, qe (.oa 48 0 x28 0)), (some 105, qe (I x29)), (some 106, qe (.own 48 0)), (some 107, qe (I z0.2.2.2.2))] ?_
          refine dv 108 (mkE [(107, I z0.2.2.2.2), (106, .own 48 0), (1, .fn 41 [.ia [S p1_c0, I p1_c1, I p1_c2, LL a31 p1_c3] 0, .ia [S p1_c4, I p1_c5, I p1_c6, I p1_c7, I p1_c8, I p1_c9] 0]), (5, .own 40 0), (6, .own 48 0), (7, .own 56 0), (8, .own 64 0), (9, I z0.2.2.2.2), (10, .own 80 0), (11, I z1.2.2.2.2.2), (12, I (subI .i64 (lenL z1.2.2.2.2.1) 1)), (66, B (eqI (addI .i64 x9.f0 x11.f2) x13))] [(40, RR 3 1 I z1.1 0 false), (48, RR 3 1 I z1.2.1 0 false), (56, RR 30 4 a29 z1.2.2.1 0 false), (64, RR 30 4 a29 z1.2.2.2.1 0 false), (80, RR 30 4 a29 z1.2.2.2.2.1 0 false)] 149) (addrOE 75 3 1 48 0 false I .i64 z1.2.1 z0.2.2.2.2) (fun x30 => ?_)
          refine dv 109 (mkE [(108, .oa 48 0 x30 0), (107, I z0.2.2.2.2), (106, .own 48 0), (1, .fn 41 [.ia [S p1_c0, I p1_c1, I p1_c2, LL a31 p1_c3] 0, .ia [S p1_c4, I p1_c5, I p1_c6, I p1_c7, I p1_c8, I p1_c9] 0]), (5, .own 40 0), (6, .own 48 0), (7, .own 56 0), (8, .own 64 0), (9, I z0.2.2.2.2), (10, .own 80 0), (11, I z1.2.2.2.2.2), (12, I (subI .i64 (lenL z1.2.2.2.2.1) 1)), (66, B (eqI (addI .i64 x9.f0 x11.f2) x13))] [(40, RR 3 1 I z1.1 0 false), (48, RR 3 1 I z1.2.1 0 false), (56, RR 30 4 a29 z1.2.2.1 0 false), (64, RR 30 4 a29 z1.2.2.2.1 0 false), (80, RR 30 4 a29 z1.2.2.2.2.1 0 false)] 149) (loadOE 3 48 0 x30 0 3 1 1 false false I (fun q : Int => I q) z1.2.1) (fun x31 => ?_)
          refine dg 31 [(some 82, qe (.own 80 0)), (some 83, qe (.own 40 0)), (some 84, qe (I z1.2.2.2.2.2)), (some 85, qe (.oa 40 0 x20 0)), (some 86, qe (I x21)), (some 87, qe (.own 48 0)), (some 88, qe (I z0.2.2.2.2)), (some 89, qe (.oa 48 0 x22 0)), (some 90, qe (I x23)), (some 91, qe (.own 40 0)), (some 92, qe (I z1.2.2.2.2.2)), (some 93, qe (I (addI .i64 z1.2.2.2.2.2 1))), (some 94, qe (.oa 40 0 x24 0)), (some 95, qe (I x25)), (some 96, qe (.own 40 0)), (some 97, qe (I z1.2.2.2.2.2)), (some 98, qe (.oa 40 0 x26 0)), (some 99, qe (I x27)), (some 100, qe (I (subI .i64 x25 x27))), (some 101, qe (.own 48 0)), (some 102, qe (I z0.2.2.2.2)), (some 103, qe (I (addI .i64 z0.2.2.2.2 1))), (some 104, qe (.oa 48 0 x28 0)), (some 105, qe (I x29)), (some 106, qe (.own 48 0)), (some 107, qe (I z0.2.2.2.2)), (some 108, qe (.oa 48 0 x30 0)), (some 109, qe (I x31)), (some 110, qe (I (subI .i64 x29 x31))), (some 111, qe (.agg [I x21, I x23, I (subI .i64 x25 x27), I (subI .i64 x29 x31)])), (some 112, { e := { val := .own 896 0, news := [(896, RR 30 4 a29 ([(S29.mk x21 x23 (subI .i64 x25 x27) (subI .i64 x29 x31))] : List S29) 0 false)] } })] ?_
          refine de (mkE [(112, .own 896 0), (111, .agg [I x21, I x23, I (subI .i64 x25 x27), I (subI .i64 x29 x31)]), (110, I (subI .i64 x29 x31)), (109, I x31), (108, .oa 48 0 x30 0), (107, I z0.2.2.2.2), (106, .own 48 0), (105, I x29), (104, .oa 48 0 x28 0), (103, I (addI .i64 z0.2.2.2.2 1)), (102, I z0.2.2.2.2), (101, .own 48 0), (100, I (subI .i64 x25 x27)), (99, I x27), (98, .oa 40 0 x26 0), (97, I z1.2.2.2.2.2), (96, .own 40 0), (95, I x25), (94, .oa 40 0 x24 0), (93, I (addI .i64 z1.2.2.2.2.2 1)), (92, I z1.2.2.2.2.2), (91, .own 40 0), (90, I x23), (89, .oa 48 0 x22 0), (88, I z0.2.2.2.2), (87, .own 48 0), (86, I x21), (85, .oa 40 0 x20 0), (84, I z1.2.2.2.2.2), (83, .own 40 0), (82, .own 80 0), (1, .fn 41 [.ia [S p1_c0, I p1_c1, I p1_c2, LL a31 p1_c3] 0, .ia [S p1_c4, I p1_c5, I p1_c6, I p1_c7, I p1_c8, I p1_c9] 0]), (5, .own 40 0), (6, .own 48 0), (7, .own 56 0), (8, .own 64 0), (9, I z0.2.2.2.2), (10, .own 80 0), (11, I z1.2.2.2.2.2), (12, I (subI .i64 (lenL z1.2.2.2.2.1) 1)), (66, B (eqI (addI .i64 x9.f0 x11.f2) x13))] [(896, RR 30 4 a29 ([(S29.mk x21 x23 (subI .i64 x25 x27) (subI .i64 x29 x31))] : List S29) 0 false), (40, RR 3 1 I z1.1 0 false), (48, RR 3 1 I z1.2.1 0 false), (56, RR 30 4 a29 z1.2.2.1 0 false), (64, RR 30 4 a29 z1.2.2.2.1 0 false), (80, RR 30 4 a29 z1.2.2.2.2.1 0 false)] 149) ?_
          refine mo (some 113) (apO 59 30 4 32 80 a29 0 [896] (y := .own 896 0) (l2 := ([(S29.mk x21 x23 (subI .i64 x25 x27) (subI .i64 x29 x31))] : List S29))) (fun x32 => ?_)
          refine se (mkE [(1, .fn 41 [.ia [S p1_c0, I p1_c1, I p1_c2, LL a31 p1_c3] 0, .ia [S p1_c4, I p1_c5, I p1_c6, I p1_c7, I p1_c8, I p1_c9] 0]), (5, .own 40 0), (6, .own 48 0), (7, .own 56 0), (8, .own 64 0), (9, I z0.2.2.2.2), (10, .own 80 1), (11, I z1.2.2.2.2.2)] [(40, RR 3 1 I z1.1 0 false), (48, RR 3 1 I z1.2.1 0 false), (56, RR 30 4 a29 z1.2.2.1 0 false), (64, RR 30 4 a29 z1.2.2.2.1 0 false), (80, RR 30 4 a29 x32 1 false)] 149) ?_
          refine pB ?_
          refine pN ?_
          refine pS ?_
          refine gR 10 (rg Try.f40 10) ?_
          refine se (mkE [(1, .fn 41 [.ia [S p1_c0, I p1_c1, I p1_c2, LL a31 p1_c3] 0, .ia [S p1_c4, I p1_c5, I p1_c6, I p1_c7, I p1_c8, I p1_c9] 0]), (5, .own 40 0), (6, .own 48 0), (7, .own 56 0), (8, .own 64 0), (9, I z0.2.2.2.2), (10, .own 80 1), (11, I (addI .i64 z1.2.2.2.2.2 1))] [(40, RR 3 1 I z1.1 0 false), (48, RR 3 1 I z1.2.1 0 false), (56, RR 30 4 a29 z1.2.2.1 0 false), (64, RR 30 4 a29 z1.2.2.2.1 0 false), (80, RR 30 4 a29 x32 1 false)] 149) ?_
          exact pL
      · refine dg 20 [(some 47, qe (I (subI .i64 (lenL z1.2.2.2.2.1) 1))), (some 48, qe (B (leI 0 (subI .i64 (lenL z1.2.2.2.2.1) 1)))), (some 49, qe (B false)), (some 50, qe (.und)), (some 51, qe (.und)), (some 52, qe (.und)), (some 53, qe (.und)), (some 54, qe (.und)), (some 55, qe (.und)), (some 56, qe (.und)), (some 57, qe (.und)), (some 58, qe (.und)), (some 59, qe (.und)), (some 60, qe (.und)), (some 61, qe (.und)), (some 62, qe (.und)), (some 63, qe (.und)), (some 64, qe (.und)), (some 65, qe (.und)), (some 66, qe (B false))] ?_
        refine de (mkE [(66, B false), (65, .und), (64, .und), (63, .und), (62, .und), (61, .und), (60, .und), (59, .und), (58, .und), (57, .und), (56, .und), (55, .und), (54, .und), (53, .und), (52, .und), (51, .und), (50, .und), (49, B false), (48, B (leI 0 (subI .i64 (lenL z1.2.2.2.2.1) 1))), (47, I (subI .i64 (lenL z1.2.2.2.2.1) 1)), (1, .fn 41 [.ia [S p1_c0, I p1_c1, I p1_c2, LL a31 p1_c3] 0, .ia [S p1_c4, I p1_c5, I p1_c6, I p1_c7, I p1_c8, I p1_c9] 0]), (5, .own 40 0), (6, .own 48 0), (7, .own 56 0), (8, .own 64 0), (9, I z0.2.2.2.2), (10, .own 80 0), (11, I z1.2.2.2.2.2), (12, I (subI .i64 (lenL z1.2.2.2.2.1) 1))] [(40, RR 3 1 I z1.1 0 false), (48, RR 3 1 I z1.2.1 0 false), (56, RR 30 4 a29 z1.2.2.1 0 false), (64, RR 30 4 a29 z1.2.2.2.1 0 false), (80, RR 30 4 a29 z1.2.2.2.2.1 0 false)] 149) ?_
        refine se (mkE [(1, .fn 41 [.ia [S p1_c0, I p1_c1, I p1_c2, LL a31 p1_c3] 0, .ia [S p1_c4, I p1_c5, I p1_c6, I p1_c7, I p1_c8, I p1_c9] 0]), (5, .own 40 0), (6, .own 48 0), (7, .own 56 0), (8, .own 64 0), (9, I z0.2.2.2.2), (10, .own 80 0), (11, I z1.2.2.2.2.2), (12, I (subI .i64 (lenL z1.2.2.2.2.1) 1)), (66, B false)] [(40, RR 3 1 I z1.1 0 false), (48, RR 3 1 I z1.2.1 0 false), (56, RR 30 4 a29 z1.2.2.1 0 false), (64, RR 30 4 a29 z1.2.2.2.1 0 false), (80, RR 30 4 a29 z1.2.2.2.2.1 0 false)] 149) ?_
        refine pN ?_
        refine pS ?_
        refine gF (.tmp 66) ?_
        refine gD 15 31 (rg Try.f40 15) [0, 1, 2, 3, 4, 5, 6, 7, 8, 9, 10, 11, 12, 13, 14, 15, 16, 17, 18, 19, 20, 21, 22, 23, 24, 25, 26, 27, 28, 29, 30, 31, 32] ?_
        refine dg 3 [(some 82, qe (.own 80 0)), (some 83, qe (.own 40 0)), (some 84, qe (I z1.2.2.2.2.2))] ?_
        refine dv 85 (mkE [(84, I z1.2.2.2.2.2), (83, .own 40 0), (1, .fn 41 [.ia [S p1_c0, I p1_c1, I p1_c2, LL a31 p1_c3] 0, .ia [S p1_c4, I p1_c5, I p1_c6, I p1_c7, I p1_c8, I p1_c9] 0]), (5, .own 40 0), (6, .own 48 0), (7, .own 56 0), (8, .own 64 0), (9, I z0.2.2.2.2), (10, .own 80 0), (11, I z1.2.2.2.2.2), (12, I (subI .i64 (lenL z1.2.2.2.2.1) 1)), (66, B false)] [(40, RR 3 1 I z1.1 0 false), (48, RR 3 1 I z1.2.1 0 false), (56, RR 30 4 a29 z1.2.2.1 0 false), (64, RR 30 4 a29 z1.2.2.2.1 0 false), (80, RR 30 4 a29 z1.2.2.2.2.1 0 false)] 149) (addrOE 75 3 1 40 0 false I .i64 z1.1 z1.2.2.2.2.2) (fun x33 => ?_)
        refine dv 86 (mkE [(85, .oa 40 0 x33 0), (84, I z1.2.2.2.2.2), (83, .own 40 0), (1, .fn 41 [.ia [S p1_c0, I p1_c1, I p1_c2, LL a31 p1_c3] 0, .ia [S p1_c4, I p1_c5, I p1_c6, I p1_c7, I p1_c8, I p1_c9] 0]), (5, .own 40 0), (6, .own 48 0), (7, .own 56 0), (8, .own 64 0), (9, I z0.2.2.2.2), (10, .own 80 0), (11, I z1.2.2.2.2.2), (12, I (subI .i64 (lenL z1.2.2.2.2.1) 1)), (66, B false)] [(40, RR 3 1 I z1.1 0 false), (48, RR 3 1 I z1.2.1 0 false), (56, RR 30 4 a29 z1.2.2.1 0 false), (64, RR 30 4 a29 z1.2.2.2.1 0 false), (80, RR 30 4 a29 z1.2.2.2.2.1 0 false)] 149) (loadOE 3 40 0 x33 0 3 1 1 false false I (fun q : Int => I q) z1.1) (fun x34 => ?_)
        refine dg 7 [(some 82, qe (.own 80 0)), (some 83, qe (.own 40 0)), (some 84, qe (I z1.2.2.2.2.2)), (some 85, qe (.oa 40 0 x33 0)), (some 86, qe (I x34)), (some 87, qe (.own 48 0)), (some 88, qe (I z0.2.2.2.2))] ?_
        refine dv 89 (mkE [(88, I z0.2.2.2.2), (87, .own 48 0), (1, .fn 41 [.ia [S p1_c0, I p1_c1, I p1_c2, LL a31 p1_c3] 0, .ia [S p1_c4, I p1_c5, I p1_c6, I p1_c7, I p1_c8, I p1_c9] 0]), (5, .own 40 0), (6, .own 48 0), (7, .own 56 0), (8, .own 64 0), (9, I z0.2.2.2.2), (10, .own 80 0), (11, I z1.2.2.2.2.2), (12, I (subI .i64 (lenL z1.2.2.2.2.1) 1)), (66, B false)] [(40, RR 3 1 I z1.1 0 false), (48, RR 3 1 I z1.2.1 0 false), (56, RR 30 4 a29 z1.2.2.1 0 false), (64, RR 30 4 a29 z1.2.2.2.1 0 false), (80, RR 30 4 a29 z1.2.2.2.2.1 0 false)] 149) (addrOE 75 3 1 48 0 false I .i64 z1.2.1 z0.2.2.2.2) (fun x35 => ?_)
        refine dv 90 (mkE [(89, .oa 48 0 x35 0), (88, I z0.2.2.2.2), (87, .own 48 0), (1, .fn 41 [.ia [S p1_c0, I p1_c1, I p1_c2, LL a31 p1_c3] 0, .ia [S p1_c4, I p1_c5, I p1_c6, I p1_c7, I p1_c8, I p1_c9] 0]), (5, .own 40 0), (6, .own 48 0), (7, .own 56 0), (8, .own 64 0), (9, I z0.2.2.2.2), (10, .own 80 0), (11, I z1.2.2.2.2.2), (12, I (subI .i64 (lenL z1.2.2.2.2.1) 1)), (66, B false)] [(40, RR 3 1 I z1.1 0 false), (48, RR 3 1 I z1.2.1 0 false), (56, RR 30 4 a29 z1.2.2.1 0 false), (64, RR 30 4 a29 z1.2.2.2.1 0 false), (80, RR 30 4 a29 z1.2.2.2.2.1 0 false)] 149) (loadOE 3 48 0 x35 0 3 1 1 false false I (fun q : Int => I q) z1.2.1) (fun x36 => ?_)
        refine dg 12 [(some 82, qe (.own 80 0)), (some 83, qe (.own 40 0)), (some 84, qe (I z1.2.2.2.2.2)), (some 85, qe (.oa 40 0 x33 0)), (some 86, qe (I x34)), (some 87, qe (.own 48 0)), (some 88, qe (I z0.2.2.2.2)), (some 89, qe (.oa 48 0 x35 0)), (some 90, qe (I x36)), (some 91, qe (.own 40 0)), (some 92, qe (I z1.2.2.2.2.2)), (some 93, qe (I (addI .i64 z1.2.2.2.2.2 1)))] ?_
        refine dv 94 (mkE [(93, I (addI .i64 z1.2.2.2.2.2 1)), (92, I z1.2.2.2.2.2), (91, .own 40 0), (1, .fn 41 [.ia [S p1_c0, I p1_c1, I p1_c2, LL a31 p1_c3] 0, .ia [S p1_c4, I p1_c5, I p1_c6, I p1_c7, I p1_c8, I p1_c9] 0]), (5, .own 40 0), (6, .own 48 0), (7, .own 56 0), (8, .own 64 0), (9, I z0.2.2.2.2), (10, .own 80 0), (11, I z1.2.2.2.2.2), (12, I (subI .i64 (lenL z1.2.2.2.2.1) 1)), (66, B false)] [(40, RR 3 1 I z1.1 0 false), (48, RR 3 1 I z1.2.1 0 false), (56, RR 30 4 a29 z1.2.2.1 0 false), (64, RR 30 4 a29 z1.2.2.2.1 0 false), (80, RR 30 4 a29 z1.2.2.2.2.1 0 false)] 149) (addrOE 75 3 1 40 0 false I .i64 z1.1 (addI .i64 z1.2.2.2.2.2 1)) (fun x37 => ?_)
        refine dv 95 (mkE [(94, .oa 40 0 x37 0), (93, I (addI .i64 z1.2.2.2.2.2 1)), (92, I z1.2.2.2.2.2), (91, .own 40 0), (1, .fn 41 [.ia [S p1_c0, I p1_c1, I p1_c2, LL a31 p1_c3] 0, .ia [S p1_c4, I p1_c5, I p1_c6, I p1_c7, I p1_c8, I p1_c9] 0]), (5, .own 40 0), (6, .own 48 0), (7, .own 56 0), (8, .own 64 0), (9, I z0.2.2.2.2), (10, .own 80 0), (11, I z1.2.2.2.2.2), (12, I (subI .i64 (lenL z1.2.2.2.2.1) 1)), (66, B false)] [(40, RR 3 1 I z1.1 0 false), (48, RR 3 1 I z1.2.1 0 false), (56, RR 30 4 a29 z1.2.2.1 0 false), (64, RR 30 4 a29 z1.2.2.2.1 0 false), (80, RR 30 4 a29 z1.2.2.2.2.1 0 false)] 149) (loadOE 3 40 0 x37 0 3 1 1 false false I (fun q : Int => I q) z1.1) (fun x38 => ?_)
        refine dg 16 [(some 82, qe (.own 80 0)), (some 83, qe (.own 40 0)), (some 84, qe (I z1.2.2.2.2.2)), (some 85, qe (.oa 40 0 x33 0)), (some 86, qe (I x34)), (some 87, qe (.own 48 0)), (some 88, qe (I z0.2.2.2.2)), (some 89, qe (.oa 48 0 x35 0)), (some 90, qe (I x36)), (some 91, qe (.own 40 0)), (some 92, qe (I z1.2.2.2.2.2)), (some 93, qe (I (addI .i64 z1.2.2.2.2.2 1))), (some 94, qe (.oa 40 0 x37 0)), (some 95, qe (I x38)), (some 96, qe (.own 40 0)), (some 97, qe (I z1.2.2.2.2.2))] ?_
        refine dv 98 (mkE [(97, I z1.2.2.2.2.2), (96, .own 40 0), (1, .fn 41 [.ia [S p1_c0, I p1_c1, I p1_c2, LL a31 p1_c3] 0, .ia [S p1_c4, I p1_c5, I p1_c6, I p1_c7, I p1_c8, I p1_c9] 0]), (5, .own 40 0), (6, .own 48 0), (7, .own 56 0), (8, .own 64 0), (9, I z0.2.2.2.2), (10, .own 80 0), (11, I z1.2.2.2.2.2), (12, I (subI .i64 (lenL z1.2.2.2.2.1) 1)), (66, B false)] [(40, RR 3 1 I z1.1 0 false), (48, RR 3 1 I z1.2.1 0 false), (56, RR 30 4 a29 z1.2.2.1 0 false), (64, RR 30 4 a29 z1.2.2.2.1 0 false), (80, RR 30 4 a29 z1.2.2.2.2.1 0 false)] 149) (addrOE 75 3 1 40 0 false I .i64 z1.1 z1.2.2.2.2.2) (fun x39 => ?_)
        refine dv 99 (mkE [(98, .oa 40 0 x39 0), (97, I z1.2.2.2.2.2), (96, .own 40 0), (1, .fn 41 [.ia [S p1_c0, I p1_c1, I p1_c2, LL a31 p1_c3] 0, .ia [S p1_c4, I p1_c5, I p1_c6, I p1_c7, I p1_c8, I p1_c9] 0]), (5, .own 40 0), (6, .own 48 0), (7, .own 56 0), (8, .own 64 0), (9, I z0.2.2.2.2), (10, .own 80 0), (11, I z1.2.2.2.2.2), (12, I (subI .i64 (lenL z1.2.2.2.2.1) 1)), (66, B false)] [(40, RR 3 1 I z1.1 0 false), (48, RR 3 1 I z1.2.1 0 false), (56, RR 30 4 a29 z1.2.2.1 0 false), (64, RR 30 4 a29 z1.2.2.2.1 0 false), (80, RR 30 4 a29 z1.2.2.2.2.1 0 false)] 149) (loadOE 3 40 0 x39 0 3 1 1 false false I (fun q : Int => I q) z1.1) (fun x40 => ?_)
        refine dg 22 [(some 82, qe (.own 80 0)), (some 83, qe (.own 40 0)), (some 84, qe (I z1.2.2.2.2.2)), (some 85, qe (.oa 40 0 x33 0)), (some 86, qe (I x34)), (some 87, qe (.own 48 0)), (some 88, qe (I z0.2.2.2.2)), (some 89, qe (.oa 48 0 x35 0)), (some 90, qe (I x36)), (some 91, qe (.own 40 0)), (some 92, qe (I z1.2.2.2.2.2)), (some 93, qe (I (addI .i64 z1.2.2.2.2.2 1))), (some 94, qe (.oa 40 0 x37 0)), (some 95, qe (I x38)), (some 96, qe (.own 40 0)), (some 97, qe (I z1.2.2.2.2.2)), (some 98, qe (.oa 40 0 x39 0)), (some 99, qe (I x40)), (some 100, qe (I (subI .i64 x38 x40))), (some 101, qe (.own 48 0)), (some 102, qe (I z0.2.2.2.2)), (some 103, qe (I (addI .i64 z0.2.2.2.2 1)))] ?_
        refine dv 104 (mkE [(103, I (addI .i64 z0.2.2.2.2 1)), (102, I z0.2.2.2.2), (101, .own 48 0), (1, .fn 41 [.ia [S p1_c0, I p1_c1, I p1_c2, LL a31 p1_c3] 0, .ia [S p1_c4, I p1_c5, I p1_c6, I p1_c7, I p1_c8, I p1_c9] 0]), (5, .own 40 0), (6, .own 48 0), (7, .own 56 0), (8, .own 64 0), (9, I z0.2.2.2.2), (10, .own 80 0), (11, I z1.2.2.2.2.2), (12, I (subI .i64 (lenL z1.2.2.2.2.1) 1)), (66, B false)] [(40, RR 3 1 I z1.1 0 false), (48, RR 3 1 I z1.2.1 0 false), (56, RR 30 4 a29 z1.2.2.1 0 false), (64, RR 30 4 a29 z1.2.2.2.1 0 false), (80, RR 30 4 a29 z1.2.2.2.2.1 0 false)] 149) (addrOE 75 3 1 48 0 false I .i64 z1.2.1 (addI .i64 z0.2.2.2.2 1)) (fun x41 => ?_)
        refine dv 105 (mkE [(104, .oa 48 0 x41 0), (103, I (addI .i64 z0.2.2.2.2 1)), (102, I z0.2.2.2.2), (101, .own 48 0), (1, .fn 41 [.ia [S p1_c0, I p1_c1, I p1_c2, LL a31 p1_c3] 0, .ia [S p1_c4, I p1_c5, I p1_c6, I p1_c7, I p1_c8, I p1_c9] 0]), (5, .own 40 0), (6, .own 48 0), (7, .own 56 0), (8, .own 64 0), (9, I z0.2.2.2.2), (10, .own 80 0), (11, I z1.2.2.2.2.2), (12, I (subI .i64 (lenL z1.2.2.2.2.1) 1)), (66, B false)] [(40, RR 3 1 I z1.1 0 false), (48, RR 3 1 I z1.2.1 0 false), (56, RR 30 4 a29 z1.2.2.1 0 false), (64, RR 30 4 a29 z1.2.2.2.1 0 false), (80, RR 30 4 a29 z1.2.2.2.2.1 0 false)] 149) (loadOE 3 48 0 x41 0 3 1 1 false false I (fun q : Int => I q) z1.2.1) (fun x42 => ?_)
        refine dg 26 [(some 82, qe (.own 80 0)), (some 83, qe (.own 40 0)), (some 84, qe (I z1.2.2.2.2.2)), (some 85, qe (.oa 40 0 x33 0)), (some 86, qe (I x34)), (some 87, qe (.own 48 0)), (some 88, qe (I z0.2.2.2.2)), (some 89, qe (.oa 48 0 x35 0)), (some 90, qe (I x36)), (some 91, qe (.own 40 0)), (some 92, qe (I z1.2.2.2.2.2)), (some 93, qe (I (addI .i64 z1.2.2.2.2.2 1))), (some 94, qe (.oa 40 0 x37 0)), (some 95, qe (I x38)), (some 96, qe (.own 40 0)), (some 97, qe (I z1.2.2.2.2.2)), (some 98, qe (.oa 40 0 x39 0)), (some 99, qe (I x40)), (some 100, qe (I (subI .i64 x38 x40))), (some 101, qe (.own 48 0)), (some 102, qe (I z0.2.2.2.2)), (some 103, qe (I (addI .i64 z0.2.2.2.2 1))), (some 104, qe (.oa 48 0 x41 0)), (some 105, qe (I x42)), (some 106, qe (.own 48 0)), (some 107, qe (I z0.2.2.2.2))] ?_
        refine dv 108 (mkE [(107, I z0.2.2.2.2), (106, .own 48 0), (1, .fn 41 [.ia [S p1_c0, I p1_c1, I p1_c2, LL a31 p1_c3] 0, .ia [S p1_c4, I p1_c5, I p1_c6, I p1_c7, I p1_c8, I p1_c9] 0]), (5, .own 40 0), (6, .own 48 0), (7, .own 56 0), (8, .own 64 0), (9, I z0.2.2.2.2), (10, .own 80 0), (11, I z1.2.2.2.2.2), (12, I (subI .i64 (lenL z1.2.2.2.2.1) 1)), (66, B false)] [(40, RR 3 1 I z1.1 0 false), (48, RR 3 1 I z1.2.1 0 false), (56, RR 30 4 a29 z1.2.2.1 0 false), (64, RR 30 4 a29 z1.2.2.2.1 0 false), (80, RR 30 4 a29 z1.2.2.2.2.1 0 false)] 149) (addrOE 75 3 1 48 0 false I .i64 z1.2.1 z0.2.2.2.2) (fun x43 => ?_)
        refine dv 109 (mkE [(108, .oa 48 0 x43 0), (107, I z0.2.2.2.2), (106, .own 48 0), (1, .fn 41 [.ia [S p1_c0, I p1_c1, I p1_c2, LL a31 p1_c3] 0, .ia [S p1_c4, I p1_c5, I p1_c6, I p1_c7, I p1_c8, I p1_c9] 0]), (5, .own 40 0), (6, .own 48 0), (7, .own 56 0), (8, .own 64 0), (9, I z0.2.2.2.2), (10, .own 80 0), (11, I z1.2.2.2.2.2), (12, I (subI .i64 (lenL z1.2.2.2.2.1) 1)), (66, B false)] [(40, RR 3 1 I z1.1 0 false), (48, RR 3 1 I z1.2.1 0 false), (56, RR 30 4 a29 z1.2.2.1 0 false), (64, RR 30 4 a29 z1.2.2.2.1 0 false), (80, RR 30 4 a29 z1.2.2.2.2.1 0 false)] 149) (loadOE 3 48 0 x43 0 3 1 1 false false I (fun q : Int => I q) z1.2.1) (fun x44 => ?_)
        refine dg 31 [(some 82, qe (.own 80 0)), (some 83, qe (.own 40 0)), (some 84, qe (I z1.2.2.2.2.2)), (some 85, qe (.oa 40 0 x33 0)), (some 86, qe (I x34)), (some 87, qe (.own 48 0)), (some 88, qe (I z0.2.2.2.2)), (some 89, qe (.oa 48 0 x35 0)), (some 90, qe (I x36)), (some 91, qe (.own 40 0)), (some 92, qe (I z1.2.2.2.2.2)), (some 93, qe (I (addI .i64 z1.2.2.2.2.2 1))), (some 94, qe (.oa 40 0 x37 0)), (some 95, qe (I x38)), (some 96, qe (.own 40 0)), (some 97, qe (I z1.2.2.2.2.2)), (some 98, qe (.oa 40 0 x39 0)), (some 99, qe (I x40)), (some 100, qe (I (subI .i64 x38 x40))), (some 101, qe (.own 48 0)), (some 102, qe (I z0.2.2.2.2)), (some 103, qe (I (addI .i64 z0.2.2.2.2 1))), (some 104, qe (.oa 48 0 x41 0)), (some 105, qe (I x42)), (some 106, qe (.own 48 0)), (some 107, qe (I z0.2.2.2.2)), (some 108, qe (.oa 48 0 x43 0)), (some 109, qe (I x44)), (some 110, qe (I (subI .i64 x42 x44))), (some 111, qe (.agg [I x34, I x36, I (subI .i64 x38 x40), I (subI .i64 x42 x44)])), (some 112, { e := { val := .own 896 0, news := [(896, RR 30 4 a29 ([(S29.mk x34 x36 (subI .i64 x38 x40) (subI .i64 x42 x44))] : List S29) 0 false)] } })] ?_
        refine de (mkE [(112, .own 896 0), (111, .agg [I x34, I x36, I (subI .i64 x38 x40), I (subI .i64 x42 x44)]), (110, I (subI .i64 x42 x44)), (109, I x44), (108, .oa 48 0 x43 0), (107, I z0.2.2.2.2), (106, .own 48 0), (105, I x42), (104, .oa 48 0 x41 0), (103, I (addI .i64 z0.2.2.2.2 1)), (102, I z0.2.2.2.2), (101, .own 48 0), (100, I (subI .i64 x38 x40)), (99, I x40), (98, .oa 40 0 x39 0), (97, I z1.2.2.2.2.2), (96, .own 40 0), (95, I x38), (94, .oa 40 0 x37 0), (93, I (addI .i64 z1.2.2.2.2.2 1)), (92, I z1.2.2.2.2.2), (91, .own 40 0), (90, I x36), (89, .oa 48 0 x35 0), (88, I z0.2.2.2.2), (87, .own 48 0), (86, I x34), (85, .oa 40 0 x33 0), (84, I z1.2.2.2.2.2), (83, .own 40 0), (82, .own 80 0), (1, .fn 41 [.ia [S p1_c0, I p1_c1, I p1_c2, LL a31 p1_c3] 0, .ia [S p1_c4, I p1_c5, I p1_c6, I p1_c7, I p1_c8, I p1_c9] 0]), (5, .own 40 0), (6, .own 48 0), (7, .own 56 0), (8, .own 64 0), (9, I z0.2.2.2.2), (10, .own 80 0), (11, I z1.2.2.2.2.2), (12, I (subI .i64 (lenL z1.2.2.2.2.1) 1)), (66, B false)] [(896, RR 30 4 a29 ([(S29.mk x34 x36 (subI .i64 x38 x40) (subI .i64 x42 x44))] : List S29) 0 false), (40, RR 3 1 I z1.1 0 false), (48, RR 3 1 I z1.2.1 0 false), (56, RR 30 4 a29 z1.2.2.1 0 false), (64, RR 30 4 a29 z1.2.2.2.1 0 false), (80, RR 30 4 a29 z1.2.2.2.2.1 0 false)] 149) ?_
        refine mo (some 113) (apO 59 30 4 32 80 a29 0 [896] (y := .own 896 0) (l2 := ([(S29.mk x34 x36 (subI .i64 x38 x40) (subI .i64 x42 x44))] : List S29))) (fun x45 => ?_)
        refine se (mkE [(1, .fn 41 [.ia [S p1_c0, I p1_c1, I p1_c2, LL a31 p1_c3] 0, .ia [S p1_c4, I p1_c5, I p1_c6, I p1_c7, I p1_c8, I p1_c9] 0]), (5, .own 40 0), (6, .own 48 0), (7, .own 56 0), (8, .own 64 0), (9, I z0.2.2.2.2), (10, .own 80 1), (11, I z1.2.2.2.2.2)] [(40, RR 3 1 I z1.1 0 false), (48, RR 3 1 I z1.2.1 0 false), (56, RR 30 4 a29 z1.2.2.1 0 false), (64, RR 30 4 a29 z1.2.2.2.1 0 false), (80, RR 30 4 a29 x45 1 false)] 149) ?_
        refine pB ?_
        refine pN ?_
        refine pS ?_
        refine gR 10 (rg Try.f40 10) ?_
        refine se (mkE [(1, .fn 41 [.ia [S p1_c0, I p1_c1, I p1_c2, LL a31 p1_c3] 0, .ia [S p1_c4, I p1_c5, I p1_c6, I p1_c7, I p1_c8, I p1_c9] 0]), (5, .own 40 0), (6, .own 48 0), (7, .own 56 0), (8, .own 64 0), (9, I z0.2.2.2.2), (10, .own 80 1), (11, I (addI .i64 z1.2.2.2.2.2 1))] [(40, RR 3 1 I z1.1 0 false), (48, RR 3 1 I z1.2.1 0 false), (56, RR 30 4 a29 z1.2.2.1 0 false), (64, RR 30 4 a29 z1.2.2.2.1 0 false), (80, RR 30 4 a29 x45 1 false)] 149) ?_
        exact pL
  · refine gX 2 ?_
    exact pL
noncomputable def L40_19 (p1_c0 : ByteArray) (p1_c1 : Int) (p1_c2 : Int) (p1_c3 : (List S31)) (p1_c4 : ByteArray) (p1_c5 : Int) (p1_c6 : Int) (p1_c7 : Int) (p1_c8 : Int) (p1_c9 : Int) (z0 : ((List Int) × (List Int) × (List S29) × (List S29) × Int)) (y46 : (Int × Bool × (List Int) × (List Int) × (List S29) × (List S29) × (List S29))) (z2 : ((List Int) × (List Int) × (List S29) × (List S29) × (List S29) × Int)) : Option (((List Int) × (List Int) × (List S29) × (List S29) × (List S29) × Int) ⊕ (Int × Bool × (List Int) × (List Int) × (List S29) × (List S29) × (List S29))) := (bif (ltI z2.2.2.2.2.2 (lenL y46.2.2.2.2.2.1)) then ((idxO (List.length z2.2.2.2.1) z2.2.2.2.2.2).bind fun x48 => ((getN z2.2.2.2.1 x48).bind fun x49 => ((idxO (List.length z2.2.2.2.2.1) z2.2.2.2.2.2).bind fun x50 => ((getN z2.2.2.2.2.1 x50).bind fun x51 => ((idxO (List.length z2.2.2.2.1) z2.2.2.2.2.2).bind fun x52 => ((getN z2.2.2.2.1 x52).bind fun x53 => (some (.inl (z2.1, z2.2.1, z2.2.2.1, (List.set z2.2.2.2.1 x52 (S29.mk x53.f0 x53.f1 x53.f2 (addI .i64 x49.f3 x51.f3))), z2.2.2.2.2.1, (addI .i64 z2.2.2.2.2.2 1)))))))))) else (some (.inr (z2.2.2.2.2.2, (ltI z2.2.2.2.2.2 (lenL y46.2.2.2.2.2.1)), z2.1, z2.2.1, z2.2.2.1, z2.2.2.2.1, z2.2.2.2.2.1))))
theorem L40_19_ok (C : Callee) (p1_c0 : ByteArray) (p1_c1 : Int) (p1_c2 : Int) (p1_c3 : (List S31)) (p1_c4 : ByteArray) (p1_c5 : Int) (p1_c6 : Int) (p1_c7 : Int) (p1_c8 : Int) (p1_c9 : Int) (z0 : ((List Int) × (List Int) × (List S29) × (List S29) × Int)) (y46 : (Int × Bool × (List Int) × (List Int) × (List S29) × (List S29) × (List S29))) (z2 : ((List Int) × (List Int) × (List S29) × (List S29) × (List S29) × Int)) : runs Try.prog C (cfg.fn 40) (finLoop ((cfg.fn 40).keep 19) ((cfg.fn 40).al 19)) [] (execA Try.prog C (cfg.fn 40) (nr Try.f40 [false, false, true, false, false, true, false, true, true, true, false, false, true, false, false, true, false, true, true, true, true]) ((fun z2 : ((List Int) × (List Int) × (List S29) × (List S29) × (List S29) × Int) => (mkE [(1, .fn 41 [.ia [S p1_c0, I p1_c1, I p1_c2, LL a31 p1_c3] 0, .ia [S p1_c4, I p1_c5, I p1_c6, I p1_c7, I p1_c8, I p1_c9] 0]), (5, .own 40 0), (6, .own 48 0), (7, .own 56 0), (8, .own 64 0), (9, I z0.2.2.2.2), (10, .own 80 0), (124, I (lenL y46.2.2.2.2.2.1)), (125, I z2.2.2.2.2.2)] [(40, RR 3 1 I z2.1 0 false), (48, RR 3 1 I z2.2.1 0 false), (56, RR 30 4 a29 z2.2.2.1 0 false), (64, RR 30 4 a29 z2.2.2.2.1 0 false), (80, RR 30 4 a29 z2.2.2.2.2.1 0 false)] 149)) z2)) = (L40_19 p1_c0 p1_c1 p1_c2 p1_c3 p1_c4 p1_c5 p1_c6 p1_c7 p1_c8 p1_c9 z0 y46 z2).map (Sum.elim (fun z => .inl ((fun z2 : ((List Int) × (List Int) × (List S29) × (List S29) × (List S29) × Int) => (mkE [(1, .fn 41 [.ia [S p1_c0, I p1_c1, I p1_c2, LL a31 p1_c3] 0, .ia [S p1_c4, I p1_c5, I p1_c6, I p1_c7, I p1_c8, I p1_c9] 0]), (5, .own 40 0), (6, .own 48 0), (7, .own 56 0), (8, .own 64 0), (9, I z0.2.2.2.2), (10, .own 80 0), (124, I (lenL y46.2.2.2.2.2.1)), (125, I z2.2.2.2.2.2)] [(40, RR 3 1 I z2.1 0 false), (48, RR 3 1 I z2.2.1 0 false), (56, RR 30 4 a29 z2.2.2.1 0 false), (64, RR 30 4 a29 z2.2.2.2.1 0 false), (80, RR 30 4 a29 z2.2.2.2.2.1 0 false)] 149)) z)) (fun x => .inr ((fun (x : (Int × Bool × (List Int) × (List Int) × (List S29) × (List S29) × (List S29))) => (.exit 4, (mkE [(1, .fn 41 [.ia [S p1_c0, I p1_c1, I p1_c2, LL a31 p1_c3] 0, .ia [S p1_c4, I p1_c5, I p1_c6, I p1_c7, I p1_c8, I p1_c9] 0]), (5, .own 40 0), (6, .own 48 0), (7, .own 56 0), (8, .own 64 0), (9, I z0.2.2.2.2), (10, .own 80 0), (124, I (lenL y46.2.2.2.2.2.1)), (125, I x.1), (126, B x.2.1)] [(40, RR 3 1 I x.2.2.1 0 false), (48, RR 3 1 I x.2.2.2.1 0 false), (56, RR 30 4 a29 x.2.2.2.2.1 0 false), (64, RR 30 4 a29 x.2.2.2.2.2.1 0 false), (80, RR 30 4 a29 x.2.2.2.2.2.2 0 false)] 149))) x))) := by
  unfold L40_19
  refine gS 0 ?_
  refine gR 19 (rg Try.f40 19) ?_
  refine se (mkE [(1, .fn 41 [.ia [S p1_c0, I p1_c1, I p1_c2, LL a31 p1_c3] 0, .ia [S p1_c4, I p1_c5, I p1_c6, I p1_c7, I p1_c8, I p1_c9] 0]), (5, .own 40 0), (6, .own 48 0), (7, .own 56 0), (8, .own 64 0), (9, I z0.2.2.2.2), (10, .own 80 0), (124, I (lenL y46.2.2.2.2.2.1)), (125, I z2.2.2.2.2.2), (126, B (ltI z2.2.2.2.2.2 (lenL y46.2.2.2.2.2.1)))] [(40, RR 3 1 I z2.1 0 false), (48, RR 3 1 I z2.2.1 0 false), (56, RR 30 4 a29 z2.2.2.1 0 false), (64, RR 30 4 a29 z2.2.2.2.1 0 false), (80, RR 30 4 a29 z2.2.2.2.2.1 0 false)] 149) ?_
  refine pN ?_
  refine pS ?_
  refine gS 20 ?_
  refine gC 126 (ltI z2.2.2.2.2.2 (lenL y46.2.2.2.2.2.1)) ?_ ?_
  · refine gK ?_
    refine pN ?_
    refine pS ?_
    refine gS 22 ?_
    refine gB 5 ?_
    refine gS 21 ?_
    refine gR 20 (rg Try.f40 20) ?_
    refine se (mkE [(1, .fn 41 [.ia [S p1_c0, I p1_c1, I p1_c2, LL a31 p1_c3] 0, .ia [S p1_c4, I p1_c5, I p1_c6, I p1_c7, I p1_c8, I p1_c9] 0]), (5, .own 40 0), (6, .own 48 0), (7, .own 56 0), (8, .own 64 0), (9, I z0.2.2.2.2), (10, .own 80 0), (14, I z2.2.2.2.2.2), (124, I (lenL y46.2.2.2.2.2.1)), (125, I z2.2.2.2.2.2)] [(40, RR 3 1 I z2.1 0 false), (48, RR 3 1 I z2.2.1 0 false), (56, RR 30 4 a29 z2.2.2.1 0 false), (64, RR 30 4 a29 z2.2.2.2.1 0 false), (80, RR 30 4 a29 z2.2.2.2.2.1 0 false)] 149) ?_
    refine pN ?_
    refine pS ?_
    refine gD 21 13 (rg Try.f40 21) [0, 1, 2, 3, 4, 5, 6, 7, 8, 9, 10, 11, 12, 13] ?_
    refine dg 2 [(some 128, qe (.own 64 0)), (some 129, qe (I z2.2.2.2.2.2))] ?_
    refine dv 130 (mkE [(129, I z2.2.2.2.2.2), (128, .own 64 0), (1, .fn 41 [.ia [S p1_c0, I p1_c1, I p1_c2, LL a31 p1_c3] 0, .ia [S p1_c4, I p1_c5, I p1_c6, I p1_c7, I p1_c8, I p1_c9] 0]), (5, .own 40 0), (6, .own 48 0), (7, .own 56 0), (8, .own 64 0), (9, I z0.2.2.2.2), (10, .own 80 0), (14, I z2.2.2.2.2.2), (124, I (lenL y46.2.2.2.2.2.1)), (125, I z2.2.2.2.2.2)] [(40, RR 3 1 I z2.1 0 false), (48, RR 3 1 I z2.2.1 0 false), (56, RR 30 4 a29 z2.2.2.1 0 false), (64, RR 30 4 a29 z2.2.2.2.1 0 false), (80, RR 30 4 a29 z2.2.2.2.2.1 0 false)] 149) (addrOE 59 30 4 64 0 false a29 .i64 z2.2.2.2.1 z2.2.2.2.2.2) (fun x48 => ?_)
    refine dg 4 [(some 128, qe (.own 64 0)), (some 129, qe (I z2.2.2.2.2.2)), (some 130, qe (.oa 64 0 x48 0)), (some 131, qe (.oa 64 0 x48 3))] ?_
    refine dv 132 (mkE [(131, .oa 64 0 x48 3), (130, .oa 64 0 x48 0), (129, I z2.2.2.2.2.2), (128, .own 64 0), (1, .fn 41 [.ia [S p1_c0, I p1_c1, I p1_c2, LL a31 p1_c3] 0, .ia [S p1_c4, I p1_c5, I p1_c6, I p1_c7, I p1_c8, I p1_c9] 0]), (5, .own 40 0), (6, .own 48 0), (7, .own 56 0), (8, .own 64 0), (9, I z0.2.2.2.2), (10, .own 80 0), (14, I z2.2.2.2.2.2), (124, I (lenL y46.2.2.2.2.2.1)), (125, I z2.2.2.2.2.2)] [(40, RR 3 1 I z2.1 0 false), (48, RR 3 1 I z2.2.1 0 false), (56, RR 30 4 a29 z2.2.2.1 0 false), (64, RR 30 4 a29 z2.2.2.2.1 0 false), (80, RR 30 4 a29 z2.2.2.2.2.1 0 false)] 149) (loadOE 3 64 0 x48 3 30 4 1 false false a29 (fun q : S29 => I q.f3) z2.2.2.2.1) (fun x49 => ?_)
    refine dg 7 [(some 128, qe (.own 64 0)), (some 129, qe (I z2.2.2.2.2.2)), (some 130, qe (.oa 64 0 x48 0)), (some 131, qe (.oa 64 0 x48 3)), (some 132, qe (I x49.f3)), (some 133, qe (.own 80 0)), (some 134, qe (I z2.2.2.2.2.2))] ?_
    refine dv 135 (mkE [(134, I z2.2.2.2.2.2), (133, .own 80 0), (1, .fn 41 [.ia [S p1_c0, I p1_c1, I p1_c2, LL a31 p1_c3] 0, .ia [S p1_c4, I p1_c5, I p1_c6, I p1_c7, I p1_c8, I p1_c9] 0]), (5, .own 40 0), (6, .own 48 0), (7, .own 56 0), (8, .own 64 0), (9, I z0.2.2.2.2), (10, .own 80 0), (14, I z2.2.2.2.2.2), (124, I (lenL y46.2.2.2.2.2.1)), (125, I z2.2.2.2.2.2)] [(40, RR 3 1 I z2.1 0 false), (48, RR 3 1 I z2.2.1 0 false), (56, RR 30 4 a29 z2.2.2.1 0 false), (64, RR 30 4 a29 z2.2.2.2.1 0 false), (80, RR 30 4 a29 z2.2.2.2.2.1 0 false)] 149) (addrOE 59 30 4 80 0 false a29 .i64 z2.2.2.2.2.1 z2.2.2.2.2.2) (fun x50 => ?_)
    refine dg 9 [(some 128, qe (.own 64 0)), (some 129, qe (I z2.2.2.2.2.2)), (some 130, qe (.oa 64 0 x48 0)), (some 131, qe (.oa 64 0 x48 3)), (some 132, qe (I x49.f3)), (some 133, qe (.own 80 0)), (some 134, qe (I z2.2.2.2.2.2)), (some 135, qe (.oa 80 0 x50 0)), (some 136, qe (.oa 80 0 x50 3))] ?_
    refine dv 137 (mkE [(136, .oa 80 0 x50 3), (135, .oa 80 0 x50 0), (134, I z2.2.2.2.2.2), (133, .own 80 0), (1, .fn 41 [.ia [S p1_c0, I p1_c1, I p1_c2, LL a31 p1_c3] 0, .ia [S p1_c4, I p1_c5, I p1_c6, I p1_c7, I p1_c8, I p1_c9] 0]), (5, .own 40 0), (6, .own 48 0), (7, .own 56 0), (8, .own 64 0), (9, I z0.2.2.2.2), (10, .own 80 0), (14, I z2.2.2.2.2.2), (124, I (lenL y46.2.2.2.2.2.1)), (125, I z2.2.2.2.2.2)] [(40, RR 3 1 I z2.1 0 false), (48, RR 3 1 I z2.2.1 0 false), (56, RR 30 4 a29 z2.2.2.1 0 false), (64, RR 30 4 a29 z2.2.2.2.1 0 false), (80, RR 30 4 a29 z2.2.2.2.2.1 0 false)] 149) (loadOE 3 80 0 x50 3 30 4 1 false false a29 (fun q : S29 => I q.f3) z2.2.2.2.2.1) (fun x51 => ?_)
    refine dg 11 [(some 128, qe (.own 64 0)), (some 129, qe (I z2.2.2.2.2.2)), (some 130, qe (.oa 64 0 x48 0)), (some 131, qe (.oa 64 0 x48 3)), (some 132, qe (I x49.f3)), (some 133, qe (.own 80 0)), (some 134, qe (I z2.2.2.2.2.2)), (some 135, qe (.oa 80 0 x50 0)), (some 136, qe (.oa 80 0 x50 3)), (some 137, qe (I x51.f3)), (some 138, qe (I (addI .i64 x49.f3 x51.f3)))] ?_
    refine dv 139 (mkE [(138, I (addI .i64 x49.f3 x51.f3)), (137, I x51.f3), (136, .oa 80 0 x50 3), (135, .oa 80 0 x50 0), (134, I z2.2.2.2.2.2), (133, .own 80 0), (132, I x49.f3), (131, .oa 64 0 x48 3), (130, .oa 64 0 x48 0), (129, I z2.2.2.2.2.2), (128, .own 64 0), (1, .fn 41 [.ia [S p1_c0, I p1_c1, I p1_c2, LL a31 p1_c3] 0, .ia [S p1_c4, I p1_c5, I p1_c6, I p1_c7, I p1_c8, I p1_c9] 0]), (5, .own 40 0), (6, .own 48 0), (7, .own 56 0), (8, .own 64 0), (9, I z0.2.2.2.2), (10, .own 80 0), (14, I z2.2.2.2.2.2), (124, I (lenL y46.2.2.2.2.2.1)), (125, I z2.2.2.2.2.2)] [(40, RR 3 1 I z2.1 0 false), (48, RR 3 1 I z2.2.1 0 false), (56, RR 30 4 a29 z2.2.2.1 0 false), (64, RR 30 4 a29 z2.2.2.2.1 0 false), (80, RR 30 4 a29 z2.2.2.2.2.1 0 false)] 149) (addrOE 59 30 4 64 0 false a29 .i64 z2.2.2.2.1 z2.2.2.2.2.2) (fun x52 => ?_)
    refine dg 13 [(some 128, qe (.own 64 0)), (some 129, qe (I z2.2.2.2.2.2)), (some 130, qe (.oa 64 0 x48 0)), (some 131, qe (.oa 64 0 x48 3)), (some 132, qe (I x49.f3)), (some 133, qe (.own 80 0)), (some 134, qe (I z2.2.2.2.2.2)), (some 135, qe (.oa 80 0 x50 0)), (some 136, qe (.oa 80 0 x50 3)), (some 137, qe (I x51.f3)), (some 138, qe (I (addI .i64 x49.f3 x51.f3))), (some 139, qe (.oa 64 0 x52 0)), (some 140, qe (.oa 64 0 x52 3))] ?_
    refine de (mkE [(140, .oa 64 0 x52 3), (139, .oa 64 0 x52 0), (138, I (addI .i64 x49.f3 x51.f3)), (137, I x51.f3), (136, .oa 80 0 x50 3), (135, .oa 80 0 x50 0), (134, I z2.2.2.2.2.2), (133, .own 80 0), (132, I x49.f3), (131, .oa 64 0 x48 3), (130, .oa 64 0 x48 0), (129, I z2.2.2.2.2.2), (128, .own 64 0), (1, .fn 41 [.ia [S p1_c0, I p1_c1, I p1_c2, LL a31 p1_c3] 0, .ia [S p1_c4, I p1_c5, I p1_c6, I p1_c7, I p1_c8, I p1_c9] 0]), (5, .own 40 0), (6, .own 48 0), (7, .own 56 0), (8, .own 64 0), (9, I z0.2.2.2.2), (10, .own 80 0), (14, I z2.2.2.2.2.2), (124, I (lenL y46.2.2.2.2.2.1)), (125, I z2.2.2.2.2.2)] [(40, RR 3 1 I z2.1 0 false), (48, RR 3 1 I z2.2.1 0 false), (56, RR 30 4 a29 z2.2.2.1 0 false), (64, RR 30 4 a29 z2.2.2.2.1 0 false), (80, RR 30 4 a29 z2.2.2.2.2.1 0 false)] 149) ?_
    refine mo none (stO 30 4 64 0 x52 3 a29 z2.2.2.2.1 [] [I (addI .i64 x49.f3 x51.f3)] (I (addI .i64 x49.f3 x51.f3)) (fun q : S29 => (S29.mk q.f0 q.f1 q.f2 (addI .i64 x49.f3 x51.f3))) 3 (.tmp 140) (.tmp 138) 1) (fun x53 => ?_)
    refine se (mkE [(1, .fn 41 [.ia [S p1_c0, I p1_c1, I p1_c2, LL a31 p1_c3] 0, .ia [S p1_c4, I p1_c5, I p1_c6, I p1_c7, I p1_c8, I p1_c9] 0]), (5, .own 40 0), (6, .own 48 0), (7, .own 56 0), (8, .own 64 0), (9, I z0.2.2.2.2), (10, .own 80 0), (124, I (lenL y46.2.2.2.2.2.1)), (125, I z2.2.2.2.2.2)] [(40, RR 3 1 I z2.1 0 false), (48, RR 3 1 I z2.2.1 0 false), (56, RR 30 4 a29 z2.2.2.1 0 false), (64, RR 30 4 a29 (List.set z2.2.2.2.1 x52 (S29.mk x53.f0 x53.f1 x53.f2 (addI .i64 x49.f3 x51.f3))) 0 false), (80, RR 30 4 a29 z2.2.2.2.2.1 0 false)] 149) ?_
    refine pB ?_
    refine pN ?_
    refine pS ?_
    refine gR 22 (rg Try.f40 22) ?_
    refine se (mkE [(1, .fn 41 [.ia [S p1_c0, I p1_c1, I p1_c2, LL a31 p1_c3] 0, .ia [S p1_c4, I p1_c5, I p1_c6, I p1_c7, I p1_c8, I p1_c9] 0]), (5, .own 40 0), (6, .own 48 0), (7, .own 56 0), (8, .own 64 0), (9, I z0.2.2.2.2), (10, .own 80 0), (124, I (lenL y46.2.2.2.2.2.1)), (125, I (addI .i64 z2.2.2.2.2.2 1))] [(40, RR 3 1 I z2.1 0 false), (48, RR 3 1 I z2.2.1 0 false), (56, RR 30 4 a29 z2.2.2.1 0 false), (64, RR 30 4 a29 (List.set z2.2.2.2.1 x52 (S29.mk x53.f0 x53.f1 x53.f2 (addI .i64 x49.f3 x51.f3))) 0 false), (80, RR 30 4 a29 z2.2.2.2.2.1 0 false)] 149) ?_
    exact pL
  · refine gX 4 ?_
    exact pL
noncomputable def L40_5 (p1_c0 : ByteArray) (p1_c1 : Int) (p1_c2 : Int) (p1_c3 : (List S31)) (p1_c4 : ByteArray) (p1_c5 : Int) (p1_c6 : Int) (p1_c7 : Int) (p1_c8 : Int) (p1_c9 : Int) (z0 : ((List Int) × (List Int) × (List S29) × (List S29) × Int)) : Option (((List Int) × (List Int) × (List S29) × (List S29) × Int) ⊕ (Int × Bool × (List Int) × (List Int) × (List S29) × (List S29))) := (bif (ltI (addI .i64 z0.2.2.2.2 1) (lenL z0.2.1)) then ((iter (L40_9 p1_c0 p1_c1 p1_c2 p1_c3 p1_c4 p1_c5 p1_c6 p1_c7 p1_c8 p1_c9 z0) (z0.1, z0.2.1, z0.2.2.1, z0.2.2.2.1, [], 0)).bind fun y46 => ((T52 y46.2.2.2.2.2.2 y46.2.2.2.2.2.1).bind fun x47 => (bif x47 then (bif (ltI 0 (lenL y46.2.2.2.2.2.2)) then ((iter (L40_19 p1_c0 p1_c1 p1_c2 p1_c3 p1_c4 p1_c5 p1_c6 p1_c7 p1_c8 p1_c9 z0 y46) (y46.2.2.1, y46.2.2.2.1, y46.2.2.2.2.1, y46.2.2.2.2.2.1, y46.2.2.2.2.2.2, 0)).bind fun y54 => (some (.inl (y54.2.2.1, y54.2.2.2.1, y54.2.2.2.2.1, y54.2.2.2.2.2.1, (addI .i64 z0.2.2.2.2 1))))) else ((appO 32 y46.2.2.2.2.1 y46.2.2.2.2.2.1).bind fun x55 => (some (.inl (y46.2.2.1, y46.2.2.2.1, x55, y46.2.2.2.2.2.2, (addI .i64 z0.2.2.2.2 1)))))) else ((appO 32 y46.2.2.2.2.1 y46.2.2.2.2.2.1).bind fun x56 => (some (.inl (y46.2.2.1, y46.2.2.2.1, x56, y46.2.2.2.2.2.2, (addI .i64 z0.2.2.2.2 1)))))))) else (some (.inr (z0.2.2.2.2, (ltI (addI .i64 z0.2.2.2.2 1) (lenL z0.2.1)), z0.1, z0.2.1, z0.2.2.1, z0.2.2.2.1))))
theorem L40_5_ok (C : Callee) (h41 : ∀ (p0 : Int) (p1 : Int) (p2_c0 : ByteArray) (p2_c1 : Int) (p2_c2 : Int) (p2_c3 : (List S31)) (p3_c0 : ByteArray) (p3_c1 : Int) (p3_c2 : Int) (p3_c3 : Int) (p3_c4 : Int) (p3_c5 : Int), C 41 [I p0, I p1, .ia [S p2_c0, I p2_c1, I p2_c2, LL a31 p2_c3] 0, .ia [S p3_c0, I p3_c1, I p3_c2, I p3_c3, I p3_c4, I p3_c5] 0] = (T41 p0 p1 p2_c0 p2_c1 p2_c2 p2_c3 p3_c0 p3_c1 p3_c2 p3_c3 p3_c4 p3_c5).map B) (h52 : ∀ (p0 : (List S29)) (p1 : (List S29)), C 52 [LL a29 p0, LL a29 p1, .fn 53 []] = (T52 p0 p1).map B) (p1_c0 : ByteArray) (p1_c1 : Int) (p1_c2 : Int) (p1_c3 : (List S31)) (p1_c4 : ByteArray) (p1_c5 : Int) (p1_c6 : Int) (p1_c7 : Int) (p1_c8 : Int) (p1_c9 : Int) (z0 : ((List Int) × (List Int) × (List S29) × (List S29) × Int)) : runs Try.prog C (cfg.fn 40) (finLoop ((cfg.fn 40).keep 5) ((cfg.fn 40).al 5)) [] (execA Try.prog C (cfg.fn 40) (nr Try.f40 [false, false, true, false, true, true, true, true]) ((fun z0 : ((List Int) × (List Int) × (List S29) × (List S29) × Int) => (mkE [(1, .fn 41 [.ia [S p1_c0, I p1_c1, I p1_c2, LL a31 p1_c3] 0, .ia [S p1_c4, I p1_c5, I p1_c6, I p1_c7, I p1_c8, I p1_c9] 0]), (5, .own 40 0), (6, .own 48 0), (7, .own 56 0), (8, .own 64 0), (9, I z0.2.2.2.2)] [(40, RR 3 1 I z0.1 0 false), (48, RR 3 1 I z0.2.1 0 false), (56, RR 30 4 a29 z0.2.2.1 0 false), (64, RR 30 4 a29 z0.2.2.2.1 0 false)] 149)) z0)) = (L40_5 p1_c0 p1_c1 p1_c2 p1_c3 p1_c4 p1_c5 p1_c6 p1_c7 p1_c8 p1_c9 z0).map (Sum.elim (fun z => .inl ((fun z0 : ((List Int) × (List Int) × (List S29) × (List S29) × Int) => (mkE [(1, .fn 41 [.ia [S p1_c0, I p1_c1, I p1_c2, LL a31 p1_c3] 0, .ia [S p1_c4, I p1_c5, I p1_c6, I p1_c7, I p1_c8, I p1_c9] 0]), (5, .own 40 0), (6, .own 48 0), (7, .own 56 0), (8, .own 64 0), (9, I z0.2.2.2.2)] [(40, RR 3 1 I z0.1 0 false), (48, RR 3 1 I z0.2.1 0 false), (56, RR 30 4 a29 z0.2.2.1 0 false), (64, RR 30 4 a29 z0.2.2.2.1 0 false)] 149)) z)) (fun x => .inr ((fun (x : (Int × Bool × (List Int) × (List Int) × (List S29) × (List S29))) => (.exit 0, (mkE [(1, .fn 41 [.ia [S p1_c0, I p1_c1, I p1_c2, LL a31 p1_c3] 0, .ia [S p1_c4, I p1_c5, I p1_c6, I p1_c7, I p1_c8, I p1_c9] 0]), (5, .own 40 0), (6, .own 48 0), (7, .own 56 0), (8, .own 64 0), (9, I x.1), (23, B x.2.1)] [(40, RR 3 1 I x.2.2.1 0 false), (48, RR 3 1 I x.2.2.2.1 0 false), (56, RR 30 4 a29 x.2.2.2.2.1 0 false), (64, RR 30 4 a29 x.2.2.2.2.2 0 false)] 149))) x))) := by
  unfold L40_5
  refine gS 7 ?_
  refine gS 0 ?_
  refine gR 5 (rg Try.f40 5) ?_
  refine sg 3 (mkE [(21, .own 48 0), (20, I (addI .i64 z0.2.2.2.2 1)), (19, I z0.2.2.2.2), (1, .fn 41 [.ia [S p1_c0, I p1_c1, I p1_c2, LL a31 p1_c3] 0, .ia [S p1_c4, I p1_c5, I p1_c6, I p1_c7, I p1_c8, I p1_c9] 0]), (5, .own 40 0), (6, .own 48 0), (7, .own 56 0), (8, .own 64 0), (9, I z0.2.2.2.2)] [(40, RR 3 1 I z0.1 0 false), (48, RR 3 1 I z0.2.1 0 false), (56, RR 30 4 a29 z0.2.2.1 0 false), (64, RR 30 4 a29 z0.2.2.2.1 0 false)] 149) ?_
  refine eo 22 (I (lenL z0.2.1)) (lenOE 75 3 1 I z0.2.1) ?_
  refine se (mkE [(1, .fn 41 [.ia [S p1_c0, I p1_c1, I p1_c2, LL a31 p1_c3] 0, .ia [S p1_c4, I p1_c5, I p1_c6, I p1_c7, I p1_c8, I p1_c9] 0]), (5, .own 40 0), (6, .own 48 0), (7, .own 56 0), (8, .own 64 0), (9, I z0.2.2.2.2), (23, B (ltI (addI .i64 z0.2.2.2.2 1) (lenL z0.2.1)))] [(40, RR 3 1 I z0.1 0 false), (48, RR 3 1 I z0.2.1 0 false), (56, RR 30 4 a29 z0.2.2.1 0 false), (64, RR 30 4 a29 z0.2.2.2.1 0 false)] 149) ?_
  refine pN ?_
  refine pS ?_
  refine gC 23 (ltI (addI .i64 z0.2.2.2.2 1) (lenL z0.2.1)) ?_ ?_
  · refine gK ?_
    refine pN ?_
    refine pS ?_
    refine gS 6 ?_
    refine gB 1 ?_
    refine gS 8 ?_
    refine gR 7 (rg Try.f40 7) ?_
    refine se (mkE [(1, .fn 41 [.ia [S p1_c0, I p1_c1, I p1_c2, LL a31 p1_c3] 0, .ia [S p1_c4, I p1_c5, I p1_c6, I p1_c7, I p1_c8, I p1_c9] 0]), (5, .own 40 0), (6, .own 48 0), (7, .own 56 0), (8, .own 64 0), (9, I z0.2.2.2.2), (10, .nils)] [(40, RR 3 1 I z0.1 0 false), (48, RR 3 1 I z0.2.1 0 false), (56, RR 30 4 a29 z0.2.2.1 0 false), (64, RR 30 4 a29 z0.2.2.2.1 0 false)] 149) ?_
    refine pN ?_
    refine pS ?_
    refine gS 16 ?_
    refine gS 9 ?_
    refine gR 8 (rg Try.f40 8) ?_
    refine se (mkE [(1, .fn 41 [.ia [S p1_c0, I p1_c1, I p1_c2, LL a31 p1_c3] 0, .ia [S p1_c4, I p1_c5, I p1_c6, I p1_c7, I p1_c8, I p1_c9] 0]), (5, .own 40 0), (6, .own 48 0), (7, .own 56 0), (8, .own 64 0), (9, I z0.2.2.2.2), (10, .nils), (11, I 0)] [(40, RR 3 1 I z0.1 0 false), (48, RR 3 1 I z0.2.1 0 false), (56, RR 30 4 a29 z0.2.2.1 0 false), (64, RR 30 4 a29 z0.2.2.2.1 0 false)] 149) ?_
    refine pN ?_
    refine pS ?_
    refine gB 2 ?_
    refine lo [(1, none), (5, some (3, 1)), (6, some (3, 1)), (7, some (30, 4)), (8, some (30, 4)), (9, none), (10, some (30, 4)), (11, none)] [] (L40_9 p1_c0 p1_c1 p1_c2 p1_c3 p1_c4 p1_c5 p1_c6 p1_c7 p1_c8 p1_c9 z0) (fun z1 : ((List Int) × (List Int) × (List S29) × (List S29) × (List S29) × Int) => (mkE [(1, .fn 41 [.ia [S p1_c0, I p1_c1, I p1_c2, LL a31 p1_c3] 0, .ia [S p1_c4, I p1_c5, I p1_c6, I p1_c7, I p1_c8, I p1_c9] 0]), (5, .own 40 0), (6, .own 48 0), (7, .own 56 0), (8, .own 64 0), (9, I z0.2.2.2.2), (10, .own 80 0), (11, I z1.2.2.2.2.2)] [(40, RR 3 1 I z1.1 0 false), (48, RR 3 1 I z1.2.1 0 false), (56, RR 30 4 a29 z1.2.2.1 0 false), (64, RR 30 4 a29 z1.2.2.2.1 0 false), (80, RR 30 4 a29 z1.2.2.2.2.1 0 false)] 149)) (fun (x : (Int × Bool × (List Int) × (List Int) × (List S29) × (List S29) × (List S29))) => (.exit 2, (mkE [(1, .fn 41 [.ia [S p1_c0, I p1_c1, I p1_c2, LL a31 p1_c3] 0, .ia [S p1_c4, I p1_c5, I p1_c6, I p1_c7, I p1_c8, I p1_c9] 0]), (5, .own 40 0), (6, .own 48 0), (7, .own 56 0), (8, .own 64 0), (9, I z0.2.2.2.2), (10, .own 80 0), (11, I x.1), (30, B x.2.1)] [(40, RR 3 1 I x.2.2.1 0 false), (48, RR 3 1 I x.2.2.2.1 0 false), (56, RR 30 4 a29 x.2.2.2.2.1 0 false), (64, RR 30 4 a29 x.2.2.2.2.2.1 0 false), (80, RR 30 4 a29 x.2.2.2.2.2.2 0 false)] 149))) (z0.1, z0.2.1, z0.2.2.1, z0.2.2.2.1, [], 0) (fun z => L40_9_ok C h41 p1_c0 p1_c1 p1_c2 p1_c3 p1_c4 p1_c5 p1_c6 p1_c7 p1_c8 p1_c9 z0 z) ?_
    intro y46
    refine pH ?_
    refine pN ?_
    refine pS ?_
    refine gS 17 ?_
    refine gR 16 (rg Try.f40 16) ?_
    refine sg 2 (mkE [(115, .own 64 0), (114, .own 80 0), (1, .fn 41 [.ia [S p1_c0, I p1_c1, I p1_c2, LL a31 p1_c3] 0, .ia [S p1_c4, I p1_c5, I p1_c6, I p1_c7, I p1_c8, I p1_c9] 0]), (5, .own 40 0), (6, .own 48 0), (7, .own 56 0), (8, .own 64 0), (9, I z0.2.2.2.2), (10, .own 80 0), (11, I y46.1), (30, B y46.2.1)] [(40, RR 3 1 I y46.2.2.1 0 false), (48, RR 3 1 I y46.2.2.2.1 0 false), (56, RR 30 4 a29 y46.2.2.2.2.1 0 false), (64, RR 30 4 a29 y46.2.2.2.2.2.1 0 false), (80, RR 30 4 a29 y46.2.2.2.2.2.2 0 false)] 149) ?_
    refine co 116 [80, 64] (h52 y46.2.2.2.2.2.2 y46.2.2.2.2.2.1) (fun x47 => ?_)
    refine se (mkE [(1, .fn 41 [.ia [S p1_c0, I p1_c1, I p1_c2, LL a31 p1_c3] 0, .ia [S p1_c4, I p1_c5, I p1_c6, I p1_c7, I p1_c8, I p1_c9] 0]), (5, .own 40 0), (6, .own 48 0), (7, .own 56 0), (8, .own 64 0), (9, I z0.2.2.2.2), (10, .own 80 0), (13, B x47)] [(40, RR 3 1 I y46.2.2.1 0 false), (48, RR 3 1 I y46.2.2.2.1 0 false), (56, RR 30 4 a29 y46.2.2.2.2.1 0 false), (64, RR 30 4 a29 y46.2.2.2.2.2.1 0 false), (80, RR 30 4 a29 y46.2.2.2.2.2.2 0 false)] 149) ?_
    refine pN ?_
    refine pS ?_
    refine gS 23 ?_
    refine gS 0 ?_
    refine gR 17 (rg Try.f40 17) ?_
    refine sg 2 (mkE [(118, B x47), (117, B x47), (1, .fn 41 [.ia [S p1_c0, I p1_c1, I p1_c2, LL a31 p1_c3] 0, .ia [S p1_c4, I p1_c5, I p1_c6, I p1_c7, I p1_c8, I p1_c9] 0]), (5, .own 40 0), (6, .own 48 0), (7, .own 56 0), (8, .own 64 0), (9, I z0.2.2.2.2), (10, .own 80 0), (13, B x47)] [(40, RR 3 1 I y46.2.2.1 0 false), (48, RR 3 1 I y46.2.2.2.1 0 false), (56, RR 30 4 a29 y46.2.2.2.2.1 0 false), (64, RR 30 4 a29 y46.2.2.2.2.2.1 0 false), (80, RR 30 4 a29 y46.2.2.2.2.2.2 0 false)] 149) ?_
    refine sb 118 x47 ?_ ?_
    · refine sg 3 (mkE [(119, .own 80 0), (118, B true), (118, B x47), (117, B x47), (1, .fn 41 [.ia [S p1_c0, I p1_c1, I p1_c2, LL a31 p1_c3] 0, .ia [S p1_c4, I p1_c5, I p1_c6, I p1_c7, I p1_c8, I p1_c9] 0]), (5, .own 40 0), (6, .own 48 0), (7, .own 56 0), (8, .own 64 0), (9, I z0.2.2.2.2), (10, .own 80 0), (13, B x47)] [(40, RR 3 1 I y46.2.2.1 0 false), (48, RR 3 1 I y46.2.2.2.1 0 false), (56, RR 30 4 a29 y46.2.2.2.2.1 0 false), (64, RR 30 4 a29 y46.2.2.2.2.2.1 0 false), (80, RR 30 4 a29 y46.2.2.2.2.2.2 0 false)] 149) ?_
      refine eo 120 (I (lenL y46.2.2.2.2.2.2)) (lenOE 59 30 4 a29 y46.2.2.2.2.2.2) ?_
      refine se (mkE [(1, .fn 41 [.ia [S p1_c0, I p1_c1, I p1_c2, LL a31 p1_c3] 0, .ia [S p1_c4, I p1_c5, I p1_c6, I p1_c7, I p1_c8, I p1_c9] 0]), (5, .own 40 0), (6, .own 48 0), (7, .own 56 0), (8, .own 64 0), (9, I z0.2.2.2.2), (10, .own 80 0), (122, B (ltI 0 (lenL y46.2.2.2.2.2.2)))] [(40, RR 3 1 I y46.2.2.1 0 false), (48, RR 3 1 I y46.2.2.2.1 0 false), (56, RR 30 4 a29 y46.2.2.2.2.1 0 false), (64, RR 30 4 a29 y46.2.2.2.2.2.1 0 false), (80, RR 30 4 a29 y46.2.2.2.2.2.2 0 false)] 149) ?_
      refine pN ?_
      refine pS ?_
      refine gC 122 (ltI 0 (lenL y46.2.2.2.2.2.2)) ?_ ?_
      · refine gS 0 ?_
        refine gS 19 ?_
        refine gR 18 (rg Try.f40 18) ?_
        refine sg 1 (mkE [(123, .own 64 0), (1, .fn 41 [.ia [S p1_c0, I p1_c1, I p1_c2, LL a31 p1_c3] 0, .ia [S p1_c4, I p1_c5, I p1_c6, I p1_c7, I p1_c8, I p1_c9] 0]), (5, .own 40 0), (6, .own 48 0), (7, .own 56 0), (8, .own 64 0), (9, I z0.2.2.2.2), (10, .own 80 0), (122, B (ltI 0 (lenL y46.2.2.2.2.2.2)))] [(40, RR 3 1 I y46.2.2.1 0 false), (48, RR 3 1 I y46.2.2.2.1 0 false), (56, RR 30 4 a29 y46.2.2.2.2.1 0 false), (64, RR 30 4 a29 y46.2.2.2.2.2.1 0 false), (80, RR 30 4 a29 y46.2.2.2.2.2.2 0 false)] 149) ?_
        refine eo 124 (I (lenL y46.2.2.2.2.2.1)) (lenOE 59 30 4 a29 y46.2.2.2.2.2.1) ?_
        refine se (mkE [(1, .fn 41 [.ia [S p1_c0, I p1_c1, I p1_c2, LL a31 p1_c3] 0, .ia [S p1_c4, I p1_c5, I p1_c6, I p1_c7, I p1_c8, I p1_c9] 0]), (5, .own 40 0), (6, .own 48 0), (7, .own 56 0), (8, .own 64 0), (9, I z0.2.2.2.2), (10, .own 80 0), (124, I (lenL y46.2.2.2.2.2.1)), (125, I 0)] [(40, RR 3 1 I y46.2.2.1 0 false), (48, RR 3 1 I y46.2.2.2.1 0 false), (56, RR 30 4 a29 y46.2.2.2.2.1 0 false), (64, RR 30 4 a29 y46.2.2.2.2.2.1 0 false), (80, RR 30 4 a29 y46.2.2.2.2.2.2 0 false)] 149) ?_
        refine pN ?_
        refine pS ?_
        refine gB 4 ?_
        refine lo [(1, none), (5, some (3, 1)), (6, some (3, 1)), (7, some (30, 4)), (8, some (30, 4)), (9, none), (10, some (30, 4)), (124, none), (125, none)] [] (L40_19 p1_c0 p1_c1 p1_c2 p1_c3 p1_c4 p1_c5 p1_c6 p1_c7 p1_c8 p1_c9 z0 y46) (fun z2 : ((List Int) × (List Int) × (List S29) × (List S29) × (List S29) × Int) => (mkE [(1, .fn 41 [.ia [S p1_c0, I p1_c1, I p1_c2, LL a31 p1_c3] 0, .ia [S p1_c4, I p1_c5, I p1_c6, I p1_c7, I p1_c8, I p1_c9] 0]), (5, .own 40 0), (6, .own 48 0), (7, .own 56 0), (8, .own 64 0), (9, I z0.2.2.2.2), (10, .own 80 0), (124, I (lenL y46.2.2.2.2.2.1)), (125, I z2.2.2.2.2.2)] [(40, RR 3 1 I z2.1 0 false), (48, RR 3 1 I z2.2.1 0 false), (56, RR 30 4 a29 z2.2.2.1 0 false), (64, RR 30 4 a29 z2.2.2.2.1 0 false), (80, RR 30 4 a29 z2.2.2.2.2.1 0 false)] 149)) (fun (x : (Int × Bool × (List Int) × (List Int) × (List S29) × (List S29) × (List S29))) => (.exit 4, (mkE [(1, .fn 41 [.ia [S p1_c0, I p1_c1, I p1_c2, LL a31 p1_c3] 0, .ia [S p1_c4, I p1_c5, I p1_c6, I p1_c7, I p1_c8, I p1_c9] 0]), (5, .own 40 0), (6, .own 48 0), (7, .own 56 0), (8, .own 64 0), (9, I z0.2.2.2.2), (10, .own 80 0), (124, I (lenL y46.2.2.2.2.2.1)), (125, I x.1), (126, B x.2.1)] [(40, RR 3 1 I x.2.2.1 0 false), (48, RR 3 1 I x.2.2.2.1 0 false), (56, RR 30 4 a29 x.2.2.2.2.1 0 false), (64, RR 30 4 a29 x.2.2.2.2.2.1 0 false), (80, RR 30 4 a29 x.2.2.2.2.2.2 0 false)] 149))) (y46.2.2.1, y46.2.2.2.1, y46.2.2.2.2.1, y46.2.2.2.2.2.1, y46.2.2.2.2.2.2, 0) (fun z => L40_19_ok C p1_c0 p1_c1 p1_c2 p1_c3 p1_c4 p1_c5 p1_c6 p1_c7 p1_c8 p1_c9 z0 y46 z) ?_
        intro y54
        refine pH ?_
        refine pN ?_
        refine pS ?_
        refine gX 1 ?_
        refine pF ?_
        refine pO ?_
        refine pH ?_
        refine pN ?_
        refine pS ?_
        refine gR 6 (rg Try.f40 6) ?_
        refine se (mkE [(1, .fn 41 [.ia [S p1_c0, I p1_c1, I p1_c2, LL a31 p1_c3] 0, .ia [S p1_c4, I p1_c5, I p1_c6, I p1_c7, I p1_c8, I p1_c9] 0]), (5, .own 40 0), (6, .own 48 0), (7, .own 56 0), (8, .own 64 0), (9, I (addI .i64 z0.2.2.2.2 1))] [(40, RR 3 1 I y54.2.2.1 0 false), (48, RR 3 1 I y54.2.2.2.1 0 false), (56, RR 30 4 a29 y54.2.2.2.2.1 0 false), (64, RR 30 4 a29 y54.2.2.2.2.2.1 0 false), (80, RR 30 4 a29 y54.2.2.2.2.2.2 0 false)] 149) ?_
        exact pL
      · refine gK ?_
        refine pN ?_
        refine pS ?_
        refine gR 23 (rg Try.f40 23) ?_
        refine sg 2 (mkE [(143, .own 64 0), (142, .own 56 0), (1, .fn 41 [.ia [S p1_c0, I p1_c1, I p1_c2, LL a31 p1_c3] 0, .ia [S p1_c4, I p1_c5, I p1_c6, I p1_c7, I p1_c8, I p1_c9] 0]), (5, .own 40 0), (6, .own 48 0), (7, .own 56 0), (8, .own 64 0), (9, I z0.2.2.2.2), (10, .own 80 0), (122, B (ltI 0 (lenL y46.2.2.2.2.2.2)))] [(40, RR 3 1 I y46.2.2.1 0 false), (48, RR 3 1 I y46.2.2.2.1 0 false), (56, RR 30 4 a29 y46.2.2.2.2.1 0 false), (64, RR 30 4 a29 y46.2.2.2.2.2.1 0 false), (80, RR 30 4 a29 y46.2.2.2.2.2.2 0 false)] 149) ?_
        refine mo (some 144) (apO 59 30 4 32 56 a29 0 [64] (y := .own 64 0) (l2 := y46.2.2.2.2.2.1)) (fun x55 => ?_)
        refine se (mkE [(1, .fn 41 [.ia [S p1_c0, I p1_c1, I p1_c2, LL a31 p1_c3] 0, .ia [S p1_c4, I p1_c5, I p1_c6, I p1_c7, I p1_c8, I p1_c9] 0]), (5, .own 40 0), (6, .own 48 0), (7, .own 56 1), (8, .own 80 0), (9, I z0.2.2.2.2)] [(40, RR 3 1 I y46.2.2.1 0 false), (48, RR 3 1 I y46.2.2.2.1 0 false), (56, RR 30 4 a29 x55 1 false), (80, RR 30 4 a29 y46.2.2.2.2.2.2 0 false)] 149) ?_
        refine pB ?_
        refine pN ?_
        refine pS ?_
        refine gR 6 (rg Try.f40 6) ?_
        refine se (mkE [(1, .fn 41 [.ia [S p1_c0, I p1_c1, I p1_c2, LL a31 p1_c3] 0, .ia [S p1_c4, I p1_c5, I p1_c6, I p1_c7, I p1_c8, I p1_c9] 0]), (5, .own 40 0), (6, .own 48 0), (7, .own 56 1), (8, .own 80 0), (9, I (addI .i64 z0.2.2.2.2 1))] [(40, RR 3 1 I y46.2.2.1 0 false), (48, RR 3 1 I y46.2.2.2.1 0 false), (56, RR 30 4 a29 x55 1 false), (80, RR 30 4 a29 y46.2.2.2.2.2.2 0 false)] 149) ?_
        exact pL
    · refine se (mkE [(1, .fn 41 [.ia [S p1_c0, I p1_c1, I p1_c2, LL a31 p1_c3] 0, .ia [S p1_c4, I p1_c5, I p1_c6, I p1_c7, I p1_c8, I p1_c9] 0]), (5, .own 40 0), (6, .own 48 0), (7, .own 56 0), (8, .own 64 0), (9, I z0.2.2.2.2), (10, .own 80 0), (122, B false)] [(40, RR 3 1 I y46.2.2.1 0 false), (48, RR 3 1 I y46.2.2.2.1 0 false), (56, RR 30 4 a29 y46.2.2.2.2.1 0 false), (64, RR 30 4 a29 y46.2.2.2.2.2.1 0 false), (80, RR 30 4 a29 y46.2.2.2.2.2.2 0 false)] 149) ?_
      refine pN ?_
      refine pS ?_
      refine gF (.tmp 122) ?_
      refine gK ?_
      refine pN ?_
      refine pS ?_
      refine gR 23 (rg Try.f40 23) ?_
      refine sg 2 (mkE [(143, .own 64 0), (142, .own 56 0), (1, .fn 41 [.ia [S p1_c0, I p1_c1, I p1_c2, LL a31 p1_c3] 0, .ia [S p1_c4, I p1_c5, I p1_c6, I p1_c7, I p1_c8, I p1_c9] 0]), (5, .own 40 0), (6, .own 48 0), (7, .own 56 0), (8, .own 64 0), (9, I z0.2.2.2.2), (10, .own 80 0), (122, B false)] [(40, RR 3 1 I y46.2.2.1 0 false), (48, RR 3 1 I y46.2.2.2.1 0 false), (56, RR 30 4 a29 y46.2.2.2.2.1 0 false), (64, RR 30 4 a29 y46.2.2.2.2.2.1 0 false), (80, RR 30 4 a29 y46.2.2.2.2.2.2 0 false)] 149) ?_
      refine mo (some 144) (apO 59 30 4 32 56 a29 0 [64] (y := .own 64 0) (l2 := y46.2.2.2.2.2.1)) (fun x56 => ?_)
      refine se (mkE [(1, .fn 41 [.ia [S p1_c0, I p1_c1, I p1_c2, LL a31 p1_c3] 0, .ia [S p1_c4, I p1_c5, I p1_c6, I p1_c7, I p1_c8, I p1_c9] 0]), (5, .own 40 0), (6, .own 48 0), (7, .own 56 1), (8, .own 80 0), (9, I z0.2.2.2.2)] [(40, RR 3 1 I y46.2.2.1 0 false), (48, RR 3 1 I y46.2.2.2.1 0 false), (56, RR 30 4 a29 x56 1 false), (80, RR 30 4 a29 y46.2.2.2.2.2.2 0 false)] 149) ?_
      refine pB ?_
      refine pN ?_
      refine pS ?_
      refine gR 6 (rg Try.f40 6) ?_
      refine se (mkE [(1, .fn 41 [.ia [S p1_c0, I p1_c1, I p1_c2, LL a31 p1_c3] 0, .ia [S p1_c4, I p1_c5, I p1_c6, I p1_c7, I p1_c8, I p1_c9] 0]), (5, .own 40 0), (6, .own 48 0), (7, .own 56 1), (8, .own 80 0), (9, I (addI .i64 z0.2.2.2.2 1))] [(40, RR 3 1 I y46.2.2.1 0 false), (48, RR 3 1 I y46.2.2.2.1 0 false), (56, RR 30 4 a29 x56 1 false), (80, RR 30 4 a29 y46.2.2.2.2.2.2 0 false)] 149) ?_
      exact pL
  · refine gX 0 ?_
    exact pL
noncomputable def T40 (p0 : (List S29)) (p1_c0 : ByteArray) (p1_c1 : Int) (p1_c2 : Int) (p1_c3 : (List S31)) (p1_c4 : ByteArray) (p1_c5 : Int) (p1_c6 : Int) (p1_c7 : Int) (p1_c8 : Int) (p1_c9 : Int) : Option (List S29) := ((T49 p0).bind fun x1 => ((T49_1 p0).bind fun x2 => ((iter (L40_5 p1_c0 p1_c1 p1_c2 p1_c3 p1_c4 p1_c5 p1_c6 p1_c7 p1_c8 p1_c9) (x1, x2, [], [], 0)).bind fun y57 => ((appO 32 y57.2.2.2.2.1 y57.2.2.2.2.2).bind fun x58 => (some x58)))))
theorem B40 (C : Callee) (h41 : ∀ (p0 : Int) (p1 : Int) (p2_c0 : ByteArray) (p2_c1 : Int) (p2_c2 : Int) (p2_c3 : (List S31)) (p3_c0 : ByteArray) (p3_c1 : Int) (p3_c2 : Int) (p3_c3 : Int) (p3_c4 : Int) (p3_c5 : Int), C 41 [I p0, I p1, .ia [S p2_c0, I p2_c1, I p2_c2, LL a31 p2_c3] 0, .ia [S p3_c0, I p3_c1, I p3_c2, I p3_c3, I p3_c4, I p3_c5] 0] = (T41 p0 p1 p2_c0 p2_c1 p2_c2 p2_c3 p3_c0 p3_c1 p3_c2 p3_c3 p3_c4 p3_c5).map B) (h49 : ∀ (p0 : (List S29)), C 49 [LL a29 p0, .fn 50 []] = (T49 p0).map (fun l => AV.fr 3 1 (List.map I l))) (h49_1 : ∀ (p0 : (List S29)), C 49 [LL a29 p0, .fn 51 []] = (T49_1 p0).map (fun l => AV.fr 3 1 (List.map I l))) (h52 : ∀ (p0 : (List S29)) (p1 : (List S29)), C 52 [LL a29 p0, LL a29 p1, .fn 53 []] = (T52 p0 p1).map B) (p0 : (List S29)) (p1_c0 : ByteArray) (p1_c1 : Int) (p1_c2 : Int) (p1_c3 : (List S31)) (p1_c4 : ByteArray) (p1_c5 : Int) (p1_c6 : Int) (p1_c7 : Int) (p1_c8 : Int) (p1_c9 : Int) : runs Try.prog C (cfg.fn 40) (finFn Try.prog (cfg.fn 40).byval Try.f40) [] (execA Try.prog C (cfg.fn 40) (nr Try.f40 []) (frame0 [LL a29 p0, .fn 41 [.ia [S p1_c0, I p1_c1, I p1_c2, LL a31 p1_c3] 0, .ia [S p1_c4, I p1_c5, I p1_c6, I p1_c7, I p1_c8, I p1_c9] 0]] 149 false)) = (T40 p0 p1_c0 p1_c1 p1_c2 p1_c3 p1_c4 p1_c5 p1_c6 p1_c7 p1_c8 p1_c9).map (fun l => AV.fr 30 4 (List.map a29 l)) := by
  unfold T40
  refine gS 1 ?_
  refine gR 0 (rg Try.f40 0) ?_
  refine se (mkE [(0, LL a29 p0), (1, .fn 41 [.ia [S p1_c0, I p1_c1, I p1_c2, LL a31 p1_c3] 0, .ia [S p1_c4, I p1_c5, I p1_c6, I p1_c7, I p1_c8, I p1_c9] 0])] [] 149) ?_
  refine pN ?_
  refine pS ?_
  refine gS 2 ?_
  refine gR 1 (rg Try.f40 1) ?_
  refine sg 1 (mkE [(15, LL a29 p0), (0, LL a29 p0), (1, .fn 41 [.ia [S p1_c0, I p1_c1, I p1_c2, LL a31 p1_c3] 0, .ia [S p1_c4, I p1_c5, I p1_c6, I p1_c7, I p1_c8, I p1_c9] 0])] [] 149) ?_
  refine co 16 [] (h49 p0) (fun x1 => ?_)
  refine se (mkE [(0, LL a29 p0), (1, .fn 41 [.ia [S p1_c0, I p1_c1, I p1_c2, LL a31 p1_c3] 0, .ia [S p1_c4, I p1_c5, I p1_c6, I p1_c7, I p1_c8, I p1_c9] 0]), (5, .own 128 0)] [(128, RR 3 1 I x1 0 false)] 149) ?_
  refine pN ?_
  refine pS ?_
  refine gS 3 ?_
  refine gR 2 (rg Try.f40 2) ?_
  refine sg 1 (mkE [(17, LL a29 p0), (0, LL a29 p0), (1, .fn 41 [.ia [S p1_c0, I p1_c1, I p1_c2, LL a31 p1_c3] 0, .ia [S p1_c4, I p1_c5, I p1_c6, I p1_c7, I p1_c8, I p1_c9] 0]), (5, .own 128 0)] [(128, RR 3 1 I x1 0 false)] 149) ?_
  refine co 18 [] (h49_1 p0) (fun x2 => ?_)
  refine se (mkE [(1, .fn 41 [.ia [S p1_c0, I p1_c1, I p1_c2, LL a31 p1_c3] 0, .ia [S p1_c4, I p1_c5, I p1_c6, I p1_c7, I p1_c8, I p1_c9] 0]), (5, .own 128 0), (6, .own 144 0)] [(128, RR 3 1 I x1 0 false), (144, RR 3 1 I x2 0 false)] 149) ?_
  refine pN ?_
  refine pS ?_
  refine gS 4 ?_
  refine gR 3 (rg Try.f40 3) ?_
  refine se (mkE [(1, .fn 41 [.ia [S p1_c0, I p1_c1, I p1_c2, LL a31 p1_c3] 0, .ia [S p1_c4, I p1_c5, I p1_c6, I p1_c7, I p1_c8, I p1_c9] 0]), (5, .own 128 0), (6, .own 144 0), (7, .nils), (8, .nils)] [(128, RR 3 1 I x1 0 false), (144, RR 3 1 I x2 0 false)] 149) ?_
  refine pN ?_
  refine pS ?_
  refine gS 24 ?_
  refine gS 5 ?_
  refine gR 4 (rg Try.f40 4) ?_
  refine se (mkE [(1, .fn 41 [.ia [S p1_c0, I p1_c1, I p1_c2, LL a31 p1_c3] 0, .ia [S p1_c4, I p1_c5, I p1_c6, I p1_c7, I p1_c8, I p1_c9] 0]), (5, .own 128 0), (6, .own 144 0), (7, .nils), (8, .nils), (9, I 0)] [(128, RR 3 1 I x1 0 false), (144, RR 3 1 I x2 0 false)] 149) ?_
  refine pN ?_
  refine pS ?_
  refine gB 0 ?_
  refine lo [(1, none), (5, some (3, 1)), (6, some (3, 1)), (7, some (30, 4)), (8, some (30, 4)), (9, none)] [] (L40_5 p1_c0 p1_c1 p1_c2 p1_c3 p1_c4 p1_c5 p1_c6 p1_c7 p1_c8 p1_c9) (fun z0 : ((List Int) × (List Int) × (List S29) × (List S29) × Int) => (mkE [(1, .fn 41 [.ia [S p1_c0, I p1_c1, I p1_c2, LL a31 p1_c3] 0, .ia [S p1_c4, I p1_c5, I p1_c6, I p1_c7, I p1_c8, I p1_c9] 0]), (5, .own 40 0), (6, .own 48 0), (7, .own 56 0), (8, .own 64 0), (9, I z0.2.2.2.2)] [(40, RR 3 1 I z0.1 0 false), (48, RR 3 1 I z0.2.1 0 false), (56, RR 30 4 a29 z0.2.2.1 0 false), (64, RR 30 4 a29 z0.2.2.2.1 0 false)] 149)) (fun (x : (Int × Bool × (List Int) × (List Int) × (List S29) × (List S29))) => (.exit 0, (mkE [(1, .fn 41 [.ia [S p1_c0, I p1_c1, I p1_c2, LL a31 p1_c3] 0, .ia [S p1_c4, I p1_c5, I p1_c6, I p1_c7, I p1_c8, I p1_c9] 0]), (5, .own 40 0), (6, .own 48 0), (7, .own 56 0), (8, .own 64 0), (9, I x.1), (23, B x.2.1)] [(40, RR 3 1 I x.2.2.1 0 false), (48, RR 3 1 I x.2.2.2.1 0 false), (56, RR 30 4 a29 x.2.2.2.2.1 0 false), (64, RR 30 4 a29 x.2.2.2.2.2 0 false)] 149))) (x1, x2, [], [], 0) (fun z => L40_5_ok C h41 h52 p1_c0 p1_c1 p1_c2 p1_c3 p1_c4 p1_c5 p1_c6 p1_c7 p1_c8 p1_c9 z) ?_
  intro y57
  refine pH ?_
  refine pN ?_
  refine pS ?_
  refine gS 0 ?_
  refine gR 24 (rg Try.f40 24) ?_
  refine sg 2 (mkE [(147, .own 64 0), (146, .own 56 0), (1, .fn 41 [.ia [S p1_c0, I p1_c1, I p1_c2, LL a31 p1_c3] 0, .ia [S p1_c4, I p1_c5, I p1_c6, I p1_c7, I p1_c8, I p1_c9] 0]), (5, .own 40 0), (6, .own 48 0), (7, .own 56 0), (8, .own 64 0), (9, I y57.1), (23, B y57.2.1)] [(40, RR 3 1 I y57.2.2.1 0 false), (48, RR 3 1 I y57.2.2.2.1 0 false), (56, RR 30 4 a29 y57.2.2.2.2.1 0 false), (64, RR 30 4 a29 y57.2.2.2.2.2 0 false)] 149) ?_
  refine mo (some 148) (apO 59 30 4 32 56 a29 0 [64] (y := .own 64 0) (l2 := y57.2.2.2.2.2)) (fun x58 => ?_)
  refine se (mkE [(4, .own 56 1)] [(56, RR 30 4 a29 x58 1 false)] 149) ?_
  refine pN ?_
  refine pS ?_
  refine gE ?_
  exact pL
theorem F40 (m : Nat) (hm : 5 ≤ m) (p0 : (List S29)) (p1_c0 : ByteArray) (p1_c1 : Int) (p1_c2 : Int) (p1_c3 : (List S31)) (p1_c4 : ByteArray) (p1_c5 : Int) (p1_c6 : Int) (p1_c7 : Int) (p1_c8 : Int) (p1_c9 : Int) : callA Try.prog cfg m 40 [LL a29 p0, .fn 41 [.ia [S p1_c0, I p1_c1, I p1_c2, LL a31 p1_c3] 0, .ia [S p1_c4, I p1_c5, I p1_c6, I p1_c7, I p1_c8, I p1_c9] 0]] = (T40 p0 p1_c0 p1_c1 p1_c2 p1_c3 p1_c4 p1_c5 p1_c6 p1_c7 p1_c8 p1_c9).map (fun l => AV.fr 30 4 (List.map a29 l)) := by
  obtain ⟨q, rfl⟩ : ∃ q, m = q + 1 := ⟨m - 1, by omega⟩
  exact (callA_body (fn := Try.f40) (c := body_ Try.f40) q _ (by kernel_rfl) (by kernel_rfl) (by kernel_rfl)).trans (B40 _ (fun p0 p1 p2_c0 p2_c1 p2_c2 p2_c3 p3_c0 p3_c1 p3_c2 p3_c3 p3_c4 p3_c5 => F41 q (by omega) p0 p1 p2_c0 p2_c1 p2_c2 p2_c3 p3_c0 p3_c1 p3_c2 p3_c3 p3_c4 p3_c5) (fun p0 => F49 q (by omega) p0) (fun p0 => F49_1 q (by omega) p0) (fun p0 p1 => F52 q (by omega) p0 p1) p0 p1_c0 p1_c1 p1_c2 p1_c3 p1_c4 p1_c5 p1_c6 p1_c7 p1_c8 p1_c9)

noncomputable def L18_3 (p0 : S23) (z0 : ((List S29) × Int)) : Option (((List S29) × Int) ⊕ (Int × Bool × (List S29))) := (bif (ltI z0.2 (lenL p0.f3)) then ((listAt p0.f3 z0.2).bind fun x1 => ((appO 32 z0.1 ([x1.f1] : List S29)).bind fun x2 => (some (.inl (x2, (addI .i64 z0.2 1)))))) else (some (.inr (z0.2, (ltI z0.2 (lenL p0.f3)), z0.1))))
theorem L18_3_ok (C : Callee) (p0 : S23) (z0 : ((List S29) × Int)) : runs Try.prog C (cfg.fn 18) (finLoop ((cfg.fn 18).keep 3) ((cfg.fn 18).al 3)) [] (execA Try.prog C (cfg.fn 18) (nr Try.f18 [false, false, true, false, true, true]) ((fun z0 : ((List S29) × Int) => (mkE [(1, .ba 8 0), (3, .own 24 0), (12, LL a31 p0.f3), (13, I (lenL p0.f3)), (14, I z0.2)] [(8, .box [S p0.f0, I p0.f1, I p0.f2, LL a31 p0.f3] false), (24, RR 30 4 a29 z0.1 0 false)] 49)) z0)) = (L18_3 p0 z0).map (Sum.elim (fun z => .inl ((fun z0 : ((List S29) × Int) => (mkE [(1, .ba 8 0), (3, .own 24 0), (12, LL a31 p0.f3), (13, I (lenL p0.f3)), (14, I z0.2)] [(8, .box [S p0.f0, I p0.f1, I p0.f2, LL a31 p0.f3] false), (24, RR 30 4 a29 z0.1 0 false)] 49)) z)) (fun x => .inr ((fun (x : (Int × Bool × (List S29))) => (.exit 0, (mkE [(1, .ba 8 0), (3, .own 24 0), (12, LL a31 p0.f3), (13, I (lenL p0.f3)), (14, I x.1), (15, B x.2.1)] [(8, .box [S p0.f0, I p0.f1, I p0.f2, LL a31 p0.f3] false), (24, RR 30 4 a29 x.2.2 0 false)] 49))) x))) := by
  unfold L18_3
  refine gS 0 ?_
  refine gR 3 (rg Try.f18 3) ?_
  refine se (mkE [(1, .ba 8 0), (3, .own 24 0), (12, LL a31 p0.f3), (13, I (lenL p0.f3)), (14, I z0.2), (15, B (ltI z0.2 (lenL p0.f3)))] [(8, .box [S p0.f0, I p0.f1, I p0.f2, LL a31 p0.f3] false), (24, RR 30 4 a29 z0.1 0 false)] 49) ?_
  refine pN ?_
  refine pS ?_
  refine gS 4 ?_
  refine gC 15 (ltI z0.2 (lenL p0.f3)) ?_ ?_
  · refine gK ?_
    refine pN ?_
    refine pS ?_
    refine gS 6 ?_
    refine gB 1 ?_
    refine gS 5 ?_
    refine gR 4 (rg Try.f18 4) ?_
    refine vo 16 (addrE 22 32 6 a31 .i64 p0.f3 z0.2) (fun x1 => ?_)
    refine se (mkE [(1, .ba 8 0), (3, .own 24 0), (5, .ba 40 0), (12, LL a31 p0.f3), (13, I (lenL p0.f3)), (14, I z0.2)] [(8, .box [S p0.f0, I p0.f1, I p0.f2, LL a31 p0.f3] false), (24, RR 30 4 a29 z0.1 0 false), (40, .box [S x1.f0, I x1.f1.f0, I x1.f1.f1, I x1.f1.f2, I x1.f1.f3, I x1.f2] false)] 49) ?_
    refine pN ?_
    refine pS ?_
    refine gR 5 (rg Try.f18 5) ?_
    refine sg 4 (mkE [(21, .own 168 0), (20, a29 x1.f1), (19, .ba 40 1), (18, .own 24 0), (1, .ba 8 0), (3, .own 24 0), (5, .ba 40 0), (12, LL a31 p0.f3), (13, I (lenL p0.f3)), (14, I z0.2)] [(168, RR 30 4 a29 ([x1.f1] : List S29) 0 false), (8, .box [S p0.f0, I p0.f1, I p0.f2, LL a31 p0.f3] false), (24, RR 30 4 a29 z0.1 0 false), (40, .box [S x1.f0, I x1.f1.f0, I x1.f1.f1, I x1.f1.f2, I x1.f1.f3, I x1.f2] false)] 49) ?_
    refine mo (some 22) (apO 59 30 4 32 24 a29 0 [168] (y := .own 168 0) (l2 := ([x1.f1] : List S29))) (fun x2 => ?_)
    refine se (mkE [(1, .ba 8 0), (3, .own 24 1), (12, LL a31 p0.f3), (13, I (lenL p0.f3)), (14, I z0.2)] [(8, .box [S p0.f0, I p0.f1, I p0.f2, LL a31 p0.f3] false), (24, RR 30 4 a29 x2 1 false)] 49) ?_
    refine pB ?_
    refine pN ?_
    refine pS ?_
    refine gR 6 (rg Try.f18 6) ?_
    refine se (mkE [(1, .ba 8 0), (3, .own 24 1), (12, LL a31 p0.f3), (13, I (lenL p0.f3)), (14, I (addI .i64 z0.2 1))] [(8, .box [S p0.f0, I p0.f1, I p0.f2, LL a31 p0.f3] false), (24, RR 30 4 a29 x2 1 false)] 49) ?_
    exact pL
  · refine gX 0 ?_
    exact pL
noncomputable def L18_12 (p0 : S23) (y3 : (Int × Bool × (List S29))) (z1 : ((List S49) × Int)) (x4 : S31) (x5 : (List S29)) (z2 : ((List S49) × (List S29) × Int)) : Option (((List S49) × (List S29) × Int) ⊕ (Int × Bool × (List S49) × (List S29))) := (bif (ltI z2.2.2 (lenL x5)) then ((idxO (List.length z2.2.1) z2.2.2).bind fun x6 => ((getN z2.2.1 x6).bind fun x7 => ((appO 48 z2.1 ([(S49.mk x4.f0 x7)] : List S49)).bind fun x8 => (some (.inl (x8, z2.2.1, (addI .i64 z2.2.2 1))))))) else (some (.inr (z2.2.2, (ltI z2.2.2 (lenL x5)), z2.1, z2.2.1))))
theorem L18_12_ok (C : Callee) (p0 : S23) (y3 : (Int × Bool × (List S29))) (z1 : ((List S49) × Int)) (x4 : S31) (x5 : (List S29)) (z2 : ((List S49) × (List S29) × Int)) : runs Try.prog C (cfg.fn 18) (finLoop ((cfg.fn 18).keep 12) ((cfg.fn 18).al 12)) [] (execA Try.prog C (cfg.fn 18) (nr Try.f18 [false, false, true, true, false, false, true, true, false, false, true, false, true, true, true, true]) ((fun z2 : ((List S49) × (List S29) × Int) => (mkE [(1, .ba 8 0), (3, LL a29 y3.2.2), (6, .own 48 0), (8, .ba 64 0), (25, LL a31 p0.f3), (26, I (lenL p0.f3)), (27, I z1.2), (33, .own 264 0), (34, I (lenL x5)), (35, I z2.2.2)] [(8, .box [S p0.f0, I p0.f1, I p0.f2, LL a31 p0.f3] true), (48, RR 50 5 a49 z2.1 0 false), (64, .box [S x4.f0, I x4.f1.f0, I x4.f1.f1, I x4.f1.f2, I x4.f1.f3, I x4.f2] true), (264, RR 30 4 a29 z2.2.1 0 false)] 49)) z2)) = (L18_12 p0 y3 z1 x4 x5 z2).map (Sum.elim (fun z => .inl ((fun z2 : ((List S49) × (List S29) × Int) => (mkE [(1, .ba 8 0), (3, LL a29 y3.2.2), (6, .own 48 0), (8, .ba 64 0), (25, LL a31 p0.f3), (26, I (lenL p0.f3)), (27, I z1.2), (33, .own 264 0), (34, I (lenL x5)), (35, I z2.2.2)] [(8, .box [S p0.f0, I p0.f1, I p0.f2, LL a31 p0.f3] true), (48, RR 50 5 a49 z2.1 0 false), (64, .box [S x4.f0, I x4.f1.f0, I x4.f1.f1, I x4.f1.f2, I x4.f1.f3, I x4.f2] true), (264, RR 30 4 a29 z2.2.1 0 false)] 49)) z)) (fun x => .inr ((fun (x : (Int × Bool × (List S49) × (List S29))) => (.exit 4, (mkE [(1, .ba 8 0), (3, LL a29 y3.2.2), (6, .own 48 0), (8, .ba 64 0), (25, LL a31 p0.f3), (26, I (lenL p0.f3)), (27, I z1.2), (33, .own 264 0), (34, I (lenL x5)), (35, I x.1), (36, B x.2.1)] [(8, .box [S p0.f0, I p0.f1, I p0.f2, LL a31 p0.f3] true), (48, RR 50 5 a49 x.2.2.1 0 false), (64, .box [S x4.f0, I x4.f1.f0, I x4.f1.f1, I x4.f1.f2, I x4.f1.f3, I x4.f2] true), (264, RR 30 4 a29 x.2.2.2 0 false)] 49))) x))) := by
  unfold L18_12
  refine gS 0 ?_
  refine gR 12 (rg Try.f18 12) ?_
  refine se (mkE [(1, .ba 8 0), (3, LL a29 y3.2.2), (6, .own 48 0), (8, .ba 64 0), (25, LL a31 p0.f3), (26, I (lenL p0.f3)), (27, I z1.2), (33, .own 264 0), (34, I (lenL x5)), (35, I z2.2.2), (36, B (ltI z2.2.2 (lenL x5)))] [(8, .box [S p0.f0, I p0.f1, I p0.f2, LL a31 p0.f3] true), (48, RR 50 5 a49 z2.1 0 false), (64, .box [S x4.f0, I x4.f1.f0, I x4.f1.f1, I x4.f1.f2, I x4.f1.f3, I x4.f2] true), (264, RR 30 4 a29 z2.2.1 0 false)] 49) ?_
  refine pN ?_
  refine pS ?_
  refine gS 13 ?_
  refine gC 36 (ltI z2.2.2 (lenL x5)) ?_ ?_
  · refine gK ?_
    refine pN ?_
    refine pS ?_
    refine gS 15 ?_
    refine gB 5 ?_
    refine gS 14 ?_
    refine gR 13 (rg Try.f18 13) ?_
    refine vo 37 (addrOE 59 30 4 264 0 false a29 .i64 z2.2.1 z2.2.2) (fun x6 => ?_)
    refine vo 38 (loadOE 30 264 0 x6 0 30 4 4 true false a29 (fun q : S29 => a29 q) z2.2.1) (fun x7 => ?_)
    refine se (mkE [(1, .ba 8 0), (3, LL a29 y3.2.2), (6, .own 48 0), (8, .ba 64 0), (10, .ba 80 0), (25, LL a31 p0.f3), (26, I (lenL p0.f3)), (27, I z1.2), (33, .own 264 0), (34, I (lenL x5)), (35, I z2.2.2)] [(8, .box [S p0.f0, I p0.f1, I p0.f2, LL a31 p0.f3] true), (48, RR 50 5 a49 z2.1 0 false), (64, .box [S x4.f0, I x4.f1.f0, I x4.f1.f1, I x4.f1.f2, I x4.f1.f3, I x4.f2] true), (80, .box [I x7.f0, I x7.f1, I x7.f2, I x7.f3] false), (264, RR 30 4 a29 z2.2.1 0 false)] 49) ?_
    refine pN ?_
    refine pS ?_
    refine gR 14 (rg Try.f18 14) ?_
    refine sg 6 (mkE [(44, .own 352 0), (43, .agg [S x4.f0, I x7.f0, I x7.f1, I x7.f2, I x7.f3]), (42, a29 x7), (41, S x4.f0), (40, .ba 64 0), (39, .own 48 0), (1, .ba 8 0), (3, LL a29 y3.2.2), (6, .own 48 0), (8, .ba 64 0), (10, .ba 80 0), (25, LL a31 p0.f3), (26, I (lenL p0.f3)), (27, I z1.2), (33, .own 264 0), (34, I (lenL x5)), (35, I z2.2.2)] [(352, RR 50 5 a49 ([(S49.mk x4.f0 x7)] : List S49) 0 false), (8, .box [S p0.f0, I p0.f1, I p0.f2, LL a31 p0.f3] true), (48, RR 50 5 a49 z2.1 0 false), (64, .box [S x4.f0, I x4.f1.f0, I x4.f1.f1, I x4.f1.f2, I x4.f1.f3, I x4.f2] true), (80, .box [I x7.f0, I x7.f1, I x7.f2, I x7.f3] false), (264, RR 30 4 a29 z2.2.1 0 false)] 49) ?_
    refine mo (some 45) (apO 36 50 5 48 48 a49 0 [352] (y := .own 352 0) (l2 := ([(S49.mk x4.f0 x7)] : List S49))) (fun x8 => ?_)
    refine se (mkE [(1, .ba 8 0), (3, LL a29 y3.2.2), (6, .own 48 1), (8, .ba 64 0), (25, LL a31 p0.f3), (26, I (lenL p0.f3)), (27, I z1.2), (33, .own 264 0), (34, I (lenL x5)), (35, I z2.2.2)] [(8, .box [S p0.f0, I p0.f1, I p0.f2, LL a31 p0.f3] true), (48, RR 50 5 a49 x8 1 false), (64, .box [S x4.f0, I x4.f1.f0, I x4.f1.f1, I x4.f1.f2, I x4.f1.f3, I x4.f2] true), (264, RR 30 4 a29 z2.2.1 0 false)] 49) ?_
    refine pB ?_
    refine pN ?_
    refine pS ?_
    refine gR 15 (rg Try.f18 15) ?_
    refine se (mkE [(1, .ba 8 0), (3, LL a29 y3.2.2), (6, .own 48 1), (8, .ba 64 0), (25, LL a31 p0.f3), (26, I (lenL p0.f3)), (27, I z1.2), (33, .own 264 0), (34, I (lenL x5)), (35, I (addI .i64 z2.2.2 1))] [(8, .box [S p0.f0, I p0.f1, I p0.f2, LL a31 p0.f3] true), (48, RR 50 5 a49 x8 1 false), (64, .box [S x4.f0, I x4.f1.f0, I x4.f1.f1, I x4.f1.f2, I x4.f1.f3, I x4.f2] true), (264, RR 30 4 a29 z2.2.1 0 false)] 49) ?_
    exact pL
  · refine gX 4 ?_
    exact pL
noncomputable def L18_9 (p0 : S23) (y3 : (Int × Bool × (List S29))) (z1 : ((List S49) × Int)) : Option (((List S49) × Int) ⊕ (Int × Bool × (List S49))) := (bif (ltI z1.2 (lenL p0.f3)) then ((listAt p0.f3 z1.2).bind fun x4 => ((T40 y3.2.2 p0.f0 p0.f1 p0.f2 p0.f3 x4.f0 x4.f1.f0 x4.f1.f1 x4.f1.f2 x4.f1.f3 x4.f2).bind fun x5 => ((iter (L18_12 p0 y3 z1 x4 x5) (z1.1, x5, 0)).bind fun y9 => (some (.inl (y9.2.2.1, (addI .i64 z1.2 1))))))) else (some (.inr (z1.2, (ltI z1.2 (lenL p0.f3)), z1.1))))
theorem L18_9_ok (C : Callee) (h40 : ∀ (p0 : (List S29)) (p1_c0 : ByteArray) (p1_c1 : Int) (p1_c2 : Int) (p1_c3 : (List S31)) (p1_c4 : ByteArray) (p1_c5 : Int) (p1_c6 : Int) (p1_c7 : Int) (p1_c8 : Int) (p1_c9 : Int), C 40 [LL a29 p0, .fn 41 [.ia [S p1_c0, I p1_c1, I p1_c2, LL a31 p1_c3] 0, .ia [S p1_c4, I p1_c5, I p1_c6, I p1_c7, I p1_c8, I p1_c9] 0]] = (T40 p0 p1_c0 p1_c1 p1_c2 p1_c3 p1_c4 p1_c5 p1_c6 p1_c7 p1_c8 p1_c9).map (fun l => AV.fr 30 4 (List.map a29 l))) (p0 : S23) (y3 : (Int × Bool × (List S29))) (z1 : ((List S49) × Int)) : runs Try.prog C (cfg.fn 18) (finLoop ((cfg.fn 18).keep 9) ((cfg.fn 18).al 9)) [] (execA Try.prog C (cfg.fn 18) (nr Try.f18 [false, false, true, false, true, true, true, true]) ((fun z1 : ((List S49) × Int) => (mkE [(1, .ba 8 0), (3, LL a29 y3.2.2), (6, .own 48 0), (25, LL a31 p0.f3), (26, I (lenL p0.f3)), (27, I z1.2)] [(8, .box [S p0.f0, I p0.f1, I p0.f2, LL a31 p0.f3] true), (48, RR 50 5 a49 z1.1 0 false)] 49)) z1)) = (L18_9 p0 y3 z1).map (Sum.elim (fun z => .inl ((fun z1 : ((List S49) × Int) => (mkE [(1, .ba 8 0), (3, LL a29 y3.2.2), (6, .own 48 0), (25, LL a31 p0.f3), (26, I (lenL p0.f3)), (27, I z1.2)] [(8, .box [S p0.f0, I p0.f1, I p0.f2, LL a31 p0.f3] true), (48, RR 50 5 a49 z1.1 0 false)] 49)) z)) (fun x => .inr ((fun (x : (Int × Bool × (List S49))) => (.exit 2, (mkE [(1, .ba 8 0), (3, LL a29 y3.2.2), (6, .own 48 0), (25, LL a31 p0.f3), (26, I (lenL p0.f3)), (27, I x.1), (28, B x.2.1)] [(8, .box [S p0.f0, I p0.f1, I p0.f2, LL a31 p0.f3] true), (48, RR 50 5 a49 x.2.2 0 false)] 49))) x))) := by
  unfold L18_9
  refine gS 0 ?_
  refine gR 9 (rg Try.f18 9) ?_
  refine se (mkE [(1, .ba 8 0), (3, LL a29 y3.2.2), (6, .own 48 0), (25, LL a31 p0.f3), (26, I (lenL p0.f3)), (27, I z1.2), (28, B (ltI z1.2 (lenL p0.f3)))] [(8, .box [S p0.f0, I p0.f1, I p0.f2, LL a31 p0.f3] true), (48, RR 50 5 a49 z1.1 0 false)] 49) ?_
  refine pN ?_
  refine pS ?_
  refine gS 10 ?_
  refine gC 28 (ltI z1.2 (lenL p0.f3)) ?_ ?_
  · refine gK ?_
    refine pN ?_
    refine pS ?_
    refine gS 16 ?_
    refine gB 3 ?_
    refine gS 11 ?_
    refine gR 10 (rg Try.f18 10) ?_
    refine vo 29 (addrE 22 32 6 a31 .i64 p0.f3 z1.2) (fun x4 => ?_)
    refine se (mkE [(1, .ba 8 0), (3, LL a29 y3.2.2), (6, .own 48 0), (8, .ba 64 0), (25, LL a31 p0.f3), (26, I (lenL p0.f3)), (27, I z1.2)] [(8, .box [S p0.f0, I p0.f1, I p0.f2, LL a31 p0.f3] true), (48, RR 50 5 a49 z1.1 0 false), (64, .box [S x4.f0, I x4.f1.f0, I x4.f1.f1, I x4.f1.f2, I x4.f1.f3, I x4.f2] false)] 49) ?_
    refine pN ?_
    refine pS ?_
    refine gS 12 ?_
    refine gR 11 (rg Try.f18 11) ?_
    refine sg 2 (mkE [(32, .fn 41 [.ba 8 0, .ba 64 0]), (31, LL a29 y3.2.2), (1, .ba 8 0), (3, LL a29 y3.2.2), (6, .own 48 0), (8, .ba 64 0), (25, LL a31 p0.f3), (26, I (lenL p0.f3)), (27, I z1.2)] [(8, .box [S p0.f0, I p0.f1, I p0.f2, LL a31 p0.f3] true), (48, RR 50 5 a49 z1.1 0 false), (64, .box [S x4.f0, I x4.f1.f0, I x4.f1.f1, I x4.f1.f2, I x4.f1.f3, I x4.f2] false)] 49) ?_
    refine co 33 [8, 64] (h40 y3.2.2 p0.f0 p0.f1 p0.f2 p0.f3 x4.f0 x4.f1.f0 x4.f1.f1 x4.f1.f2 x4.f1.f3 x4.f2) (fun x5 => ?_)
    refine eo 34 (I (lenL x5)) (lenOE 59 30 4 a29 x5) ?_
    refine se (mkE [(1, .ba 8 0), (3, LL a29 y3.2.2), (6, .own 48 0), (8, .ba 64 0), (25, LL a31 p0.f3), (26, I (lenL p0.f3)), (27, I z1.2), (33, .own 264 0), (34, I (lenL x5)), (35, I 0)] [(8, .box [S p0.f0, I p0.f1, I p0.f2, LL a31 p0.f3] true), (48, RR 50 5 a49 z1.1 0 false), (64, .box [S x4.f0, I x4.f1.f0, I x4.f1.f1, I x4.f1.f2, I x4.f1.f3, I x4.f2] true), (264, RR 30 4 a29 x5 0 false)] 49) ?_
    refine pN ?_
    refine pS ?_
    refine gB 4 ?_
    refine lo [(1, none), (3, none), (6, some (50, 5)), (8, none), (25, none), (26, none), (27, none), (33, some (30, 4)), (34, none), (35, none)] [] (L18_12 p0 y3 z1 x4 x5) (fun z2 : ((List S49) × (List S29) × Int) => (mkE [(1, .ba 8 0), (3, LL a29 y3.2.2), (6, .own 48 0), (8, .ba 64 0), (25, LL a31 p0.f3), (26, I (lenL p0.f3)), (27, I z1.2), (33, .own 264 0), (34, I (lenL x5)), (35, I z2.2.2)] [(8, .box [S p0.f0, I p0.f1, I p0.f2, LL a31 p0.f3] true), (48, RR 50 5 a49 z2.1 0 false), (64, .box [S x4.f0, I x4.f1.f0, I x4.f1.f1, I x4.f1.f2, I x4.f1.f3, I x4.f2] true), (264, RR 30 4 a29 z2.2.1 0 false)] 49)) (fun (x : (Int × Bool × (List S49) × (List S29))) => (.exit 4, (mkE [(1, .ba 8 0), (3, LL a29 y3.2.2), (6, .own 48 0), (8, .ba 64 0), (25, LL a31 p0.f3), (26, I (lenL p0.f3)), (27, I z1.2), (33, .own 264 0), (34, I (lenL x5)), (35, I x.1), (36, B x.2.1)] [(8, .box [S p0.f0, I p0.f1, I p0.f2, LL a31 p0.f3] true), (48, RR 50 5 a49 x.2.2.1 0 false), (64, .box [S x4.f0, I x4.f1.f0, I x4.f1.f1, I x4.f1.f2, I x4.f1.f3, I x4.f2] true), (264, RR 30 4 a29 x.2.2.2 0 false)] 49))) (z1.1, x5, 0) (fun z => L18_12_ok C p0 y3 z1 x4 x5 z) ?_
    intro y9
    refine pH ?_
    refine pB ?_
    refine pN ?_
    refine pS ?_
    refine gR 16 (rg Try.f18 16) ?_
    refine se (mkE [(1, .ba 8 0), (3, LL a29 y3.2.2), (6, .own 48 0), (25, LL a31 p0.f3), (26, I (lenL p0.f3)), (27, I (addI .i64 z1.2 1))] [(8, .box [S p0.f0, I p0.f1, I p0.f2, LL a31 p0.f3] true), (48, RR 50 5 a49 y9.2.2.1 0 false)] 49) ?_
    exact pL
  · refine gX 2 ?_
    exact pL
noncomputable def T18 (p0 : S23) : Option (List S49) := ((iter (L18_3 p0) ([], 0)).bind fun y3 => ((iter (L18_9 p0 y3) ([], 0)).bind fun y10 => (some y10.2.2)))
theorem B18 (C : Callee) (h40 : ∀ (p0 : (List S29)) (p1_c0 : ByteArray) (p1_c1 : Int) (p1_c2 : Int) (p1_c3 : (List S31)) (p1_c4 : ByteArray) (p1_c5 : Int) (p1_c6 : Int) (p1_c7 : Int) (p1_c8 : Int) (p1_c9 : Int), C 40 [LL a29 p0, .fn 41 [.ia [S p1_c0, I p1_c1, I p1_c2, LL a31 p1_c3] 0, .ia [S p1_c4, I p1_c5, I p1_c6, I p1_c7, I p1_c8, I p1_c9] 0]] = (T40 p0 p1_c0 p1_c1 p1_c2 p1_c3 p1_c4 p1_c5 p1_c6 p1_c7 p1_c8 p1_c9).map (fun l => AV.fr 30 4 (List.map a29 l))) (p0 : S23) : runs Try.prog C (cfg.fn 18) (finFn Try.prog (cfg.fn 18).byval Try.f18) [] (execA Try.prog C (cfg.fn 18) (nr Try.f18 []) (frame0 [a23 p0] 49 false)) = (T18 p0).map (fun l => AV.fr 50 5 (List.map a49 l)) := by
  unfold T18
  refine gS 1 ?_
  refine gR 0 (rg Try.f18 0) ?_
  refine se (mkE [(1, .ba 8 0)] [(8, .box [S p0.f0, I p0.f1, I p0.f2, LL a31 p0.f3] false)] 49) ?_
  refine pN ?_
  refine pS ?_
  refine gS 2 ?_
  refine gR 1 (rg Try.f18 1) ?_
  refine se (mkE [(1, .ba 8 0), (3, .nils)] [(8, .box [S p0.f0, I p0.f1, I p0.f2, LL a31 p0.f3] false)] 49) ?_
  refine pN ?_
  refine pS ?_
  refine gS 7 ?_
  refine gS 3 ?_
  refine gR 2 (rg Try.f18 2) ?_
  refine sg 2 (mkE [(12, LL a31 p0.f3), (11, .ba 8 3), (1, .ba 8 0), (3, .nils)] [(8, .box [S p0.f0, I p0.f1, I p0.f2, LL a31 p0.f3] false)] 49) ?_
  refine eo 13 (I (lenL p0.f3)) (lenE 22 a31 p0.f3) ?_
  refine se (mkE [(1, .ba 8 0), (3, .nils), (12, LL a31 p0.f3), (13, I (lenL p0.f3)), (14, I 0)] [(8, .box [S p0.f0, I p0.f1, I p0.f2, LL a31 p0.f3] false)] 49) ?_
  refine pN ?_
  refine pS ?_
  refine gB 0 ?_
  refine lo [(1, none), (3, some (30, 4)), (12, none), (13, none), (14, none)] [] (L18_3 p0) (fun z0 : ((List S29) × Int) => (mkE [(1, .ba 8 0), (3, .own 24 0), (12, LL a31 p0.f3), (13, I (lenL p0.f3)), (14, I z0.2)] [(8, .box [S p0.f0, I p0.f1, I p0.f2, LL a31 p0.f3] false), (24, RR 30 4 a29 z0.1 0 false)] 49)) (fun (x : (Int × Bool × (List S29))) => (.exit 0, (mkE [(1, .ba 8 0), (3, .own 24 0), (12, LL a31 p0.f3), (13, I (lenL p0.f3)), (14, I x.1), (15, B x.2.1)] [(8, .box [S p0.f0, I p0.f1, I p0.f2, LL a31 p0.f3] false), (24, RR 30 4 a29 x.2.2 0 false)] 49))) ([], 0) (fun z => L18_3_ok C p0 z) ?_
  intro y3
  refine pH ?_
  refine pN ?_
  refine pS ?_
  refine gS 8 ?_
  refine gR 7 (rg Try.f18 7) ?_
  refine se (mkE [(1, .ba 8 0), (3, .own 24 0), (6, .nils)] [(8, .box [S p0.f0, I p0.f1, I p0.f2, LL a31 p0.f3] false), (24, RR 30 4 a29 y3.2.2 0 false)] 49) ?_
  refine pN ?_
  refine pS ?_
  refine gS 17 ?_
  refine gS 9 ?_
  refine gR 8 (rg Try.f18 8) ?_
  refine sg 2 (mkE [(25, LL a31 p0.f3), (24, .ba 8 3), (1, .ba 8 0), (3, .own 24 0), (6, .nils)] [(8, .box [S p0.f0, I p0.f1, I p0.f2, LL a31 p0.f3] false), (24, RR 30 4 a29 y3.2.2 0 false)] 49) ?_
  refine eo 26 (I (lenL p0.f3)) (lenE 22 a31 p0.f3) ?_
  refine se (mkE [(1, .ba 8 0), (3, .own 24 0), (6, .nils), (25, LL a31 p0.f3), (26, I (lenL p0.f3)), (27, I 0)] [(8, .box [S p0.f0, I p0.f1, I p0.f2, LL a31 p0.f3] false), (24, RR 30 4 a29 y3.2.2 0 false)] 49) ?_
  refine pN ?_
  refine pS ?_
  refine gB 2 ?_
  refine lo [(1, some (0, 0)), (3, none), (6, some (50, 5)), (25, none), (26, none), (27, none)] [] (L18_9 p0 y3) (fun z1 : ((List S49) × Int) => (mkE [(1, .ba 8 0), (3, LL a29 y3.2.2), (6, .own 48 0), (25, LL a31 p0.f3), (26, I (lenL p0.f3)), (27, I z1.2)] [(8, .box [S p0.f0, I p0.f1, I p0.f2, LL a31 p0.f3] true), (48, RR 50 5 a49 z1.1 0 false)] 49)) (fun (x : (Int × Bool × (List S49))) => (.exit 2, (mkE [(1, .ba 8 0), (3, LL a29 y3.2.2), (6, .own 48 0), (25, LL a31 p0.f3), (26, I (lenL p0.f3)), (27, I x.1), (28, B x.2.1)] [(8, .box [S p0.f0, I p0.f1, I p0.f2, LL a31 p0.f3] true), (48, RR 50 5 a49 x.2.2 0 false)] 49))) ([], 0) (fun z => L18_9_ok C h40 p0 y3 z) ?_
  intro y10
  refine pH ?_
  refine pN ?_
  refine pS ?_
  refine gS 0 ?_
  refine gR 17 (rg Try.f18 17) ?_
  refine se (mkE [(2, .own 48 0)] [(48, RR 50 5 a49 y10.2.2 0 false)] 49) ?_
  refine pN ?_
  refine pS ?_
  refine gE ?_
  exact pL
theorem F18 (m : Nat) (hm : 6 ≤ m) (p0 : S23) : callA Try.prog cfg m 18 [a23 p0] = (T18 p0).map (fun l => AV.fr 50 5 (List.map a49 l)) := by
  obtain ⟨q, rfl⟩ : ∃ q, m = q + 1 := ⟨m - 1, by omega⟩
  exact (callA_body (fn := Try.f18) (c := body_ Try.f18) q _ (by kernel_rfl) (by kernel_rfl) (by kernel_rfl)).trans (B18 _ (fun p0 p1_c0 p1_c1 p1_c2 p1_c3 p1_c4 p1_c5 p1_c6 p1_c7 p1_c8 p1_c9 => F40 q (by omega) p0 p1_c0 p1_c1 p1_c2 p1_c3 p1_c4 p1_c5 p1_c6 p1_c7 p1_c8 p1_c9) p0)

noncomputable def T17 (p0 : (List S49)) : Option ((List S49) × Int) := (bif (ltI 2000 (lenL p0)) then (some ([], 2)) else (some (p0, 0)))
theorem B17 (C : Callee) (p0 : (List S49)) : runs Try.prog C (cfg.fn 17) (finFn Try.prog (cfg.fn 17).byval Try.f17) [] (execA Try.prog C (cfg.fn 17) (nr Try.f17 []) (frame0 [LL a49 p0] 8 false)) = (T17 p0).map (fun r => AV.tup [(LL a49) r.1, I r.2]) := by
  unfold T17
  refine gS 1 ?_
  refine gR 0 (rg Try.f17 0) ?_
  refine se (mkE [(0, LL a49 p0)] [] 8) ?_
  refine pN ?_
  refine pS ?_
  refine gS 3 ?_
  refine gS 0 ?_
  refine gR 1 (rg Try.f17 1) ?_
  refine sg 1 (mkE [(4, LL a49 p0), (0, LL a49 p0)] [] 8) ?_
  refine eo 5 (I (lenL p0)) (lenE 36 a49 p0) ?_
  refine se (mkE [(0, LL a49 p0), (6, B (ltI 2000 (lenL p0)))] [] 8) ?_
  refine pN ?_
  refine pS ?_
  refine gC 6 (ltI 2000 (lenL p0)) ?_ ?_
  · refine gS 0 ?_
    refine gR 2 (rg Try.f17 2) ?_
    refine se (mkE [(2, .nils), (3, I 2)] [] 8) ?_
    refine pN ?_
    refine pS ?_
    refine gE ?_
    exact pL
  · refine gK ?_
    refine pN ?_
    refine pS ?_
    refine gS 0 ?_
    refine gR 3 (rg Try.f17 3) ?_
    refine se (mkE [(2, LL a49 p0), (3, I 0)] [] 8) ?_
    refine pN ?_
    refine pS ?_
    refine gE ?_
    exact pL
theorem F17 (m : Nat) (hm : 1 ≤ m) (p0 : (List S49)) : callA Try.prog cfg m 17 [LL a49 p0] = (T17 p0).map (fun r => AV.tup [(LL a49) r.1, I r.2]) := by
  obtain ⟨q, rfl⟩ : ∃ q, m = q + 1 := ⟨m - 1, by omega⟩
  exact (callA_body (fn := Try.f17) (c := body_ Try.f17) q _ (by kernel_rfl) (by kernel_rfl) (by kernel_rfl)).trans (B17 _ p0)

noncomputable def L19_4 (p0 : (List S49)) (p1 : (List S49)) (z0 : Int) : Option (Int ⊕ ((Int × Bool) ⊕ Unit)) := (bif (ltI z0 (lenL p0)) then ((listAt p0 z0).bind fun x1 => ((listAt p1 z0).bind fun x2 => (bif (!allB [eqB x1.f0 x2.f0, allB [eqI x1.f1.f0 x2.f1.f0, eqI x1.f1.f1 x2.f1.f1, eqI x1.f1.f2 x2.f1.f2, eqI x1.f1.f3 x2.f1.f3]]) then (some (.inr (.inr ()))) else (some (.inl (addI .i64 z0 1)))))) else (some (.inr (.inl (z0, (ltI z0 (lenL p0)))))))
theorem L19_4_ok (C : Callee) (p0 : (List S49)) (p1 : (List S49)) (z0 : Int) : runs Try.prog C (cfg.fn 19) (finLoop ((cfg.fn 19).keep 4) ((cfg.fn 19).al 4)) [] (execA Try.prog C (cfg.fn 19) (nr Try.f19 [false, false, true, false, true, true]) ((fun z0 : Int => (mkE [(0, LL a49 p0), (1, LL a49 p1), (12, I (lenL p0)), (13, I z0)] [] 26)) z0)) = (L19_4 p0 p1 z0).map (Sum.elim (fun z => .inl ((fun z0 : Int => (mkE [(0, LL a49 p0), (1, LL a49 p1), (12, I (lenL p0)), (13, I z0)] [] 26)) z)) (fun x => .inr ((Sum.elim (fun (x : (Int × Bool)) => (.exit 0, (mkE [(0, LL a49 p0), (1, LL a49 p1), (12, I (lenL p0)), (13, I x.1), (14, B x.2)] [] 26))) (fun (x : Unit) => (.ret, (mkE [(4, B false)] [] 26)))) x))) := by
  unfold L19_4
  refine gS 0 ?_
  refine gR 4 (rg Try.f19 4) ?_
  refine se (mkE [(0, LL a49 p0), (1, LL a49 p1), (12, I (lenL p0)), (13, I z0), (14, B (ltI z0 (lenL p0)))] [] 26) ?_
  refine pN ?_
  refine pS ?_
  refine gS 5 ?_
  refine gC 14 (ltI z0 (lenL p0)) ?_ ?_
  · refine gK ?_
    refine pN ?_
    refine pS ?_
    refine gS 8 ?_
    refine gB 1 ?_
    refine gS 6 ?_
    refine gR 5 (rg Try.f19 5) ?_
    refine se (mkE [(0, LL a49 p0), (1, LL a49 p1), (5, I z0), (12, I (lenL p0)), (13, I z0)] [] 26) ?_
    refine pN ?_
    refine pS ?_
    refine gS 0 ?_
    refine gD 6 9 (rg Try.f19 6) [0, 1, 2, 3, 4, 5, 6, 7, 8] ?_
    refine dg 2 [(some 16, qe (LL a49 p0)), (some 17, qe (I z0))] ?_
    refine dv 18 (mkE [(17, I z0), (16, LL a49 p0), (0, LL a49 p0), (1, LL a49 p1), (5, I z0), (12, I (lenL p0)), (13, I z0)] [] 26) (addrE 36 50 5 a49 .i64 p0 z0) (fun x1 => ?_)
    refine dg 6 [(some 16, qe (LL a49 p0)), (some 17, qe (I z0)), (some 18, qe (.ia [S x1.f0, I x1.f1.f0, I x1.f1.f1, I x1.f1.f2, I x1.f1.f3] 0)), (some 19, qe (a49 x1)), (some 20, qe (LL a49 p1)), (some 21, qe (I z0))] ?_
    refine dv 22 (mkE [(21, I z0), (20, LL a49 p1), (0, LL a49 p0), (1, LL a49 p1), (5, I z0), (12, I (lenL p0)), (13, I z0)] [] 26) (addrE 36 50 5 a49 .i64 p1 z0) (fun x2 => ?_)
    refine dg 8 [(some 16, qe (LL a49 p0)), (some 17, qe (I z0)), (some 18, qe (.ia [S x1.f0, I x1.f1.f0, I x1.f1.f1, I x1.f1.f2, I x1.f1.f3] 0)), (some 19, qe (a49 x1)), (some 20, qe (LL a49 p1)), (some 21, qe (I z0)), (some 22, qe (.ia [S x2.f0, I x2.f1.f0, I x2.f1.f1, I x2.f1.f2, I x2.f1.f3] 0)), (some 23, qe (a49 x2))] ?_
    refine df 24 (B (!allB [eqB x1.f0 x2.f0, allB [eqI x1.f1.f0 x2.f1.f0, eqI x1.f1.f1 x2.f1.f1, eqI x1.f1.f2 x2.f1.f2, eqI x1.f1.f3 x2.f1.f3]])) (mkE [(23, a49 x2), (22, .ia [S x2.f0, I x2.f1.f0, I x2.f1.f1, I x2.f1.f2, I x2.f1.f3] 0), (21, I z0), (20, LL a49 p1), (19, a49 x1), (18, .ia [S x1.f0, I x1.f1.f0, I x1.f1.f1, I x1.f1.f2, I x1.f1.f3] 0), (17, I z0), (16, LL a49 p0), (0, LL a49 p0), (1, LL a49 p1), (5, I z0), (12, I (lenL p0)), (13, I z0)] [] 26) (neqE 50 (.tmp 19) (.tmp 23) [S x1.f0, I x1.f1.f0, I x1.f1.f1, I x1.f1.f2, I x1.f1.f3] [S x2.f0, I x2.f1.f0, I x2.f1.f1, I x2.f1.f2, I x2.f1.f3] [.string x1.f0, .int .i64 x1.f1.f0, .int .i64 x1.f1.f1, .int .i64 x1.f1.f2, .int .i64 x1.f1.f3] [.string x2.f0, .int .i64 x2.f1.f0, .int .i64 x2.f1.f1, .int .i64 x2.f1.f2, .int .i64 x2.f1.f3] [eqB x1.f0 x2.f0, allB [eqI x1.f1.f0 x2.f1.f0, eqI x1.f1.f1 x2.f1.f1, eqI x1.f1.f2 x2.f1.f2, eqI x1.f1.f3 x2.f1.f3]] (hb := (hb_of (hb_step 0 (by kernel_rfl) (by kernel_rfl) (hb_step 1 (by kernel_rfl) (fieldEq_sub 9998 [.int .i64 x1.f1.f0, .int .i64 x1.f1.f1, .int .i64 x1.f1.f2, .int .i64 x1.f1.f3] [.int .i64 x2.f1.f0, .int .i64 x2.f1.f1, .int .i64 x2.f1.f2, .int .i64 x2.f1.f3] [eqI x1.f1.f0 x2.f1.f0, eqI x1.f1.f1 x2.f1.f1, eqI x1.f1.f2 x2.f1.f2, eqI x1.f1.f3 x2.f1.f3] (by kernel_rfl) (by kernel_rfl) (by kernel_rfl) (by kernel_rfl) (by kernel_rfl) (by kernel_rfl)) (hb_end 2 (by kernel_rfl))))))) ?_
    refine de (mkE [(24, B (!allB [eqB x1.f0 x2.f0, allB [eqI x1.f1.f0 x2.f1.f0, eqI x1.f1.f1 x2.f1.f1, eqI x1.f1.f2 x2.f1.f2, eqI x1.f1.f3 x2.f1.f3]])), (23, a49 x2), (22, .ia [S x2.f0, I x2.f1.f0, I x2.f1.f1, I x2.f1.f2, I x2.f1.f3] 0), (21, I z0), (20, LL a49 p1), (19, a49 x1), (18, .ia [S x1.f0, I x1.f1.f0, I x1.f1.f1, I x1.f1.f2, I x1.f1.f3] 0), (17, I z0), (16, LL a49 p0), (0, LL a49 p0), (1, LL a49 p1), (5, I z0), (12, I (lenL p0)), (13, I z0)] [] 26) ?_
    refine se (mkE [(0, LL a49 p0), (1, LL a49 p1), (12, I (lenL p0)), (13, I z0), (24, B (!allB [eqB x1.f0 x2.f0, allB [eqI x1.f1.f0 x2.f1.f0, eqI x1.f1.f1 x2.f1.f1, eqI x1.f1.f2 x2.f1.f2, eqI x1.f1.f3 x2.f1.f3]]))] [] 26) ?_
    refine pN ?_
    refine pS ?_
    refine gC 24 (!allB [eqB x1.f0 x2.f0, allB [eqI x1.f1.f0 x2.f1.f0, eqI x1.f1.f1 x2.f1.f1, eqI x1.f1.f2 x2.f1.f2, eqI x1.f1.f3 x2.f1.f3]]) ?_ ?_
    · refine gS 0 ?_
      refine gR 7 (rg Try.f19 7) ?_
      refine se (mkE [(4, B false)] [] 26) ?_
      refine pN ?_
      refine pS ?_
      refine gE ?_
      exact pL
    · refine gK ?_
      refine pB ?_
      refine pN ?_
      refine pS ?_
      refine gR 8 (rg Try.f19 8) ?_
      refine se (mkE [(0, LL a49 p0), (1, LL a49 p1), (12, I (lenL p0)), (13, I (addI .i64 z0 1))] [] 26) ?_
      exact pL
  · refine gX 0 ?_
    exact pL
noncomputable def T19 (p0 : (List S49)) (p1 : (List S49)) : Option Bool := (bif (neI (lenL p0) (lenL p1)) then (some false) else ((iter (L19_4 p0 p1) 0).bind fun y3 => (Sum.elim (fun y3a => (some true)) (fun y3b => (some false)) y3)))
theorem B19 (C : Callee) (p0 : (List S49)) (p1 : (List S49)) : runs Try.prog C (cfg.fn 19) (finFn Try.prog (cfg.fn 19).byval Try.f19) [] (execA Try.prog C (cfg.fn 19) (nr Try.f19 []) (frame0 [LL a49 p0, LL a49 p1] 26 false)) = (T19 p0 p1).map B := by
  unfold T19
  refine gS 1 ?_
  refine gR 0 (rg Try.f19 0) ?_
  refine se (mkE [(0, LL a49 p0), (1, LL a49 p1)] [] 26) ?_
  refine pN ?_
  refine pS ?_
  refine gS 3 ?_
  refine gS 0 ?_
  refine gR 1 (rg Try.f19 1) ?_
  refine sg 1 (mkE [(6, LL a49 p0), (0, LL a49 p0), (1, LL a49 p1)] [] 26) ?_
  refine eo 7 (I (lenL p0)) (lenE 36 a49 p0) ?_
  refine sg 3 (mkE [(8, LL a49 p1), (7, I (lenL p0)), (6, LL a49 p0), (0, LL a49 p0), (1, LL a49 p1)] [] 26) ?_
  refine eo 9 (I (lenL p1)) (lenE 36 a49 p1) ?_
  refine se (mkE [(0, LL a49 p0), (1, LL a49 p1), (10, B (neI (lenL p0) (lenL p1)))] [] 26) ?_
  refine pN ?_
  refine pS ?_
  refine gC 10 (neI (lenL p0) (lenL p1)) ?_ ?_
  · refine gS 0 ?_
    refine gR 2 (rg Try.f19 2) ?_
    refine se (mkE [(4, B false)] [] 26) ?_
    refine pN ?_
    refine pS ?_
    refine gE ?_
    exact pL
  · refine gK ?_
    refine pN ?_
    refine pS ?_
    refine gS 9 ?_
    refine gS 4 ?_
    refine gR 3 (rg Try.f19 3) ?_
    refine sg 1 (mkE [(11, LL a49 p0), (0, LL a49 p0), (1, LL a49 p1), (10, B (neI (lenL p0) (lenL p1)))] [] 26) ?_
    refine eo 12 (I (lenL p0)) (lenE 36 a49 p0) ?_
    refine se (mkE [(0, LL a49 p0), (1, LL a49 p1), (12, I (lenL p0)), (13, I 0)] [] 26) ?_
    refine pN ?_
    refine pS ?_
    refine gB 0 ?_
    refine lo [(0, none), (1, none), (12, none), (13, none)] [] (L19_4 p0 p1) (fun z0 : Int => (mkE [(0, LL a49 p0), (1, LL a49 p1), (12, I (lenL p0)), (13, I z0)] [] 26)) (Sum.elim (fun (x : (Int × Bool)) => (.exit 0, (mkE [(0, LL a49 p0), (1, LL a49 p1), (12, I (lenL p0)), (13, I x.1), (14, B x.2)] [] 26))) (fun (x : Unit) => (.ret, (mkE [(4, B false)] [] 26)))) 0 (fun z => L19_4_ok C p0 p1 z) ?_
    intro y3
    refine ss y3 (Z := (Sum.elim (fun (x : (Int × Bool)) => (.exit 0, (mkE [(0, LL a49 p0), (1, LL a49 p1), (12, I (lenL p0)), (13, I x.1), (14, B x.2)] [] 26))) (fun (x : Unit) => (.ret, (mkE [(4, B false)] [] 26))))) (fun y3a => ?_) (fun y3b => ?_)
    · refine pH ?_
      refine pN ?_
      refine pS ?_
      refine gS 0 ?_
      refine gR 9 (rg Try.f19 9) ?_
      refine se (mkE [(4, B true)] [] 26) ?_
      refine pN ?_
      refine pS ?_
      refine gE ?_
      exact pL
    · exact pL
theorem F19 (m : Nat) (hm : 1 ≤ m) (p0 : (List S49)) (p1 : (List S49)) : callA Try.prog cfg m 19 [LL a49 p0, LL a49 p1] = (T19 p0 p1).map B := by
  obtain ⟨q, rfl⟩ : ∃ q, m = q + 1 := ⟨m - 1, by omega⟩
  exact (callA_body (fn := Try.f19) (c := body_ Try.f19) q _ (by kernel_rfl) (by kernel_rfl) (by kernel_rfl)).trans (B19 _ p0 p1)

noncomputable def T43 (p0 : S49) (p1_c0 : ByteArray) (p1_c1 : Int) (p1_c2 : Int) (p1_c3 : Int) (p1_c4 : Int) (p1_c5 : Int) : Option Bool := (some (eqS p0.f0 p1_c0))
theorem B43 (C : Callee) (p0 : S49) (p1_c0 : ByteArray) (p1_c1 : Int) (p1_c2 : Int) (p1_c3 : Int) (p1_c4 : Int) (p1_c5 : Int) : runs Try.prog C (cfg.fn 43) (finFn Try.prog (cfg.fn 43).byval Try.f43) [] (execA Try.prog C (cfg.fn 43) (nr Try.f43 []) (frame0 [a49 p0, .ia [S p1_c0, I p1_c1, I p1_c2, I p1_c3, I p1_c4, I p1_c5] 0] 9 false)) = (T43 p0 p1_c0 p1_c1 p1_c2 p1_c3 p1_c4 p1_c5).map B := by
  unfold T43
  refine gS 1 ?_
  refine gR 0 (rg Try.f43 0) ?_
  refine se (mkE [(1, .ia [S p1_c0, I p1_c1, I p1_c2, I p1_c3, I p1_c4, I p1_c5] 0), (2, .ba 16 0)] [(16, .box [S p0.f0, I p0.f1.f0, I p0.f1.f1, I p0.f1.f2, I p0.f1.f3] false)] 9) ?_
  refine pN ?_
  refine pS ?_
  refine gS 0 ?_
  refine gR 1 (rg Try.f43 1) ?_
  refine se (mkE [(3, B (eqS p0.f0 p1_c0))] [] 9) ?_
  refine pN ?_
  refine pS ?_
  refine gE ?_
  exact pL
theorem F43 (m : Nat) (hm : 1 ≤ m) (p0 : S49) (p1_c0 : ByteArray) (p1_c1 : Int) (p1_c2 : Int) (p1_c3 : Int) (p1_c4 : Int) (p1_c5 : Int) : callA Try.prog cfg m 43 [a49 p0, .ia [S p1_c0, I p1_c1, I p1_c2, I p1_c3, I p1_c4, I p1_c5] 0] = (T43 p0 p1_c0 p1_c1 p1_c2 p1_c3 p1_c4 p1_c5).map B := by
  obtain ⟨q, rfl⟩ : ∃ q, m = q + 1 := ⟨m - 1, by omega⟩
  exact (callA_body (fn := Try.f43) (c := body_ Try.f43) q _ (by kernel_rfl) (by kernel_rfl) (by kernel_rfl)).trans (B43 _ p0 p1_c0 p1_c1 p1_c2 p1_c3 p1_c4 p1_c5)

noncomputable def L54_2 (p0 : (List S49)) (p1_c0 : ByteArray) (p1_c1 : Int) (p1_c2 : Int) (p1_c3 : Int) (p1_c4 : Int) (p1_c5 : Int) (z0 : Int) : Option (Int ⊕ ((Int × Bool) ⊕ Int)) := (bif (ltI z0 (lenL p0)) then ((listAt p0 z0).bind fun x1 => ((T43 x1 p1_c0 p1_c1 p1_c2 p1_c3 p1_c4 p1_c5).bind fun x2 => (bif x2 then (some (.inr (.inr z0))) else (some (.inl (addI .i64 z0 1)))))) else (some (.inr (.inl (z0, (ltI z0 (lenL p0)))))))
theorem L54_2_ok (C : Callee) (h43 : ∀ (p0 : S49) (p1_c0 : ByteArray) (p1_c1 : Int) (p1_c2 : Int) (p1_c3 : Int) (p1_c4 : Int) (p1_c5 : Int), C 43 [a49 p0, .ia [S p1_c0, I p1_c1, I p1_c2, I p1_c3, I p1_c4, I p1_c5] 0] = (T43 p0 p1_c0 p1_c1 p1_c2 p1_c3 p1_c4 p1_c5).map B) (p0 : (List S49)) (p1_c0 : ByteArray) (p1_c1 : Int) (p1_c2 : Int) (p1_c3 : Int) (p1_c4 : Int) (p1_c5 : Int) (z0 : Int) : runs Try.prog C (cfg.fn 54) (finLoop ((cfg.fn 54).keep 2) ((cfg.fn 54).al 2)) [] (execA Try.prog C (cfg.fn 54) (nr Try.f54 [false, false, true, false, true]) ((fun z0 : Int => (mkE [(0, LL a49 p0), (1, .fn 43 [.ia [S p1_c0, I p1_c1, I p1_c2, I p1_c3, I p1_c4, I p1_c5] 0]), (7, I (lenL p0)), (8, I z0)] [] 19)) z0)) = (L54_2 p0 p1_c0 p1_c1 p1_c2 p1_c3 p1_c4 p1_c5 z0).map (Sum.elim (fun z => .inl ((fun z0 : Int => (mkE [(0, LL a49 p0), (1, .fn 43 [.ia [S p1_c0, I p1_c1, I p1_c2, I p1_c3, I p1_c4, I p1_c5] 0]), (7, I (lenL p0)), (8, I z0)] [] 19)) z)) (fun x => .inr ((Sum.elim (fun (x : (Int × Bool)) => (.exit 0, (mkE [(0, LL a49 p0), (1, .fn 43 [.ia [S p1_c0, I p1_c1, I p1_c2, I p1_c3, I p1_c4, I p1_c5] 0]), (7, I (lenL p0)), (8, I x.1), (9, B x.2)] [] 19))) (fun (x : Int) => (.ret, (mkE [(4, I x)] [] 19)))) x))) := by
  unfold L54_2
  refine gS 0 ?_
  refine gR 2 (rg Try.f54 2) ?_
  refine se (mkE [(0, LL a49 p0), (1, .fn 43 [.ia [S p1_c0, I p1_c1, I p1_c2, I p1_c3, I p1_c4, I p1_c5] 0]), (7, I (lenL p0)), (8, I z0), (9, B (ltI z0 (lenL p0)))] [] 19) ?_
  refine pN ?_
  refine pS ?_
  refine gS 3 ?_
  refine gC 9 (ltI z0 (lenL p0)) ?_ ?_
  · refine gK ?_
    refine pN ?_
    refine pS ?_
    refine gS 6 ?_
    refine gB 1 ?_
    refine gS 4 ?_
    refine gR 3 (rg Try.f54 3) ?_
    refine se (mkE [(0, LL a49 p0), (1, .fn 43 [.ia [S p1_c0, I p1_c1, I p1_c2, I p1_c3, I p1_c4, I p1_c5] 0]), (5, I z0), (7, I (lenL p0)), (8, I z0)] [] 19) ?_
    refine pN ?_
    refine pS ?_
    refine gS 0 ?_
    refine gR 4 (rg Try.f54 4) ?_
    refine sg 3 (mkE [(13, I z0), (12, LL a49 p0), (11, .fn 43 [.ia [S p1_c0, I p1_c1, I p1_c2, I p1_c3, I p1_c4, I p1_c5] 0]), (0, LL a49 p0), (1, .fn 43 [.ia [S p1_c0, I p1_c1, I p1_c2, I p1_c3, I p1_c4, I p1_c5] 0]), (5, I z0), (7, I (lenL p0)), (8, I z0)] [] 19) ?_
    refine vo 14 (addrE 36 50 5 a49 .i64 p0 z0) (fun x1 => ?_)
    refine sg 5 (mkE [(15, a49 x1), (14, .ia [S x1.f0, I x1.f1.f0, I x1.f1.f1, I x1.f1.f2, I x1.f1.f3] 0), (13, I z0), (12, LL a49 p0), (11, .fn 43 [.ia [S p1_c0, I p1_c1, I p1_c2, I p1_c3, I p1_c4, I p1_c5] 0]), (0, LL a49 p0), (1, .fn 43 [.ia [S p1_c0, I p1_c1, I p1_c2, I p1_c3, I p1_c4, I p1_c5] 0]), (5, I z0), (7, I (lenL p0)), (8, I z0)] [] 19) ?_
    refine co 16 [] (h43 x1 p1_c0 p1_c1 p1_c2 p1_c3 p1_c4 p1_c5) (fun x2 => ?_)
    refine se (mkE [(0, LL a49 p0), (1, .fn 43 [.ia [S p1_c0, I p1_c1, I p1_c2, I p1_c3, I p1_c4, I p1_c5] 0]), (5, I z0), (7, I (lenL p0)), (8, I z0), (16, B x2)] [] 19) ?_
    refine pN ?_
    refine pS ?_
    refine gC 16 x2 ?_ ?_
    · refine gS 0 ?_
      refine gR 5 (rg Try.f54 5) ?_
      refine se (mkE [(4, I z0)] [] 19) ?_
      refine pN ?_
      refine pS ?_
      refine gE ?_
      exact pL
    · refine gK ?_
      refine pB ?_
      refine pN ?_
      refine pS ?_
      refine gR 6 (rg Try.f54 6) ?_
      refine se (mkE [(0, LL a49 p0), (1, .fn 43 [.ia [S p1_c0, I p1_c1, I p1_c2, I p1_c3, I p1_c4, I p1_c5] 0]), (7, I (lenL p0)), (8, I (addI .i64 z0 1))] [] 19) ?_
      exact pL
  · refine gX 0 ?_
    exact pL
noncomputable def T54 (p0 : (List S49)) (p1_c0 : ByteArray) (p1_c1 : Int) (p1_c2 : Int) (p1_c3 : Int) (p1_c4 : Int) (p1_c5 : Int) : Option Int := ((iter (L54_2 p0 p1_c0 p1_c1 p1_c2 p1_c3 p1_c4 p1_c5) 0).bind fun y3 => (Sum.elim (fun y3a => (some (-1))) (fun y3b => (some y3b)) y3))
theorem B54 (C : Callee) (h43 : ∀ (p0 : S49) (p1_c0 : ByteArray) (p1_c1 : Int) (p1_c2 : Int) (p1_c3 : Int) (p1_c4 : Int) (p1_c5 : Int), C 43 [a49 p0, .ia [S p1_c0, I p1_c1, I p1_c2, I p1_c3, I p1_c4, I p1_c5] 0] = (T43 p0 p1_c0 p1_c1 p1_c2 p1_c3 p1_c4 p1_c5).map B) (p0 : (List S49)) (p1_c0 : ByteArray) (p1_c1 : Int) (p1_c2 : Int) (p1_c3 : Int) (p1_c4 : Int) (p1_c5 : Int) : runs Try.prog C (cfg.fn 54) (finFn Try.prog (cfg.fn 54).byval Try.f54) [] (execA Try.prog C (cfg.fn 54) (nr Try.f54 []) (frame0 [LL a49 p0, .fn 43 [.ia [S p1_c0, I p1_c1, I p1_c2, I p1_c3, I p1_c4, I p1_c5] 0]] 19 false)) = (T54 p0 p1_c0 p1_c1 p1_c2 p1_c3 p1_c4 p1_c5).map I := by
  unfold T54
  refine gS 1 ?_
  refine gR 0 (rg Try.f54 0) ?_
  refine se (mkE [(0, LL a49 p0), (1, .fn 43 [.ia [S p1_c0, I p1_c1, I p1_c2, I p1_c3, I p1_c4, I p1_c5] 0])] [] 19) ?_
  refine pN ?_
  refine pS ?_
  refine gS 7 ?_
  refine gS 2 ?_
  refine gR 1 (rg Try.f54 1) ?_
  refine sg 1 (mkE [(6, LL a49 p0), (0, LL a49 p0), (1, .fn 43 [.ia [S p1_c0, I p1_c1, I p1_c2, I p1_c3, I p1_c4, I p1_c5] 0])] [] 19) ?_
  refine eo 7 (I (lenL p0)) (lenE 36 a49 p0) ?_
  refine se (mkE [(0, LL a49 p0), (1, .fn 43 [.ia [S p1_c0, I p1_c1, I p1_c2, I p1_c3, I p1_c4, I p1_c5] 0]), (7, I (lenL p0)), (8, I 0)] [] 19) ?_
  refine pN ?_
  refine pS ?_
  refine gB 0 ?_
  refine lo [(0, none), (1, none), (7, none), (8, none)] [] (L54_2 p0 p1_c0 p1_c1 p1_c2 p1_c3 p1_c4 p1_c5) (fun z0 : Int => (mkE [(0, LL a49 p0), (1, .fn 43 [.ia [S p1_c0, I p1_c1, I p1_c2, I p1_c3, I p1_c4, I p1_c5] 0]), (7, I (lenL p0)), (8, I z0)] [] 19)) (Sum.elim (fun (x : (Int × Bool)) => (.exit 0, (mkE [(0, LL a49 p0), (1, .fn 43 [.ia [S p1_c0, I p1_c1, I p1_c2, I p1_c3, I p1_c4, I p1_c5] 0]), (7, I (lenL p0)), (8, I x.1), (9, B x.2)] [] 19))) (fun (x : Int) => (.ret, (mkE [(4, I x)] [] 19)))) 0 (fun z => L54_2_ok C h43 p0 p1_c0 p1_c1 p1_c2 p1_c3 p1_c4 p1_c5 z) ?_
  intro y3
  refine ss y3 (Z := (Sum.elim (fun (x : (Int × Bool)) => (.exit 0, (mkE [(0, LL a49 p0), (1, .fn 43 [.ia [S p1_c0, I p1_c1, I p1_c2, I p1_c3, I p1_c4, I p1_c5] 0]), (7, I (lenL p0)), (8, I x.1), (9, B x.2)] [] 19))) (fun (x : Int) => (.ret, (mkE [(4, I x)] [] 19))))) (fun y3a => ?_) (fun y3b => ?_)
  · refine pH ?_
    refine pN ?_
    refine pS ?_
    refine gS 0 ?_
    refine gR 7 (rg Try.f54 7) ?_
    refine se (mkE [(4, I (-1))] [] 19) ?_
    refine pN ?_
    refine pS ?_
    refine gE ?_
    exact pL
  · exact pL
theorem F54 (m : Nat) (hm : 2 ≤ m) (p0 : (List S49)) (p1_c0 : ByteArray) (p1_c1 : Int) (p1_c2 : Int) (p1_c3 : Int) (p1_c4 : Int) (p1_c5 : Int) : callA Try.prog cfg m 54 [LL a49 p0, .fn 43 [.ia [S p1_c0, I p1_c1, I p1_c2, I p1_c3, I p1_c4, I p1_c5] 0]] = (T54 p0 p1_c0 p1_c1 p1_c2 p1_c3 p1_c4 p1_c5).map I := by
  obtain ⟨q, rfl⟩ : ∃ q, m = q + 1 := ⟨m - 1, by omega⟩
  exact (callA_body (fn := Try.f54) (c := body_ Try.f54) q _ (by kernel_rfl) (by kernel_rfl) (by kernel_rfl)).trans (B54 _ (fun p0 p1_c0 p1_c1 p1_c2 p1_c3 p1_c4 p1_c5 => F43 q (by omega) p0 p1_c0 p1_c1 p1_c2 p1_c3 p1_c4 p1_c5) p0 p1_c0 p1_c1 p1_c2 p1_c3 p1_c4 p1_c5)

noncomputable def T42 (p0 : (List S49)) (p1_c0 : ByteArray) (p1_c1 : Int) (p1_c2 : Int) (p1_c3 : Int) (p1_c4 : Int) (p1_c5 : Int) : Option Bool := ((T54 p0 p1_c0 p1_c1 p1_c2 p1_c3 p1_c4 p1_c5).bind fun x1 => (some (leI 0 x1)))
theorem B42 (C : Callee) (h54 : ∀ (p0 : (List S49)) (p1_c0 : ByteArray) (p1_c1 : Int) (p1_c2 : Int) (p1_c3 : Int) (p1_c4 : Int) (p1_c5 : Int), C 54 [LL a49 p0, .fn 43 [.ia [S p1_c0, I p1_c1, I p1_c2, I p1_c3, I p1_c4, I p1_c5] 0]] = (T54 p0 p1_c0 p1_c1 p1_c2 p1_c3 p1_c4 p1_c5).map I) (p0 : (List S49)) (p1_c0 : ByteArray) (p1_c1 : Int) (p1_c2 : Int) (p1_c3 : Int) (p1_c4 : Int) (p1_c5 : Int) : runs Try.prog C (cfg.fn 42) (finFn Try.prog (cfg.fn 42).byval Try.f42) [] (execA Try.prog C (cfg.fn 42) (nr Try.f42 []) (frame0 [LL a49 p0, .fn 43 [.ia [S p1_c0, I p1_c1, I p1_c2, I p1_c3, I p1_c4, I p1_c5] 0]] 9 false)) = (T42 p0 p1_c0 p1_c1 p1_c2 p1_c3 p1_c4 p1_c5).map B := by
  unfold T42
  refine gS 1 ?_
  refine gR 0 (rg Try.f42 0) ?_
  refine se (mkE [(0, LL a49 p0), (1, .fn 43 [.ia [S p1_c0, I p1_c1, I p1_c2, I p1_c3, I p1_c4, I p1_c5] 0])] [] 9) ?_
  refine pN ?_
  refine pS ?_
  refine gS 0 ?_
  refine gR 1 (rg Try.f42 1) ?_
  refine sg 2 (mkE [(6, .fn 43 [.ia [S p1_c0, I p1_c1, I p1_c2, I p1_c3, I p1_c4, I p1_c5] 0]), (5, LL a49 p0), (0, LL a49 p0), (1, .fn 43 [.ia [S p1_c0, I p1_c1, I p1_c2, I p1_c3, I p1_c4, I p1_c5] 0])] [] 9) ?_
  refine co 7 [] (h54 p0 p1_c0 p1_c1 p1_c2 p1_c3 p1_c4 p1_c5) (fun x1 => ?_)
  refine se (mkE [(4, B (leI 0 x1))] [] 9) ?_
  refine pN ?_
  refine pS ?_
  refine gE ?_
  exact pL
theorem F42 (m : Nat) (hm : 3 ≤ m) (p0 : (List S49)) (p1_c0 : ByteArray) (p1_c1 : Int) (p1_c2 : Int) (p1_c3 : Int) (p1_c4 : Int) (p1_c5 : Int) : callA Try.prog cfg m 42 [LL a49 p0, .fn 43 [.ia [S p1_c0, I p1_c1, I p1_c2, I p1_c3, I p1_c4, I p1_c5] 0]] = (T42 p0 p1_c0 p1_c1 p1_c2 p1_c3 p1_c4 p1_c5).map B := by
  obtain ⟨q, rfl⟩ : ∃ q, m = q + 1 := ⟨m - 1, by omega⟩
  exact (callA_body (fn := Try.f42) (c := body_ Try.f42) q _ (by kernel_rfl) (by kernel_rfl) (by kernel_rfl)).trans (B42 _ (fun p0 p1_c0 p1_c1 p1_c2 p1_c3 p1_c4 p1_c5 => F54 q (by omega) p0 p1_c0 p1_c1 p1_c2 p1_c3 p1_c4 p1_c5) p0 p1_c0 p1_c1 p1_c2 p1_c3 p1_c4 p1_c5)

noncomputable def L21_3 (p0 : S23) (z0 : ((List ByteArray) × Int)) : Option (((List ByteArray) × Int) ⊕ (Int × Bool × (List ByteArray))) := (bif (ltI z0.2 (lenL p0.f3)) then ((listAt p0.f3 z0.2).bind fun x1 => ((T18 p0).bind fun x2 => ((T42 x2 x1.f0 x1.f1.f0 x1.f1.f1 x1.f1.f2 x1.f1.f3 x1.f2).bind fun x3 => (bif (!x3) then ((appO 16 z0.1 ([x1.f0] : List ByteArray)).bind fun x4 => (some (.inl (x4, (addI .i64 z0.2 1))))) else (some (.inl (z0.1, (addI .i64 z0.2 1)))))))) else (some (.inr (z0.2, (ltI z0.2 (lenL p0.f3)), z0.1))))
theorem L21_3_ok (C : Callee) (h18 : ∀ (p0 : S23), C 18 [a23 p0] = (T18 p0).map (fun l => AV.fr 50 5 (List.map a49 l))) (h42 : ∀ (p0 : (List S49)) (p1_c0 : ByteArray) (p1_c1 : Int) (p1_c2 : Int) (p1_c3 : Int) (p1_c4 : Int) (p1_c5 : Int), C 42 [LL a49 p0, .fn 43 [.ia [S p1_c0, I p1_c1, I p1_c2, I p1_c3, I p1_c4, I p1_c5] 0]] = (T42 p0 p1_c0 p1_c1 p1_c2 p1_c3 p1_c4 p1_c5).map B) (p0 : S23) (z0 : ((List ByteArray) × Int)) : runs Try.prog C (cfg.fn 21) (finLoop ((cfg.fn 21).keep 3) ((cfg.fn 21).al 3)) [] (execA Try.prog C (cfg.fn 21) (nr Try.f21 [false, false, true, false, true, true]) ((fun z0 : ((List ByteArray) × Int) => (mkE [(1, .ba 8 0), (3, .own 24 0), (7, LL a31 p0.f3), (8, I (lenL p0.f3)), (9, I z0.2)] [(8, .box [S p0.f0, I p0.f1, I p0.f2, LL a31 p0.f3] false), (24, RR 9 1 S z0.1 0 false)] 25)) z0)) = (L21_3 p0 z0).map (Sum.elim (fun z => .inl ((fun z0 : ((List ByteArray) × Int) => (mkE [(1, .ba 8 0), (3, .own 24 0), (7, LL a31 p0.f3), (8, I (lenL p0.f3)), (9, I z0.2)] [(8, .box [S p0.f0, I p0.f1, I p0.f2, LL a31 p0.f3] false), (24, RR 9 1 S z0.1 0 false)] 25)) z)) (fun x => .inr ((fun (x : (Int × Bool × (List ByteArray))) => (.exit 0, (mkE [(1, .ba 8 0), (3, .own 24 0), (7, LL a31 p0.f3), (8, I (lenL p0.f3)), (9, I x.1), (10, B x.2.1)] [(8, .box [S p0.f0, I p0.f1, I p0.f2, LL a31 p0.f3] false), (24, RR 9 1 S x.2.2 0 false)] 25))) x))) := by
  unfold L21_3
  refine gS 0 ?_
  refine gR 3 (rg Try.f21 3) ?_
  refine se (mkE [(1, .ba 8 0), (3, .own 24 0), (7, LL a31 p0.f3), (8, I (lenL p0.f3)), (9, I z0.2), (10, B (ltI z0.2 (lenL p0.f3)))] [(8, .box [S p0.f0, I p0.f1, I p0.f2, LL a31 p0.f3] false), (24, RR 9 1 S z0.1 0 false)] 25) ?_
  refine pN ?_
  refine pS ?_
  refine gS 4 ?_
  refine gC 10 (ltI z0.2 (lenL p0.f3)) ?_ ?_
  · refine gK ?_
    refine pN ?_
    refine pS ?_
    refine gS 7 ?_
    refine gB 1 ?_
    refine gS 5 ?_
    refine gR 4 (rg Try.f21 4) ?_
    refine vo 11 (addrE 22 32 6 a31 .i64 p0.f3 z0.2) (fun x1 => ?_)
    refine se (mkE [(1, .ba 8 0), (3, .own 24 0), (5, .ba 40 0), (7, LL a31 p0.f3), (8, I (lenL p0.f3)), (9, I z0.2)] [(8, .box [S p0.f0, I p0.f1, I p0.f2, LL a31 p0.f3] false), (24, RR 9 1 S z0.1 0 false), (40, .box [S x1.f0, I x1.f1.f0, I x1.f1.f1, I x1.f1.f2, I x1.f1.f3, I x1.f2] false)] 25) ?_
    refine pN ?_
    refine pS ?_
    refine gS 0 ?_
    refine gR 5 (rg Try.f21 5) ?_
    refine sg 1 (mkE [(13, a23 p0), (1, .ba 8 0), (3, .own 24 0), (5, .ba 40 0), (7, LL a31 p0.f3), (8, I (lenL p0.f3)), (9, I z0.2)] [(8, .box [S p0.f0, I p0.f1, I p0.f2, LL a31 p0.f3] false), (24, RR 9 1 S z0.1 0 false), (40, .box [S x1.f0, I x1.f1.f0, I x1.f1.f1, I x1.f1.f2, I x1.f1.f3, I x1.f2] false)] 25) ?_
    refine co 14 [] (h18 p0) (fun x2 => ?_)
    refine sg 3 (mkE [(15, .fn 43 [.ba 40 0]), (14, .own 112 0), (13, a23 p0), (1, .ba 8 0), (3, .own 24 0), (5, .ba 40 0), (7, LL a31 p0.f3), (8, I (lenL p0.f3)), (9, I z0.2)] [(112, RR 50 5 a49 x2 0 false), (8, .box [S p0.f0, I p0.f1, I p0.f2, LL a31 p0.f3] false), (24, RR 9 1 S z0.1 0 false), (40, .box [S x1.f0, I x1.f1.f0, I x1.f1.f1, I x1.f1.f2, I x1.f1.f3, I x1.f2] false)] 25) ?_
    refine co 16 [112, 40] (h42 x2 x1.f0 x1.f1.f0 x1.f1.f1 x1.f1.f2 x1.f1.f3 x1.f2) (fun x3 => ?_)
    refine se (mkE [(1, .ba 8 0), (3, .own 24 0), (5, .ba 40 0), (7, LL a31 p0.f3), (8, I (lenL p0.f3)), (9, I z0.2), (17, B (!x3))] [(8, .box [S p0.f0, I p0.f1, I p0.f2, LL a31 p0.f3] false), (24, RR 9 1 S z0.1 0 false), (40, .box [S x1.f0, I x1.f1.f0, I x1.f1.f1, I x1.f1.f2, I x1.f1.f3, I x1.f2] false)] 25) ?_
    refine pN ?_
    refine pS ?_
    refine gC 17 (!x3) ?_ ?_
    · refine gR 6 (rg Try.f21 6) ?_
      refine sg 4 (mkE [(21, .own 168 0), (20, S x1.f0), (19, .ba 40 0), (18, .own 24 0), (1, .ba 8 0), (3, .own 24 0), (5, .ba 40 0), (7, LL a31 p0.f3), (8, I (lenL p0.f3)), (9, I z0.2), (17, B (!x3))] [(168, RR 9 1 S ([x1.f0] : List ByteArray) 0 false), (8, .box [S p0.f0, I p0.f1, I p0.f2, LL a31 p0.f3] false), (24, RR 9 1 S z0.1 0 false), (40, .box [S x1.f0, I x1.f1.f0, I x1.f1.f1, I x1.f1.f2, I x1.f1.f3, I x1.f2] false)] 25) ?_
      refine mo (some 22) (apO 39 9 1 16 24 S 0 [168] (y := .own 168 0) (l2 := ([x1.f0] : List ByteArray))) (fun x4 => ?_)
      refine se (mkE [(1, .ba 8 0), (3, .own 24 1), (7, LL a31 p0.f3), (8, I (lenL p0.f3)), (9, I z0.2)] [(8, .box [S p0.f0, I p0.f1, I p0.f2, LL a31 p0.f3] false), (24, RR 9 1 S x4 1 false)] 25) ?_
      refine pB ?_
      refine pN ?_
      refine pS ?_
      refine gR 7 (rg Try.f21 7) ?_
      refine se (mkE [(1, .ba 8 0), (3, .own 24 1), (7, LL a31 p0.f3), (8, I (lenL p0.f3)), (9, I (addI .i64 z0.2 1))] [(8, .box [S p0.f0, I p0.f1, I p0.f2, LL a31 p0.f3] false), (24, RR 9 1 S x4 1 false)] 25) ?_
      exact pL
    · refine gK ?_
      refine pB ?_
      refine pN ?_
      refine pS ?_
      refine gR 7 (rg Try.f21 7) ?_
      refine se (mkE [(1, .ba 8 0), (3, .own 24 0), (7, LL a31 p0.f3), (8, I (lenL p0.f3)), (9, I (addI .i64 z0.2 1))] [(8, .box [S p0.f0, I p0.f1, I p0.f2, LL a31 p0.f3] false), (24, RR 9 1 S z0.1 0 false)] 25) ?_
      exact pL
  · refine gX 0 ?_
    exact pL
noncomputable def T21 (p0 : S23) : Option (List ByteArray) := ((iter (L21_3 p0) ([], 0)).bind fun y5 => (some y5.2.2))
theorem B21 (C : Callee) (h18 : ∀ (p0 : S23), C 18 [a23 p0] = (T18 p0).map (fun l => AV.fr 50 5 (List.map a49 l))) (h42 : ∀ (p0 : (List S49)) (p1_c0 : ByteArray) (p1_c1 : Int) (p1_c2 : Int) (p1_c3 : Int) (p1_c4 : Int) (p1_c5 : Int), C 42 [LL a49 p0, .fn 43 [.ia [S p1_c0, I p1_c1, I p1_c2, I p1_c3, I p1_c4, I p1_c5] 0]] = (T42 p0 p1_c0 p1_c1 p1_c2 p1_c3 p1_c4 p1_c5).map B) (p0 : S23) : runs Try.prog C (cfg.fn 21) (finFn Try.prog (cfg.fn 21).byval Try.f21) [] (execA Try.prog C (cfg.fn 21) (nr Try.f21 []) (frame0 [a23 p0] 25 false)) = (T21 p0).map (fun l => AV.fr 9 1 (List.map S l)) := by
  unfold T21
  refine gS 1 ?_
  refine gR 0 (rg Try.f21 0) ?_
  refine se (mkE [(1, .ba 8 0)] [(8, .box [S p0.f0, I p0.f1, I p0.f2, LL a31 p0.f3] false)] 25) ?_
  refine pN ?_
  refine pS ?_
  refine gS 2 ?_
  refine gR 1 (rg Try.f21 1) ?_
  refine se (mkE [(1, .ba 8 0), (3, .nils)] [(8, .box [S p0.f0, I p0.f1, I p0.f2, LL a31 p0.f3] false)] 25) ?_
  refine pN ?_
  refine pS ?_
  refine gS 8 ?_
  refine gS 3 ?_
  refine gR 2 (rg Try.f21 2) ?_
  refine sg 2 (mkE [(7, LL a31 p0.f3), (6, .ba 8 3), (1, .ba 8 0), (3, .nils)] [(8, .box [S p0.f0, I p0.f1, I p0.f2, LL a31 p0.f3] false)] 25) ?_
  refine eo 8 (I (lenL p0.f3)) (lenE 22 a31 p0.f3) ?_
  refine se (mkE [(1, .ba 8 0), (3, .nils), (7, LL a31 p0.f3), (8, I (lenL p0.f3)), (9, I 0)] [(8, .box [S p0.f0, I p0.f1, I p0.f2, LL a31 p0.f3] false)] 25) ?_
  refine pN ?_
  refine pS ?_
  refine gB 0 ?_
  refine lo [(1, none), (3, some (9, 1)), (7, none), (8, none), (9, none)] [] (L21_3 p0) (fun z0 : ((List ByteArray) × Int) => (mkE [(1, .ba 8 0), (3, .own 24 0), (7, LL a31 p0.f3), (8, I (lenL p0.f3)), (9, I z0.2)] [(8, .box [S p0.f0, I p0.f1, I p0.f2, LL a31 p0.f3] false), (24, RR 9 1 S z0.1 0 false)] 25)) (fun (x : (Int × Bool × (List ByteArray))) => (.exit 0, (mkE [(1, .ba 8 0), (3, .own 24 0), (7, LL a31 p0.f3), (8, I (lenL p0.f3)), (9, I x.1), (10, B x.2.1)] [(8, .box [S p0.f0, I p0.f1, I p0.f2, LL a31 p0.f3] false), (24, RR 9 1 S x.2.2 0 false)] 25))) ([], 0) (fun z => L21_3_ok C h18 h42 p0 z) ?_
  intro y5
  refine pH ?_
  refine pN ?_
  refine pS ?_
  refine gS 0 ?_
  refine gR 8 (rg Try.f21 8) ?_
  refine se (mkE [(2, .own 24 0)] [(24, RR 9 1 S y5.2.2 0 false)] 25) ?_
  refine pN ?_
  refine pS ?_
  refine gE ?_
  exact pL
theorem F21 (m : Nat) (hm : 7 ≤ m) (p0 : S23) : callA Try.prog cfg m 21 [a23 p0] = (T21 p0).map (fun l => AV.fr 9 1 (List.map S l)) := by
  obtain ⟨q, rfl⟩ : ∃ q, m = q + 1 := ⟨m - 1, by omega⟩
  exact (callA_body (fn := Try.f21) (c := body_ Try.f21) q _ (by kernel_rfl) (by kernel_rfl) (by kernel_rfl)).trans (B21 _ (fun p0 => F18 q (by omega) p0) (fun p0 p1_c0 p1_c1 p1_c2 p1_c3 p1_c4 p1_c5 => F42 q (by omega) p0 p1_c0 p1_c1 p1_c2 p1_c3 p1_c4 p1_c5) p0)

noncomputable def L20_4 (p0 : (List ByteArray)) (p1 : (List ByteArray)) (z0 : Int) : Option (Int ⊕ ((Int × Bool) ⊕ Unit)) := (bif (ltI z0 (lenL p0)) then ((listAt p0 z0).bind fun x1 => ((listAt p1 z0).bind fun x2 => (bif (!eqS x1 x2) then (some (.inr (.inr ()))) else (some (.inl (addI .i64 z0 1)))))) else (some (.inr (.inl (z0, (ltI z0 (lenL p0)))))))
theorem L20_4_ok (C : Callee) (p0 : (List ByteArray)) (p1 : (List ByteArray)) (z0 : Int) : runs Try.prog C (cfg.fn 20) (finLoop ((cfg.fn 20).keep 4) ((cfg.fn 20).al 4)) [] (execA Try.prog C (cfg.fn 20) (nr Try.f20 [false, false, true, false, true, true]) ((fun z0 : Int => (mkE [(0, LL S p0), (1, LL S p1), (12, I (lenL p0)), (13, I z0)] [] 26)) z0)) = (L20_4 p0 p1 z0).map (Sum.elim (fun z => .inl ((fun z0 : Int => (mkE [(0, LL S p0), (1, LL S p1), (12, I (lenL p0)), (13, I z0)] [] 26)) z)) (fun x => .inr ((Sum.elim (fun (x : (Int × Bool)) => (.exit 0, (mkE [(0, LL S p0), (1, LL S p1), (12, I (lenL p0)), (13, I x.1), (14, B x.2)] [] 26))) (fun (x : Unit) => (.ret, (mkE [(4, B false)] [] 26)))) x))) := by
  unfold L20_4
  refine gS 0 ?_
  refine gR 4 (rg Try.f20 4) ?_
  refine se (mkE [(0, LL S p0), (1, LL S p1), (12, I (lenL p0)), (13, I z0), (14, B (ltI z0 (lenL p0)))] [] 26) ?_
  refine pN ?_
  refine pS ?_
  refine gS 5 ?_
  refine gC 14 (ltI z0 (lenL p0)) ?_ ?_
  · refine gK ?_
    refine pN ?_
    refine pS ?_
    refine gS 8 ?_
    refine gB 1 ?_
    refine gS 6 ?_
    refine gR 5 (rg Try.f20 5) ?_
    refine se (mkE [(0, LL S p0), (1, LL S p1), (5, I z0), (12, I (lenL p0)), (13, I z0)] [] 26) ?_
    refine pN ?_
    refine pS ?_
    refine gS 0 ?_
    refine gD 6 9 (rg Try.f20 6) [0, 1, 2, 3, 4, 5, 6, 7, 8] ?_
    refine dg 2 [(some 16, qe (LL S p0)), (some 17, qe (I z0))] ?_
    refine dv 18 (mkE [(17, I z0), (16, LL S p0), (0, LL S p0), (1, LL S p1), (5, I z0), (12, I (lenL p0)), (13, I z0)] [] 26) (addrE 39 9 1 S .i64 p0 z0) (fun x1 => ?_)
    refine dg 6 [(some 16, qe (LL S p0)), (some 17, qe (I z0)), (some 18, qe (.ia [S x1] 0)), (some 19, qe (S x1)), (some 20, qe (LL S p1)), (some 21, qe (I z0))] ?_
    refine dv 22 (mkE [(21, I z0), (20, LL S p1), (0, LL S p0), (1, LL S p1), (5, I z0), (12, I (lenL p0)), (13, I z0)] [] 26) (addrE 39 9 1 S .i64 p1 z0) (fun x2 => ?_)
    refine dg 9 [(some 16, qe (LL S p0)), (some 17, qe (I z0)), (some 18, qe (.ia [S x1] 0)), (some 19, qe (S x1)), (some 20, qe (LL S p1)), (some 21, qe (I z0)), (some 22, qe (.ia [S x2] 0)), (some 23, qe (S x2)), (some 24, qe (B (!eqS x1 x2)))] ?_
    refine de (mkE [(24, B (!eqS x1 x2)), (23, S x2), (22, .ia [S x2] 0), (21, I z0), (20, LL S p1), (19, S x1), (18, .ia [S x1] 0), (17, I z0), (16, LL S p0), (0, LL S p0), (1, LL S p1), (5, I z0), (12, I (lenL p0)), (13, I z0)] [] 26) ?_
    refine se (mkE [(0, LL S p0), (1, LL S p1), (12, I (lenL p0)), (13, I z0), (24, B (!eqS x1 x2))] [] 26) ?_
    refine pN ?_
    refine pS ?_
    refine gC 24 (!eqS x1 x2) ?_ ?_
    · refine gS 0 ?_
      refine gR 7 (rg Try.f20 7) ?_
      refine se (mkE [(4, B false)] [] 26) ?_
      refine pN ?_
      refine pS ?_
      refine gE ?_
      exact pL
    · refine gK ?_
      refine pB ?_
      refine pN ?_
      refine pS ?_
      refine gR 8 (rg Try.f20 8) ?_
      refine se (mkE [(0, LL S p0), (1, LL S p1), (12, I (lenL p0)), (13, I (addI .i64 z0 1))] [] 26) ?_
      exact pL
  · refine gX 0 ?_
    exact pL
noncomputable def T20 (p0 : (List ByteArray)) (p1 : (List ByteArray)) : Option Bool := (bif (neI (lenL p0) (lenL p1)) then (some false) else ((iter (L20_4 p0 p1) 0).bind fun y3 => (Sum.elim (fun y3a => (some true)) (fun y3b => (some false)) y3)))
theorem B20 (C : Callee) (p0 : (List ByteArray)) (p1 : (List ByteArray)) : runs Try.prog C (cfg.fn 20) (finFn Try.prog (cfg.fn 20).byval Try.f20) [] (execA Try.prog C (cfg.fn 20) (nr Try.f20 []) (frame0 [LL S p0, LL S p1] 26 false)) = (T20 p0 p1).map B := by
  unfold T20
  refine gS 1 ?_
  refine gR 0 (rg Try.f20 0) ?_
  refine se (mkE [(0, LL S p0), (1, LL S p1)] [] 26) ?_
  refine pN ?_
  refine pS ?_
  refine gS 3 ?_
  refine gS 0 ?_
  refine gR 1 (rg Try.f20 1) ?_
  refine sg 1 (mkE [(6, LL S p0), (0, LL S p0), (1, LL S p1)] [] 26) ?_
  refine eo 7 (I (lenL p0)) (lenE 39 S p0) ?_
  refine sg 3 (mkE [(8, LL S p1), (7, I (lenL p0)), (6, LL S p0), (0, LL S p0), (1, LL S p1)] [] 26) ?_
  refine eo 9 (I (lenL p1)) (lenE 39 S p1) ?_
  refine se (mkE [(0, LL S p0), (1, LL S p1), (10, B (neI (lenL p0) (lenL p1)))] [] 26) ?_
  refine pN ?_
  refine pS ?_
  refine gC 10 (neI (lenL p0) (lenL p1)) ?_ ?_
  · refine gS 0 ?_
    refine gR 2 (rg Try.f20 2) ?_
    refine se (mkE [(4, B false)] [] 26) ?_
    refine pN ?_
    refine pS ?_
    refine gE ?_
    exact pL
  · refine gK ?_
    refine pN ?_
    refine pS ?_
    refine gS 9 ?_
    refine gS 4 ?_
    refine gR 3 (rg Try.f20 3) ?_
    refine sg 1 (mkE [(11, LL S p0), (0, LL S p0), (1, LL S p1), (10, B (neI (lenL p0) (lenL p1)))] [] 26) ?_
    refine eo 12 (I (lenL p0)) (lenE 39 S p0) ?_
    refine se (mkE [(0, LL S p0), (1, LL S p1), (12, I (lenL p0)), (13, I 0)] [] 26) ?_
    refine pN ?_
    refine pS ?_
    refine gB 0 ?_
    refine lo [(0, none), (1, none), (12, none), (13, none)] [] (L20_4 p0 p1) (fun z0 : Int => (mkE [(0, LL S p0), (1, LL S p1), (12, I (lenL p0)), (13, I z0)] [] 26)) (Sum.elim (fun (x : (Int × Bool)) => (.exit 0, (mkE [(0, LL S p0), (1, LL S p1), (12, I (lenL p0)), (13, I x.1), (14, B x.2)] [] 26))) (fun (x : Unit) => (.ret, (mkE [(4, B false)] [] 26)))) 0 (fun z => L20_4_ok C p0 p1 z) ?_
    intro y3
    refine ss y3 (Z := (Sum.elim (fun (x : (Int × Bool)) => (.exit 0, (mkE [(0, LL S p0), (1, LL S p1), (12, I (lenL p0)), (13, I x.1), (14, B x.2)] [] 26))) (fun (x : Unit) => (.ret, (mkE [(4, B false)] [] 26))))) (fun y3a => ?_) (fun y3b => ?_)
    · refine pH ?_
      refine pN ?_
      refine pS ?_
      refine gS 0 ?_
      refine gR 9 (rg Try.f20 9) ?_
      refine se (mkE [(4, B true)] [] 26) ?_
      refine pN ?_
      refine pS ?_
      refine gE ?_
      exact pL
    · exact pL
theorem F20 (m : Nat) (hm : 1 ≤ m) (p0 : (List ByteArray)) (p1 : (List ByteArray)) : callA Try.prog cfg m 20 [LL S p0, LL S p1] = (T20 p0 p1).map B := by
  obtain ⟨q, rfl⟩ : ∃ q, m = q + 1 := ⟨m - 1, by omega⟩
  exact (callA_body (fn := Try.f20) (c := body_ Try.f20) q _ (by kernel_rfl) (by kernel_rfl) (by kernel_rfl)).trans (B20 _ p0 p1)

end Go.Abs.TS
