import Derived.Test.YtpakkikhfkhebaaGreatUTUp1
set_option maxRecDepth 100000
set_option linter.unusedVariables false
namespace Go.Abs.TU
open Go.RowKit Go.Proofs Go.Abs
noncomputable def L15_9 (p0 : S23) (z0 : (ByteArray × Int)) : Option ((ByteArray × Int) ⊕ ((ByteArray × Int × Bool) ⊕ Int)) := (bif (ltI z0.2 (lenL p0.f3)) then ((listAt p0.f3 z0.2).bind fun x4 => ((T46 x4.f0).bind fun x5 => (bif (!x5) then (some (.inr (.inr 5))) else ((T19 x4.f1).bind fun x6 => (bif (neI x6 0) then (some (.inr (.inr x6))) else ((T48 x4.f1 p0.f1 p0.f2).bind fun x7 => (bif (!x7) then (some (.inr (.inr 3))) else (bif (ltS x4.f0 z0.1 || eqS x4.f0 z0.1) then (some (.inr (.inr 7))) else (some (.inl (x4.f0, (addI .i64 z0.2 1)))))))))))) else (some (.inr (.inl (z0.1, z0.2, (ltI z0.2 (lenL p0.f3)))))))
theorem L15_9_ok (C : Callee) (h19 : ∀ (p0 : S25), C 19 [a25 p0] = (T19 p0).map I) (h46 : ∀ (p0 : ByteArray), C 46 [S p0] = (T46 p0).map B) (h48 : ∀ (p0 : S25) (p1 : Int) (p2 : Int), C 48 [a25 p0, I p1, I p2] = (T48 p0 p1 p2).map B) (p0 : S23) (z0 : (ByteArray × Int)) : runs Tryz.prog C (cfg.fn 15) (finLoop ((cfg.fn 15).keep 9) ((cfg.fn 15).al 9)) [] (execA Tryz.prog C (cfg.fn 15) (nr Tryz.f15 [false, false, true, false, true, true, true]) ((fun z0 : (ByteArray × Int) => (mkE [(1, .ba 8 0), (3, S z0.1), (35, LL a37 p0.f3), (36, I (lenL p0.f3)), (37, I z0.2)] [(8, .box [S p0.f0, I p0.f1, I p0.f2, LL a37 p0.f3] false)] 96)) z0)) = (L15_9 p0 z0).map (Sum.elim (fun z => .inl ((fun z0 : (ByteArray × Int) => (mkE [(1, .ba 8 0), (3, S z0.1), (35, LL a37 p0.f3), (36, I (lenL p0.f3)), (37, I z0.2)] [(8, .box [S p0.f0, I p0.f1, I p0.f2, LL a37 p0.f3] false)] 96)) z)) (fun x => .inr ((Sum.elim (fun (x : (ByteArray × Int × Bool)) => (.exit 1, (mkE [(1, .ba 8 0), (3, S x.1), (35, LL a37 p0.f3), (36, I (lenL p0.f3)), (37, I x.2.1), (38, B x.2.2)] [(8, .box [S p0.f0, I p0.f1, I p0.f2, LL a37 p0.f3] false)] 96))) (fun (x : Int) => (.ret, (mkE [(2, I x)] [] 96)))) x))) := by
  unfold L15_9
  refine gS 0 ?_
  refine gR 9 (rg Tryz.f15 9) ?_
  refine se (mkE [(1, .ba 8 0), (3, S z0.1), (35, LL a37 p0.f3), (36, I (lenL p0.f3)), (37, I z0.2), (38, B (ltI z0.2 (lenL p0.f3)))] [(8, .box [S p0.f0, I p0.f1, I p0.f2, LL a37 p0.f3] false)] 96) ?_
  refine pN ?_
  refine pS ?_
  refine gS 10 ?_
  refine gC 38 (ltI z0.2 (lenL p0.f3)) ?_ ?_
  · refine gK ?_
    refine pN ?_
    refine pS ?_
    refine gS 21 ?_
    refine gB 2 ?_
    refine gS 11 ?_
    refine gR 10 (rg Tryz.f15 10) ?_
    refine vo 39 (addrE 22 38 5 a37 .i64 p0.f3 z0.2) (fun x4 => ?_)
    refine se (mkE [(1, .ba 8 0), (3, S z0.1), (5, .ba 40 0), (35, LL a37 p0.f3), (36, I (lenL p0.f3)), (37, I z0.2)] [(8, .box [S p0.f0, I p0.f1, I p0.f2, LL a37 p0.f3] false), (40, .box [S x4.f0, I x4.f1.f0, I x4.f1.f1, I x4.f1.f2, I x4.f1.f3] false)] 96) ?_
    refine pN ?_
    refine pS ?_
    refine gS 13 ?_
    refine gS 0 ?_
    refine gR 11 (rg Tryz.f15 11) ?_
    refine sg 2 (mkE [(42, S x4.f0), (41, .ba 40 0), (1, .ba 8 0), (3, S z0.1), (5, .ba 40 0), (35, LL a37 p0.f3), (36, I (lenL p0.f3)), (37, I z0.2)] [(8, .box [S p0.f0, I p0.f1, I p0.f2, LL a37 p0.f3] false), (40, .box [S x4.f0, I x4.f1.f0, I x4.f1.f1, I x4.f1.f2, I x4.f1.f3] false)] 96) ?_
    refine co 43 [] (h46 x4.f0) (fun x5 => ?_)
    refine se (mkE [(1, .ba 8 0), (3, S z0.1), (5, .ba 40 0), (35, LL a37 p0.f3), (36, I (lenL p0.f3)), (37, I z0.2), (44, B (!x5))] [(8, .box [S p0.f0, I p0.f1, I p0.f2, LL a37 p0.f3] false), (40, .box [S x4.f0, I x4.f1.f0, I x4.f1.f1, I x4.f1.f2, I x4.f1.f3] false)] 96) ?_
    refine pN ?_
    refine pS ?_
    refine gC 44 (!x5) ?_ ?_
    · refine gS 0 ?_
      refine gR 12 (rg Tryz.f15 12) ?_
      refine se (mkE [(2, I 5)] [] 96) ?_
      refine pN ?_
      refine pS ?_
      refine gE ?_
      exact pL
    · refine gK ?_
      refine pN ?_
      refine pS ?_
      refine gS 16 ?_
      refine gS 14 ?_
      refine gR 13 (rg Tryz.f15 13) ?_
      refine sg 2 (mkE [(46, a25 x4.f1), (45, .ba 40 1), (1, .ba 8 0), (3, S z0.1), (5, .ba 40 0), (35, LL a37 p0.f3), (36, I (lenL p0.f3)), (37, I z0.2), (44, B (!x5))] [(8, .box [S p0.f0, I p0.f1, I p0.f2, LL a37 p0.f3] false), (40, .box [S x4.f0, I x4.f1.f0, I x4.f1.f1, I x4.f1.f2, I x4.f1.f3] false)] 96) ?_
      refine co 47 [] (h19 x4.f1) (fun x6 => ?_)
      refine se (mkE [(1, .ba 8 0), (3, S z0.1), (5, .ba 40 0), (6, I x6), (35, LL a37 p0.f3), (36, I (lenL p0.f3)), (37, I z0.2)] [(8, .box [S p0.f0, I p0.f1, I p0.f2, LL a37 p0.f3] false), (40, .box [S x4.f0, I x4.f1.f0, I x4.f1.f1, I x4.f1.f2, I x4.f1.f3] false)] 96) ?_
      refine pN ?_
      refine pS ?_
      refine gS 0 ?_
      refine gR 14 (rg Tryz.f15 14) ?_
      refine se (mkE [(1, .ba 8 0), (3, S z0.1), (5, .ba 40 0), (6, I x6), (35, LL a37 p0.f3), (36, I (lenL p0.f3)), (37, I z0.2), (49, B (neI x6 0))] [(8, .box [S p0.f0, I p0.f1, I p0.f2, LL a37 p0.f3] false), (40, .box [S x4.f0, I x4.f1.f0, I x4.f1.f1, I x4.f1.f2, I x4.f1.f3] false)] 96) ?_
      refine pN ?_
      refine pS ?_
      refine gC 49 (neI x6 0) ?_ ?_
      · refine gS 0 ?_
        refine gR 15 (rg Tryz.f15 15) ?_
        refine se (mkE [(2, I x6)] [] 96) ?_
        refine pN ?_
        refine pS ?_
        refine gE ?_
        exact pL
      · refine gK ?_
        refine pN ?_
        refine pS ?_
        refine gS 20 ?_
        refine gB 3 ?_
        refine gS 0 ?_
        refine gR 16 (rg Tryz.f15 16) ?_
        refine sg 6 (mkE [(57, I p0.f2), (56, .ba 8 2), (55, I p0.f1), (54, .ba 8 1), (53, a25 x4.f1), (52, .ba 40 1), (1, .ba 8 0), (3, S z0.1), (5, .ba 40 0), (6, I x6), (35, LL a37 p0.f3), (36, I (lenL p0.f3)), (37, I z0.2), (49, B (neI x6 0))] [(8, .box [S p0.f0, I p0.f1, I p0.f2, LL a37 p0.f3] false), (40, .box [S x4.f0, I x4.f1.f0, I x4.f1.f1, I x4.f1.f2, I x4.f1.f3] false)] 96) ?_
        refine co 58 [] (h48 x4.f1 p0.f1 p0.f2) (fun x7 => ?_)
        refine se (mkE [(1, .ba 8 0), (3, S z0.1), (5, .ba 40 0), (35, LL a37 p0.f3), (36, I (lenL p0.f3)), (37, I z0.2), (51, B (!x7))] [(8, .box [S p0.f0, I p0.f1, I p0.f2, LL a37 p0.f3] false), (40, .box [S x4.f0, I x4.f1.f0, I x4.f1.f1, I x4.f1.f2, I x4.f1.f3] false)] 96) ?_
        refine pN ?_
        refine pS ?_
        refine gC 51 (!x7) ?_ ?_
        · refine gS 0 ?_
          refine gR 17 (rg Tryz.f15 17) ?_
          refine se (mkE [(2, I 3)] [] 96) ?_
          refine pN ?_
          refine pS ?_
          refine gE ?_
          exact pL
        · refine gS 0 ?_
          refine gR 18 (rg Tryz.f15 18) ?_
          refine se (mkE [(1, .ba 8 0), (5, .ba 40 0), (35, LL a37 p0.f3), (36, I (lenL p0.f3)), (37, I z0.2), (60, B (ltS x4.f0 z0.1 || eqS x4.f0 z0.1))] [(8, .box [S p0.f0, I p0.f1, I p0.f2, LL a37 p0.f3] false), (40, .box [S x4.f0, I x4.f1.f0, I x4.f1.f1, I x4.f1.f2, I x4.f1.f3] false)] 96) ?_
          refine pN ?_
          refine pS ?_
          refine gC 60 (ltS x4.f0 z0.1 || eqS x4.f0 z0.1) ?_ ?_
          · refine gS 0 ?_
            refine gR 19 (rg Tryz.f15 19) ?_
            refine se (mkE [(2, I 7)] [] 96) ?_
            refine pN ?_
            refine pS ?_
            refine gE ?_
            exact pL
          · refine gK ?_
            refine pB ?_
            refine pN ?_
            refine pS ?_
            refine gR 20 (rg Tryz.f15 20) ?_
            refine se (mkE [(1, .ba 8 0), (3, S x4.f0), (35, LL a37 p0.f3), (36, I (lenL p0.f3)), (37, I z0.2)] [(8, .box [S p0.f0, I p0.f1, I p0.f2, LL a37 p0.f3] false)] 96) ?_
            refine pB ?_
            refine pN ?_
            refine pS ?_
            refine gR 21 (rg Tryz.f15 21) ?_
            refine se (mkE [(1, .ba 8 0), (3, S x4.f0), (35, LL a37 p0.f3), (36, I (lenL p0.f3)), (37, I (addI .i64 z0.2 1))] [(8, .box [S p0.f0, I p0.f1, I p0.f2, LL a37 p0.f3] false)] 96) ?_
            exact pL
  · refine gX 1 ?_
    exact pL
noncomputable def L15_26 (p0 : S23) (z1 : Int) (x9 : S37) (x10 : (List S37)) (z2 : Int) : Option (Int ⊕ ((Int × Bool) ⊕ Unit)) := (bif (ltI z2 (lenL x10)) then ((listAt x10 z2).bind fun x11 => ((T49 x9.f1 x11.f1).bind fun x12 => (bif x12.2 then (some (.inr (.inr ()))) else (some (.inl (addI .i64 z2 1)))))) else (some (.inr (.inl (z2, (ltI z2 (lenL x10)))))))
theorem L15_26_ok (C : Callee) (h49 : ∀ (p0 : S25) (p1 : S25), C 49 [a25 p0, a25 p1] = (T49 p0 p1).map (fun r => AV.tup [a25 r.1, B r.2])) (p0 : S23) (z1 : Int) (x9 : S37) (x10 : (List S37)) (z2 : Int) : runs Tryz.prog C (cfg.fn 15) (finLoop ((cfg.fn 15).keep 26) ((cfg.fn 15).al 26)) [] (execA Tryz.prog C (cfg.fn 15) (nr Tryz.f15 [false, false, true, true, false, false, true, true, false, false, true, false, true, true, true, true]) ((fun z2 : Int => (mkE [(1, .ba 8 0), (8, .ba 64 0), (69, LL a37 p0.f3), (70, I (lenL p0.f3)), (71, I z1), (79, LL a37 x10), (80, I (lenL x10)), (81, I z2)] [(8, .box [S p0.f0, I p0.f1, I p0.f2, LL a37 p0.f3] false), (64, .box [S x9.f0, I x9.f1.f0, I x9.f1.f1, I x9.f1.f2, I x9.f1.f3] false)] 96)) z2)) = (L15_26 p0 z1 x9 x10 z2).map (Sum.elim (fun z => .inl ((fun z2 : Int => (mkE [(1, .ba 8 0), (8, .ba 64 0), (69, LL a37 p0.f3), (70, I (lenL p0.f3)), (71, I z1), (79, LL a37 x10), (80, I (lenL x10)), (81, I z2)] [(8, .box [S p0.f0, I p0.f1, I p0.f2, LL a37 p0.f3] false), (64, .box [S x9.f0, I x9.f1.f0, I x9.f1.f1, I x9.f1.f2, I x9.f1.f3] false)] 96)) z)) (fun x => .inr ((Sum.elim (fun (x : (Int × Bool)) => (.exit 6, (mkE [(1, .ba 8 0), (8, .ba 64 0), (69, LL a37 p0.f3), (70, I (lenL p0.f3)), (71, I z1), (79, LL a37 x10), (80, I (lenL x10)), (81, I x.1), (82, B x.2)] [(8, .box [S p0.f0, I p0.f1, I p0.f2, LL a37 p0.f3] false), (64, .box [S x9.f0, I x9.f1.f0, I x9.f1.f1, I x9.f1.f2, I x9.f1.f3] false)] 96))) (fun (x : Unit) => (.ret, (mkE [(2, I 13)] [] 96)))) x))) := by
  unfold L15_26
  refine gS 0 ?_
  refine gR 26 (rg Tryz.f15 26) ?_
  refine se (mkE [(1, .ba 8 0), (8, .ba 64 0), (69, LL a37 p0.f3), (70, I (lenL p0.f3)), (71, I z1), (79, LL a37 x10), (80, I (lenL x10)), (81, I z2), (82, B (ltI z2 (lenL x10)))] [(8, .box [S p0.f0, I p0.f1, I p0.f2, LL a37 p0.f3] false), (64, .box [S x9.f0, I x9.f1.f0, I x9.f1.f1, I x9.f1.f2, I x9.f1.f3] false)] 96) ?_
  refine pN ?_
  refine pS ?_
  refine gS 27 ?_
  refine gC 82 (ltI z2 (lenL x10)) ?_ ?_
  · refine gK ?_
    refine pN ?_
    refine pS ?_
    refine gS 31 ?_
    refine gB 7 ?_
    refine gS 28 ?_
    refine gR 27 (rg Tryz.f15 27) ?_
    refine vo 83 (addrE 22 38 5 a37 .i64 x10 z2) (fun x11 => ?_)
    refine se (mkE [(1, .ba 8 0), (8, .ba 64 0), (10, .ba 80 0), (69, LL a37 p0.f3), (70, I (lenL p0.f3)), (71, I z1), (79, LL a37 x10), (80, I (lenL x10)), (81, I z2)] [(8, .box [S p0.f0, I p0.f1, I p0.f2, LL a37 p0.f3] false), (64, .box [S x9.f0, I x9.f1.f0, I x9.f1.f1, I x9.f1.f2, I x9.f1.f3] false), (80, .box [S x11.f0, I x11.f1.f0, I x11.f1.f1, I x11.f1.f2, I x11.f1.f3] false)] 96) ?_
    refine pN ?_
    refine pS ?_
    refine gS 29 ?_
    refine gR 28 (rg Tryz.f15 28) ?_
    refine sg 4 (mkE [(89, a25 x11.f1), (88, .ba 80 1), (87, a25 x9.f1), (86, .ba 64 1), (1, .ba 8 0), (8, .ba 64 0), (10, .ba 80 0), (69, LL a37 p0.f3), (70, I (lenL p0.f3)), (71, I z1), (79, LL a37 x10), (80, I (lenL x10)), (81, I z2)] [(8, .box [S p0.f0, I p0.f1, I p0.f2, LL a37 p0.f3] false), (64, .box [S x9.f0, I x9.f1.f0, I x9.f1.f1, I x9.f1.f2, I x9.f1.f3] false), (80, .box [S x11.f0, I x11.f1.f0, I x11.f1.f1, I x11.f1.f2, I x11.f1.f3] false)] 96) ?_
    refine co 90 [] (h49 x9.f1 x11.f1) (fun x12 => ?_)
    refine se (mkE [(1, .ba 8 0), (8, .ba 64 0), (12, B x12.2), (69, LL a37 p0.f3), (70, I (lenL p0.f3)), (71, I z1), (79, LL a37 x10), (80, I (lenL x10)), (81, I z2)] [(8, .box [S p0.f0, I p0.f1, I p0.f2, LL a37 p0.f3] false), (64, .box [S x9.f0, I x9.f1.f0, I x9.f1.f1, I x9.f1.f2, I x9.f1.f3] false)] 96) ?_
    refine pN ?_
    refine pS ?_
    refine gS 0 ?_
    refine gR 29 (rg Tryz.f15 29) ?_
    refine se (mkE [(1, .ba 8 0), (8, .ba 64 0), (69, LL a37 p0.f3), (70, I (lenL p0.f3)), (71, I z1), (79, LL a37 x10), (80, I (lenL x10)), (81, I z2), (93, B x12.2)] [(8, .box [S p0.f0, I p0.f1, I p0.f2, LL a37 p0.f3] false), (64, .box [S x9.f0, I x9.f1.f0, I x9.f1.f1, I x9.f1.f2, I x9.f1.f3] false)] 96) ?_
    refine pN ?_
    refine pS ?_
    refine gC 93 x12.2 ?_ ?_
    · refine gS 0 ?_
      refine gR 30 (rg Tryz.f15 30) ?_
      refine se (mkE [(2, I 13)] [] 96) ?_
      refine pN ?_
      refine pS ?_
      refine gE ?_
      exact pL
    · refine gK ?_
      refine pB ?_
      refine pN ?_
      refine pS ?_
      refine gR 31 (rg Tryz.f15 31) ?_
      refine se (mkE [(1, .ba 8 0), (8, .ba 64 0), (69, LL a37 p0.f3), (70, I (lenL p0.f3)), (71, I z1), (79, LL a37 x10), (80, I (lenL x10)), (81, I (addI .i64 z2 1))] [(8, .box [S p0.f0, I p0.f1, I p0.f2, LL a37 p0.f3] false), (64, .box [S x9.f0, I x9.f1.f0, I x9.f1.f1, I x9.f1.f2, I x9.f1.f3] false)] 96) ?_
      exact pL
  · refine gX 6 ?_
    exact pL
noncomputable def L15_23 (p0 : S23) (z1 : Int) : Option (Int ⊕ ((Int × Bool) ⊕ Unit)) := (bif (ltI z1 (lenL p0.f3)) then ((listAt p0.f3 z1).bind fun x9 => ((cutL p0.f3 none (some z1)).bind fun x10 => ((iter (L15_26 p0 z1 x9 x10) 0).bind fun y13 => (Sum.elim (fun y13a => (some (.inl (addI .i64 z1 1)))) (fun y13b => (some (.inr (.inr ())))) y13)))) else (some (.inr (.inl (z1, (ltI z1 (lenL p0.f3)))))))
theorem L15_23_ok (C : Callee) (h49 : ∀ (p0 : S25) (p1 : S25), C 49 [a25 p0, a25 p1] = (T49 p0 p1).map (fun r => AV.tup [a25 r.1, B r.2])) (p0 : S23) (z1 : Int) : runs Tryz.prog C (cfg.fn 15) (finLoop ((cfg.fn 15).keep 23) ((cfg.fn 15).al 23)) [] (execA Tryz.prog C (cfg.fn 15) (nr Tryz.f15 [false, false, true, false, true, true, true, true]) ((fun z1 : Int => (mkE [(1, .ba 8 0), (69, LL a37 p0.f3), (70, I (lenL p0.f3)), (71, I z1)] [(8, .box [S p0.f0, I p0.f1, I p0.f2, LL a37 p0.f3] false)] 96)) z1)) = (L15_23 p0 z1).map (Sum.elim (fun z => .inl ((fun z1 : Int => (mkE [(1, .ba 8 0), (69, LL a37 p0.f3), (70, I (lenL p0.f3)), (71, I z1)] [(8, .box [S p0.f0, I p0.f1, I p0.f2, LL a37 p0.f3] false)] 96)) z)) (fun x => .inr ((Sum.elim (fun (x : (Int × Bool)) => (.exit 4, (mkE [(1, .ba 8 0), (69, LL a37 p0.f3), (70, I (lenL p0.f3)), (71, I x.1), (72, B x.2)] [(8, .box [S p0.f0, I p0.f1, I p0.f2, LL a37 p0.f3] false)] 96))) (fun (x : Unit) => (.ret, (mkE [(2, I 13)] [] 96)))) x))) := by
  unfold L15_23
  refine gS 0 ?_
  refine gR 23 (rg Tryz.f15 23) ?_
  refine se (mkE [(1, .ba 8 0), (69, LL a37 p0.f3), (70, I (lenL p0.f3)), (71, I z1), (72, B (ltI z1 (lenL p0.f3)))] [(8, .box [S p0.f0, I p0.f1, I p0.f2, LL a37 p0.f3] false)] 96) ?_
  refine pN ?_
  refine pS ?_
  refine gS 24 ?_
  refine gC 72 (ltI z1 (lenL p0.f3)) ?_ ?_
  · refine gK ?_
    refine pN ?_
    refine pS ?_
    refine gS 32 ?_
    refine gB 5 ?_
    refine gS 25 ?_
    refine gR 24 (rg Tryz.f15 24) ?_
    refine sg 1 (mkE [(73, I z1), (1, .ba 8 0), (69, LL a37 p0.f3), (70, I (lenL p0.f3)), (71, I z1), (72, B (ltI z1 (lenL p0.f3)))] [(8, .box [S p0.f0, I p0.f1, I p0.f2, LL a37 p0.f3] false)] 96) ?_
    refine vo 74 (addrE 22 38 5 a37 .i64 p0.f3 z1) (fun x9 => ?_)
    refine se (mkE [(1, .ba 8 0), (7, I z1), (8, .ba 64 0), (69, LL a37 p0.f3), (70, I (lenL p0.f3)), (71, I z1)] [(8, .box [S p0.f0, I p0.f1, I p0.f2, LL a37 p0.f3] false), (64, .box [S x9.f0, I x9.f1.f0, I x9.f1.f1, I x9.f1.f2, I x9.f1.f3] false)] 96) ?_
    refine pN ?_
    refine pS ?_
    refine gS 26 ?_
    refine gR 25 (rg Tryz.f15 25) ?_
    refine sg 3 (mkE [(78, I z1), (77, LL a37 p0.f3), (76, .ba 8 3), (1, .ba 8 0), (7, I z1), (8, .ba 64 0), (69, LL a37 p0.f3), (70, I (lenL p0.f3)), (71, I z1)] [(8, .box [S p0.f0, I p0.f1, I p0.f2, LL a37 p0.f3] false), (64, .box [S x9.f0, I x9.f1.f0, I x9.f1.f1, I x9.f1.f2, I x9.f1.f3] false)] 96) ?_
    refine vo 79 (cutLE 22 38 5 a37 .i64 .i64 p0.f3 none (some z1) (.tmp 77) none (some (.tmp 78))) (fun x10 => ?_)
    refine eo 80 (I (lenL x10)) (lenE 22 a37 x10) ?_
    refine se (mkE [(1, .ba 8 0), (8, .ba 64 0), (69, LL a37 p0.f3), (70, I (lenL p0.f3)), (71, I z1), (79, LL a37 x10), (80, I (lenL x10)), (81, I 0)] [(8, .box [S p0.f0, I p0.f1, I p0.f2, LL a37 p0.f3] false), (64, .box [S x9.f0, I x9.f1.f0, I x9.f1.f1, I x9.f1.f2, I x9.f1.f3] false)] 96) ?_
    refine pN ?_
    refine pS ?_
    refine gB 6 ?_
    refine lo [(1, none), (8, none), (69, none), (70, none), (71, none), (79, none), (80, none), (81, none)] [] (L15_26 p0 z1 x9 x10) (fun z2 : Int => (mkE [(1, .ba 8 0), (8, .ba 64 0), (69, LL a37 p0.f3), (70, I (lenL p0.f3)), (71, I z1), (79, LL a37 x10), (80, I (lenL x10)), (81, I z2)] [(8, .box [S p0.f0, I p0.f1, I p0.f2, LL a37 p0.f3] false), (64, .box [S x9.f0, I x9.f1.f0, I x9.f1.f1, I x9.f1.f2, I x9.f1.f3] false)] 96)) (Sum.elim (fun (x : (Int × Bool)) => (.exit 6, (mkE [(1, .ba 8 0), (8, .ba 64 0), (69, LL a37 p0.f3), (70, I (lenL p0.f3)), (71, I z1), (79, LL a37 x10), (80, I (lenL x10)), (81, I x.1), (82, B x.2)] [(8, .box [S p0.f0, I p0.f1, I p0.f2, LL a37 p0.f3] false), (64, .box [S x9.f0, I x9.f1.f0, I x9.f1.f1, I x9.f1.f2, I x9.f1.f3] false)] 96))) (fun (x : Unit) => (.ret, (mkE [(2, I 13)] [] 96)))) 0 (fun z => L15_26_ok C h49 p0 z1 x9 x10 z) ?_
    intro y13
    refine ss y13 (Z := (Sum.elim (fun (x : (Int × Bool)) => (.exit 6, (mkE [(1, .ba 8 0), (8, .ba 64 0), (69, LL a37 p0.f3), (70, I (lenL p0.f3)), (71, I z1), (79, LL a37 x10), (80, I (lenL x10)), (81, I x.1), (82, B x.2)] [(8, .box [S p0.f0, I p0.f1, I p0.f2, LL a37 p0.f3] false), (64, .box [S x9.f0, I x9.f1.f0, I x9.f1.f1, I x9.f1.f2, I x9.f1.f3] false)] 96))) (fun (x : Unit) => (.ret, (mkE [(2, I 13)] [] 96))))) (fun y13a => ?_) (fun y13b => ?_)
    · refine pH ?_
      refine pB ?_
      refine pN ?_
      refine pS ?_
      refine gR 32 (rg Tryz.f15 32) ?_
      refine se (mkE [(1, .ba 8 0), (69, LL a37 p0.f3), (70, I (lenL p0.f3)), (71, I (addI .i64 z1 1))] [(8, .box [S p0.f0, I p0.f1, I p0.f2, LL a37 p0.f3] false)] 96) ?_
      exact pL
    · exact pL
  · refine gX 4 ?_
    exact pL
noncomputable def T15 (p0 : S23) : Option Int := ((T46 p0.f0).bind fun x1 => (bif (!x1) then (some 5) else ((T47 p0.f1).bind fun x2 => (bif (!x2) then (some 1) else ((T47 p0.f2).bind fun x3 => (bif (!x3) then (some 1) else (bif (ltI 50 (lenL p0.f3)) then (some 2) else ((iter (L15_9 p0) ((ByteArray.mk #[]), 0)).bind fun y8 => (Sum.elim (fun y8a => ((iter (L15_23 p0) 0).bind fun y14 => (Sum.elim (fun y14a => (some 0)) (fun y14b => (some 13)) y14))) (fun y8b => (some y8b)) y8)))))))))
theorem B15 (C : Callee) (h19 : ∀ (p0 : S25), C 19 [a25 p0] = (T19 p0).map I) (h46 : ∀ (p0 : ByteArray), C 46 [S p0] = (T46 p0).map B) (h47 : ∀ (p0 : Int), C 47 [I p0] = (T47 p0).map B) (h48 : ∀ (p0 : S25) (p1 : Int) (p2 : Int), C 48 [a25 p0, I p1, I p2] = (T48 p0 p1 p2).map B) (h49 : ∀ (p0 : S25) (p1 : S25), C 49 [a25 p0, a25 p1] = (T49 p0 p1).map (fun r => AV.tup [a25 r.1, B r.2])) (p0 : S23) : runs Tryz.prog C (cfg.fn 15) (finFn Tryz.prog (cfg.fn 15).byval Tryz.f15) [] (execA Tryz.prog C (cfg.fn 15) (nr Tryz.f15 []) (frame0 [a23 p0] 96 false)) = (T15 p0).map I := by
  unfold T15
  refine gS 1 ?_
  refine gR 0 (rg Tryz.f15 0) ?_
  refine se (mkE [(1, .ba 8 0)] [(8, .box [S p0.f0, I p0.f1, I p0.f2, LL a37 p0.f3] false)] 96) ?_
  refine pN ?_
  refine pS ?_
  refine gS 7 ?_
  refine gB 0 ?_
  refine gS 0 ?_
  refine gR 1 (rg Tryz.f15 1) ?_
  refine sg 2 (mkE [(15, S p0.f0), (14, .ba 8 0), (1, .ba 8 0)] [(8, .box [S p0.f0, I p0.f1, I p0.f2, LL a37 p0.f3] false)] 96) ?_
  refine co 16 [] (h46 p0.f0) (fun x1 => ?_)
  refine se (mkE [(1, .ba 8 0), (13, B (!x1))] [(8, .box [S p0.f0, I p0.f1, I p0.f2, LL a37 p0.f3] false)] 96) ?_
  refine pN ?_
  refine pS ?_
  refine gC 13 (!x1) ?_ ?_
  · refine gS 0 ?_
    refine gR 2 (rg Tryz.f15 2) ?_
    refine se (mkE [(2, I 5)] [] 96) ?_
    refine pN ?_
    refine pS ?_
    refine gE ?_
    exact pL
  · refine gS 0 ?_
    refine gR 3 (rg Tryz.f15 3) ?_
    refine sg 2 (mkE [(20, I p0.f1), (19, .ba 8 1), (1, .ba 8 0), (13, B (!x1))] [(8, .box [S p0.f0, I p0.f1, I p0.f2, LL a37 p0.f3] false)] 96) ?_
    refine co 21 [] (h47 p0.f1) (fun x2 => ?_)
    refine sg 5 (mkE [(23, B (!x2)), (22, B (!x2)), (21, B x2), (20, I p0.f1), (19, .ba 8 1), (1, .ba 8 0), (13, B (!x1))] [(8, .box [S p0.f0, I p0.f1, I p0.f2, LL a37 p0.f3] false)] 96) ?_
    refine sb 23 (!x2) ?_ ?_
    · refine se (mkE [(1, .ba 8 0), (18, B true)] [(8, .box [S p0.f0, I p0.f1, I p0.f2, LL a37 p0.f3] false)] 96) ?_
      refine pN ?_
      refine pS ?_
      refine gT (.tmp 18) ?_
      refine gS 0 ?_
      refine gR 4 (rg Tryz.f15 4) ?_
      refine se (mkE [(2, I 1)] [] 96) ?_
      refine pN ?_
      refine pS ?_
      refine gE ?_
      exact pL
    · refine sg 7 (mkE [(25, I p0.f2), (24, .ba 8 2), (23, B false), (23, B (!x2)), (22, B (!x2)), (21, B x2), (20, I p0.f1), (19, .ba 8 1), (1, .ba 8 0), (13, B (!x1))] [(8, .box [S p0.f0, I p0.f1, I p0.f2, LL a37 p0.f3] false)] 96) ?_
      refine co 26 [] (h47 p0.f2) (fun x3 => ?_)
      refine se (mkE [(1, .ba 8 0), (18, B (!x3))] [(8, .box [S p0.f0, I p0.f1, I p0.f2, LL a37 p0.f3] false)] 96) ?_
      refine pN ?_
      refine pS ?_
      refine gC 18 (!x3) ?_ ?_
      · refine gS 0 ?_
        refine gR 4 (rg Tryz.f15 4) ?_
        refine se (mkE [(2, I 1)] [] 96) ?_
        refine pN ?_
        refine pS ?_
        refine gE ?_
        exact pL
      · refine gS 0 ?_
        refine gR 5 (rg Tryz.f15 5) ?_
        refine sg 2 (mkE [(31, LL a37 p0.f3), (30, .ba 8 3), (1, .ba 8 0), (18, B (!x3))] [(8, .box [S p0.f0, I p0.f1, I p0.f2, LL a37 p0.f3] false)] 96) ?_
        refine eo 32 (I (lenL p0.f3)) (lenE 22 a37 p0.f3) ?_
        refine se (mkE [(1, .ba 8 0), (29, B (ltI 50 (lenL p0.f3)))] [(8, .box [S p0.f0, I p0.f1, I p0.f2, LL a37 p0.f3] false)] 96) ?_
        refine pN ?_
        refine pS ?_
        refine gC 29 (ltI 50 (lenL p0.f3)) ?_ ?_
        · refine gS 0 ?_
          refine gR 6 (rg Tryz.f15 6) ?_
          refine se (mkE [(2, I 2)] [] 96) ?_
          refine pN ?_
          refine pS ?_
          refine gE ?_
          exact pL
        · refine gK ?_
          refine pB ?_
          refine pN ?_
          refine pS ?_
          refine gS 8 ?_
          refine gR 7 (rg Tryz.f15 7) ?_
          refine se (mkE [(1, .ba 8 0), (3, S (ByteArray.mk #[]))] [(8, .box [S p0.f0, I p0.f1, I p0.f2, LL a37 p0.f3] false)] 96) ?_
          refine pN ?_
          refine pS ?_
          refine gS 22 ?_
          refine gS 9 ?_
          refine gR 8 (rg Tryz.f15 8) ?_
          refine sg 2 (mkE [(35, LL a37 p0.f3), (34, .ba 8 3), (1, .ba 8 0), (3, S (ByteArray.mk #[]))] [(8, .box [S p0.f0, I p0.f1, I p0.f2, LL a37 p0.f3] false)] 96) ?_
          refine eo 36 (I (lenL p0.f3)) (lenE 22 a37 p0.f3) ?_
          refine se (mkE [(1, .ba 8 0), (3, S (ByteArray.mk #[])), (35, LL a37 p0.f3), (36, I (lenL p0.f3)), (37, I 0)] [(8, .box [S p0.f0, I p0.f1, I p0.f2, LL a37 p0.f3] false)] 96) ?_
          refine pN ?_
          refine pS ?_
          refine gB 1 ?_
          refine lo [(1, none), (3, none), (35, none), (36, none), (37, none)] [] (L15_9 p0) (fun z0 : (ByteArray × Int) => (mkE [(1, .ba 8 0), (3, S z0.1), (35, LL a37 p0.f3), (36, I (lenL p0.f3)), (37, I z0.2)] [(8, .box [S p0.f0, I p0.f1, I p0.f2, LL a37 p0.f3] false)] 96)) (Sum.elim (fun (x : (ByteArray × Int × Bool)) => (.exit 1, (mkE [(1, .ba 8 0), (3, S x.1), (35, LL a37 p0.f3), (36, I (lenL p0.f3)), (37, I x.2.1), (38, B x.2.2)] [(8, .box [S p0.f0, I p0.f1, I p0.f2, LL a37 p0.f3] false)] 96))) (fun (x : Int) => (.ret, (mkE [(2, I x)] [] 96)))) ((ByteArray.mk #[]), 0) (fun z => L15_9_ok C h19 h46 h48 p0 z) ?_
          intro y8
          refine ss y8 (Z := (Sum.elim (fun (x : (ByteArray × Int × Bool)) => (.exit 1, (mkE [(1, .ba 8 0), (3, S x.1), (35, LL a37 p0.f3), (36, I (lenL p0.f3)), (37, I x.2.1), (38, B x.2.2)] [(8, .box [S p0.f0, I p0.f1, I p0.f2, LL a37 p0.f3] false)] 96))) (fun (x : Int) => (.ret, (mkE [(2, I x)] [] 96))))) (fun y8a => ?_) (fun y8b => ?_)
          · refine pH ?_
            refine pN ?_
            refine pS ?_
            refine gS 33 ?_
            refine gS 23 ?_
            refine gR 22 (rg Tryz.f15 22) ?_
            refine sg 2 (mkE [(69, LL a37 p0.f3), (68, .ba 8 3), (1, .ba 8 0), (3, S y8a.1), (35, LL a37 p0.f3), (36, I (lenL p0.f3)), (37, I y8a.2.1), (38, B y8a.2.2)] [(8, .box [S p0.f0, I p0.f1, I p0.f2, LL a37 p0.f3] false)] 96) ?_
            refine eo 70 (I (lenL p0.f3)) (lenE 22 a37 p0.f3) ?_
            refine se (mkE [(1, .ba 8 0), (69, LL a37 p0.f3), (70, I (lenL p0.f3)), (71, I 0)] [(8, .box [S p0.f0, I p0.f1, I p0.f2, LL a37 p0.f3] false)] 96) ?_
            refine pN ?_
            refine pS ?_
            refine gB 4 ?_
            refine lo [(1, none), (69, none), (70, none), (71, none)] [] (L15_23 p0) (fun z1 : Int => (mkE [(1, .ba 8 0), (69, LL a37 p0.f3), (70, I (lenL p0.f3)), (71, I z1)] [(8, .box [S p0.f0, I p0.f1, I p0.f2, LL a37 p0.f3] false)] 96)) (Sum.elim (fun (x : (Int × Bool)) => (.exit 4, (mkE [(1, .ba 8 0), (69, LL a37 p0.f3), (70, I (lenL p0.f3)), (71, I x.1), (72, B x.2)] [(8, .box [S p0.f0, I p0.f1, I p0.f2, LL a37 p0.f3] false)] 96))) (fun (x : Unit) => (.ret, (mkE [(2, I 13)] [] 96)))) 0 (fun z => L15_23_ok C h49 p0 z) ?_
            intro y14
            refine ss y14 (Z := (Sum.elim (fun (x : (Int × Bool)) => (.exit 4, (mkE [(1, .ba 8 0), (69, LL a37 p0.f3), (70, I (lenL p0.f3)), (71, I x.1), (72, B x.2)] [(8, .box [S p0.f0, I p0.f1, I p0.f2, LL a37 p0.f3] false)] 96))) (fun (x : Unit) => (.ret, (mkE [(2, I 13)] [] 96))))) (fun y14a => ?_) (fun y14b => ?_)
            · refine pH ?_
              refine pN ?_
              refine pS ?_
              refine gS 0 ?_
              refine gR 33 (rg Tryz.f15 33) ?_
              refine se (mkE [(2, I 0)] [] 96) ?_
              refine pN ?_
              refine pS ?_
              refine gE ?_
              exact pL
            · exact pL
          · exact pL
theorem F15 (m : Nat) (hm : 5 ≤ m) (p0 : S23) : callA Tryz.prog cfg m 15 [a23 p0] = (T15 p0).map I := by
  obtain ⟨q, rfl⟩ : ∃ q, m = q + 1 := ⟨m - 1, by omega⟩
  exact (callA_body (fn := Tryz.f15) (c := body_ Tryz.f15) q _ (by kernel_rfl) (by kernel_rfl) (by kernel_rfl)).trans (B15 _ (fun p0 => F19 q (by omega) p0) (fun p0 => F46 q (by omega) p0) (fun p0 => F47 q (by omega) p0) (fun p0 p1 p2 => F48 q (by omega) p0 p1 p2) (fun p0 p1 => F49 q (by omega) p0 p1) p0)

noncomputable def T18 (p0 : Bool) (p1 : Int) : Option Int := (bif p0 then (some p1) else (some 0))
theorem B18 (C : Callee) (p0 : Bool) (p1 : Int) : runs Tryz.prog C (cfg.fn 18) (finFn Tryz.prog (cfg.fn 18).byval Tryz.f18) [] (execA Tryz.prog C (cfg.fn 18) (nr Tryz.f18 []) (frame0 [B p0, I p1] 7 false)) = (T18 p0 p1).map I := by
  unfold T18
  refine gS 1 ?_
  refine gR 0 (rg Tryz.f18 0) ?_
  refine se (mkE [(0, B p0), (1, I p1)] [] 7) ?_
  refine pN ?_
  refine pS ?_
  refine gS 3 ?_
  refine gS 0 ?_
  refine gR 1 (rg Tryz.f18 1) ?_
  refine se (mkE [(1, I p1), (5, B p0)] [] 7) ?_
  refine pN ?_
  refine pS ?_
  refine gC 5 p0 ?_ ?_
  · refine gS 0 ?_
    refine gR 2 (rg Tryz.f18 2) ?_
    refine se (mkE [(4, I p1)] [] 7) ?_
    refine pN ?_
    refine pS ?_
    refine gE ?_
    exact pL
  · refine gK ?_
    refine pN ?_
    refine pS ?_
    refine gS 0 ?_
    refine gR 3 (rg Tryz.f18 3) ?_
    refine se (mkE [(4, I 0)] [] 7) ?_
    refine pN ?_
    refine pS ?_
    refine gE ?_
    exact pL
theorem F18 (m : Nat) (hm : 1 ≤ m) (p0 : Bool) (p1 : Int) : callA Tryz.prog cfg m 18 [B p0, I p1] = (T18 p0 p1).map I := by
  obtain ⟨q, rfl⟩ : ∃ q, m = q + 1 := ⟨m - 1, by omega⟩
  exact (callA_body (fn := Tryz.f18) (c := body_ Tryz.f18) q _ (by kernel_rfl) (by kernel_rfl) (by kernel_rfl)).trans (B18 _ p0 p1)

noncomputable def L17_2 (p0 : (List Int)) (z0 : Int) : Option (Int ⊕ ((Int × Bool) ⊕ Int)) := (bif (ltI z0 (lenL p0)) then ((listAt p0 z0).bind fun x1 => (bif (neI x1 0) then (some (.inr (.inr x1))) else (some (.inl (addI .i64 z0 1))))) else (some (.inr (.inl (z0, (ltI z0 (lenL p0)))))))
theorem L17_2_ok (C : Callee) (p0 : (List Int)) (z0 : Int) : runs Tryz.prog C (cfg.fn 17) (finLoop ((cfg.fn 17).keep 2) ((cfg.fn 17).al 2)) [] (execA Tryz.prog C (cfg.fn 17) (nr Tryz.f17 [false, false, true, false, true]) ((fun z0 : Int => (mkE [(5, LL I p0), (6, I (lenL p0)), (7, I z0)] [] 15)) z0)) = (L17_2 p0 z0).map (Sum.elim (fun z => .inl ((fun z0 : Int => (mkE [(5, LL I p0), (6, I (lenL p0)), (7, I z0)] [] 15)) z)) (fun x => .inr ((Sum.elim (fun (x : (Int × Bool)) => (.exit 0, (mkE [(5, LL I p0), (6, I (lenL p0)), (7, I x.1), (8, B x.2)] [] 15))) (fun (x : Int) => (.ret, (mkE [(2, I x)] [] 15)))) x))) := by
  unfold L17_2
  refine gS 0 ?_
  refine gR 2 (rg Tryz.f17 2) ?_
  refine se (mkE [(5, LL I p0), (6, I (lenL p0)), (7, I z0), (8, B (ltI z0 (lenL p0)))] [] 15) ?_
  refine pN ?_
  refine pS ?_
  refine gS 3 ?_
  refine gC 8 (ltI z0 (lenL p0)) ?_ ?_
  · refine gK ?_
    refine pN ?_
    refine pS ?_
    refine gS 6 ?_
    refine gB 1 ?_
    refine gS 4 ?_
    refine gR 3 (rg Tryz.f17 3) ?_
    refine vo 9 (addrE 93 39 1 I .i64 p0 z0) (fun x1 => ?_)
    refine se (mkE [(4, I x1), (5, LL I p0), (6, I (lenL p0)), (7, I z0)] [] 15) ?_
    refine pN ?_
    refine pS ?_
    refine gS 0 ?_
    refine gR 4 (rg Tryz.f17 4) ?_
    refine se (mkE [(4, I x1), (5, LL I p0), (6, I (lenL p0)), (7, I z0), (12, B (neI x1 0))] [] 15) ?_
    refine pN ?_
    refine pS ?_
    refine gC 12 (neI x1 0) ?_ ?_
    · refine gS 0 ?_
      refine gR 5 (rg Tryz.f17 5) ?_
      refine se (mkE [(2, I x1)] [] 15) ?_
      refine pN ?_
      refine pS ?_
      refine gE ?_
      exact pL
    · refine gK ?_
      refine pB ?_
      refine pN ?_
      refine pS ?_
      refine gR 6 (rg Tryz.f17 6) ?_
      refine se (mkE [(5, LL I p0), (6, I (lenL p0)), (7, I (addI .i64 z0 1))] [] 15) ?_
      exact pL
  · refine gX 0 ?_
    exact pL
noncomputable def T17 (p0 : (List Int)) : Option Int := ((iter (L17_2 p0) 0).bind fun y2 => (Sum.elim (fun y2a => (some 0)) (fun y2b => (some y2b)) y2))
theorem B17 (C : Callee) (p0 : (List Int)) : runs Tryz.prog C (cfg.fn 17) (finFn Tryz.prog (cfg.fn 17).byval Tryz.f17) [] (execA Tryz.prog C (cfg.fn 17) (nr Tryz.f17 []) (frame0 [LL I p0] 15 false)) = (T17 p0).map I := by
  unfold T17
  refine gS 1 ?_
  refine gR 0 (rg Tryz.f17 0) ?_
  refine se (mkE [(0, LL I p0)] [] 15) ?_
  refine pN ?_
  refine pS ?_
  refine gS 7 ?_
  refine gS 2 ?_
  refine gR 1 (rg Tryz.f17 1) ?_
  refine sg 1 (mkE [(5, LL I p0), (0, LL I p0)] [] 15) ?_
  refine eo 6 (I (lenL p0)) (lenE 93 I p0) ?_
  refine se (mkE [(5, LL I p0), (6, I (lenL p0)), (7, I 0)] [] 15) ?_
  refine pN ?_
  refine pS ?_
  refine gB 0 ?_
  refine lo [(5, none), (6, none), (7, none)] [] (L17_2 p0) (fun z0 : Int => (mkE [(5, LL I p0), (6, I (lenL p0)), (7, I z0)] [] 15)) (Sum.elim (fun (x : (Int × Bool)) => (.exit 0, (mkE [(5, LL I p0), (6, I (lenL p0)), (7, I x.1), (8, B x.2)] [] 15))) (fun (x : Int) => (.ret, (mkE [(2, I x)] [] 15)))) 0 (fun z => L17_2_ok C p0 z) ?_
  intro y2
  refine ss y2 (Z := (Sum.elim (fun (x : (Int × Bool)) => (.exit 0, (mkE [(5, LL I p0), (6, I (lenL p0)), (7, I x.1), (8, B x.2)] [] 15))) (fun (x : Int) => (.ret, (mkE [(2, I x)] [] 15))))) (fun y2a => ?_) (fun y2b => ?_)
  · refine pH ?_
    refine pN ?_
    refine pS ?_
    refine gS 0 ?_
    refine gR 7 (rg Tryz.f17 7) ?_
    refine se (mkE [(2, I 0)] [] 15) ?_
    refine pN ?_
    refine pS ?_
    refine gE ?_
    exact pL
  · exact pL
theorem F17 (m : Nat) (hm : 1 ≤ m) (p0 : (List Int)) : callA Tryz.prog cfg m 17 [LL I p0] = (T17 p0).map I := by
  obtain ⟨q, rfl⟩ : ∃ q, m = q + 1 := ⟨m - 1, by omega⟩
  exact (callA_body (fn := Tryz.f17) (c := body_ Tryz.f17) q _ (by kernel_rfl) (by kernel_rfl) (by kernel_rfl)).trans (B17 _ p0)

noncomputable def T54 (p0 : S25) (p1 : Int) (p2 : Int) : Option Bool := ((T53 p1 p0.f0 (subI .i64 (addI .i64 p0.f0 p0.f2) 1)).bind fun x1 => (bif x1 then ((T53 p2 p0.f1 (subI .i64 (addI .i64 p0.f1 p0.f3) 1)).bind fun x2 => (some x2)) else (some false)))
theorem B54 (C : Callee) (h53 : ∀ (p0 : Int) (p1 : Int) (p2 : Int), C 53 [I p0, I p1, I p2] = (T53 p0 p1 p2).map B) (p0 : S25) (p1 : Int) (p2 : Int) : runs Tryz.prog C (cfg.fn 54) (finFn Tryz.prog (cfg.fn 54).byval Tryz.f54) [] (execA Tryz.prog C (cfg.fn 54) (nr Tryz.f54 []) (frame0 [a25 p0, I p1, I p2] 29 false)) = (T54 p0 p1 p2).map B := by
  unfold T54
  refine gS 1 ?_
  refine gR 0 (rg Tryz.f54 0) ?_
  refine se (mkE [(1, I p1), (2, I p2), (3, .ba 24 0)] [(24, .box [I p0.f0, I p0.f1, I p0.f2, I p0.f3] false)] 29) ?_
  refine pN ?_
  refine pS ?_
  refine gS 0 ?_
  refine gR 1 (rg Tryz.f54 1) ?_
  refine sg 9 (mkE [(15, I (subI .i64 (addI .i64 p0.f0 p0.f2) 1)), (14, I (addI .i64 p0.f0 p0.f2)), (13, I p0.f2), (12, .ba 24 2), (11, I p0.f0), (10, .ba 24 0), (9, I p0.f0), (8, .ba 24 0), (7, I p1), (1, I p1), (2, I p2), (3, .ba 24 0)] [(24, .box [I p0.f0, I p0.f1, I p0.f2, I p0.f3] false)] 29) ?_
  refine co 16 [] (h53 p1 p0.f0 (subI .i64 (addI .i64 p0.f0 p0.f2) 1)) (fun x1 => ?_)
  refine sg 11 (mkE [(17, B x1), (16, B x1), (15, I (subI .i64 (addI .i64 p0.f0 p0.f2) 1)), (14, I (addI .i64 p0.f0 p0.f2)), (13, I p0.f2), (12, .ba 24 2), (11, I p0.f0), (10, .ba 24 0), (9, I p0.f0), (8, .ba 24 0), (7, I p1), (1, I p1), (2, I p2), (3, .ba 24 0)] [(24, .box [I p0.f0, I p0.f1, I p0.f2, I p0.f3] false)] 29) ?_
  refine sb 17 x1 ?_ ?_
  · refine sg 20 (mkE [(26, I (subI .i64 (addI .i64 p0.f1 p0.f3) 1)), (25, I (addI .i64 p0.f1 p0.f3)), (24, I p0.f3), (23, .ba 24 3), (22, I p0.f1), (21, .ba 24 1), (20, I p0.f1), (19, .ba 24 1), (18, I p2), (17, B true), (17, B x1), (16, B x1), (15, I (subI .i64 (addI .i64 p0.f0 p0.f2) 1)), (14, I (addI .i64 p0.f0 p0.f2)), (13, I p0.f2), (12, .ba 24 2), (11, I p0.f0), (10, .ba 24 0), (9, I p0.f0), (8, .ba 24 0), (7, I p1), (1, I p1), (2, I p2), (3, .ba 24 0)] [(24, .box [I p0.f0, I p0.f1, I p0.f2, I p0.f3] false)] 29) ?_
    refine co 27 [] (h53 p2 p0.f1 (subI .i64 (addI .i64 p0.f1 p0.f3) 1)) (fun x2 => ?_)
    refine se (mkE [(6, B x2)] [] 29) ?_
    refine pN ?_
    refine pS ?_
    refine gE ?_
    exact pL
  · refine se (mkE [(6, B false)] [] 29) ?_
    refine pN ?_
    refine pS ?_
    refine gE ?_
    exact pL
theorem F54 (m : Nat) (hm : 2 ≤ m) (p0 : S25) (p1 : Int) (p2 : Int) : callA Tryz.prog cfg m 54 [a25 p0, I p1, I p2] = (T54 p0 p1 p2).map B := by
  obtain ⟨q, rfl⟩ : ∃ q, m = q + 1 := ⟨m - 1, by omega⟩
  exact (callA_body (fn := Tryz.f54) (c := body_ Tryz.f54) q _ (by kernel_rfl) (by kernel_rfl) (by kernel_rfl)).trans (B54 _ (fun p0 p1 p2 => F53 q (by omega) p0 p1 p2) p0 p1 p2)

noncomputable def L20_2 (p0 : S23) (p1 : Int) (p2 : Int) (z0 : Int) : Option (Int ⊕ ((Int × Bool) ⊕ ByteArray)) := (bif (ltI z0 (lenL p0.f3)) then ((listAt p0.f3 z0).bind fun x1 => ((T54 x1.f1 p1 p2).bind fun x2 => (bif x2 then (some (.inr (.inr x1.f0))) else (some (.inl (addI .i64 z0 1)))))) else (some (.inr (.inl (z0, (ltI z0 (lenL p0.f3)))))))
theorem L20_2_ok (C : Callee) (h54 : ∀ (p0 : S25) (p1 : Int) (p2 : Int), C 54 [a25 p0, I p1, I p2] = (T54 p0 p1 p2).map B) (p0 : S23) (p1 : Int) (p2 : Int) (z0 : Int) : runs Tryz.prog C (cfg.fn 20) (finLoop ((cfg.fn 20).keep 2) ((cfg.fn 20).al 2)) [] (execA Tryz.prog C (cfg.fn 20) (nr Tryz.f20 [false, false, true, false, true]) ((fun z0 : Int => (mkE [(1, I p1), (2, I p2), (11, LL a37 p0.f3), (12, I (lenL p0.f3)), (13, I z0)] [] 25)) z0)) = (L20_2 p0 p1 p2 z0).map (Sum.elim (fun z => .inl ((fun z0 : Int => (mkE [(1, I p1), (2, I p2), (11, LL a37 p0.f3), (12, I (lenL p0.f3)), (13, I z0)] [] 25)) z)) (fun x => .inr ((Sum.elim (fun (x : (Int × Bool)) => (.exit 0, (mkE [(1, I p1), (2, I p2), (11, LL a37 p0.f3), (12, I (lenL p0.f3)), (13, I x.1), (14, B x.2)] [] 25))) (fun (x : ByteArray) => (.ret, (mkE [(6, S x), (7, B true)] [] 25)))) x))) := by
  unfold L20_2
  refine gS 0 ?_
  refine gR 2 (rg Tryz.f20 2) ?_
  refine se (mkE [(1, I p1), (2, I p2), (11, LL a37 p0.f3), (12, I (lenL p0.f3)), (13, I z0), (14, B (ltI z0 (lenL p0.f3)))] [] 25) ?_
  refine pN ?_
  refine pS ?_
  refine gS 3 ?_
  refine gC 14 (ltI z0 (lenL p0.f3)) ?_ ?_
  · refine gK ?_
    refine pN ?_
    refine pS ?_
    refine gS 6 ?_
    refine gB 1 ?_
    refine gS 4 ?_
    refine gR 3 (rg Tryz.f20 3) ?_
    refine vo 15 (addrE 22 38 5 a37 .i64 p0.f3 z0) (fun x1 => ?_)
    refine se (mkE [(1, I p1), (2, I p2), (9, .ba 72 0), (11, LL a37 p0.f3), (12, I (lenL p0.f3)), (13, I z0)] [(72, .box [S x1.f0, I x1.f1.f0, I x1.f1.f1, I x1.f1.f2, I x1.f1.f3] false)] 25) ?_
    refine pN ?_
    refine pS ?_
    refine gS 0 ?_
    refine gR 4 (rg Tryz.f20 4) ?_
    refine sg 4 (mkE [(20, I p2), (19, I p1), (18, a25 x1.f1), (17, .ba 72 1), (1, I p1), (2, I p2), (9, .ba 72 0), (11, LL a37 p0.f3), (12, I (lenL p0.f3)), (13, I z0)] [(72, .box [S x1.f0, I x1.f1.f0, I x1.f1.f1, I x1.f1.f2, I x1.f1.f3] false)] 25) ?_
    refine co 21 [] (h54 x1.f1 p1 p2) (fun x2 => ?_)
    refine se (mkE [(1, I p1), (2, I p2), (9, .ba 72 0), (11, LL a37 p0.f3), (12, I (lenL p0.f3)), (13, I z0), (21, B x2)] [(72, .box [S x1.f0, I x1.f1.f0, I x1.f1.f1, I x1.f1.f2, I x1.f1.f3] false)] 25) ?_
    refine pN ?_
    refine pS ?_
    refine gC 21 x2 ?_ ?_
    · refine gS 0 ?_
      refine gR 5 (rg Tryz.f20 5) ?_
      refine se (mkE [(6, S x1.f0), (7, B true)] [] 25) ?_
      refine pN ?_
      refine pS ?_
      refine gE ?_
      exact pL
    · refine gK ?_
      refine pB ?_
      refine pN ?_
      refine pS ?_
      refine gR 6 (rg Tryz.f20 6) ?_
      refine se (mkE [(1, I p1), (2, I p2), (11, LL a37 p0.f3), (12, I (lenL p0.f3)), (13, I (addI .i64 z0 1))] [] 25) ?_
      exact pL
  · refine gX 0 ?_
    exact pL
noncomputable def T20 (p0 : S23) (p1 : Int) (p2 : Int) : Option (ByteArray × Bool) := ((iter (L20_2 p0 p1 p2) 0).bind fun y3 => (Sum.elim (fun y3a => (some ((ByteArray.mk #[]), false))) (fun y3b => (some (y3b, true))) y3))
theorem B20 (C : Callee) (h54 : ∀ (p0 : S25) (p1 : Int) (p2 : Int), C 54 [a25 p0, I p1, I p2] = (T54 p0 p1 p2).map B) (p0 : S23) (p1 : Int) (p2 : Int) : runs Tryz.prog C (cfg.fn 20) (finFn Tryz.prog (cfg.fn 20).byval Tryz.f20) [] (execA Tryz.prog C (cfg.fn 20) (nr Tryz.f20 []) (frame0 [a23 p0, I p1, I p2] 25 false)) = (T20 p0 p1 p2).map (fun r => AV.tup [S r.1, B r.2]) := by
  unfold T20
  refine gS 1 ?_
  refine gR 0 (rg Tryz.f20 0) ?_
  refine se (mkE [(1, I p1), (2, I p2), (3, .ba 24 0)] [(24, .box [S p0.f0, I p0.f1, I p0.f2, LL a37 p0.f3] false)] 25) ?_
  refine pN ?_
  refine pS ?_
  refine gS 7 ?_
  refine gS 2 ?_
  refine gR 1 (rg Tryz.f20 1) ?_
  refine sg 2 (mkE [(11, LL a37 p0.f3), (10, .ba 24 3), (1, I p1), (2, I p2), (3, .ba 24 0)] [(24, .box [S p0.f0, I p0.f1, I p0.f2, LL a37 p0.f3] false)] 25) ?_
  refine eo 12 (I (lenL p0.f3)) (lenE 22 a37 p0.f3) ?_
  refine se (mkE [(1, I p1), (2, I p2), (11, LL a37 p0.f3), (12, I (lenL p0.f3)), (13, I 0)] [] 25) ?_
  refine pN ?_
  refine pS ?_
  refine gB 0 ?_
  refine lo [(1, none), (2, none), (11, none), (12, none), (13, none)] [] (L20_2 p0 p1 p2) (fun z0 : Int => (mkE [(1, I p1), (2, I p2), (11, LL a37 p0.f3), (12, I (lenL p0.f3)), (13, I z0)] [] 25)) (Sum.elim (fun (x : (Int × Bool)) => (.exit 0, (mkE [(1, I p1), (2, I p2), (11, LL a37 p0.f3), (12, I (lenL p0.f3)), (13, I x.1), (14, B x.2)] [] 25))) (fun (x : ByteArray) => (.ret, (mkE [(6, S x), (7, B true)] [] 25)))) 0 (fun z => L20_2_ok C h54 p0 p1 p2 z) ?_
  intro y3
  refine ss y3 (Z := (Sum.elim (fun (x : (Int × Bool)) => (.exit 0, (mkE [(1, I p1), (2, I p2), (11, LL a37 p0.f3), (12, I (lenL p0.f3)), (13, I x.1), (14, B x.2)] [] 25))) (fun (x : ByteArray) => (.ret, (mkE [(6, S x), (7, B true)] [] 25))))) (fun y3a => ?_) (fun y3b => ?_)
  · refine pH ?_
    refine pN ?_
    refine pS ?_
    refine gS 0 ?_
    refine gR 7 (rg Tryz.f20 7) ?_
    refine se (mkE [(6, S (ByteArray.mk #[])), (7, B false)] [] 25) ?_
    refine pN ?_
    refine pS ?_
    refine gE ?_
    exact pL
  · exact pL
theorem F20 (m : Nat) (hm : 3 ≤ m) (p0 : S23) (p1 : Int) (p2 : Int) : callA Tryz.prog cfg m 20 [a23 p0, I p1, I p2] = (T20 p0 p1 p2).map (fun r => AV.tup [S r.1, B r.2]) := by
  obtain ⟨q, rfl⟩ : ∃ q, m = q + 1 := ⟨m - 1, by omega⟩
  exact (callA_body (fn := Tryz.f20) (c := body_ Tryz.f20) q _ (by kernel_rfl) (by kernel_rfl) (by kernel_rfl)).trans (B20 _ (fun p0 p1 p2 => F54 q (by omega) p0 p1 p2) p0 p1 p2)

noncomputable def L56_3 (p0 : S23) (z0 : ((List S25) × Int)) : Option (((List S25) × Int) ⊕ (Int × Bool × (List S25))) := (bif (ltI z0.2 (lenL p0.f3)) then ((listAt p0.f3 z0.2).bind fun x1 => ((appO 32 z0.1 ([x1.f1] : List S25)).bind fun x2 => (some (.inl (x2, (addI .i64 z0.2 1)))))) else (some (.inr (z0.2, (ltI z0.2 (lenL p0.f3)), z0.1))))
theorem L56_3_ok (C : Callee) (p0 : S23) (z0 : ((List S25) × Int)) : runs Tryz.prog C (cfg.fn 56) (finLoop ((cfg.fn 56).keep 3) ((cfg.fn 56).al 3)) [] (execA Tryz.prog C (cfg.fn 56) (nr Tryz.f56 [false, false, true, false, true, true]) ((fun z0 : ((List S25) × Int) => (mkE [(3, .own 24 0), (7, LL a37 p0.f3), (8, I (lenL p0.f3)), (9, I z0.2)] [(24, RR 26 4 a25 z0.1 0 false)] 20)) z0)) = (L56_3 p0 z0).map (Sum.elim (fun z => .inl ((fun z0 : ((List S25) × Int) => (mkE [(3, .own 24 0), (7, LL a37 p0.f3), (8, I (lenL p0.f3)), (9, I z0.2)] [(24, RR 26 4 a25 z0.1 0 false)] 20)) z)) (fun x => .inr ((fun (x : (Int × Bool × (List S25))) => (.exit 0, (mkE [(3, .own 24 0), (7, LL a37 p0.f3), (8, I (lenL p0.f3)), (9, I x.1), (10, B x.2.1)] [(24, RR 26 4 a25 x.2.2 0 false)] 20))) x))) := by
  unfold L56_3
  refine gS 0 ?_
  refine gR 3 (rg Tryz.f56 3) ?_
  refine se (mkE [(3, .own 24 0), (7, LL a37 p0.f3), (8, I (lenL p0.f3)), (9, I z0.2), (10, B (ltI z0.2 (lenL p0.f3)))] [(24, RR 26 4 a25 z0.1 0 false)] 20) ?_
  refine pN ?_
  refine pS ?_
  refine gS 4 ?_
  refine gC 10 (ltI z0.2 (lenL p0.f3)) ?_ ?_
  · refine gK ?_
    refine pN ?_
    refine pS ?_
    refine gS 6 ?_
    refine gB 1 ?_
    refine gS 5 ?_
    refine gR 4 (rg Tryz.f56 4) ?_
    refine vo 11 (addrE 22 38 5 a37 .i64 p0.f3 z0.2) (fun x1 => ?_)
    refine se (mkE [(3, .own 24 0), (5, .ba 40 0), (7, LL a37 p0.f3), (8, I (lenL p0.f3)), (9, I z0.2)] [(24, RR 26 4 a25 z0.1 0 false), (40, .box [S x1.f0, I x1.f1.f0, I x1.f1.f1, I x1.f1.f2, I x1.f1.f3] false)] 20) ?_
    refine pN ?_
    refine pS ?_
    refine gR 5 (rg Tryz.f56 5) ?_
    refine sg 4 (mkE [(16, .own 128 0), (15, a25 x1.f1), (14, .ba 40 1), (13, .own 24 0), (3, .own 24 0), (5, .ba 40 0), (7, LL a37 p0.f3), (8, I (lenL p0.f3)), (9, I z0.2)] [(128, RR 26 4 a25 ([x1.f1] : List S25) 0 false), (24, RR 26 4 a25 z0.1 0 false), (40, .box [S x1.f0, I x1.f1.f0, I x1.f1.f1, I x1.f1.f2, I x1.f1.f3] false)] 20) ?_
    refine mo (some 17) (apO 42 26 4 32 24 a25 0 [128] (y := .own 128 0) (l2 := ([x1.f1] : List S25))) (fun x2 => ?_)
    refine se (mkE [(3, .own 24 1), (7, LL a37 p0.f3), (8, I (lenL p0.f3)), (9, I z0.2)] [(24, RR 26 4 a25 x2 1 false)] 20) ?_
    refine pB ?_
    refine pN ?_
    refine pS ?_
    refine gR 6 (rg Tryz.f56 6) ?_
    refine se (mkE [(3, .own 24 1), (7, LL a37 p0.f3), (8, I (lenL p0.f3)), (9, I (addI .i64 z0.2 1))] [(24, RR 26 4 a25 x2 1 false)] 20) ?_
    exact pL
  · refine gX 0 ?_
    exact pL
noncomputable def T56 (p0 : S23) : Option (List S25) := ((iter (L56_3 p0) ([], 0)).bind fun y3 => (some y3.2.2))
theorem B56 (C : Callee) (p0 : S23) : runs Tryz.prog C (cfg.fn 56) (finFn Tryz.prog (cfg.fn 56).byval Tryz.f56) [] (execA Tryz.prog C (cfg.fn 56) (nr Tryz.f56 []) (frame0 [a23 p0] 20 false)) = (T56 p0).map (fun l => AV.fr 26 4 (List.map a25 l)) := by
  unfold T56
  refine gS 1 ?_
  refine gR 0 (rg Tryz.f56 0) ?_
  refine se (mkE [(1, .ba 8 0)] [(8, .box [S p0.f0, I p0.f1, I p0.f2, LL a37 p0.f3] false)] 20) ?_
  refine pN ?_
  refine pS ?_
  refine gS 2 ?_
  refine gR 1 (rg Tryz.f56 1) ?_
  refine se (mkE [(1, .ba 8 0), (3, .nils)] [(8, .box [S p0.f0, I p0.f1, I p0.f2, LL a37 p0.f3] false)] 20) ?_
  refine pN ?_
  refine pS ?_
  refine gS 7 ?_
  refine gS 3 ?_
  refine gR 2 (rg Tryz.f56 2) ?_
  refine sg 2 (mkE [(7, LL a37 p0.f3), (6, .ba 8 3), (1, .ba 8 0), (3, .nils)] [(8, .box [S p0.f0, I p0.f1, I p0.f2, LL a37 p0.f3] false)] 20) ?_
  refine eo 8 (I (lenL p0.f3)) (lenE 22 a37 p0.f3) ?_
  refine se (mkE [(3, .nils), (7, LL a37 p0.f3), (8, I (lenL p0.f3)), (9, I 0)] [] 20) ?_
  refine pN ?_
  refine pS ?_
  refine gB 0 ?_
  refine lo [(3, some (26, 4)), (7, none), (8, none), (9, none)] [] (L56_3 p0) (fun z0 : ((List S25) × Int) => (mkE [(3, .own 24 0), (7, LL a37 p0.f3), (8, I (lenL p0.f3)), (9, I z0.2)] [(24, RR 26 4 a25 z0.1 0 false)] 20)) (fun (x : (Int × Bool × (List S25))) => (.exit 0, (mkE [(3, .own 24 0), (7, LL a37 p0.f3), (8, I (lenL p0.f3)), (9, I x.1), (10, B x.2.1)] [(24, RR 26 4 a25 x.2.2 0 false)] 20))) ([], 0) (fun z => L56_3_ok C p0 z) ?_
  intro y3
  refine pH ?_
  refine pN ?_
  refine pS ?_
  refine gS 0 ?_
  refine gR 7 (rg Tryz.f56 7) ?_
  refine se (mkE [(2, .own 24 0)] [(24, RR 26 4 a25 y3.2.2 0 false)] 20) ?_
  refine pN ?_
  refine pS ?_
  refine gE ?_
  exact pL
theorem F56 (m : Nat) (hm : 1 ≤ m) (p0 : S23) : callA Tryz.prog cfg m 56 [a23 p0] = (T56 p0).map (fun l => AV.fr 26 4 (List.map a25 l)) := by
  obtain ⟨q, rfl⟩ : ∃ q, m = q + 1 := ⟨m - 1, by omega⟩
  exact (callA_body (fn := Tryz.f56) (c := body_ Tryz.f56) q _ (by kernel_rfl) (by kernel_rfl) (by kernel_rfl)).trans (B56 _ p0)

noncomputable def T80 (p0 : S25) : Option (Int × Int) := (some (p0.f0, (addI .i64 p0.f0 p0.f2)))
theorem B80 (C : Callee) (p0 : S25) : runs Tryz.prog C (cfg.fn 80) (finFn Tryz.prog (cfg.fn 80).byval Tryz.f80) [] (execA Tryz.prog C (cfg.fn 80) (nr Tryz.f80 []) (frame0 [a25 p0] 11 false)) = (T80 p0).map (fun r => AV.tup [I r.1, I r.2]) := by
  unfold T80
  refine gS 1 ?_
  refine gR 0 (rg Tryz.f80 0) ?_
  refine se (mkE [(1, .ba 8 0)] [(8, .box [I p0.f0, I p0.f1, I p0.f2, I p0.f3] false)] 11) ?_
  refine pN ?_
  refine pS ?_
  refine gS 0 ?_
  refine dq 1 (rg Tryz.f80 1) (mkE [(2, I p0.f0), (3, I (addI .i64 p0.f0 p0.f2))] [] 11) ?_
  refine pN ?_
  refine pS ?_
  refine gE ?_
  exact pL
theorem F80 (m : Nat) (hm : 1 ≤ m) (p0 : S25) : callA Tryz.prog cfg m 80 [a25 p0] = (T80 p0).map (fun r => AV.tup [I r.1, I r.2]) := by
  obtain ⟨q, rfl⟩ : ∃ q, m = q + 1 := ⟨m - 1, by omega⟩
  exact (callA_body (fn := Tryz.f80) (c := body_ Tryz.f80) q _ (by kernel_rfl) (by kernel_rfl) (by kernel_rfl)).trans (B80 _ p0)

noncomputable def L79_3 (p0 : (List S25)) (z0 : ((List Int) × Int)) : Option (((List Int) × Int) ⊕ (Int × Bool × (List Int))) := (bif (ltI z0.2 (lenL p0)) then ((listAt p0 z0.2).bind fun x1 => ((T80 x1).bind fun x2 => ((appO 8 z0.1 ([x2.1, x2.2] : List Int)).bind fun x3 => (some (.inl (x3, (addI .i64 z0.2 1))))))) else (some (.inr (z0.2, (ltI z0.2 (lenL p0)), z0.1))))
theorem L79_3_ok (C : Callee) (h80 : ∀ (p0 : S25), C 80 [a25 p0] = (T80 p0).map (fun r => AV.tup [I r.1, I r.2])) (p0 : (List S25)) (z0 : ((List Int) × Int)) : runs Tryz.prog C (cfg.fn 79) (finLoop ((cfg.fn 79).keep 3) ((cfg.fn 79).al 3)) [] (execA Tryz.prog C (cfg.fn 79) (nr Tryz.f79 [false, false, true, false, true, true]) ((fun z0 : ((List Int) × Int) => (mkE [(1, .fn 80 []), (5, .own 40 0), (10, LL a25 p0), (11, I (lenL p0)), (12, I z0.2)] [(40, RR 3 1 I z0.1 0 false)] 32)) z0)) = (L79_3 p0 z0).map (Sum.elim (fun z => .inl ((fun z0 : ((List Int) × Int) => (mkE [(1, .fn 80 []), (5, .own 40 0), (10, LL a25 p0), (11, I (lenL p0)), (12, I z0.2)] [(40, RR 3 1 I z0.1 0 false)] 32)) z)) (fun x => .inr ((fun (x : (Int × Bool × (List Int))) => (.exit 0, (mkE [(1, .fn 80 []), (5, .own 40 0), (10, LL a25 p0), (11, I (lenL p0)), (12, I x.1), (13, B x.2.1)] [(40, RR 3 1 I x.2.2 0 false)] 32))) x))) := by
  unfold L79_3
  refine gS 0 ?_
  refine gR 3 (rg Tryz.f79 3) ?_
  refine se (mkE [(1, .fn 80 []), (5, .own 40 0), (10, LL a25 p0), (11, I (lenL p0)), (12, I z0.2), (13, B (ltI z0.2 (lenL p0)))] [(40, RR 3 1 I z0.1 0 false)] 32) ?_
  refine pN ?_
  refine pS ?_
  refine gS 4 ?_
  refine gC 13 (ltI z0.2 (lenL p0)) ?_ ?_
  · refine gK ?_
    refine pN ?_
    refine pS ?_
    refine gS 7 ?_
    refine gB 1 ?_
    refine gS 5 ?_
    refine gR 4 (rg Tryz.f79 4) ?_
    refine vo 14 (addrE 42 26 4 a25 .i64 p0 z0.2) (fun x1 => ?_)
    refine se (mkE [(1, .fn 80 []), (5, .own 40 0), (7, .ba 56 0), (10, LL a25 p0), (11, I (lenL p0)), (12, I z0.2)] [(40, RR 3 1 I z0.1 0 false), (56, .box [I x1.f0, I x1.f1, I x1.f2, I x1.f3] false)] 32) ?_
    refine pN ?_
    refine pS ?_
    refine gS 6 ?_
    refine gR 5 (rg Tryz.f79 5) ?_
    refine sg 2 (mkE [(18, a25 x1), (17, .fn 80 []), (1, .fn 80 []), (5, .own 40 0), (7, .ba 56 0), (10, LL a25 p0), (11, I (lenL p0)), (12, I z0.2)] [(40, RR 3 1 I z0.1 0 false), (56, .box [I x1.f0, I x1.f1, I x1.f2, I x1.f3] false)] 32) ?_
    refine co 19 [] (h80 x1) (fun x2 => ?_)
    refine se (mkE [(1, .fn 80 []), (5, .own 40 0), (8, I x2.1), (9, I x2.2), (10, LL a25 p0), (11, I (lenL p0)), (12, I z0.2)] [(40, RR 3 1 I z0.1 0 false)] 32) ?_
    refine pN ?_
    refine pS ?_
    refine gR 6 (rg Tryz.f79 6) ?_
    refine sg 4 (mkE [(25, .own 200 0), (24, I x2.2), (23, I x2.1), (22, .own 40 0), (1, .fn 80 []), (5, .own 40 0), (8, I x2.1), (9, I x2.2), (10, LL a25 p0), (11, I (lenL p0)), (12, I z0.2)] [(200, RR 3 1 I ([x2.1, x2.2] : List Int) 0 false), (40, RR 3 1 I z0.1 0 false)] 32) ?_
    refine mo (some 26) (apO 102 3 1 8 40 I 0 [200] (y := .own 200 0) (l2 := ([x2.1, x2.2] : List Int))) (fun x3 => ?_)
    refine se (mkE [(1, .fn 80 []), (5, .own 40 1), (10, LL a25 p0), (11, I (lenL p0)), (12, I z0.2)] [(40, RR 3 1 I x3 1 false)] 32) ?_
    refine pB ?_
    refine pN ?_
    refine pS ?_
    refine gR 7 (rg Tryz.f79 7) ?_
    refine se (mkE [(1, .fn 80 []), (5, .own 40 1), (10, LL a25 p0), (11, I (lenL p0)), (12, I (addI .i64 z0.2 1))] [(40, RR 3 1 I x3 1 false)] 32) ?_
    exact pL
  · refine gX 0 ?_
    exact pL
noncomputable def T79 (p0 : (List S25)) : Option (List Int) := ((iter (L79_3 p0) ([], 0)).bind fun y4 => ((sortIO y4.2.2).bind fun x5 => ((compIO x5).bind fun x6 => (some x6))))
theorem B79 (C : Callee) (h66 : ∀ (p0 : (List Int)), C 66 [.fr 3 1 (List.map I p0)] = (sortIO p0).map (fun (r : (List Int)) => AV.inp (.tup []) (.fr 3 1 (List.map I r)))) (h67 : ∀ (p0 : (List Int)), C 67 [.fr 3 1 (List.map I p0)] = (compIO p0).map (fun l => AV.fr 3 1 (List.map I l))) (h80 : ∀ (p0 : S25), C 80 [a25 p0] = (T80 p0).map (fun r => AV.tup [I r.1, I r.2])) (p0 : (List S25)) : runs Tryz.prog C (cfg.fn 79) (finFn Tryz.prog (cfg.fn 79).byval Tryz.f79) [] (execA Tryz.prog C (cfg.fn 79) (nr Tryz.f79 []) (frame0 [LL a25 p0, .fn 80 []] 32 false)) = (T79 p0).map (fun l => AV.fr 3 1 (List.map I l)) := by
  unfold T79
  refine gS 1 ?_
  refine gR 0 (rg Tryz.f79 0) ?_
  refine se (mkE [(0, LL a25 p0), (1, .fn 80 [])] [] 32) ?_
  refine pN ?_
  refine pS ?_
  refine gS 2 ?_
  refine gR 1 (rg Tryz.f79 1) ?_
  refine se (mkE [(0, LL a25 p0), (1, .fn 80 []), (5, .nils)] [] 32) ?_
  refine pN ?_
  refine pS ?_
  refine gS 8 ?_
  refine gS 3 ?_
  refine gR 2 (rg Tryz.f79 2) ?_
  refine sg 1 (mkE [(10, LL a25 p0), (0, LL a25 p0), (1, .fn 80 []), (5, .nils)] [] 32) ?_
  refine eo 11 (I (lenL p0)) (lenE 42 a25 p0) ?_
  refine se (mkE [(1, .fn 80 []), (5, .nils), (10, LL a25 p0), (11, I (lenL p0)), (12, I 0)] [] 32) ?_
  refine pN ?_
  refine pS ?_
  refine gB 0 ?_
  refine lo [(1, none), (5, some (3, 1)), (10, none), (11, none), (12, none)] [] (L79_3 p0) (fun z0 : ((List Int) × Int) => (mkE [(1, .fn 80 []), (5, .own 40 0), (10, LL a25 p0), (11, I (lenL p0)), (12, I z0.2)] [(40, RR 3 1 I z0.1 0 false)] 32)) (fun (x : (Int × Bool × (List Int))) => (.exit 0, (mkE [(1, .fn 80 []), (5, .own 40 0), (10, LL a25 p0), (11, I (lenL p0)), (12, I x.1), (13, B x.2.1)] [(40, RR 3 1 I x.2.2 0 false)] 32))) ([], 0) (fun z => L79_3_ok C h80 p0 z) ?_
  intro y4
  refine pH ?_
  refine pN ?_
  refine pS ?_
  refine gS 9 ?_
  refine gR 8 (rg Tryz.f79 8) ?_
  refine sg 1 (mkE [(28, .own 40 0), (1, .fn 80 []), (5, .own 40 0), (10, LL a25 p0), (11, I (lenL p0)), (12, I y4.1), (13, B y4.2.1)] [(40, RR 3 1 I y4.2.2 0 false)] 32) ?_
  refine mo (some 29) (ipR 66 3 1 40 0 I y4.2.2 [] [] [] (fun x : (List Int) => .tup []) (fun x : (List Int) => x) (h66 y4.2.2)) (fun x5 => ?_)
  refine se (mkE [(5, .own 40 0)] [(40, RR 3 1 I x5 0 false)] 32) ?_
  refine pN ?_
  refine pS ?_
  refine gS 0 ?_
  refine gR 9 (rg Tryz.f79 9) ?_
  refine sg 1 (mkE [(30, .own 40 0), (5, .own 40 0)] [(40, RR 3 1 I x5 0 false)] 32) ?_
  refine mo (some 31) (gvO 67 3 1 40 0 I x5 [] [] [] (h67 x5)) (fun x6 => ?_)
  refine se (mkE [(4, .own 40 1)] [(40, RR 3 1 I x6 1 false)] 32) ?_
  refine pN ?_
  refine pS ?_
  refine gE ?_
  exact pL
theorem F79 (m : Nat) (hm : 2 ≤ m) (p0 : (List S25)) : callA Tryz.prog cfg m 79 [LL a25 p0, .fn 80 []] = (T79 p0).map (fun l => AV.fr 3 1 (List.map I l)) := by
  obtain ⟨q, rfl⟩ : ∃ q, m = q + 1 := ⟨m - 1, by omega⟩
  exact (callA_body (fn := Tryz.f79) (c := body_ Tryz.f79) q _ (by kernel_rfl) (by kernel_rfl) (by kernel_rfl)).trans (B79 _ (fun p0 => F66 q (by omega) p0) (fun p0 => F67 q (by omega) p0) (fun p0 => F80 q (by omega) p0) p0)

noncomputable def T81 (p0 : S25) : Option (Int × Int) := (some (p0.f1, (addI .i64 p0.f1 p0.f3)))
theorem B81 (C : Callee) (p0 : S25) : runs Tryz.prog C (cfg.fn 81) (finFn Tryz.prog (cfg.fn 81).byval Tryz.f81) [] (execA Tryz.prog C (cfg.fn 81) (nr Tryz.f81 []) (frame0 [a25 p0] 11 false)) = (T81 p0).map (fun r => AV.tup [I r.1, I r.2]) := by
  unfold T81
  refine gS 1 ?_
  refine gR 0 (rg Tryz.f81 0) ?_
  refine se (mkE [(1, .ba 8 0)] [(8, .box [I p0.f0, I p0.f1, I p0.f2, I p0.f3] false)] 11) ?_
  refine pN ?_
  refine pS ?_
  refine gS 0 ?_
  refine dq 1 (rg Tryz.f81 1) (mkE [(2, I p0.f1), (3, I (addI .i64 p0.f1 p0.f3))] [] 11) ?_
  refine pN ?_
  refine pS ?_
  refine gE ?_
  exact pL
theorem F81 (m : Nat) (hm : 1 ≤ m) (p0 : S25) : callA Tryz.prog cfg m 81 [a25 p0] = (T81 p0).map (fun r => AV.tup [I r.1, I r.2]) := by
  obtain ⟨q, rfl⟩ : ∃ q, m = q + 1 := ⟨m - 1, by omega⟩
  exact (callA_body (fn := Tryz.f81) (c := body_ Tryz.f81) q _ (by kernel_rfl) (by kernel_rfl) (by kernel_rfl)).trans (B81 _ p0)

noncomputable def L79_1_3 (p0 : (List S25)) (z0 : ((List Int) × Int)) : Option (((List Int) × Int) ⊕ (Int × Bool × (List Int))) := (bif (ltI z0.2 (lenL p0)) then ((listAt p0 z0.2).bind fun x1 => ((T81 x1).bind fun x2 => ((appO 8 z0.1 ([x2.1, x2.2] : List Int)).bind fun x3 => (some (.inl (x3, (addI .i64 z0.2 1))))))) else (some (.inr (z0.2, (ltI z0.2 (lenL p0)), z0.1))))
theorem L79_1_3_ok (C : Callee) (h81 : ∀ (p0 : S25), C 81 [a25 p0] = (T81 p0).map (fun r => AV.tup [I r.1, I r.2])) (p0 : (List S25)) (z0 : ((List Int) × Int)) : runs Tryz.prog C (cfg.fn 79) (finLoop ((cfg.fn 79).keep 3) ((cfg.fn 79).al 3)) [] (execA Tryz.prog C (cfg.fn 79) (nr Tryz.f79 [false, false, true, false, true, true]) ((fun z0 : ((List Int) × Int) => (mkE [(1, .fn 81 []), (5, .own 40 0), (10, LL a25 p0), (11, I (lenL p0)), (12, I z0.2)] [(40, RR 3 1 I z0.1 0 false)] 32)) z0)) = (L79_1_3 p0 z0).map (Sum.elim (fun z => .inl ((fun z0 : ((List Int) × Int) => (mkE [(1, .fn 81 []), (5, .own 40 0), (10, LL a25 p0), (11, I (lenL p0)), (12, I z0.2)] [(40, RR 3 1 I z0.1 0 false)] 32)) z)) (fun x => .inr ((fun (x : (Int × Bool × (List Int))) => (.exit 0, (mkE [(1, .fn 81 []), (5, .own 40 0), (10, LL a25 p0), (11, I (lenL p0)), (12, I x.1), (13, B x.2.1)] [(40, RR 3 1 I x.2.2 0 false)] 32))) x))) := by
  unfold L79_1_3
  refine gS 0 ?_
  refine gR 3 (rg Tryz.f79 3) ?_
  refine se (mkE [(1, .fn 81 []), (5, .own 40 0), (10, LL a25 p0), (11, I (lenL p0)), (12, I z0.2), (13, B (ltI z0.2 (lenL p0)))] [(40, RR 3 1 I z0.1 0 false)] 32) ?_
  refine pN ?_
  refine pS ?_
  refine gS 4 ?_
  refine gC 13 (ltI z0.2 (lenL p0)) ?_ ?_
  · refine gK ?_
    refine pN ?_
    refine pS ?_
    refine gS 7 ?_
    refine gB 1 ?_
    refine gS 5 ?_
    refine gR 4 (rg Tryz.f79 4) ?_
    refine vo 14 (addrE 42 26 4 a25 .i64 p0 z0.2) (fun x1 => ?_)
    refine se (mkE [(1, .fn 81 []), (5, .own 40 0), (7, .ba 56 0), (10, LL a25 p0), (11, I (lenL p0)), (12, I z0.2)] [(40, RR 3 1 I z0.1 0 false), (56, .box [I x1.f0, I x1.f1, I x1.f2, I x1.f3] false)] 32) ?_
    refine pN ?_
    refine pS ?_
    refine gS 6 ?_
    refine gR 5 (rg Tryz.f79 5) ?_
    refine sg 2 (mkE [(18, a25 x1), (17, .fn 81 []), (1, .fn 81 []), (5, .own 40 0), (7, .ba 56 0), (10, LL a25 p0), (11, I (lenL p0)), (12, I z0.2)] [(40, RR 3 1 I z0.1 0 false), (56, .box [I x1.f0, I x1.f1, I x1.f2, I x1.f3] false)] 32) ?_
    refine co 19 [] (h81 x1) (fun x2 => ?_)
    refine se (mkE [(1, .fn 81 []), (5, .own 40 0), (8, I x2.1), (9, I x2.2), (10, LL a25 p0), (11, I (lenL p0)), (12, I z0.2)] [(40, RR 3 1 I z0.1 0 false)] 32) ?_
    refine pN ?_
    refine pS ?_
    refine gR 6 (rg Tryz.f79 6) ?_
    refine sg 4 (mkE [(25, .own 200 0), (24, I x2.2), (23, I x2.1), (22, .own 40 0), (1, .fn 81 []), (5, .own 40 0), (8, I x2.1), (9, I x2.2), (10, LL a25 p0), (11, I (lenL p0)), (12, I z0.2)] [(200, RR 3 1 I ([x2.1, x2.2] : List Int) 0 false), (40, RR 3 1 I z0.1 0 false)] 32) ?_
    refine mo (some 26) (apO 102 3 1 8 40 I 0 [200] (y := .own 200 0) (l2 := ([x2.1, x2.2] : List Int))) (fun x3 => ?_)
    refine se (mkE [(1, .fn 81 []), (5, .own 40 1), (10, LL a25 p0), (11, I (lenL p0)), (12, I z0.2)] [(40, RR 3 1 I x3 1 false)] 32) ?_
    refine pB ?_
    refine pN ?_
    refine pS ?_
    refine gR 7 (rg Tryz.f79 7) ?_
    refine se (mkE [(1, .fn 81 []), (5, .own 40 1), (10, LL a25 p0), (11, I (lenL p0)), (12, I (addI .i64 z0.2 1))] [(40, RR 3 1 I x3 1 false)] 32) ?_
    exact pL
  · refine gX 0 ?_
    exact pL
noncomputable def T79_1 (p0 : (List S25)) : Option (List Int) := ((iter (L79_1_3 p0) ([], 0)).bind fun y4 => ((sortIO y4.2.2).bind fun x5 => ((compIO x5).bind fun x6 => (some x6))))
theorem B79_1 (C : Callee) (h66 : ∀ (p0 : (List Int)), C 66 [.fr 3 1 (List.map I p0)] = (sortIO p0).map (fun (r : (List Int)) => AV.inp (.tup []) (.fr 3 1 (List.map I r)))) (h67 : ∀ (p0 : (List Int)), C 67 [.fr 3 1 (List.map I p0)] = (compIO p0).map (fun l => AV.fr 3 1 (List.map I l))) (h81 : ∀ (p0 : S25), C 81 [a25 p0] = (T81 p0).map (fun r => AV.tup [I r.1, I r.2])) (p0 : (List S25)) : runs Tryz.prog C (cfg.fn 79) (finFn Tryz.prog (cfg.fn 79).byval Tryz.f79) [] (execA Tryz.prog C (cfg.fn 79) (nr Tryz.f79 []) (frame0 [LL a25 p0, .fn 81 []] 32 false)) = (T79_1 p0).map (fun l => AV.fr 3 1 (List.map I l)) := by
  unfold T79_1
  refine gS 1 ?_
  refine gR 0 (rg Tryz.f79 0) ?_
  refine se (mkE [(0, LL a25 p0), (1, .fn 81 [])] [] 32) ?_
  refine pN ?_
  refine pS ?_
  refine gS 2 ?_
  refine gR 1 (rg Tryz.f79 1) ?_
  refine se (mkE [(0, LL a25 p0), (1, .fn 81 []), (5, .nils)] [] 32) ?_
  refine pN ?_
  refine pS ?_
  refine gS 8 ?_
  refine gS 3 ?_
  refine gR 2 (rg Tryz.f79 2) ?_
  refine sg 1 (mkE [(10, LL a25 p0), (0, LL a25 p0), (1, .fn 81 []), (5, .nils)] [] 32) ?_
  refine eo 11 (I (lenL p0)) (lenE 42 a25 p0) ?_
  refine se (mkE [(1, .fn 81 []), (5, .nils), (10, LL a25 p0), (11, I (lenL p0)), (12, I 0)] [] 32) ?_
  refine pN ?_
  refine pS ?_
  refine gB 0 ?_
  refine lo [(1, none), (5, some (3, 1)), (10, none), (11, none), (12, none)] [] (L79_1_3 p0) (fun z0 : ((List Int) × Int) => (mkE [(1, .fn 81 []), (5, .own 40 0), (10, LL a25 p0), (11, I (lenL p0)), (12, I z0.2)] [(40, RR 3 1 I z0.1 0 false)] 32)) (fun (x : (Int × Bool × (List Int))) => (.exit 0, (mkE [(1, .fn 81 []), (5, .own 40 0), (10, LL a25 p0), (11, I (lenL p0)), (12, I x.1), (13, B x.2.1)] [(40, RR 3 1 I x.2.2 0 false)] 32))) ([], 0) (fun z => L79_1_3_ok C h81 p0 z) ?_
  intro y4
  refine pH ?_
  refine pN ?_
  refine pS ?_
  refine gS 9 ?_
  refine gR 8 (rg Tryz.f79 8) ?_
  refine sg 1 (mkE [(28, .own 40 0), (1, .fn 81 []), (5, .own 40 0), (10, LL a25 p0), (11, I (lenL p0)), (12, I y4.1), (13, B y4.2.1)] [(40, RR 3 1 I y4.2.2 0 false)] 32) ?_
  refine mo (some 29) (ipR 66 3 1 40 0 I y4.2.2 [] [] [] (fun x : (List Int) => .tup []) (fun x : (List Int) => x) (h66 y4.2.2)) (fun x5 => ?_)
  refine se (mkE [(5, .own 40 0)] [(40, RR 3 1 I x5 0 false)] 32) ?_
  refine pN ?_
  refine pS ?_
  refine gS 0 ?_
  refine gR 9 (rg Tryz.f79 9) ?_
  refine sg 1 (mkE [(30, .own 40 0), (5, .own 40 0)] [(40, RR 3 1 I x5 0 false)] 32) ?_
  refine mo (some 31) (gvO 67 3 1 40 0 I x5 [] [] [] (h67 x5)) (fun x6 => ?_)
  refine se (mkE [(4, .own 40 1)] [(40, RR 3 1 I x6 1 false)] 32) ?_
  refine pN ?_
  refine pS ?_
  refine gE ?_
  exact pL
theorem F79_1 (m : Nat) (hm : 2 ≤ m) (p0 : (List S25)) : callA Tryz.prog cfg m 79 [LL a25 p0, .fn 81 []] = (T79_1 p0).map (fun l => AV.fr 3 1 (List.map I l)) := by
  obtain ⟨q, rfl⟩ : ∃ q, m = q + 1 := ⟨m - 1, by omega⟩
  exact (callA_body (fn := Tryz.f79) (c := body_ Tryz.f79) q _ (by kernel_rfl) (by kernel_rfl) (by kernel_rfl)).trans (B79_1 _ (fun p0 => F66 q (by omega) p0) (fun p0 => F67 q (by omega) p0) (fun p0 => F81 q (by omega) p0) p0)

noncomputable def T91 (p0 : S25) (p1_c0 : Int) (p2_c0 : Int) : Option Bool := ((T54 p0 p1_c0 p2_c0).bind fun x1 => (some x1))
theorem B91 (C : Callee) (h54 : ∀ (p0 : S25) (p1 : Int) (p2 : Int), C 54 [a25 p0, I p1, I p2] = (T54 p0 p1 p2).map B) (p0 : S25) (p1_c0 : Int) (p2_c0 : Int) : runs Tryz.prog C (cfg.fn 91) (finFn Tryz.prog (cfg.fn 91).byval Tryz.f91) [] (execA Tryz.prog C (cfg.fn 91) (nr Tryz.f91 []) (frame0 [a25 p0, .ia [I p1_c0] 0, .ia [I p2_c0] 0] 9 false)) = (T91 p0 p1_c0 p2_c0).map B := by
  unfold T91
  refine gS 1 ?_
  refine gR 0 (rg Tryz.f91 0) ?_
  refine se (mkE [(1, .ia [I p1_c0] 0), (2, .ia [I p2_c0] 0), (3, .ba 24 0)] [(24, .box [I p0.f0, I p0.f1, I p0.f2, I p0.f3] false)] 9) ?_
  refine pN ?_
  refine pS ?_
  refine gS 0 ?_
  refine gR 1 (rg Tryz.f91 1) ?_
  refine sg 3 (mkE [(7, I p2_c0), (6, I p1_c0), (5, a25 p0), (1, .ia [I p1_c0] 0), (2, .ia [I p2_c0] 0), (3, .ba 24 0)] [(24, .box [I p0.f0, I p0.f1, I p0.f2, I p0.f3] false)] 9) ?_
  refine co 8 [] (h54 p0 p1_c0 p2_c0) (fun x1 => ?_)
  refine se (mkE [(4, B x1)] [] 9) ?_
  refine pN ?_
  refine pS ?_
  refine gE ?_
  exact pL
theorem F91 (m : Nat) (hm : 3 ≤ m) (p0 : S25) (p1_c0 : Int) (p2_c0 : Int) : callA Tryz.prog cfg m 91 [a25 p0, .ia [I p1_c0] 0, .ia [I p2_c0] 0] = (T91 p0 p1_c0 p2_c0).map B := by
  obtain ⟨q, rfl⟩ : ∃ q, m = q + 1 := ⟨m - 1, by omega⟩
  exact (callA_body (fn := Tryz.f91) (c := body_ Tryz.f91) q _ (by kernel_rfl) (by kernel_rfl) (by kernel_rfl)).trans (B91 _ (fun p0 p1 p2 => F54 q (by omega) p0 p1 p2) p0 p1_c0 p2_c0)

noncomputable def L106_2 (p0 : (List S25)) (p1_c0 : Int) (p1_c1 : Int) (z0 : Int) : Option (Int ⊕ ((Int × Bool) ⊕ Int)) := (bif (ltI z0 (lenL p0)) then ((listAt p0 z0).bind fun x1 => ((T91 x1 p1_c0 p1_c1).bind fun x2 => (bif x2 then (some (.inr (.inr z0))) else (some (.inl (addI .i64 z0 1)))))) else (some (.inr (.inl (z0, (ltI z0 (lenL p0)))))))
theorem L106_2_ok (C : Callee) (h91 : ∀ (p0 : S25) (p1_c0 : Int) (p2_c0 : Int), C 91 [a25 p0, .ia [I p1_c0] 0, .ia [I p2_c0] 0] = (T91 p0 p1_c0 p2_c0).map B) (p0 : (List S25)) (p1_c0 : Int) (p1_c1 : Int) (z0 : Int) : runs Tryz.prog C (cfg.fn 106) (finLoop ((cfg.fn 106).keep 2) ((cfg.fn 106).al 2)) [] (execA Tryz.prog C (cfg.fn 106) (nr Tryz.f106 [false, false, true, false, true]) ((fun z0 : Int => (mkE [(0, LL a25 p0), (1, .fn 91 [.ia [I p1_c0] 0, .ia [I p1_c1] 0]), (7, I (lenL p0)), (8, I z0)] [] 19)) z0)) = (L106_2 p0 p1_c0 p1_c1 z0).map (Sum.elim (fun z => .inl ((fun z0 : Int => (mkE [(0, LL a25 p0), (1, .fn 91 [.ia [I p1_c0] 0, .ia [I p1_c1] 0]), (7, I (lenL p0)), (8, I z0)] [] 19)) z)) (fun x => .inr ((Sum.elim (fun (x : (Int × Bool)) => (.exit 0, (mkE [(0, LL a25 p0), (1, .fn 91 [.ia [I p1_c0] 0, .ia [I p1_c1] 0]), (7, I (lenL p0)), (8, I x.1), (9, B x.2)] [] 19))) (fun (x : Int) => (.ret, (mkE [(4, I x)] [] 19)))) x))) := by
  unfold L106_2
  refine gS 0 ?_
  refine gR 2 (rg Tryz.f106 2) ?_
  refine se (mkE [(0, LL a25 p0), (1, .fn 91 [.ia [I p1_c0] 0, .ia [I p1_c1] 0]), (7, I (lenL p0)), (8, I z0), (9, B (ltI z0 (lenL p0)))] [] 19) ?_
  refine pN ?_
  refine pS ?_
  refine gS 3 ?_
  refine gC 9 (ltI z0 (lenL p0)) ?_ ?_
  · refine gK ?_
    refine pN ?_
    refine pS ?_
    refine gS 6 ?_
    refine gB 1 ?_
    refine gS 4 ?_
    refine gR 3 (rg Tryz.f106 3) ?_
    refine se (mkE [(0, LL a25 p0), (1, .fn 91 [.ia [I p1_c0] 0, .ia [I p1_c1] 0]), (5, I z0), (7, I (lenL p0)), (8, I z0)] [] 19) ?_
    refine pN ?_
    refine pS ?_
    refine gS 0 ?_
    refine gR 4 (rg Tryz.f106 4) ?_
    refine sg 3 (mkE [(13, I z0), (12, LL a25 p0), (11, .fn 91 [.ia [I p1_c0] 0, .ia [I p1_c1] 0]), (0, LL a25 p0), (1, .fn 91 [.ia [I p1_c0] 0, .ia [I p1_c1] 0]), (5, I z0), (7, I (lenL p0)), (8, I z0)] [] 19) ?_
    refine vo 14 (addrE 42 26 4 a25 .i64 p0 z0) (fun x1 => ?_)
    refine sg 5 (mkE [(15, a25 x1), (14, .ia [I x1.f0, I x1.f1, I x1.f2, I x1.f3] 0), (13, I z0), (12, LL a25 p0), (11, .fn 91 [.ia [I p1_c0] 0, .ia [I p1_c1] 0]), (0, LL a25 p0), (1, .fn 91 [.ia [I p1_c0] 0, .ia [I p1_c1] 0]), (5, I z0), (7, I (lenL p0)), (8, I z0)] [] 19) ?_
    refine co 16 [] (h91 x1 p1_c0 p1_c1) (fun x2 => ?_)
    refine se (mkE [(0, LL a25 p0), (1, .fn 91 [.ia [I p1_c0] 0, .ia [I p1_c1] 0]), (5, I z0), (7, I (lenL p0)), (8, I z0), (16, B x2)] [] 19) ?_
    refine pN ?_
    refine pS ?_
    refine gC 16 x2 ?_ ?_
    · refine gS 0 ?_
      refine gR 5 (rg Tryz.f106 5) ?_
      refine se (mkE [(4, I z0)] [] 19) ?_
      refine pN ?_
      refine pS ?_
      refine gE ?_
      exact pL
    · refine gK ?_
      refine pB ?_
      refine pN ?_
      refine pS ?_
      refine gR 6 (rg Tryz.f106 6) ?_
      refine se (mkE [(0, LL a25 p0), (1, .fn 91 [.ia [I p1_c0] 0, .ia [I p1_c1] 0]), (7, I (lenL p0)), (8, I (addI .i64 z0 1))] [] 19) ?_
      exact pL
  · refine gX 0 ?_
    exact pL
noncomputable def T106 (p0 : (List S25)) (p1_c0 : Int) (p1_c1 : Int) : Option Int := ((iter (L106_2 p0 p1_c0 p1_c1) 0).bind fun y3 => (Sum.elim (fun y3a => (some (-1))) (fun y3b => (some y3b)) y3))
theorem B106 (C : Callee) (h91 : ∀ (p0 : S25) (p1_c0 : Int) (p2_c0 : Int), C 91 [a25 p0, .ia [I p1_c0] 0, .ia [I p2_c0] 0] = (T91 p0 p1_c0 p2_c0).map B) (p0 : (List S25)) (p1_c0 : Int) (p1_c1 : Int) : runs Tryz.prog C (cfg.fn 106) (finFn Tryz.prog (cfg.fn 106).byval Tryz.f106) [] (execA Tryz.prog C (cfg.fn 106) (nr Tryz.f106 []) (frame0 [LL a25 p0, .fn 91 [.ia [I p1_c0] 0, .ia [I p1_c1] 0]] 19 false)) = (T106 p0 p1_c0 p1_c1).map I := by
  unfold T106
  refine gS 1 ?_
  refine gR 0 (rg Tryz.f106 0) ?_
  refine se (mkE [(0, LL a25 p0), (1, .fn 91 [.ia [I p1_c0] 0, .ia [I p1_c1] 0])] [] 19) ?_
  refine pN ?_
  refine pS ?_
  refine gS 7 ?_
  refine gS 2 ?_
  refine gR 1 (rg Tryz.f106 1) ?_
  refine sg 1 (mkE [(6, LL a25 p0), (0, LL a25 p0), (1, .fn 91 [.ia [I p1_c0] 0, .ia [I p1_c1] 0])] [] 19) ?_
  refine eo 7 (I (lenL p0)) (lenE 42 a25 p0) ?_
  refine se (mkE [(0, LL a25 p0), (1, .fn 91 [.ia [I p1_c0] 0, .ia [I p1_c1] 0]), (7, I (lenL p0)), (8, I 0)] [] 19) ?_
  refine pN ?_
  refine pS ?_
  refine gB 0 ?_
  refine lo [(0, none), (1, none), (7, none), (8, none)] [] (L106_2 p0 p1_c0 p1_c1) (fun z0 : Int => (mkE [(0, LL a25 p0), (1, .fn 91 [.ia [I p1_c0] 0, .ia [I p1_c1] 0]), (7, I (lenL p0)), (8, I z0)] [] 19)) (Sum.elim (fun (x : (Int × Bool)) => (.exit 0, (mkE [(0, LL a25 p0), (1, .fn 91 [.ia [I p1_c0] 0, .ia [I p1_c1] 0]), (7, I (lenL p0)), (8, I x.1), (9, B x.2)] [] 19))) (fun (x : Int) => (.ret, (mkE [(4, I x)] [] 19)))) 0 (fun z => L106_2_ok C h91 p0 p1_c0 p1_c1 z) ?_
  intro y3
  refine ss y3 (Z := (Sum.elim (fun (x : (Int × Bool)) => (.exit 0, (mkE [(0, LL a25 p0), (1, .fn 91 [.ia [I p1_c0] 0, .ia [I p1_c1] 0]), (7, I (lenL p0)), (8, I x.1), (9, B x.2)] [] 19))) (fun (x : Int) => (.ret, (mkE [(4, I x)] [] 19))))) (fun y3a => ?_) (fun y3b => ?_)
  · refine pH ?_
    refine pN ?_
    refine pS ?_
    refine gS 0 ?_
    refine gR 7 (rg Tryz.f106 7) ?_
    refine se (mkE [(4, I (-1))] [] 19) ?_
    refine pN ?_
    refine pS ?_
    refine gE ?_
    exact pL
  · exact pL
theorem F106 (m : Nat) (hm : 4 ≤ m) (p0 : (List S25)) (p1_c0 : Int) (p1_c1 : Int) : callA Tryz.prog cfg m 106 [LL a25 p0, .fn 91 [.ia [I p1_c0] 0, .ia [I p1_c1] 0]] = (T106 p0 p1_c0 p1_c1).map I := by
  obtain ⟨q, rfl⟩ : ∃ q, m = q + 1 := ⟨m - 1, by omega⟩
  exact (callA_body (fn := Tryz.f106) (c := body_ Tryz.f106) q _ (by kernel_rfl) (by kernel_rfl) (by kernel_rfl)).trans (B106 _ (fun p0 p1_c0 p2_c0 => F91 q (by omega) p0 p1_c0 p2_c0) p0 p1_c0 p1_c1)

noncomputable def T90 (p0 : (List S25)) (p1_c0 : Int) (p1_c1 : Int) : Option Bool := ((T106 p0 p1_c0 p1_c1).bind fun x1 => (some (leI 0 x1)))
theorem B90 (C : Callee) (h106 : ∀ (p0 : (List S25)) (p1_c0 : Int) (p1_c1 : Int), C 106 [LL a25 p0, .fn 91 [.ia [I p1_c0] 0, .ia [I p1_c1] 0]] = (T106 p0 p1_c0 p1_c1).map I) (p0 : (List S25)) (p1_c0 : Int) (p1_c1 : Int) : runs Tryz.prog C (cfg.fn 90) (finFn Tryz.prog (cfg.fn 90).byval Tryz.f90) [] (execA Tryz.prog C (cfg.fn 90) (nr Tryz.f90 []) (frame0 [LL a25 p0, .fn 91 [.ia [I p1_c0] 0, .ia [I p1_c1] 0]] 9 false)) = (T90 p0 p1_c0 p1_c1).map B := by
  unfold T90
  refine gS 1 ?_
  refine gR 0 (rg Tryz.f90 0) ?_
  refine se (mkE [(0, LL a25 p0), (1, .fn 91 [.ia [I p1_c0] 0, .ia [I p1_c1] 0])] [] 9) ?_
  refine pN ?_
  refine pS ?_
  refine gS 0 ?_
  refine gR 1 (rg Tryz.f90 1) ?_
  refine sg 2 (mkE [(6, .fn 91 [.ia [I p1_c0] 0, .ia [I p1_c1] 0]), (5, LL a25 p0), (0, LL a25 p0), (1, .fn 91 [.ia [I p1_c0] 0, .ia [I p1_c1] 0])] [] 9) ?_
  refine co 7 [] (h106 p0 p1_c0 p1_c1) (fun x1 => ?_)
  refine se (mkE [(4, B (leI 0 x1))] [] 9) ?_
  refine pN ?_
  refine pS ?_
  refine gE ?_
  exact pL
theorem F90 (m : Nat) (hm : 5 ≤ m) (p0 : (List S25)) (p1_c0 : Int) (p1_c1 : Int) : callA Tryz.prog cfg m 90 [LL a25 p0, .fn 91 [.ia [I p1_c0] 0, .ia [I p1_c1] 0]] = (T90 p0 p1_c0 p1_c1).map B := by
  obtain ⟨q, rfl⟩ : ∃ q, m = q + 1 := ⟨m - 1, by omega⟩
  exact (callA_body (fn := Tryz.f90) (c := body_ Tryz.f90) q _ (by kernel_rfl) (by kernel_rfl) (by kernel_rfl)).trans (B90 _ (fun p0 p1_c0 p1_c1 => F106 q (by omega) p0 p1_c0 p1_c1) p0 p1_c0 p1_c1)

noncomputable def T74 (p0 : (List S25)) (p1 : Int) (p2 : Int) : Option Bool := ((T90 p0 p1 p2).bind fun x1 => (some x1))
theorem B74 (C : Callee) (h90 : ∀ (p0 : (List S25)) (p1_c0 : Int) (p1_c1 : Int), C 90 [LL a25 p0, .fn 91 [.ia [I p1_c0] 0, .ia [I p1_c1] 0]] = (T90 p0 p1_c0 p1_c1).map B) (p0 : (List S25)) (p1 : Int) (p2 : Int) : runs Tryz.prog C (cfg.fn 74) (finFn Tryz.prog (cfg.fn 74).byval Tryz.f74) [] (execA Tryz.prog C (cfg.fn 74) (nr Tryz.f74 []) (frame0 [LL a25 p0, I p1, I p2] 10 false)) = (T74 p0 p1 p2).map B := by
  unfold T74
  refine gS 1 ?_
  refine gR 0 (rg Tryz.f74 0) ?_
  refine se (mkE [(0, LL a25 p0), (4, .ba 32 0), (5, .ba 40 0)] [(32, .box [I p1] false), (40, .box [I p2] false)] 10) ?_
  refine pN ?_
  refine pS ?_
  refine gS 0 ?_
  refine gR 1 (rg Tryz.f74 1) ?_
  refine sg 2 (mkE [(8, .fn 91 [.ba 32 0, .ba 40 0]), (7, LL a25 p0), (0, LL a25 p0), (4, .ba 32 0), (5, .ba 40 0)] [(32, .box [I p1] false), (40, .box [I p2] false)] 10) ?_
  refine co 9 [32, 40] (h90 p0 p1 p2) (fun x1 => ?_)
  refine se (mkE [(6, B x1)] [] 10) ?_
  refine pN ?_
  refine pS ?_
  refine gE ?_
  exact pL
theorem F74 (m : Nat) (hm : 6 ≤ m) (p0 : (List S25)) (p1 : Int) (p2 : Int) : callA Tryz.prog cfg m 74 [LL a25 p0, I p1, I p2] = (T74 p0 p1 p2).map B := by
  obtain ⟨q, rfl⟩ : ∃ q, m = q + 1 := ⟨m - 1, by omega⟩
  exact (callA_body (fn := Tryz.f74) (c := body_ Tryz.f74) q _ (by kernel_rfl) (by kernel_rfl) (by kernel_rfl)).trans (B74 _ (fun p0 p1_c0 p1_c1 => F90 q (by omega) p0 p1_c0 p1_c1) p0 p1 p2)

noncomputable def T73 (p0 : Int) (p1 : Int) (p2_c0 : (List S25)) (p3_c0 : (List S25)) : Option Bool := ((T74 p2_c0 p0 p1).bind fun x1 => (bif x1 then ((T74 p3_c0 p0 p1).bind fun x2 => (some (!x2))) else (some false)))
theorem B73 (C : Callee) (h74 : ∀ (p0 : (List S25)) (p1 : Int) (p2 : Int), C 74 [LL a25 p0, I p1, I p2] = (T74 p0 p1 p2).map B) (p0 : Int) (p1 : Int) (p2_c0 : (List S25)) (p3_c0 : (List S25)) : runs Tryz.prog C (cfg.fn 73) (finFn Tryz.prog (cfg.fn 73).byval Tryz.f73) [] (execA Tryz.prog C (cfg.fn 73) (nr Tryz.f73 []) (frame0 [I p0, I p1, .ia [LL a25 p2_c0] 0, .ia [LL a25 p3_c0] 0] 18 false)) = (T73 p0 p1 p2_c0 p3_c0).map B := by
  unfold T73
  refine gS 1 ?_
  refine gR 0 (rg Tryz.f73 0) ?_
  refine se (mkE [(0, I p0), (1, I p1), (2, .ia [LL a25 p2_c0] 0), (3, .ia [LL a25 p3_c0] 0)] [] 18) ?_
  refine pN ?_
  refine pS ?_
  refine gS 0 ?_
  refine gR 1 (rg Tryz.f73 1) ?_
  refine sg 3 (mkE [(9, I p1), (8, I p0), (7, LL a25 p2_c0), (0, I p0), (1, I p1), (2, .ia [LL a25 p2_c0] 0), (3, .ia [LL a25 p3_c0] 0)] [] 18) ?_
  refine co 10 [] (h74 p2_c0 p0 p1) (fun x1 => ?_)
  refine sg 5 (mkE [(11, B x1), (10, B x1), (9, I p1), (8, I p0), (7, LL a25 p2_c0), (0, I p0), (1, I p1), (2, .ia [LL a25 p2_c0] 0), (3, .ia [LL a25 p3_c0] 0)] [] 18) ?_
  refine sb 11 x1 ?_ ?_
  · refine sg 8 (mkE [(14, I p1), (13, I p0), (12, LL a25 p3_c0), (11, B true), (11, B x1), (10, B x1), (9, I p1), (8, I p0), (7, LL a25 p2_c0), (0, I p0), (1, I p1), (2, .ia [LL a25 p2_c0] 0), (3, .ia [LL a25 p3_c0] 0)] [] 18) ?_
    refine co 15 [] (h74 p3_c0 p0 p1) (fun x2 => ?_)
    refine se (mkE [(6, B (!x2))] [] 18) ?_
    refine pN ?_
    refine pS ?_
    refine gE ?_
    exact pL
  · refine se (mkE [(6, B false)] [] 18) ?_
    refine pN ?_
    refine pS ?_
    refine gE ?_
    exact pL
theorem F73 (m : Nat) (hm : 7 ≤ m) (p0 : Int) (p1 : Int) (p2_c0 : (List S25)) (p3_c0 : (List S25)) : callA Tryz.prog cfg m 73 [I p0, I p1, .ia [LL a25 p2_c0] 0, .ia [LL a25 p3_c0] 0] = (T73 p0 p1 p2_c0 p3_c0).map B := by
  obtain ⟨q, rfl⟩ : ∃ q, m = q + 1 := ⟨m - 1, by omega⟩
  exact (callA_body (fn := Tryz.f73) (c := body_ Tryz.f73) q _ (by kernel_rfl) (by kernel_rfl) (by kernel_rfl)).trans (B73 _ (fun p0 p1 p2 => F74 q (by omega) p0 p1 p2) p0 p1 p2_c0 p3_c0)

noncomputable def T83 (p0 : S25) (p1 : S25) : Option Bool := (bif (eqI p0.f0 p1.f0) then (bif (eqI p0.f2 p1.f2) then (some (eqI p0.f1 (addI .i64 p1.f1 p1.f3))) else (some false)) else (some false))
theorem B83 (C : Callee) (p0 : S25) (p1 : S25) : runs Tryz.prog C (cfg.fn 83) (finFn Tryz.prog (cfg.fn 83).byval Tryz.f83) [] (execA Tryz.prog C (cfg.fn 83) (nr Tryz.f83 []) (frame0 [a25 p0, a25 p1] 27 false)) = (T83 p0 p1).map B := by
  unfold T83
  refine gS 1 ?_
  refine gR 0 (rg Tryz.f83 0) ?_
  refine se (mkE [(2, .ba 16 0), (3, .ba 24 0)] [(16, .box [I p0.f0, I p0.f1, I p0.f2, I p0.f3] false), (24, .box [I p1.f0, I p1.f1, I p1.f2, I p1.f3] false)] 27) ?_
  refine pN ?_
  refine pS ?_
  refine gS 0 ?_
  refine gR 1 (rg Tryz.f83 1) ?_
  refine sg 6 (mkE [(10, B (eqI p0.f0 p1.f0)), (9, B (eqI p0.f0 p1.f0)), (8, I p1.f0), (7, .ba 24 0), (6, I p0.f0), (5, .ba 16 0), (2, .ba 16 0), (3, .ba 24 0)] [(16, .box [I p0.f0, I p0.f1, I p0.f2, I p0.f3] false), (24, .box [I p1.f0, I p1.f1, I p1.f2, I p1.f3] false)] 27) ?_
  refine sb 10 (eqI p0.f0 p1.f0) ?_ ?_
  · refine sg 13 (mkE [(17, B (eqI p0.f2 p1.f2)), (16, B (eqI p0.f2 p1.f2)), (15, B (eqI p0.f2 p1.f2)), (14, I p1.f2), (13, .ba 24 2), (12, I p0.f2), (11, .ba 16 2), (10, B true), (10, B (eqI p0.f0 p1.f0)), (9, B (eqI p0.f0 p1.f0)), (8, I p1.f0), (7, .ba 24 0), (6, I p0.f0), (5, .ba 16 0), (2, .ba 16 0), (3, .ba 24 0)] [(16, .box [I p0.f0, I p0.f1, I p0.f2, I p0.f3] false), (24, .box [I p1.f0, I p1.f1, I p1.f2, I p1.f3] false)] 27) ?_
    refine sb 17 (eqI p0.f2 p1.f2) ?_ ?_
    · refine se (mkE [(4, B (eqI p0.f1 (addI .i64 p1.f1 p1.f3)))] [] 27) ?_
      refine pN ?_
      refine pS ?_
      refine gE ?_
      exact pL
    · refine se (mkE [(4, B false)] [] 27) ?_
      refine pN ?_
      refine pS ?_
      refine gE ?_
      exact pL
  · refine se (mkE [(4, B false)] [] 27) ?_
    refine pN ?_
    refine pS ?_
    refine gE ?_
    exact pL
theorem F83 (m : Nat) (hm : 1 ≤ m) (p0 : S25) (p1 : S25) : callA Tryz.prog cfg m 83 [a25 p0, a25 p1] = (T83 p0 p1).map B := by
  obtain ⟨q, rfl⟩ : ∃ q, m = q + 1 := ⟨m - 1, by omega⟩
  exact (callA_body (fn := Tryz.f83) (c := body_ Tryz.f83) q _ (by kernel_rfl) (by kernel_rfl) (by kernel_rfl)).trans (B83 _ p0 p1)

noncomputable def L82_4 (p0 : (List S25)) (p1 : (List S25)) (z0 : Int) : Option (Int ⊕ ((Int × Bool) ⊕ Unit)) := (bif (ltI z0 (lenL p0)) then ((listAt p0 z0).bind fun x1 => ((listAt p1 z0).bind fun x2 => ((T83 x1 x2).bind fun x3 => (bif (!x3) then (some (.inr (.inr ()))) else (some (.inl (addI .i64 z0 1))))))) else (some (.inr (.inl (z0, (ltI z0 (lenL p0)))))))
theorem L82_4_ok (C : Callee) (h83 : ∀ (p0 : S25) (p1 : S25), C 83 [a25 p0, a25 p1] = (T83 p0 p1).map B) (p0 : (List S25)) (p1 : (List S25)) (z0 : Int) : runs Tryz.prog C (cfg.fn 82) (finLoop ((cfg.fn 82).keep 4) ((cfg.fn 82).al 4)) [] (execA Tryz.prog C (cfg.fn 82) (nr Tryz.f82 [false, false, true, false, true, true]) ((fun z0 : Int => (mkE [(1, LL a25 p1), (2, .fn 83 []), (15, LL a25 p0), (16, I (lenL p0)), (17, I z0)] [] 32)) z0)) = (L82_4 p0 p1 z0).map (Sum.elim (fun z => .inl ((fun z0 : Int => (mkE [(1, LL a25 p1), (2, .fn 83 []), (15, LL a25 p0), (16, I (lenL p0)), (17, I z0)] [] 32)) z)) (fun x => .inr ((Sum.elim (fun (x : (Int × Bool)) => (.exit 0, (mkE [(1, LL a25 p1), (2, .fn 83 []), (15, LL a25 p0), (16, I (lenL p0)), (17, I x.1), (18, B x.2)] [] 32))) (fun (x : Unit) => (.ret, (mkE [(6, B false)] [] 32)))) x))) := by
  unfold L82_4
  refine gS 0 ?_
  refine gR 4 (rg Tryz.f82 4) ?_
  refine se (mkE [(1, LL a25 p1), (2, .fn 83 []), (15, LL a25 p0), (16, I (lenL p0)), (17, I z0), (18, B (ltI z0 (lenL p0)))] [] 32) ?_
  refine pN ?_
  refine pS ?_
  refine gS 5 ?_
  refine gC 18 (ltI z0 (lenL p0)) ?_ ?_
  · refine gK ?_
    refine pN ?_
    refine pS ?_
    refine gS 9 ?_
    refine gB 1 ?_
    refine gS 6 ?_
    refine gR 5 (rg Tryz.f82 5) ?_
    refine sg 1 (mkE [(19, I z0), (1, LL a25 p1), (2, .fn 83 []), (15, LL a25 p0), (16, I (lenL p0)), (17, I z0), (18, B (ltI z0 (lenL p0)))] [] 32) ?_
    refine vo 20 (addrE 42 26 4 a25 .i64 p0 z0) (fun x1 => ?_)
    refine se (mkE [(1, LL a25 p1), (2, .fn 83 []), (7, I z0), (8, .ba 64 0), (15, LL a25 p0), (16, I (lenL p0)), (17, I z0)] [(64, .box [I x1.f0, I x1.f1, I x1.f2, I x1.f3] false)] 32) ?_
    refine pN ?_
    refine pS ?_
    refine gS 7 ?_
    refine gR 6 (rg Tryz.f82 6) ?_
    refine sg 2 (mkE [(23, I z0), (22, LL a25 p1), (1, LL a25 p1), (2, .fn 83 []), (7, I z0), (8, .ba 64 0), (15, LL a25 p0), (16, I (lenL p0)), (17, I z0)] [(64, .box [I x1.f0, I x1.f1, I x1.f2, I x1.f3] false)] 32) ?_
    refine vo 24 (addrE 42 26 4 a25 .i64 p1 z0) (fun x2 => ?_)
    refine se (mkE [(1, LL a25 p1), (2, .fn 83 []), (8, .ba 64 0), (9, .ba 72 0), (15, LL a25 p0), (16, I (lenL p0)), (17, I z0)] [(64, .box [I x1.f0, I x1.f1, I x1.f2, I x1.f3] false), (72, .box [I x2.f0, I x2.f1, I x2.f2, I x2.f3] false)] 32) ?_
    refine pN ?_
    refine pS ?_
    refine gS 0 ?_
    refine gR 7 (rg Tryz.f82 7) ?_
    refine sg 3 (mkE [(28, a25 x2), (27, a25 x1), (26, .fn 83 []), (1, LL a25 p1), (2, .fn 83 []), (8, .ba 64 0), (9, .ba 72 0), (15, LL a25 p0), (16, I (lenL p0)), (17, I z0)] [(64, .box [I x1.f0, I x1.f1, I x1.f2, I x1.f3] false), (72, .box [I x2.f0, I x2.f1, I x2.f2, I x2.f3] false)] 32) ?_
    refine co 29 [] (h83 x1 x2) (fun x3 => ?_)
    refine se (mkE [(1, LL a25 p1), (2, .fn 83 []), (15, LL a25 p0), (16, I (lenL p0)), (17, I z0), (30, B (!x3))] [] 32) ?_
    refine pN ?_
    refine pS ?_
    refine gC 30 (!x3) ?_ ?_
    · refine gS 0 ?_
      refine gR 8 (rg Tryz.f82 8) ?_
      refine se (mkE [(6, B false)] [] 32) ?_
      refine pN ?_
      refine pS ?_
      refine gE ?_
      exact pL
    · refine gK ?_
      refine pB ?_
      refine pN ?_
      refine pS ?_
      refine gR 9 (rg Tryz.f82 9) ?_
      refine se (mkE [(1, LL a25 p1), (2, .fn 83 []), (15, LL a25 p0), (16, I (lenL p0)), (17, I (addI .i64 z0 1))] [] 32) ?_
      exact pL
  · refine gX 0 ?_
    exact pL
noncomputable def T82 (p0 : (List S25)) (p1 : (List S25)) : Option Bool := (bif (neI (lenL p0) (lenL p1)) then (some false) else ((iter (L82_4 p0 p1) 0).bind fun y4 => (Sum.elim (fun y4a => (some true)) (fun y4b => (some false)) y4)))
theorem B82 (C : Callee) (h83 : ∀ (p0 : S25) (p1 : S25), C 83 [a25 p0, a25 p1] = (T83 p0 p1).map B) (p0 : (List S25)) (p1 : (List S25)) : runs Tryz.prog C (cfg.fn 82) (finFn Tryz.prog (cfg.fn 82).byval Tryz.f82) [] (execA Tryz.prog C (cfg.fn 82) (nr Tryz.f82 []) (frame0 [LL a25 p0, LL a25 p1, .fn 83 []] 32 false)) = (T82 p0 p1).map B := by
  unfold T82
  refine gS 1 ?_
  refine gR 0 (rg Tryz.f82 0) ?_
  refine se (mkE [(0, LL a25 p0), (1, LL a25 p1), (2, .fn 83 [])] [] 32) ?_
  refine pN ?_
  refine pS ?_
  refine gS 3 ?_
  refine gS 0 ?_
  refine gR 1 (rg Tryz.f82 1) ?_
  refine sg 1 (mkE [(10, LL a25 p0), (0, LL a25 p0), (1, LL a25 p1), (2, .fn 83 [])] [] 32) ?_
  refine eo 11 (I (lenL p0)) (lenE 42 a25 p0) ?_
  refine sg 3 (mkE [(12, LL a25 p1), (11, I (lenL p0)), (10, LL a25 p0), (0, LL a25 p0), (1, LL a25 p1), (2, .fn 83 [])] [] 32) ?_
  refine eo 13 (I (lenL p1)) (lenE 42 a25 p1) ?_
  refine se (mkE [(0, LL a25 p0), (1, LL a25 p1), (2, .fn 83 []), (14, B (neI (lenL p0) (lenL p1)))] [] 32) ?_
  refine pN ?_
  refine pS ?_
  refine gC 14 (neI (lenL p0) (lenL p1)) ?_ ?_
  · refine gS 0 ?_
    refine gR 2 (rg Tryz.f82 2) ?_
    refine se (mkE [(6, B false)] [] 32) ?_
    refine pN ?_
    refine pS ?_
    refine gE ?_
    exact pL
  · refine gK ?_
    refine pN ?_
    refine pS ?_
    refine gS 10 ?_
    refine gS 4 ?_
    refine gR 3 (rg Tryz.f82 3) ?_
    refine sg 1 (mkE [(15, LL a25 p0), (0, LL a25 p0), (1, LL a25 p1), (2, .fn 83 []), (14, B (neI (lenL p0) (lenL p1)))] [] 32) ?_
    refine eo 16 (I (lenL p0)) (lenE 42 a25 p0) ?_
    refine se (mkE [(1, LL a25 p1), (2, .fn 83 []), (15, LL a25 p0), (16, I (lenL p0)), (17, I 0)] [] 32) ?_
    refine pN ?_
    refine pS ?_
    refine gB 0 ?_
    refine lo [(1, none), (2, none), (15, none), (16, none), (17, none)] [] (L82_4 p0 p1) (fun z0 : Int => (mkE [(1, LL a25 p1), (2, .fn 83 []), (15, LL a25 p0), (16, I (lenL p0)), (17, I z0)] [] 32)) (Sum.elim (fun (x : (Int × Bool)) => (.exit 0, (mkE [(1, LL a25 p1), (2, .fn 83 []), (15, LL a25 p0), (16, I (lenL p0)), (17, I x.1), (18, B x.2)] [] 32))) (fun (x : Unit) => (.ret, (mkE [(6, B false)] [] 32)))) 0 (fun z => L82_4_ok C h83 p0 p1 z) ?_
    intro y4
    refine ss y4 (Z := (Sum.elim (fun (x : (Int × Bool)) => (.exit 0, (mkE [(1, LL a25 p1), (2, .fn 83 []), (15, LL a25 p0), (16, I (lenL p0)), (17, I x.1), (18, B x.2)] [] 32))) (fun (x : Unit) => (.ret, (mkE [(6, B false)] [] 32))))) (fun y4a => ?_) (fun y4b => ?_)
    · refine pH ?_
      refine pN ?_
      refine pS ?_
      refine gS 0 ?_
      refine gR 10 (rg Tryz.f82 10) ?_
      refine se (mkE [(6, B true)] [] 32) ?_
      refine pN ?_
      refine pS ?_
      refine gE ?_
      exact pL
    · exact pL
theorem F82 (m : Nat) (hm : 2 ≤ m) (p0 : (List S25)) (p1 : (List S25)) : callA Tryz.prog cfg m 82 [LL a25 p0, LL a25 p1, .fn 83 []] = (T82 p0 p1).map B := by
  obtain ⟨q, rfl⟩ : ∃ q, m = q + 1 := ⟨m - 1, by omega⟩
  exact (callA_body (fn := Tryz.f82) (c := body_ Tryz.f82) q _ (by kernel_rfl) (by kernel_rfl) (by kernel_rfl)).trans (B82 _ (fun p0 p1 => F83 q (by omega) p0 p1) p0 p1)

noncomputable def L60_9 (p1_c0 : (List S25)) (p1_c1 : (List S25)) (z0 : ((List Int) × (List Int) × (List S25) × (List S25) × Int)) (z1 : ((List Int) × (List Int) × (List S25) × (List S25) × (List S25) × Int)) : Option (((List Int) × (List Int) × (List S25) × (List S25) × (List S25) × Int) ⊕ (Int × Bool × (List Int) × (List Int) × (List S25) × (List S25) × (List S25))) := (bif (ltI (addI .i64 z1.2.2.2.2.2 1) (lenL z1.1)) then ((idxO (List.length z1.1) z1.2.2.2.2.2).bind fun x3 => ((getN z1.1 x3).bind fun x4 => ((idxO (List.length z1.2.1) z0.2.2.2.2).bind fun x5 => ((getN z1.2.1 x5).bind fun x6 => ((T73 x4 x6 p1_c0 p1_c1).bind fun x7 => (bif (!x7) then (some (.inl (z1.1, z1.2.1, z1.2.2.1, z1.2.2.2.1, z1.2.2.2.2.1, (addI .i64 z1.2.2.2.2.2 1)))) else (bif (leI 0 (subI .i64 (lenL z1.2.2.2.2.1) 1)) then ((idxO (List.length z1.2.2.2.2.1) (subI .i64 (lenL z1.2.2.2.2.1) 1)).bind fun x8 => ((getN z1.2.2.2.2.1 x8).bind fun x9 => ((idxO (List.length z1.2.2.2.2.1) (subI .i64 (lenL z1.2.2.2.2.1) 1)).bind fun x10 => ((getN z1.2.2.2.2.1 x10).bind fun x11 => ((idxO (List.length z1.1) z1.2.2.2.2.2).bind fun x12 => ((getN z1.1 x12).bind fun x13 => (bif (eqI (addI .i64 x9.f0 x11.f2) x13) then ((idxO (List.length z1.1) (addI .i64 z1.2.2.2.2.2 1)).bind fun x14 => ((getN z1.1 x14).bind fun x15 => ((idxO (List.length z1.2.2.2.2.1) (subI .i64 (lenL z1.2.2.2.2.1) 1)).bind fun x16 => ((getN z1.2.2.2.2.1 x16).bind fun x17 => ((idxO (List.length z1.2.2.2.2.1) (subI .i64 (lenL z1.2.2.2.2.1) 1)).bind fun x18 => ((getN z1.2.2.2.2.1 x18).bind fun x19 => (some (.inl (z1.1, z1.2.1, z1.2.2.1, z1.2.2.2.1, (List.set z1.2.2.2.2.1 x18 (S25.mk x19.f0 x19.f1 (subI .i64 x15 x17.f0) x19.f3)), (addI .i64 z1.2.2.2.2.2 1)))))))))) else ((idxO (List.length z1.1) z1.2.2.2.2.2).bind fun x20 => ((getN z1.1 x20).bind fun x21 => ((idxO (List.length z1.2.1) z0.2.2.2.2).bind fun x22 => ((getN z1.2.1 x22).bind fun x23 => ((idxO (List.length z1.1) (addI .i64 z1.2.2.2.2.2 1)).bind fun x24 => ((getN z1.1 x24).bind fun x25 => ((idxO (List.length z1.1) z1.2.2.2.2.2).bind fun x26 => ((getN z1.1 x26).bind fun x27 => ((idxO (List.length z1.2.1) (addI .i64 z0.2.2.2.2 1)).bind fun x28 => ((getN z1.2.1 x28).bind fun x29 => ((idxO (List.length z1.2.1) z0.2.2.2.2).bind fun x30 => ((getN z1.2.1 x30).bind fun x31 => ((appO 32 z1.2.2.2.2.1 ([(S25.mk x21 x23 (subI .i64 x25 x27) (subI .i64 x29 x31))] : List S25)).bind fun x32 => (some (.inl (z1.1, z1.2.1, z1.2.2.1, z1.2.2.2.1, x32, (addI .i64 z1.2.2.2.2.2 1)))))))))))))))))))))))) else ((idxO (List.length z1.1) z1.2.2.2.2.2).bind fun x33 => ((getN z1.1 x33).bind fun x34 => ((idxO (List.length z1.2.1) z0.2.2.2.2).bind fun x35 => ((getN z1.2.1 x35).bind fun x36 => ((idxO (List.length z1.1) (addI .i64 z1.2.2.2.2.2 1)).bind fun x37 => ((getN z1.1 x37).bind fun x38 => ((idxO (List.length z1.1) z1.2.2.2.2.2).bind fun x39 => ((getN z1.1 x39).bind fun x40 => ((idxO (List.length z1.2.1) (addI .i64 z0.2.2.2.2 1)).bind fun x41 => ((getN z1.2.1 x41).bind fun x42 => ((idxO (List.length z1.2.1) z0.2.2.2.2).bind fun x43 => ((getN z1.2.1 x43).bind fun x44 => ((appO 32 z1.2.2.2.2.1 ([(S25.mk x34 x36 (subI .i64 x38 x40) (subI .i64 x42 x44))] : List S25)).bind fun x45 => (some (.inl (z1.1, z1.2.1, z1.2.2.1, z1.2.2.2.1, x45, (addI .i64 z1.2.2.2.2.2 1)))))))))))))))))))))))) else (some (.inr (z1.2.2.2.2.2, (ltI (addI .i64 z1.2.2.2.2.2 1) (lenL z1.1)), z1.1, z1.2.1, z1.2.2.1, z1.2.2.2.1, z1.2.2.2.2.1))))
theorem L60_9_ok (C : Callee) (h73 : ∀ (p0 : Int) (p1 : Int) (p2_c0 : (List S25)) (p3_c0 : (List S25)), C 73 [I p0, I p1, .ia [LL a25 p2_c0] 0, .ia [LL a25 p3_c0] 0] = (T73 p0 p1 p2_c0 p3_c0).map B) (p1_c0 : (List S25)) (p1_c1 : (List S25)) (z0 : ((List Int) × (List Int) × (List S25) × (List S25) × Int)) (z1 : ((List Int) × (List Int) × (List S25) × (List S25) × (List S25) × Int)) : runs Tryz.prog C (cfg.fn 60) (finLoop ((cfg.fn 60).keep 9) ((cfg.fn 60).al 9)) [] (execA Tryz.prog C (cfg.fn 60) (nr Tryz.f60 [false, false, true, false, true, false, false, true, false, false, true, false, true, true, true, true]) ((fun z1 : ((List Int) × (List Int) × (List S25) × (List S25) × (List S25) × Int) => (mkE [(1, .fn 73 [.ia [LL a25 p1_c0] 0, .ia [LL a25 p1_c1] 0]), (5, .own 40 0), (6, .own 48 0), (7, .own 56 0), (8, .own 64 0), (9, I z0.2.2.2.2), (10, .own 80 0), (11, I z1.2.2.2.2.2)] [(40, RR 3 1 I z1.1 0 false), (48, RR 3 1 I z1.2.1 0 false), (56, RR 26 4 a25 z1.2.2.1 0 false), (64, RR 26 4 a25 z1.2.2.2.1 0 false), (80, RR 26 4 a25 z1.2.2.2.2.1 0 false)] 149)) z1)) = (L60_9 p1_c0 p1_c1 z0 z1).map (Sum.elim (fun z => .inl ((fun z1 : ((List Int) × (List Int) × (List S25) × (List S25) × (List S25) × Int) => (mkE [(1, .fn 73 [.ia [LL a25 p1_c0] 0, .ia [LL a25 p1_c1] 0]), (5, .own 40 0), (6, .own 48 0), (7, .own 56 0), (8, .own 64 0), (9, I z0.2.2.2.2), (10, .own 80 0), (11, I z1.2.2.2.2.2)] [(40, RR 3 1 I z1.1 0 false), (48, RR 3 1 I z1.2.1 0 false), (56, RR 26 4 a25 z1.2.2.1 0 false), (64, RR 26 4 a25 z1.2.2.2.1 0 false), (80, RR 26 4 a25 z1.2.2.2.2.1 0 false)] 149)) z)) (fun x => .inr ((fun (x : (Int × Bool × (List Int) × (List Int) × (List S25) × (List S25) × (List S25))) => (.exit 2, (mkE [(1, .fn 73 [.ia [LL a25 p1_c0] 0, .ia [LL a25 p1_c1] 0]), (5, .own 40 0), (6, .own 48 0), (7, .own 56 0), (8, .own 64 0), (9, I z0.2.2.2.2), (10, .own 80 0), (11, I x.1), (30, B x.2.1)] [(40, RR 3 1 I x.2.2.1 0 false), (48, RR 3 1 I x.2.2.2.1 0 false), (56, RR 26 4 a25 x.2.2.2.2.1 0 false), (64, RR 26 4 a25 x.2.2.2.2.2.1 0 false), (80, RR 26 4 a25 x.2.2.2.2.2.2 0 false)] 149))) x))) := by
  unfold L60_9
  refine gS 11 ?_
  refine gS 0 ?_
  refine gR 9 (rg Tryz.f60 9) ?_
  refine sg 3 (mkE [(28, .own 40 0), (27, I (addI .i64 z1.2.2.2.2.2 1)), (26, I z1.2.2.2.2.2), (1, .fn 73 [.ia [LL a25 p1_c0] 0, .ia [LL a25 p1_c1] 0]), (5, .own 40 0), (6, .own 48 0), (7, .own 56 0), (8, .own 64 0), (9, I z0.2.2.2.2), (10, .own 80 0), (11, I z1.2.2.2.2.2)] [(40, RR 3 1 I z1.1 0 false), (48, RR 3 1 I z1.2.1 0 false), (56, RR 26 4 a25 z1.2.2.1 0 false), (64, RR 26 4 a25 z1.2.2.2.1 0 false), (80, RR 26 4 a25 z1.2.2.2.2.1 0 false)] 149) ?_
  refine eo 29 (I (lenL z1.1)) (lenOE 102 3 1 I z1.1) ?_
  refine se (mkE [(1, .fn 73 [.ia [LL a25 p1_c0] 0, .ia [LL a25 p1_c1] 0]), (5, .own 40 0), (6, .own 48 0), (7, .own 56 0), (8, .own 64 0), (9, I z0.2.2.2.2), (10, .own 80 0), (11, I z1.2.2.2.2.2), (30, B (ltI (addI .i64 z1.2.2.2.2.2 1) (lenL z1.1)))] [(40, RR 3 1 I z1.1 0 false), (48, RR 3 1 I z1.2.1 0 false), (56, RR 26 4 a25 z1.2.2.1 0 false), (64, RR 26 4 a25 z1.2.2.2.1 0 false), (80, RR 26 4 a25 z1.2.2.2.2.1 0 false)] 149) ?_
  refine pN ?_
  refine pS ?_
  refine gC 30 (ltI (addI .i64 z1.2.2.2.2.2 1) (lenL z1.1)) ?_ ?_
  · refine gK ?_
    refine pN ?_
    refine pS ?_
    refine gS 10 ?_
    refine gB 3 ?_
    refine gS 12 ?_
    refine gS 0 ?_
    refine gD 11 11 (rg Tryz.f60 11) [0, 1, 2, 3, 4, 5, 6, 7, 8, 9, 10] ?_
    refine dg 3 [(some 33, qe (.fn 73 [.ia [LL a25 p1_c0] 0, .ia [LL a25 p1_c1] 0])), (some 34, qe (.own 40 0)), (some 35, qe (I z1.2.2.2.2.2))] ?_
    refine dv 36 (mkE [(35, I z1.2.2.2.2.2), (34, .own 40 0), (1, .fn 73 [.ia [LL a25 p1_c0] 0, .ia [LL a25 p1_c1] 0]), (5, .own 40 0), (6, .own 48 0), (7, .own 56 0), (8, .own 64 0), (9, I z0.2.2.2.2), (10, .own 80 0), (11, I z1.2.2.2.2.2), (30, B (ltI (addI .i64 z1.2.2.2.2.2 1) (lenL z1.1)))] [(40, RR 3 1 I z1.1 0 false), (48, RR 3 1 I z1.2.1 0 false), (56, RR 26 4 a25 z1.2.2.1 0 false), (64, RR 26 4 a25 z1.2.2.2.1 0 false), (80, RR 26 4 a25 z1.2.2.2.2.1 0 false)] 149) (addrOE 102 3 1 40 0 false I .i64 z1.1 z1.2.2.2.2.2) (fun x3 => ?_)
    refine dv 37 (mkE [(36, .oa 40 0 x3 0), (35, I z1.2.2.2.2.2), (34, .own 40 0), (1, .fn 73 [.ia [LL a25 p1_c0] 0, .ia [LL a25 p1_c1] 0]), (5, .own 40 0), (6, .own 48 0), (7, .own 56 0), (8, .own 64 0), (9, I z0.2.2.2.2), (10, .own 80 0), (11, I z1.2.2.2.2.2), (30, B (ltI (addI .i64 z1.2.2.2.2.2 1) (lenL z1.1)))] [(40, RR 3 1 I z1.1 0 false), (48, RR 3 1 I z1.2.1 0 false), (56, RR 26 4 a25 z1.2.2.1 0 false), (64, RR 26 4 a25 z1.2.2.2.1 0 false), (80, RR 26 4 a25 z1.2.2.2.2.1 0 false)] 149) (loadOE 3 40 0 x3 0 3 1 1 false false I (fun q : Int => I q) z1.1) (fun x4 => ?_)
    refine dg 7 [(some 33, qe (.fn 73 [.ia [LL a25 p1_c0] 0, .ia [LL a25 p1_c1] 0])), (some 34, qe (.own 40 0)), (some 35, qe (I z1.2.2.2.2.2)), (some 36, qe (.oa 40 0 x3 0)), (some 37, qe (I x4)), (some 38, qe (.own 48 0)), (some 39, qe (I z0.2.2.2.2))] ?_
    refine dv 40 (mkE [(39, I z0.2.2.2.2), (38, .own 48 0), (1, .fn 73 [.ia [LL a25 p1_c0] 0, .ia [LL a25 p1_c1] 0]), (5, .own 40 0), (6, .own 48 0), (7, .own 56 0), (8, .own 64 0), (9, I z0.2.2.2.2), (10, .own 80 0), (11, I z1.2.2.2.2.2), (30, B (ltI (addI .i64 z1.2.2.2.2.2 1) (lenL z1.1)))] [(40, RR 3 1 I z1.1 0 false), (48, RR 3 1 I z1.2.1 0 false), (56, RR 26 4 a25 z1.2.2.1 0 false), (64, RR 26 4 a25 z1.2.2.2.1 0 false), (80, RR 26 4 a25 z1.2.2.2.2.1 0 false)] 149) (addrOE 102 3 1 48 0 false I .i64 z1.2.1 z0.2.2.2.2) (fun x5 => ?_)
    refine dv 41 (mkE [(40, .oa 48 0 x5 0), (39, I z0.2.2.2.2), (38, .own 48 0), (1, .fn 73 [.ia [LL a25 p1_c0] 0, .ia [LL a25 p1_c1] 0]), (5, .own 40 0), (6, .own 48 0), (7, .own 56 0), (8, .own 64 0), (9, I z0.2.2.2.2), (10, .own 80 0), (11, I z1.2.2.2.2.2), (30, B (ltI (addI .i64 z1.2.2.2.2.2 1) (lenL z1.1)))] [(40, RR 3 1 I z1.1 0 false), (48, RR 3 1 I z1.2.1 0 false), (56, RR 26 4 a25 z1.2.2.1 0 false), (64, RR 26 4 a25 z1.2.2.2.1 0 false), (80, RR 26 4 a25 z1.2.2.2.2.1 0 false)] 149) (loadOE 3 48 0 x5 0 3 1 1 false false I (fun q : Int => I q) z1.2.1) (fun x6 => ?_)
    refine dc 42 [] (mkE [(41, I x6), (40, .oa 48 0 x5 0), (39, I z0.2.2.2.2), (38, .own 48 0), (37, I x4), (36, .oa 40 0 x3 0), (35, I z1.2.2.2.2.2), (34, .own 40 0), (33, .fn 73 [.ia [LL a25 p1_c0] 0, .ia [LL a25 p1_c1] 0]), (1, .fn 73 [.ia [LL a25 p1_c0] 0, .ia [LL a25 p1_c1] 0]), (5, .own 40 0), (6, .own 48 0), (7, .own 56 0), (8, .own 64 0), (9, I z0.2.2.2.2), (10, .own 80 0), (11, I z1.2.2.2.2.2), (30, B (ltI (addI .i64 z1.2.2.2.2.2 1) (lenL z1.1)))] [(40, RR 3 1 I z1.1 0 false), (48, RR 3 1 I z1.2.1 0 false), (56, RR 26 4 a25 z1.2.2.1 0 false), (64, RR 26 4 a25 z1.2.2.2.1 0 false), (80, RR 26 4 a25 z1.2.2.2.2.1 0 false)] 149) (h73 x4 x6 p1_c0 p1_c1) (fun x7 => ?_)
    refine dg 11 [(some 33, qe (.fn 73 [.ia [LL a25 p1_c0] 0, .ia [LL a25 p1_c1] 0])), (some 34, qe (.own 40 0)), (some 35, qe (I z1.2.2.2.2.2)), (some 36, qe (.oa 40 0 x3 0)), (some 37, qe (I x4)), (some 38, qe (.own 48 0)), (some 39, qe (I z0.2.2.2.2)), (some 40, qe (.oa 48 0 x5 0)), (some 41, qe (I x6)), (some 42, qe (B x7)), (some 43, qe (B (!x7)))] ?_
    refine de (mkE [(43, B (!x7)), (42, B x7), (41, I x6), (40, .oa 48 0 x5 0), (39, I z0.2.2.2.2), (38, .own 48 0), (37, I x4), (36, .oa 40 0 x3 0), (35, I z1.2.2.2.2.2), (34, .own 40 0), (33, .fn 73 [.ia [LL a25 p1_c0] 0, .ia [LL a25 p1_c1] 0]), (1, .fn 73 [.ia [LL a25 p1_c0] 0, .ia [LL a25 p1_c1] 0]), (5, .own 40 0), (6, .own 48 0), (7, .own 56 0), (8, .own 64 0), (9, I z0.2.2.2.2), (10, .own 80 0), (11, I z1.2.2.2.2.2), (30, B (ltI (addI .i64 z1.2.2.2.2.2 1) (lenL z1.1)))] [(40, RR 3 1 I z1.1 0 false), (48, RR 3 1 I z1.2.1 0 false), (56, RR 26 4 a25 z1.2.2.1 0 false), (64, RR 26 4 a25 z1.2.2.2.1 0 false), (80, RR 26 4 a25 z1.2.2.2.2.1 0 false)] 149) ?_
    refine se (mkE [(1, .fn 73 [.ia [LL a25 p1_c0] 0, .ia [LL a25 p1_c1] 0]), (5, .own 40 0), (6, .own 48 0), (7, .own 56 0), (8, .own 64 0), (9, I z0.2.2.2.2), (10, .own 80 0), (11, I z1.2.2.2.2.2), (43, B (!x7))] [(40, RR 3 1 I z1.1 0 false), (48, RR 3 1 I z1.2.1 0 false), (56, RR 26 4 a25 z1.2.2.1 0 false), (64, RR 26 4 a25 z1.2.2.2.1 0 false), (80, RR 26 4 a25 z1.2.2.2.2.1 0 false)] 149) ?_
    refine pN ?_
    refine pS ?_
    refine gC 43 (!x7) ?_ ?_
    · refine gX 3 ?_
      refine pF ?_
      refine pO ?_
      refine pH ?_
      refine pN ?_
      refine pS ?_
      refine gR 10 (rg Tryz.f60 10) ?_
      refine se (mkE [(1, .fn 73 [.ia [LL a25 p1_c0] 0, .ia [LL a25 p1_c1] 0]), (5, .own 40 0), (6, .own 48 0), (7, .own 56 0), (8, .own 64 0), (9, I z0.2.2.2.2), (10, .own 80 0), (11, I (addI .i64 z1.2.2.2.2.2 1))] [(40, RR 3 1 I z1.1 0 false), (48, RR 3 1 I z1.2.1 0 false), (56, RR 26 4 a25 z1.2.2.1 0 false), (64, RR 26 4 a25 z1.2.2.2.1 0 false), (80, RR 26 4 a25 z1.2.2.2.2.1 0 false)] 149) ?_
      exact pL
    · refine gK ?_
      refine pN ?_
      refine pS ?_
      refine gS 13 ?_
      refine gR 12 (rg Tryz.f60 12) ?_
      refine sg 1 (mkE [(44, .own 80 0), (1, .fn 73 [.ia [LL a25 p1_c0] 0, .ia [LL a25 p1_c1] 0]), (5, .own 40 0), (6, .own 48 0), (7, .own 56 0), (8, .own 64 0), (9, I z0.2.2.2.2), (10, .own 80 0), (11, I z1.2.2.2.2.2), (43, B (!x7))] [(40, RR 3 1 I z1.1 0 false), (48, RR 3 1 I z1.2.1 0 false), (56, RR 26 4 a25 z1.2.2.1 0 false), (64, RR 26 4 a25 z1.2.2.2.1 0 false), (80, RR 26 4 a25 z1.2.2.2.2.1 0 false)] 149) ?_
      refine eo 45 (I (lenL z1.2.2.2.2.1)) (lenOE 42 26 4 a25 z1.2.2.2.2.1) ?_
      refine se (mkE [(1, .fn 73 [.ia [LL a25 p1_c0] 0, .ia [LL a25 p1_c1] 0]), (5, .own 40 0), (6, .own 48 0), (7, .own 56 0), (8, .own 64 0), (9, I z0.2.2.2.2), (10, .own 80 0), (11, I z1.2.2.2.2.2), (12, I (subI .i64 (lenL z1.2.2.2.2.1) 1))] [(40, RR 3 1 I z1.1 0 false), (48, RR 3 1 I z1.2.1 0 false), (56, RR 26 4 a25 z1.2.2.1 0 false), (64, RR 26 4 a25 z1.2.2.2.1 0 false), (80, RR 26 4 a25 z1.2.2.2.2.1 0 false)] 149) ?_
      refine pN ?_
      refine pS ?_
      refine gS 0 ?_
      refine gD 13 20 (rg Tryz.f60 13) [0, 1, 2, 3, 4, 5, 6, 7, 8, 9, 10, 11, 12, 13, 14, 15, 16, 17, 18, 19] ?_
      refine dg 3 [(some 47, qe (I (subI .i64 (lenL z1.2.2.2.2.1) 1))), (some 48, qe (B (leI 0 (subI .i64 (lenL z1.2.2.2.2.1) 1)))), (some 49, qe (B (leI 0 (subI .i64 (lenL z1.2.2.2.2.1) 1))))] ?_
      refine db 2 49 (leI 0 (subI .i64 (lenL z1.2.2.2.2.1) 1)) ?_ ?_
      · refine dg 5 [(some 47, qe (I (subI .i64 (lenL z1.2.2.2.2.1) 1))), (some 48, qe (B (leI 0 (subI .i64 (lenL z1.2.2.2.2.1) 1)))), (some 49, qe (B true)), (some 50, qe (.own 80 0)), (some 51, qe (I (subI .i64 (lenL z1.2.2.2.2.1) 1)))] ?_
        refine dv 52 (mkE [(51, I (subI .i64 (lenL z1.2.2.2.2.1) 1)), (50, .own 80 0), (49, B true), (48, B (leI 0 (subI .i64 (lenL z1.2.2.2.2.1) 1))), (47, I (subI .i64 (lenL z1.2.2.2.2.1) 1)), (1, .fn 73 [.ia [LL a25 p1_c0] 0, .ia [LL a25 p1_c1] 0]), (5, .own 40 0), (6, .own 48 0), (7, .own 56 0), (8, .own 64 0), (9, I z0.2.2.2.2), (10, .own 80 0), (11, I z1.2.2.2.2.2), (12, I (subI .i64 (lenL z1.2.2.2.2.1) 1))] [(40, RR 3 1 I z1.1 0 false), (48, RR 3 1 I z1.2.1 0 false), (56, RR 26 4 a25 z1.2.2.1 0 false), (64, RR 26 4 a25 z1.2.2.2.1 0 false), (80, RR 26 4 a25 z1.2.2.2.2.1 0 false)] 149) (addrOE 42 26 4 80 0 false a25 .i64 z1.2.2.2.2.1 (subI .i64 (lenL z1.2.2.2.2.1) 1)) (fun x8 => ?_)
        refine dg 7 [(some 47, qe (I (subI .i64 (lenL z1.2.2.2.2.1) 1))), (some 48, qe (B (leI 0 (subI .i64 (lenL z1.2.2.2.2.1) 1)))), (some 49, qe (B true)), (some 50, qe (.own 80 0)), (some 51, qe (I (subI .i64 (lenL z1.2.2.2.2.1) 1))), (some 52, qe (.oa 80 0 x8 0)), (some 53, qe (.oa 80 0 x8 0))] ?_
        refine dv 54 (mkE [(53, .oa 80 0 x8 0), (52, .oa 80 0 x8 0), (51, I (subI .i64 (lenL z1.2.2.2.2.1) 1)), (50, .own 80 0), (49, B true), (48, B (leI 0 (subI .i64 (lenL z1.2.2.2.2.1) 1))), (47, I (subI .i64 (lenL z1.2.2.2.2.1) 1)), (1, .fn 73 [.ia [LL a25 p1_c0] 0, .ia [LL a25 p1_c1] 0]), (5, .own 40 0), (6, .own 48 0), (7, .own 56 0), (8, .own 64 0), (9, I z0.2.2.2.2), (10, .own 80 0), (11, I z1.2.2.2.2.2), (12, I (subI .i64 (lenL z1.2.2.2.2.1) 1))] [(40, RR 3 1 I z1.1 0 false), (48, RR 3 1 I z1.2.1 0 false), (56, RR 26 4 a25 z1.2.2.1 0 false), (64, RR 26 4 a25 z1.2.2.2.1 0 false), (80, RR 26 4 a25 z1.2.2.2.2.1 0 false)] 149) (loadOE 3 80 0 x8 0 26 4 1 false false a25 (fun q : S25 => I q.f0) z1.2.2.2.2.1) (fun x9 => ?_)
        refine dg 10 [(some 47, qe (I (subI .i64 (lenL z1.2.2.2.2.1) 1))), (some 48, qe (B (leI 0 (subI .i64 (lenL z1.2.2.2.2.1) 1)))), (some 49, qe (B true)), (some 50, qe (.own 80 0)), (some 51, qe (I (subI .i64 (lenL z1.2.2.2.2.1) 1))), (some 52, qe (.oa 80 0 x8 0)), (some 53, qe (.oa 80 0 x8 0)), (some 54, qe (I x9.f0)), (some 55, qe (.own 80 0)), (some 56, qe (I (subI .i64 (lenL z1.2.2.2.2.1) 1)))] ?_
        refine dv 57 (mkE [(56, I (subI .i64 (lenL z1.2.2.2.2.1) 1)), (55, .own 80 0), (49, B true), (48, B (leI 0 (subI .i64 (lenL z1.2.2.2.2.1) 1))), (47, I (subI .i64 (lenL z1.2.2.2.2.1) 1)), (1, .fn 73 [.ia [LL a25 p1_c0] 0, .ia [LL a25 p1_c1] 0]), (5, .own 40 0), (6, .own 48 0), (7, .own 56 0), (8, .own 64 0), (9, I z0.2.2.2.2), (10, .own 80 0), (11, I z1.2.2.2.2.2), (12, I (subI .i64 (lenL z1.2.2.2.2.1) 1))] [(40, RR 3 1 I z1.1 0 false), (48, RR 3 1 I z1.2.1 0 false), (56, RR 26 4 a25 z1.2.2.1 0 false), (64, RR 26 4 a25 z1.2.2.2.1 0 false), (80, RR 26 4 a25 z1.2.2.2.2.1 0 false)] 149) (addrOE 42 26 4 80 0 false a25 .i64 z1.2.2.2.2.1 (subI .i64 (lenL z1.2.2.2.2.1) 1)) (fun x10 => ?_)
        refine dg 12 [(some 47, qe (I (subI .i64 (lenL z1.2.2.2.2.1) 1))), (some 48, qe (B (leI 0 (subI .i64 (lenL z1.2.2.2.2.1) 1)))), (some 49, qe (B true)), (some 50, qe (.own 80 0)), (some 51, qe (I (subI .i64 (lenL z1.2.2.2.2.1) 1))), (some 52, qe (.oa 80 0 x8 0)), (some 53, qe (.oa 80 0 x8 0)), (some 54, qe (I x9.f0)), (some 55, qe (.own 80 0)), (some 56, qe (I (subI .i64 (lenL z1.2.2.2.2.1) 1))), (some 57, qe (.oa 80 0 x10 0)), (some 58, qe (.oa 80 0 x10 2))] ?_
        refine dv 59 (mkE [(58, .oa 80 0 x10 2), (57, .oa 80 0 x10 0), (56, I (subI .i64 (lenL z1.2.2.2.2.1) 1)), (55, .own 80 0), (49, B true), (48, B (leI 0 (subI .i64 (lenL z1.2.2.2.2.1) 1))), (47, I (subI .i64 (lenL z1.2.2.2.2.1) 1)), (1, .fn 73 [.ia [LL a25 p1_c0] 0, .ia [LL a25 p1_c1] 0]), (5, .own 40 0), (6, .own 48 0), (7, .own 56 0), (8, .own 64 0), (9, I z0.2.2.2.2), (10, .own 80 0), (11, I z1.2.2.2.2.2), (12, I (subI .i64 (lenL z1.2.2.2.2.1) 1))] [(40, RR 3 1 I z1.1 0 false), (48, RR 3 1 I z1.2.1 0 false), (56, RR 26 4 a25 z1.2.2.1 0 false), (64, RR 26 4 a25 z1.2.2.2.1 0 false), (80, RR 26 4 a25 z1.2.2.2.2.1 0 false)] 149) (loadOE 3 80 0 x10 2 26 4 1 false false a25 (fun q : S25 => I q.f2) z1.2.2.2.2.1) (fun x11 => ?_)
        refine dg 16 [(some 47, qe (I (subI .i64 (lenL z1.2.2.2.2.1) 1))), (some 48, qe (B (leI 0 (subI .i64 (lenL z1.2.2.2.2.1) 1)))), (some 49, qe (B true)), (some 50, qe (.own 80 0)), (some 51, qe (I (subI .i64 (lenL z1.2.2.2.2.1) 1))), (some 52, qe (.oa 80 0 x8 0)), (some 53, qe (.oa 80 0 x8 0)), (some 54, qe (I x9.f0)), (some 55, qe (.own 80 0)), (some 56, qe (I (subI .i64 (lenL z1.2.2.2.2.1) 1))), (some 57, qe (.oa 80 0 x10 0)), (some 58, qe (.oa 80 0 x10 2)), (some 59, qe (I x11.f2)), (some 60, qe (I (addI .i64 x9.f0 x11.f2))), (some 61, qe (.own 40 0)), (some 62, qe (I z1.2.2.2.2.2))] ?_
        refine dv 63 (mkE [(62, I z1.2.2.2.2.2), (61, .own 40 0), (49, B true), (48, B (leI 0 (subI .i64 (lenL z1.2.2.2.2.1) 1))), (47, I (subI .i64 (lenL z1.2.2.2.2.1) 1)), (1, .fn 73 [.ia [LL a25 p1_c0] 0, .ia [LL a25 p1_c1] 0]), (5, .own 40 0), (6, .own 48 0), (7, .own 56 0), (8, .own 64 0), (9, I z0.2.2.2.2), (10, .own 80 0), (11, I z1.2.2.2.2.2), (12, I (subI .i64 (lenL z1.2.2.2.2.1) 1))] [(40, RR 3 1 I z1.1 0 false), (48, RR 3 1 I z1.2.1 0 false), (56, RR 26 4 a25 z1.2.2.1 0 false), (64, RR 26 4 a25 z1.2.2.2.1 0 false), (80, RR 26 4 a25 z1.2.2.2.2.1 0 false)] 149) (addrOE 102 3 1 40 0 false I .i64 z1.1 z1.2.2.2.2.2) (fun x12 => ?_)
        refine dv 64 (mkE [(63, .oa 40 0 x12 0), (62, I z1.2.2.2.2.2), (61, .own 40 0), (49, B true), (48, B (leI 0 (subI .i64 (lenL z1.2.2.2.2.1) 1))), (47, I (subI .i64 (lenL z1.2.2.2.2.1) 1)), (1, .fn 73 [.ia [LL a25 p1_c0] 0, .ia [LL a25 p1_c1] 0]), (5, .own 40 0), (6, .own 48 0), (7, .own 56 0), (8, .own 64 0), (9, I z0.2.2.2.2), (10, .own 80 0), (11, I z1.2.2.2.2.2), (12, I (subI .i64 (lenL z1.2.2.2.2.1) 1))] [(40, RR 3 1 I z1.1 0 false), (48, RR 3 1 I z1.2.1 0 false), (56, RR 26 4 a25 z1.2.2.1 0 false), (64, RR 26 4 a25 z1.2.2.2.1 0 false), (80, RR 26 4 a25 z1.2.2.2.2.1 0 false)] 149) (loadOE 3 40 0 x12 0 3 1 1 false false I (fun q : Int => I q) z1.1) (fun x13 => ?_)
        refine dg 20 [(some 47, qe (I (subI .i64 (lenL z1.2.2.2.2.1) 1))), (some 48, qe (B (leI 0 (subI .i64 (lenL z1.2.2.2.2.1) 1)))), (some 49, qe (B true)), (some 50, qe (.own 80 0)), (some 51, qe (I (subI .i64 (lenL z1.2.2.2.2.1) 1))), (some 52, qe (.oa 80 0 x8 0)), (some 53, qe (.oa 80 0 x8 0)), (some 54, qe (I x9.f0)), (some 55, qe (.own 80 0)), (some 56, qe (I (subI .i64 (lenL z1.2.2.2.2.1) 1))), (some 57, qe (.oa 80 0 x10 0)), (some 58, qe (.oa 80 0 x10 2)), (some 59, qe (I x11.f2)), (some 60, qe (I (addI .i64 x9.f0 x11.f2))), (some 61, qe (.own 40 0)), (some 62, qe (I z1.2.2.2.2.2)), (some 63, qe (.oa 40 0 x12 0)), (some 64, qe (I x13)), (some 65, qe (B (eqI (addI .i64 x9.f0 x11.f2) x13))), (some 66, qe (B (eqI (addI .i64 x9.f0 x11.f2) x13)))] ?_
        refine de (mkE [(66, B (eqI (addI .i64 x9.f0 x11.f2) x13)), (65, B (eqI (addI .i64 x9.f0 x11.f2) x13)), (64, I x13), (63, .oa 40 0 x12 0), (62, I z1.2.2.2.2.2), (61, .own 40 0), (60, I (addI .i64 x9.f0 x11.f2)), (59, I x11.f2), (58, .oa 80 0 x10 2), (57, .oa 80 0 x10 0), (56, I (subI .i64 (lenL z1.2.2.2.2.1) 1)), (55, .own 80 0), (54, I x9.f0), (53, .oa 80 0 x8 0), (52, .oa 80 0 x8 0), (51, I (subI .i64 (lenL z1.2.2.2.2.1) 1)), (50, .own 80 0), (49, B true), (48, B (leI 0 (subI .i64 (lenL z1.2.2.2.2.1) 1))), (47, I (subI .i64 (lenL z1.2.2.2.2.1) 1)), (1, .fn 73 [.ia [LL a25 p1_c0] 0, .ia [LL a25 p1_c1] 0]), (5, .own 40 0), (6, .own 48 0), (7, .own 56 0), (8, .own 64 0), (9, I z0.2.2.2.2), (10, .own 80 0), (11, I z1.2.2.2.2.2), (12, I (subI .i64 (lenL z1.2.2.2.2.1) 1))] [(40, RR 3 1 I z1.1 0 false), (48, RR 3 1 I z1.2.1 0 false), (56, RR 26 4 a25 z1.2.2.1 0 false), (64, RR 26 4 a25 z1.2.2.2.1 0 false), (80, RR 26 4 a25 z1.2.2.2.2.1 0 false)] 149) ?_
        refine se (mkE [(1, .fn 73 [.ia [LL a25 p1_c0] 0, .ia [LL a25 p1_c1] 0]), (5, .own 40 0), (6, .own 48 0), (7, .own 56 0), (8, .own 64 0), (9, I z0.2.2.2.2), (10, .own 80 0), (11, I z1.2.2.2.2.2), (12, I (subI .i64 (lenL z1.2.2.2.2.1) 1)), (66, B (eqI (addI .i64 x9.f0 x11.f2) x13))] [(40, RR 3 1 I z1.1 0 false), (48, RR 3 1 I z1.2.1 0 false), (56, RR 26 4 a25 z1.2.2.1 0 false), (64, RR 26 4 a25 z1.2.2.2.1 0 false), (80, RR 26 4 a25 z1.2.2.2.2.1 0 false)] 149) ?_
        refine pN ?_
        refine pS ?_
        refine gC 66 (eqI (addI .i64 x9.f0 x11.f2) x13) ?_ ?_
        · refine gD 14 15 (rg Tryz.f60 14) [0, 1, 2, 3, 4, 5, 6, 7, 8, 9, 10, 11, 12, 13, 14, 15] ?_
          refine dg 5 [(some 67, qe (.own 80 0)), (some 68, qe (I (subI .i64 (lenL z1.2.2.2.2.1) 1))), (some 69, qe (.own 40 0)), (some 70, qe (I z1.2.2.2.2.2)), (some 71, qe (I (addI .i64 z1.2.2.2.2.2 1)))] ?_
          refine dv 72 (mkE [(71, I (addI .i64 z1.2.2.2.2.2 1)), (70, I z1.2.2.2.2.2), (69, .own 40 0), (1, .fn 73 [.ia [LL a25 p1_c0] 0, .ia [LL a25 p1_c1] 0]), (5, .own 40 0), (6, .own 48 0), (7, .own 56 0), (8, .own 64 0), (9, I z0.2.2.2.2), (10, .own 80 0), (11, I z1.2.2.2.2.2), (12, I (subI .i64 (lenL z1.2.2.2.2.1) 1)), (66, B (eqI (addI .i64 x9.f0 x11.f2) x13))] [(40, RR 3 1 I z1.1 0 false), (48, RR 3 1 I z1.2.1 0 false), (56, RR 26 4 a25 z1.2.2.1 0 false), (64, RR 26 4 a25 z1.2.2.2.1 0 false), (80, RR 26 4 a25 z1.2.2.2.2.1 0 false)] 149) (addrOE 102 3 1 40 0 false I .i64 z1.1 (addI .i64 z1.2.2.2.2.2 1)) (fun x14 => ?_)
          refine dv 73 (mkE [(72, .oa 40 0 x14 0), (71, I (addI .i64 z1.2.2.2.2.2 1)), (70, I z1.2.2.2.2.2), (69, .own 40 0), (1, .fn 73 [.ia [LL a25 p1_c0] 0, .ia [LL a25 p1_c1] 0]), (5, .own 40 0), (6, .own 48 0), (7, .own 56 0), (8, .own 64 0), (9, I z0.2.2.2.2), (10, .own 80 0), (11, I z1.2.2.2.2.2), (12, I (subI .i64 (lenL z1.2.2.2.2.1) 1)), (66, B (eqI (addI .i64 x9.f0 x11.f2) x13))] [(40, RR 3 1 I z1.1 0 false), (48, RR 3 1 I z1.2.1 0 false), (56, RR 26 4 a25 z1.2.2.1 0 false), (64, RR 26 4 a25 z1.2.2.2.1 0 false), (80, RR 26 4 a25 z1.2.2.2.2.1 0 false)] 149) (loadOE 3 40 0 x14 0 3 1 1 false false I (fun q : Int => I q) z1.1) (fun x15 => ?_)
          refine dg 9 [(some 67, qe (.own 80 0)), (some 68, qe (I (subI .i64 (lenL z1.2.2.2.2.1) 1))), (some 69, qe (.own 40 0)), (some 70, qe (I z1.2.2.2.2.2)), (some 71, qe (I (addI .i64 z1.2.2.2.2.2 1))), (some 72, qe (.oa 40 0 x14 0)), (some 73, qe (I x15)), (some 74, qe (.own 80 0)), (some 75, qe (I (subI .i64 (lenL z1.2.2.2.2.1) 1)))] ?_
          refine dv 76 (mkE [(75, I (subI .i64 (lenL z1.2.2.2.2.1) 1)), (74, .own 80 0), (1, .fn 73 [.ia [LL a25 p1_c0] 0, .ia [LL a25 p1_c1] 0]), (5, .own 40 0), (6, .own 48 0), (7, .own 56 0), (8, .own 64 0), (9, I z0.2.2.2.2), (10, .own 80 0), (11, I z1.2.2.2.2.2), (12, I (subI .i64 (lenL z1.2.2.2.2.1) 1)), (66, B (eqI (addI .i64 x9.f0 x11.f2) x13))] [(40, RR 3 1 I z1.1 0 false), (48, RR 3 1 I z1.2.1 0 false), (56, RR 26 4 a25 z1.2.2.1 0 false), (64, RR 26 4 a25 z1.2.2.2.1 0 false), (80, RR 26 4 a25 z1.2.2.2.2.1 0 false)] 149) (addrOE 42 26 4 80 0 false a25 .i64 z1.2.2.2.2.1 (subI .i64 (lenL z1.2.2.2.2.1) 1)) (fun x16 => ?_)
          refine dg 11 [(some 67, qe (.own 80 0)), (some 68, qe (I (subI .i64 (lenL z1.2.2.2.2.1) 1))), (some 69, qe (.own 40 0)), (some 70, qe (I z1.2.2.2.2.2)), (some 71, qe (I (addI .i64 z1.2.2.2.2.2 1))), (some 72, qe (.oa 40 0 x14 0)), (some 73, qe (I x15)), (some 74, qe (.own 80 0)), (some 75, qe (I (subI .i64 (lenL z1.2.2.2.2.1) 1))), (some 76, qe (.oa 80 0 x16 0)), (some 77, qe (.oa 80 0 x16 0))] ?_
          refine dv 78 (mkE [(77, .oa 80 0 x16 0), (76, .oa 80 0 x16 0), (75, I (subI .i64 (lenL z1.2.2.2.2.1) 1)), (74, .own 80 0), (1, .fn 73 [.ia [LL a25 p1_c0] 0, .ia [LL a25 p1_c1] 0]), (5, .own 40 0), (6, .own 48 0), (7, .own 56 0), (8, .own 64 0), (9, I z0.2.2.2.2), (10, .own 80 0), (11, I z1.2.2.2.2.2), (12, I (subI .i64 (lenL z1.2.2.2.2.1) 1)), (66, B (eqI (addI .i64 x9.f0 x11.f2) x13))] [(40, RR 3 1 I z1.1 0 false), (48, RR 3 1 I z1.2.1 0 false), (56, RR 26 4 a25 z1.2.2.1 0 false), (64, RR 26 4 a25 z1.2.2.2.1 0 false), (80, RR 26 4 a25 z1.2.2.2.2.1 0 false)] 149) (loadOE 3 80 0 x16 0 26 4 1 false false a25 (fun q : S25 => I q.f0) z1.2.2.2.2.1) (fun x17 => ?_)
          refine dg 13 [(some 67, qe (.own 80 0)), (some 68, qe (I (subI .i64 (lenL z1.2.2.2.2.1) 1))), (some 69, qe (.own 40 0)), (some 70, qe (I z1.2.2.2.2.2)), (some 71, qe (I (addI .i64 z1.2.2.2.2.2 1))), (some 72, qe (.oa 40 0 x14 0)), (some 73, qe (I x15)), (some 74, qe (.own 80 0)), (some 75, qe (I (subI .i64 (lenL z1.2.2.2.2.1) 1))), (some 76, qe (.oa 80 0 x16 0)), (some 77, qe (.oa 80 0 x16 0)), (some 78, qe (I x17.f0)), (some 79, qe (I (subI .i64 x15 x17.f0)))] ?_
          refine dv 80 (mkE [(79, I (subI .i64 x15 x17.f0)), (78, I x17.f0), (77, .oa 80 0 x16 0), (76, .oa 80 0 x16 0), (75, I (subI .i64 (lenL z1.2.2.2.2.1) 1)), (74, .own 80 0), (73, I x15), (72, .oa 40 0 x14 0), (71, I (addI .i64 z1.2.2.2.2.2 1)), (70, I z1.2.2.2.2.2), (69, .own 40 0), (68, I (subI .i64 (lenL z1.2.2.2.2.1) 1)), (67, .own 80 0), (1, .fn 73 [.ia [LL a25 p1_c0] 0, .ia [LL a25 p1_c1] 0]), (5, .own 40 0), (6, .own 48 0), (7, .own 56 0), (8, .own 64 0), (9, I z0.2.2.2.2), (10, .own 80 0), (11, I z1.2.2.2.2.2), (12, I (subI .i64 (lenL z1.2.2.2.2.1) 1)), (66, B (eqI (addI .i64 x9.f0 x11.f2) x13))] [(40, RR 3 1 I z1.1 0 false), (48, RR 3 1 I z1.2.1 0 false), (56, RR 26 4 a25 z1.2.2.1 0 false), (64, RR 26 4 a25 z1.2.2.2.1 0 false), (80, RR 26 4 a25 z1.2.2.2.2.1 0 false)] 149) (addrOE 42 26 4 80 0 false a25 .i64 z1.2.2.2.2.1 (subI .i64 (lenL z1.2.2.2.2.1) 1)) (fun x18 => ?_)
          refine dg 15 [(some 67, qe (.own 80 0)), (some 68, qe (I (subI .i64 (lenL z1.2.2.2.2.1) 1))), (some 69, qe (.own 40 0)), (some 70, qe (I z1.2.2.2.2.2)), (some 71, qe (I (addI .i64 z1.2.2.2.2.2 1))), (some 72, qe (.oa 40 0 x14 0)), (some 73, qe (I x15)), (some 74, qe (.own 80 0)), (some 75, qe (I (subI .i64 (lenL z1.2.2.2.2.1) 1))), (some 76, qe (.oa 80 0 x16 0)), (some 77, qe (.oa 80 0 x16 0)), (some 78, qe (I x17.f0)), (some 79, qe (I (subI .i64 x15 x17.f0))), (some 80, qe (.oa 80 0 x18 0)), (some 81, qe (.oa 80 0 x18 2))] ?_
          refine de (mkE [(81, .oa 80 0 x18 2), (80, .oa 80 0 x18 0), (79, I (subI .i64 x15 x17.f0)), (78, I x17.f0), (77, .oa 80 0 x16 0), (76, .oa 80 0 x16 0), (75, I (subI .i64 (lenL z1.2.2.2.2.1) 1)), (74, .own 80 0), (73, I x15), (72, .oa 40 0 x14 0), (71, I (addI .i64 z1.2.2.2.2.2 1)), (70, I z1.2.2.2.2.2), (69, .own 40 0), (68, I (subI .i64 (lenL z1.2.2.2.2.1) 1)), (67, .own 80 0), (1, .fn 73 [.ia [LL a25 p1_c0] 0, .ia [LL a25 p1_c1] 0]), (5, .own 40 0), (6, .own 48 0), (7, .own 56 0), (8, .own 64 0), (9, I z0.2.2.2.2), (10, .own 80 0), (11, I z1.2.2.2.2.2), (12, I (subI .i64 (lenL z1.2.2.2.2.1) 1)), (66, B (eqI (addI .i64 x9.f0 x11.f2) x13))] [(40, RR 3 1 I z1.1 0 false), (48, RR 3 1 I z1.2.1 0 false), (56, RR 26 4 a25 z1.2.2.1 0 false), (64, RR 26 4 a25 z1.2.2.2.1 0 false), (80, RR 26 4 a25 z1.2.2.2.2.1 0 false)] 149) ?_
          refine mo none (stO 26 4 80 0 x18 2 a25 z1.2.2.2.2.1 [] [I (subI .i64 x15 x17.f0)] (I (subI .i64 x15 x17.f0)) (fun q : S25 => (S25.mk q.f0 q.f1 (subI .i64 x15 x17.f0) q.f3)) 3 (.tmp 81) (.tmp 79) 1) (fun x19 => ?_)
          refine se (mkE [(1, .fn 73 [.ia [LL a25 p1_c0] 0, .ia [LL a25 p1_c1] 0]), (5, .own 40 0), (6, .own 48 0), (7, .own 56 0), (8, .own 64 0), (9, I z0.2.2.2.2), (10, .own 80 0), (11, I z1.2.2.2.2.2)] [(40, RR 3 1 I z1.1 0 false), (48, RR 3 1 I z1.2.1 0 false), (56, RR 26 4 a25 z1.2.2.1 0 false), (64, RR 26 4 a25 z1.2.2.2.1 0 false), (80, RR 26 4 a25 (List.set z1.2.2.2.2.1 x18 (S25.mk x19.f0 x19.f1 (subI .i64 x15 x17.f0) x19.f3)) 0 false)] 149) ?_
          refine pB ?_
          refine pN ?_
          refine pS ?_
          refine gR 10 (rg Tryz.f60 10) ?_
          refine se (mkE [(1, .fn 73 [.ia [LL a25 p1_c0] 0, .ia [LL a25 p1_c1] 0]), (5, .own 40 0), (6, .own 48 0), (7, .own 56 0), (8, .own 64 0), (9, I z0.2.2.2.2), (10, .own 80 0), (11, I (addI .i64 z1.2.2.2.2.2 1))] [(40, RR 3 1 I z1.1 0 false), (48, RR 3 1 I z1.2.1 0 false), (56, RR 26 4 a25 z1.2.2.1 0 false), (64, RR 26 4 a25 z1.2.2.2.1 0 false), (80, RR 26 4 a25 (List.set z1.2.2.2.2.1 x18 (S25.mk x19.f0 x19.f1 (subI .i64 x15 x17.f0) x19.f3)) 0 false)] 149) ?_
          exact pL
        · refine gD 15 31 (rg Tryz.f60 15) [0, 1, 2, 3, 4, 5, 6, 7, 8, 9, 10, 11, 12, 13, 14, 15, 16, 17, 18, 19, 20, 21, 22, 23, 24, 25, 26, 27, 28, 29, 30, 31, 32] ?_
          refine dg 3 [(some 82, qe (.own 80 0)), (some 83, qe (.own 40 0)), (some 84, qe (I z1.2.2.2.2.2))] ?_
          refine dv 85 (mkE [(84, I z1.2.2.2.2.2), (83, .own 40 0), (1, .fn 73 [.ia [LL a25 p1_c0] 0, .ia [LL a25 p1_c1] 0]), (5, .own 40 0), (6, .own 48 0), (7, .own 56 0), (8, .own 64 0), (9, I z0.2.2.2.2), (10, .own 80 0), (11, I z1.2.2.2.2.2), (12, I (subI .i64 (lenL z1.2.2.2.2.1) 1)), (66, B (eqI (addI .i64 x9.f0 x11.f2) x13))] [(40, RR 3 1 I z1.1 0 false), (48, RR 3 1 I z1.2.1 0 false), (56, RR 26 4 a25 z1.2.2.1 0 false), (64, RR 26 4 a25 z1.2.2.2.1 0 false), (80, RR 26 4 a25 z1.2.2.2.2.1 0 false)] 149) (addrOE 102 3 1 40 0 false I .i64 z1.1 z1.2.2.2.2.2) (fun x20 => ?_)
          refine dv 86 (mkE [(85, .oa 40 0 x20 0), (84, I z1.2.2.2.2.2), (83, .own 40 0), (1, .fn 73 [.ia [LL a25 p1_c0] 0, .ia [LL a25 p1_c1] 0]), (5, .own 40 0), (6, .own 48 0), (7, .own 56 0), (8, .own 64 0), (9, I z0.2.2.2.2), (10, .own 80 0), (11, I z1.2.2.2.2.2), (12, I (subI .i64 (lenL z1.2.2.2.2.1) 1)), (66, B (eqI (addI .i64 x9.f0 x11.f2) x13))] [(40, RR 3 1 I z1.1 0 false), (48, RR 3 1 I z1.2.1 0 false), (56, RR 26 4 a25 z1.2.2.1 0 false), (64, RR 26 4 a25 z1.2.2.2.1 0 false), (80, RR 26 4 a25 z1.2.2.2.2.1 0 false)] 149) (loadOE 3 40 0 x20 0 3 1 1 false false I (fun q : Int => I q) z1.1) (fun x21 => ?_)
          refine dg 7 [(some 82, qe (.own 80 0)), (some 83, qe (.own 40 0)), (some 84, qe (I z1.2.2.2.2.2)), (some 85, qe (.oa 40 0 x20 0)), (some 86, qe (I x21)), (some 87, qe (.own 48 0)), (some 88, qe (I z0.2.2.2.2))] ?_
          refine dv 89 (mkE [(88, I z0.2.2.2.2), (87, .own 48 0), (1, .fn 73 [.ia [LL a25 p1_c0] 0, .ia [LL a25 p1_c1] 0]), (5, .own 40 0), (6, .own 48 0), (7, .own 56 0), (8, .own 64 0), (9, I z0.2.2.2.2), (10, .own 80 0), (11, I z1.2.2.2.2.2), (12, I (subI .i64 (lenL z1.2.2.2.2.1) 1)), (66, B (eqI (addI .i64 x9.f0 x11.f2) x13))] [(40, RR 3 1 I z1.1 0 false), (48, RR 3 1 I z1.2.1 0 false), (56, RR 26 4 a25 z1.2.2.1 0 false), (64, RR 26 4 a25 z1.2.2.2.1 0 false), (80, RR 26 4 a25 z1.2.2.2.2.1 0 false)] 149) (addrOE 102 3 1 48 0 false I .i64 z1.2.1 z0.2.2.2.2) (fun x22 => ?_)
          refine dv 90 (mkE [(89, .oa 48 0 x22 0), (88, I z0.2.2.2.2), (87, .own 48 0), (1, .fn 73 [.ia [LL a25 p1_c0] 0, .ia [LL a25 p1_c1] 0]), (5, .own 40 0), (6, .own 48 0), (7, .own 56 0), (8, .own 64 0), (9, I z0.2.2.2.2), (10, .own 80 0), (11, I z1.2.2.2.2.2), (12, I (subI .i64 (lenL z1.2.2.2.2.1) 1)), (66, B (eqI (addI .i64 x9.f0 x11.f2) x13))] [(40, RR 3 1 I z1.1 0 false), (48, RR 3 1 I z1.2.1 0 false), (56, RR 26 4 a25 z1.2.2.1 0 false), (64, RR 26 4 a25 z1.2.2.2.1 0 false), (80, RR 26 4 a25 z1.2.2.2.2.1 0 false)] 149) (loadOE 3 48 0 x22 0 3 1 1 false false I (fun q : Int => I q) z1.2.1) (fun x23 => ?_)
          refine dg 12 [(some 82, qe (.own 80 0)), (some 83, qe (.own 40 0)), (some 84, qe (I z1.2.2.2.2.2)), (some 85, qe (.oa 40 0 x20 0)), (some 86, qe (I x21)), (some 87, qe (.own 48 0)), (some 88, qe (I z0.2.2.2.2)), (some 89, qe (.oa 48 0 x22 0)), (some 90, qe (I x23)), (some 91, qe (.own 40 0)), (some 92, qe (I z1.2.2.2.2.2)), (some 93, qe (I (addI .i64 z1.2.2.2.2.2 1)))] ?_
          refine dv 94 (mkE [(93, I (addI .i64 z1.2.2.2.2.2 1)), (92, I z1.2.2.2.2.2), (91, .own 40 0), (1, .fn 73 [.ia [LL a25 p1_c0] 0, .ia [LL a25 p1_c1] 0]), (5, .own 40 0), (6, .own 48 0), (7, .own 56 0), (8, .own 64 0), (9, I z0.2.2.2.2), (10, .own 80 0), (11, I z1.2.2.2.2.2), (12, I (subI .i64 (lenL z1.2.2.2.2.1) 1)), (66, B (eqI (addI .i64 x9.f0 x11.f2) x13))] [(40, RR 3 1 I z1.1 0 false), (48, RR 3 1 I z1.2.1 0 false), (56, RR 26 4 a25 z1.2.2.1 0 false), (64, RR 26 4 a25 z1.2.2.2.1 0 false), (80, RR 26 4 a25 z1.2.2.2.2.1 0 false)] 149) (addrOE 102 3 1 40 0 false I .i64 z1.1 (addI .i64 z1.2.2.2.2.2 1)) (fun x24 => ?_)
          refine dv 95 (mkE [(94, .oa 40 0 x24 0), (93, I (addI .i64 z1.2.2.2.2.2 1)), (92, I z1.2.2.2.2.2), (91, .own 40 0), (1, .fn 73 [.ia [LL a25 p1_c0] 0, .ia [LL a25 p1_c1] 0]), (5, .own 40 0), (6, .own 48 0), (7, .own 56 0), (8, .own 64 0), (9, I z0.2.2.2.2), (10, .own 80 0), (11, I z1.2.2.2.2.2), (12, I (subI .i64 (lenL z1.2.2.2.2.1) 1)), (66, B (eqI (addI .i64 x9.f0 x11.f2) x13))] [(40, RR 3 1 I z1.1 0 false), (48, RR 3 1 I z1.2.1 0 false), (56, RR 26 4 a25 z1.2.2.1 0 false), (64, RR 26 4 a25 z1.2.2.2.1 0 false), (80, RR 26 4 a25 z1.2.2.2.2.1 0 false)] 149) (loadOE 3 40 0 x24 0 3 1 1 false false I (fun q : Int => I q) z1.1) (fun x25 => ?_)
          refine dg 16 [(some 82, qe (.own 80 0)), (some 83, qe (.own 40 0)), (some 84, qe (I z1.2.2.2.2.2)), (some 85, qe (.oa 40 0 x20 0)), (some 86, qe (I x21)), (some 87, qe (.own 48 0)), (some 88, qe (I z0.2.2.2.2)), (some 89, qe (.oa 48 0 x22 0)), (some 90, qe (I x23)), (some 91, qe (.own 40 0)), (some 92, qe (I z1.2.2.2.2.2)), (some 93, qe (I (addI .i64 z1.2.2.2.2.2 1))), (some 94, qe (.oa 40 0 x24 0)), (some 95, qe (I x25)), (some 96, qe (.own 40 0)), (some 97, qe (I z1.2.2.2.2.2))] ?_
          refine dv 98 (mkE [(97, I z1.2.2.2.2.2), (96, .own 40 0), (1, .fn 73 [.ia [LL a25 p1_c0] 0, .ia [LL a25 p1_c1] 0]), (5, .own 40 0), (6, .own 48 0), (7, .own 56 0), (8, .own 64 0), (9, I z0.2.2.2.2), (10, .own 80 0), (11, I z1.2.2.2.2.2), (12, I (subI .i64 (lenL z1.2.2.2.2.1) 1)), (66, B (eqI (addI .i64 x9.f0 x11.f2) x13))] [(40, RR 3 1 I z1.1 0 false), (48, RR 3 1 I z1.2.1 0 false), (56, RR 26 4 a25 z1.2.2.1 0 false), (64, RR 26 4 a25 z1.2.2.2.1 0 false), (80, RR 26 4 a25 z1.2.2.2.2.1 0 false)] 149) (addrOE 102 3 1 40 0 false I .i64 z1.1 z1.2.2.2.2.2) (fun x26 => ?_)
          refine dv 99 (mkE [(98, .oa 40 0 x26 0), (97, I z1.2.2.2.2.2), (96, .own 40 0), (1, .fn 73 [.ia [LL a25 p1_c0] 0, .ia [LL a25 p1_c1] 0]), (5, .own 40 0), (6, .own 48 0), (7, .own 56 0), (8, .own 64 0), (9, I z0.2.2.2.2), (10, .own 80 0), (11, I z1.2.2.2.2.2), (12, I (subI .i64 (lenL z1.2.2.2.2.1) 1)), (66, B (eqI (addI .i64 x9.f0 x11.f2) x13))] [(40, RR 3 1 I z1.1 0 false), (48, RR 3 1 I z1.2.1 0 false), (56, RR 26 4 a25 z1.2.2.1 0 false), (64, RR 26 4 a25 z1.2.2.2.1 0 false), (80, RR 26 4 a25 z1.2.2.2.2.1 0 false)] 149) (loadOE 3 40 0 x26 0 3 1 1 false false I (fun q : Int => I q) z1.1) (fun x27 => ?_)
          refine dg 22 [(some 82, qe (.own 80 0)), (some 83, qe (.own 40 0)), (some 84, qe (I z1.2.2.2.2.2)), (some 85, qe (.oa 40 0 x20 0)), (some 86, qe (I x21)), (some 87, qe (.own 48 0)), (some 88, qe (I z0.2.2.2.2)), (some 89, qe (.oa 48 0 x22 0)), (some 90, qe (I x23)), (some 91, qe (.own 40 0)), (some 92, qe (I z1.2.2.2.2.2)), (some 93, qe (I (addI .i64 z1.2.2.2.2.2 1))), (some 94, qe (.oa 40 0 x24 0)), (some 95, qe (I x25)), (some 96, qe (.own 40 0)), (some 97, qe (I z1.2.2.2.2.2)), (some 98, qe (.oa 40 0 x26 0)), (some 99, qe (I x27)), (some 100, qe (I (subI .i64 x25 x27))), (some 101, qe (.own 48 0)), (some 102, qe (I z0.2.2.2.2)), (some 103, qe (I (addI .i64 z0.2.2.2.2 1)))] ?_
          refine dv 104 (mkE [(103, I (addI .i64 z0.2.2.2.2 1)), (102, I z0.2.2.2.2), (101, .own 48 0), (1, .fn 73 [.ia [LL a25 p1_c0] 0, .ia [LL a25 p1_c1] 0]), (5, .own 40 0), (6, .own 48 0), (7, .own 56 0), (8, .own 64 0), (9, I z0.2.2.2.2), (10, .own 80 0), (11, I z1.2.2.2.2.2), (12, I (subI .i64 (lenL z1.2.2.2.2.1) 1)), (66, B (eqI (addI .i64 x9.f0 x11.f2) x13))] [(40, RR 3 1 I z1.1 0 false), (48, RR 3 1 I z1.2.1 0 false), (56, RR 26 4 a25 z1.2.2.1 0 false), (64, RR 26 4 a25 z1.2.2.2.1 0 false), (80, RR 26 4 a25 z1.2.2.2.2.1 0 false)] 149) (addrOE 102 3 1 48 0 false I .i64 z1.2.1 (addI .i64 z0.2.2.2.2 1)) (fun x28 => ?_)
          refine dv 105 (mkE [(104, .oa 48 0 x28 0), (103, I (addI .i64 z0.2.2.2.2 1)), (102, I z0.2.2.2.2), (101, .own 48 0), (1, .fn 73 [.ia [LL a25 p1_c0] 0, .ia [LL a25 p1_c1] 0]), (5, .own 40 0), (6, .own 48 0), (7, .own 56 0), (8, .own 64 0), (9, I z0.2.2.2.2), (10, .own 80 0), (11, I z1.2.2.2.2.2), (12, I (subI .i64 (lenL z1.2.2.2.2.1) 1)), (66, B (eqI (addI .i64 x9.f0 x11.f2) x13))] [(40, RR 3 1 I z1.1 0 false), (48, RR 3 1 I z1.2.1 0 false), (56, RR 26 4 a25 z1.2.2.1 0 false), (64, RR 26 4 a25 z1.2.2.2.1 0 false), (80, RR 26 4 a25 z1.2.2.2.2.1 0 false)] 149) (loadOE 3 48 0 x28 0 3 1 1 false false I (fun q : Int => I q) z1.2.1) (fun x29 => ?_)
          refine dg 26 [(some 82, qe (.own 80 0)), (some 83, qe (.own 40 0)), (some 84, qe (I z1.2.2.2.2.2)), (some 85, qe (.oa 40 0 x20 0)), (some 86, qe (I x21)), (some 87, qe (.own 48 0)), (some 88, qe (I z0.2.2.2.2)), (some 89, qe (.oa 48 0 x22 0)), (some 90, qe (I x23)), (some 91, qe (.own 40 0)), (some 92, qe (I z1.2.2.2.2.2)), (some 93, qe (I (addI .i64 z1.2.2.2.2.2 1))), (some 94, qe (.oa 40 0 x24 0)), (some 95, qe (I x25)), (some 96, qe (.own 40 0)), (some 97, qe (I z1.2.2.2.2.2)), (some 98, qe (.oa 40 0 x26 0)), (some 99, qe (I x27)), (some 100, qe (I (subI .i64 x25 x27))), (some 101, qe (.own 48 0)), (some 102, qe (I z0.2.2.2.2)), (some 103, qe (I (addI .i64 z0.2.2.2.2 1))), (some 104, qe (.oa 48 0 x28 0)), (some 105, qe (I x29)), (some 106, qe (.own 48 0)), (some 107, qe (I z0.2.2.2.2))] ?_
          refine dv 108 (mkE [(107, I z0.2.2.2.2), (106, .own 48 0), (1, .fn 73 [.ia [LL a25 p1_c0] 0, .ia [LL a25 p1_c1] 0]), (5, .own 40 0), (6, .own 48 0), (7, .own 56 0), (8, .own 64 0), (9, I z0.2.2.2.2), (10, .own 80 0), (11, I z1.2.2.2.2.2), (12, I (subI .i64 (lenL z1.2.2.2.2.1) 1)), (66, B (eqI (addI .i64 x9.f0 x11.f2) x13))] [(40, RR 3 1 I z1.1 0 false), (48, RR 3 1 I z1.2.1 0 false), (56, RR 26 4 a25 z1.2.2.1 0 false), (64, RR 26 4 a25 z1.2.2.2.1 0 false), (80, RR 26 4 a25 z1.2.2.2.2.1 0 false)] 149) (addrOE 102 3 1 48 0 false I .i64 z1.2.1 z0.2.2.2.2) (fun x30 => ?_)
          refine dv 109 (mkE [(108, .oa 48 0 x30 0), (107, I z0.2.2.2.2), (106, .own 48 0), (1, .fn 73 [.ia [LL a25 p1_c0] 0, .ia [LL a25 p1_c1] 0]), (5, .own 40 0), (6, .own 48 0), (7, .own 56 0), (8, .own 64 0), (9, I z0.2.2.2.2), (10, .own 80 0), (11, I z1.2.2.2.2.2), (12, I (subI .i64 (lenL z1.2.2.2.2.1) 1)), (66, B (eqI (addI .i64 x9.f0 x11.f2) x13))] [(40, RR 3 1 I z1.1 0 false), (48, RR 3 1 I z1.2.1 0 false), (56, RR 26 4 a25 z1.2.2.1 0 false), (64, RR 26 4 a25 z1.2.2.2.1 0 false), (80, RR 26 4 a25 z1.2.2.2.2.1 0 false)] 149) (loadOE 3 48 0 x30 0 3 1 1 false false I (fun q : Int => I q) z1.2.1) (fun x31 => ?_)
          refine dg 31 [(some 82, qe (.own 80 0)), (some 83, qe (.own 40 0)), (some 84, qe (I z1.2.2.2.2.2)), (some 85, qe (.oa 40 0 x20 0)), (some 86, qe (I x21)), (some 87, qe (.own 48 0)), (some 88, qe (I z0.2.2.2.2)), (some 89, qe (.oa 48 0 x22 0)), (some 90, qe (I x23)), (some 91, qe (.own 40 0)), (some 92, qe (I z1.2.2.2.2.2)), (some 93, qe (I (addI .i64 z1.2.2.2.2.2 1))), (some 94, qe (.oa 40 0 x24 0)), (some 95, qe (I x25)), (some 96, qe (.own 40 0)), (some 97, qe (I z1.2.2.2.2.2)), (some 98, qe (.oa 40 0 x26 0)), (some 99, qe (I x27)), (some 100, qe (I (subI .i64 x25 x27))), (some 101, qe (.own 48 0)), (some 102, qe (I z0.2.2.2.2)), (some 103, qe (I (addI .i64 z0.2.2.2.2 1))), (some 104, qe (.oa 48 0 x28 0)), (some 105, qe (I x29)), (some 106, qe (.own 48 0)), (some 107, qe (I z0.2.2.2.2)), (some 108, qe (.oa 48 0 x30 0)), (some 109, qe (I x31)), (some 110, qe (I (subI .i64 x29 x31))), (some 111, qe (.agg [I x21, I x23, I (subI .i64 x25 x27), I (subI .i64 x29 x31)])), (some 112, { e := { val := .own 896 0, news := [(896, RR 26 4 a25 ([(S25.mk x21 x23 (subI .i64 x25 x27) (subI .i64 x29 x31))] : List S25) 0 false)] } })] ?_
          refine de (mkE [(112, .own 896 0), (111, .agg [I x21, I x23, I (subI .i64 x25 x27), I (subI .i64 x29 x31)]), (110, I (subI .i64 x29 x31)), (109, I x31), (108, .oa 48 0 x30 0), (107, I z0.2.2.2.2), (106, .own 48 0), (105, I x29), (104, .oa 48 0 x28 0), (103, I (addI .i64 z0.2.2.2.2 1)), (102, I z0.2.2.2.2), (101, .own 48 0), (100, I (subI .i64 x25 x27)), (99, I x27), (98, .oa 40 0 x26 0), (97, I z1.2.2.2.2.2), (96, .own 40 0), (95, I x25), (94, .oa 40 0 x24 0), (93, I (addI .i64 z1.2.2.2.2.2 1)), (92, I z1.2.2.2.2.2), (91, .own 40 0), (90, I x23), (89, .oa 48 0 x22 0), (88, I z0.2.2.2.2), (87, .own 48 0), (86, I x21), (85, .oa 40 0 x20 0), (84, I z1.2.2.2.2.2), (83, .own 40 0), (82, .own 80 0), (1, .fn 73 [.ia [LL a25 p1_c0] 0, .ia [LL a25 p1_c1] 0]), (5, .own 40 0), (6, .own 48 0), (7, .own 56 0), (8, .own 64 0), (9, I z0.2.2.2.2), (10, .own 80 0), (11, I z1.2.2.2.2.2), (12, I (subI .i64 (lenL z1.2.2.2.2.1) 1)), (66, B (eqI (addI .i64 x9.f0 x11.f2) x13))] [(896, RR 26 4 a25 ([(S25.mk x21 x23 (subI .i64 x25 x27) (subI .i64 x29 x31))] : List S25) 0 false), (40, RR 3 1 I z1.1 0 false), (48, RR 3 1 I z1.2.1 0 false), (56, RR 26 4 a25 z1.2.2.1 0 false), (64, RR 26 4 a25 z1.2.2.2.1 0 false), (80, RR 26 4 a25 z1.2.2.2.2.1 0 false)] 149) ?_
          refine mo (some 113) (apO 42 26 4 32 80 a25 0 [896] (y := .own 896 0) (l2 := ([(S25.mk x21 x23 (subI .i64 x25 x27) (subI .i64 x29 x31))] : List S25))) (fun x32 => ?_)
          refine se (mkE [(1, .fn 73 [.ia [LL a25 p1_c0] 0, .ia [LL a25 p1_c1] 0]), (5, .own 40 0), (6, .own 48 0), (7, .own 56 0), (8, .own 64 0), (9, I z0.2.2.2.2), (10, .own 80 1), (11, I z1.2.2.2.2.2)] [(40, RR 3 1 I z1.1 0 false), (48, RR 3 1 I z1.2.1 0 false), (56, RR 26 4 a25 z1.2.2.1 0 false), (64, RR 26 4 a25 z1.2.2.2.1 0 false), (80, RR 26 4 a25 x32 1 false)] 149) ?_
          refine pB ?_
          refine pN ?_
          refine pS ?_
          refine gR 10 (rg Tryz.f60 10) ?_
          refine se (mkE [(1, .fn 73 [.ia [LL a25 p1_c0] 0, .ia [LL a25 p1_c1] 0]), (5, .own 40 0), (6, .own 48 0), (7, .own 56 0), (8, .own 64 0), (9, I z0.2.2.2.2), (10, .own 80 1), (11, I (addI .i64 z1.2.2.2.2.2 1))] [(40, RR 3 1 I z1.1 0 false), (48, RR 3 1 I z1.2.1 0 false), (56, RR 26 4 a25 z1.2.2.1 0 false), (64, RR 26 4 a25 z1.2.2.2.1 0 false), (80, RR 26 4 a25 x32 1 false)] 149) ?_
          exact pL
      · refine dg 20 [(some 47, qe (I (subI .i64 (lenL z1.2.2.2.2.1) 1))), (some 48, qe (B (leI 0 (subI .i64 (lenL z1.2.2.2.2.1) 1)))), (some 49, qe (B false)), (some 50, qe (.und)), (some 51, qe (.und)), (some 52, qe (.und)), (some 53, qe (.und)), (some 54, qe (.und)), (some 55, qe (.und)), (some 56, qe (.und)), (some 57, qe (.und)), (some 58, qe (.und)), (some 59, qe (.und)), (some 60, qe (.und)), (some 61, qe (.und)), (some 62, qe (.und)), (some 63, qe (.und)), (some 64, qe (.und)), (some 65, qe (.und)), (some 66, qe (B false))] ?_
        refine de (mkE [(66, B false), (65, .und), (64, .und), (63, .und), (62, .und), (61, .und), (60, .und), (59, .und), (58, .und), (57, .und), (56, .und), (55, .und), (54, .und), (53, .und), (52, .und), (51, .und), (50, .und), (49, B false), (48, B (leI 0 (subI .i64 (lenL z1.2.2.2.2.1) 1))), (47, I (subI .i64 (lenL z1.2.2.2.2.1) 1)), (1, .fn 73 [.ia [LL a25 p1_c0] 0, .ia [LL a25 p1_c1] 0]), (5, .own 40 0), (6, .own 48 0), (7, .own 56 0), (8, .own 64 0), (9, I z0.2.2.2.2), (10, .own 80 0), (11, I z1.2.2.2.2.2), (12, I (subI .i64 (lenL z1.2.2.2.2.1) 1))] [(40, RR 3 1 I z1.1 0 false), (48, RR 3 1 I z1.2.1 0 false), (56, RR 26 4 a25 z1.2.2.1 0 false), (64, RR 26 4 a25 z1.2.2.2.1 0 false), (80, RR 26 4 a25 z1.2.2.2.2.1 0 false)] 149) ?_
        refine se (mkE [(1, .fn 73 [.ia [LL a25 p1_c0] 0, .ia [LL a25 p1_c1] 0]), (5, .own 40 0), (6, .own 48 0), (7, .own 56 0), (8, .own 64 0), (9, I z0.2.2.2.2), (10, .own 80 0), (11, I z1.2.2.2.2.2), (12, I (subI .i64 (lenL z1.2.2.2.2.1) 1)), (66, B false)] [(40, RR 3 1 I z1.1 0 false), (48, RR 3 1 I z1.2.1 0 false), (56, RR 26 4 a25 z1.2.2.1 0 false), (64, RR 26 4 a25 z1.2.2.2.1 0 false), (80, RR 26 4 a25 z1.2.2.2.2.1 0 false)] 149) ?_
        refine pN ?_
        refine pS ?_
        refine gF (.tmp 66) ?_
        refine gD 15 31 (rg Tryz.f60 15) [0, 1, 2, 3, 4, 5, 6, 7, 8, 9, 10, 11, 12, 13, 14, 15, 16, 17, 18, 19, 20, 21, 22, 23, 24, 25, 26, 27, 28, 29, 30, 31, 32] ?_
        refine dg 3 [(some 82, qe (.own 80 0)), (some 83, qe (.own 40 0)), (some 84, qe (I z1.2.2.2.2.2))] ?_
        refine dv 85 (mkE [(84, I z1.2.2.2.2.2), (83, .own 40 0), (1, .fn 73 [.ia [LL a25 p1_c0] 0, .ia [LL a25 p1_c1] 0]), (5, .own 40 0), (6, .own 48 0), (7, .own 56 0), (8, .own 64 0), (9, I z0.2.2.2.2), (10, .own 80 0), (11, I z1.2.2.2.2.2), (12, I (subI .i64 (lenL z1.2.2.2.2.1) 1)), (66, B false)] [(40, RR 3 1 I z1.1 0 false), (48, RR 3 1 I z1.2.1 0 false), (56, RR 26 4 a25 z1.2.2.1 0 false), (64, RR 26 4 a25 z1.2.2.2.1 0 false), (80, RR 26 4 a25 z1.2.2.2.2.1 0 false)] 149) (addrOE 102 3 1 40 0 false I .i64 z1.1 z1.2.2.2.2.2) (fun x33 => ?_)
        refine dv 86 (mkE [(85, .oa 40 0 x33 0), (84, I z1.2.2.2.2.2), (83, .own 40 0), (1, .fn 73 [.ia [LL a25 p1_c0] 0, .ia [LL a25 p1_c1] 0]), (5, .own 40 0), (6, .own 48 0), (7, .own 56 0), (8, .own 64 0), (9, I z0.2.2.2.2), (10, .own 80 0), (11, I z1.2.2.2.2.2), (12, I (subI .i64 (lenL z1.2.2.2.2.1) 1)), (66, B false)] [(40, RR 3 1 I z1.1 0 false), (48, RR 3 1 I z1.2.1 0 false), (56, RR 26 4 a25 z1.2.2.1 0 false), (64, RR 26 4 a25 z1.2.2.2.1 0 false), (80, RR 26 4 a25 z1.2.2.2.2.1 0 false)] 149) (loadOE 3 40 0 x33 0 3 1 1 false false I (fun q : Int => I q) z1.1) (fun x34 => ?_)
        refine dg 7 [(some 82, qe (.own 80 0)), (some 83, qe (.own 40 0)), (some 84, qe (I z1.2.2.2.2.2)), (some 85, qe (.oa 40 0 x33 0)), (some 86, qe (I x34)), (some 87, qe (.own 48 0)), (some 88, qe (I z0.2.2.2.2))] ?_
        refine dv 89 (mkE [(88, I z0.2.2.2.2), (87, .own 48 0), (1, .fn 73 [.ia [LL a25 p1_c0] 0, .ia [LL a25 p1_c1] 0]), (5, .own 40 0), (6, .own 48 0), (7, .own 56 0), (8, .own 64 0), (9, I z0.2.2.2.2), (10, .own 80 0), (11, I z1.2.2.2.2.2), (12, I (subI .i64 (lenL z1.2.2.2.2.1) 1)), (66, B false)] [(40, RR 3 1 I z1.1 0 false), (48, RR 3 1 I z1.2.1 0 false), (56, RR 26 4 a25 z1.2.2.1 0 false), (64, RR 26 4 a25 z1.2.2.2.1 0 false), (80, RR 26 4 a25 z1.2.2.2.2.1 0 false)] 149) (addrOE 102 3 1 48 0 false I .i64 z1.2.1 z0.2.2.2.2) (fun x35 => ?_)
        refine dv 90 (mkE [(89, .oa 48 0 x35 0), (88, I z0.2.2.2.2), (87, .own 48 0), (1, .fn 73 [.ia [LL a25 p1_c0] 0, .ia [LL a25 p1_c1] 0]), (5, .own 40 0), (6, .own 48 0), (7, .own 56 0), (8, .own 64 0), (9, I z0.2.2.2.2), (10, .own 80 0), (11, I z1.2.2.2.2.2), (12, I (subI .i64 (lenL z1.2.2.2.2.1) 1)), (66, B false)] [(40, RR 3 1 I z1.1 0 false), (48, RR 3 1 I z1.2.1 0 false), (56, RR 26 4 a25 z1.2.2.1 0 false), (64, RR 26 4 a25 z1.2.2.2.1 0 false), (80, RR 26 4 a25 z1.2.2.2.2.1 0 false)] 149) (loadOE 3 48 0 x35 0 3 1 1 false false I (fun q : Int => I q) z1.2.1) (fun x36 => ?_)
        refine dg 12 [(some 82, qe (.own 80 0)), (some 83, qe (.own 40 0)), (some 84, qe (I z1.2.2.2.2.2)), (some 85, qe (.oa 40 0 x33 0)), (some 86, qe (I x34)), (some 87, qe (.own 48 0)), (some 88, qe (I z0.2.2.2.2)), (some 89, qe (.oa 48 0 x35 0)), (some 90, qe (I x36)), (some 91, qe (.own 40 0)), (some 92, qe (I z1.2.2.2.2.2)), (some 93, qe (I (addI .i64 z1.2.2.2.2.2 1)))] ?_
        refine dv 94 (mkE [(93, I (addI .i64 z1.2.2.2.2.2 1)), (92, I z1.2.2.2.2.2), (91, .own 40 0), (1, .fn 73 [.ia [LL a25 p1_c0] 0, .ia [LL a25 p1_c1] 0]), (5, .own 40 0), (6, .own 48 0), (7, .own 56 0), (8, .own 64 0), (9, I z0.2.2.2.2), (10, .own 80 0), (11, I z1.2.2.2.2.2), (12, I (subI .i64 (lenL z1.2.2.2.2.1) 1)), (66, B false)] [(40, RR 3 1 I z1.1 0 false), (48, RR 3 1 I z1.2.1 0 false), (56, RR 26 4 a25 z1.2.2.1 0 false), (64, RR 26 4 a25 z1.2.2.2.1 0 false), (80, RR 26 4 a25 z1.2.2.2.2.1 0 false)] 149) (addrOE 102 3 1 40 0 false I .i64 z1.1 (addI .i64 z1.2.2.2.2.2 1)) (fun x37 => ?_)
        refine dv 95 (mkE [(94, .oa 40 0 x37 0), (93, I (addI .i64 z1.2.2.2.2.2 1)), (92, I z1.2.2.2.2.2), (91, .own 40 0), (1, .fn 73 [.ia [LL a25 p1_c0] 0, .ia [LL a25 p1_c1] 0]), (5, .own 40 0), (6, .own 48 0), (7, .own 56 0), (8, .own 64 0), (9, I z0.2.2.2.2), (10, .own 80 0), (11, I z1.2.2.2.2.2), (12, I (subI .i64 (lenL z1.2.2.2.2.1) 1)), (66, B false)] [(40, RR 3 1 I z1.1 0 false), (48, RR 3 1 I z1.2.1 0 false), (56, RR 26 4 a25 z1.2.2.1 0 false), (64, RR 26 4 a25 z1.2.2.2.1 0 false), (80, RR 26 4 a25 z1.2.2.2.2.1 0 false)] 149) (loadOE 3 40 0 x37 0 3 1 1 false false I (fun q : Int => I q) z1.1) (fun x38 => ?_)
        refine dg 16 [(some 82, qe (.own 80 0)), (some 83, qe (.own 40 0)), (some 84, qe (I z1.2.2.2.2.2)), (some 85, qe (.oa 40 0 x33 0)), (some 86, qe (I x34)), (some 87, qe (.own 48 0)), (some 88, qe (I z0.2.2.2.2)), (some 89, qe (.oa 48 0 x35 0)), (some 90, qe (I x36)), (some 91, qe (.own 40 0)), (some 92, qe (I z1.2.2.2.2.2)), (some 93, qe (I (addI .i64 z1.2.2.2.2.2 1))), (some 94, qe (.oa 40 0 x37 0)), (some 95, qe (I x38)), (some 96, qe (.own 40 0)), (some 97, qe (I z1.2.2.2.2.2))] ?_
        refine dv 98 (mkE [(97, I z1.2.2.2.2.2), (96, .own 40 0), (1, .fn 73 [.ia [LL a25 p1_c0] 0, .ia [LL a25 p1_c1] 0]), (5, .own 40 0), (6, .own 48 0), (7, .own 56 0), (8, .own 64 0), (9, I z0.2.2.2.2), (10, .own 80 0), (11, I z1.2.2.2.2.2), (12, I (subI .i64 (lenL z1.2.2.2.2.1) 1)), (66, B false)] [(40, RR 3 1 I z1.1 0 false), (48, RR 3 1 I z1.2.1 0 false), (56, RR 26 4 a25 z1.2.2.1 0 false), (64, RR 26 4 a25 z1.2.2.2.1 0 false), (80, RR 26 4 a25 z1.2.2.2.2.1 0 false)] 149) (addrOE 102 3 1 40 0 false I .i64 z1.1 z1.2.2.2.2.2) (fun x39 => ?_)
        refine dv 99 (mkE [(98, .oa 40 0 x39 0), (97, I z1.2.2.2.2.2), (96, .own 40 0), (1, .fn 73 [.ia [LL a25 p1_c0] 0, .ia [LL a25 p1_c1] 0]), (5, .own 40 0), (6, .own 48 0), (7, .own 56 0), (8, .own 64 0), (9, I z0.2.2.2.2), (10, .own 80 0), (11, I z1.2.2.2.2.2), (12, I (subI .i64 (lenL z1.2.2.2.2.1) 1)), (66, B false)] [(40, RR 3 1 I z1.1 0 false), (48, RR 3 1 I z1.2.1 0 false), (56, RR 26 4 a25 z1.2.2.1 0 false), (64, RR 26 4 a25 z1.2.2.2.1 0 false), (80, RR 26 4 a25 z1.2.2.2.2.1 0 false)] 149) (loadOE 3 40 0 x39 0 3 1 1 false false I (fun q : Int => I q) z1.1) (fun x40 => ?_)
        refine dg 22 [(some 82, qe (.own 80 0)), (some 83, qe (.own 40 0)), (some 84, qe (I z1.2.2.2.2.2)), (some 85, qe (.oa 40 0 x33 0)), (some 86, qe (I x34)), (some 87, qe (.own 48 0)), (some 88, qe (I z0.2.2.2.2)), (some 89, qe (.oa 48 0 x35 0)), (some 90, qe (I x36)), (some 91, qe (.own 40 0)), (some 92, qe (I z1.2.2.2.2.2)), (some 93, qe (I (addI .i64 z1.2.2.2.2.2 1))), (some 94, qe (.oa 40 0 x37 0)), (some 95, qe (I x38)), (some 96, qe (.own 40 0)), (some 97, qe (I z1.2.2.2.2.2)), (some 98, qe (.oa 40 0 x39 0)), (some 99, qe (I x40)), (some 100, qe (I (subI .i64 x38 x40))), (some 101, qe (.own 48 0)), (some 102, qe (I z0.2.2.2.2)), (some 103, qe (I (addI .i64 z0.2.2.2.2 1)))] ?_
        refine dv 104 (mkE [(103, I (addI .i64 z0.2.2.2.2 1)), (102, I z0.2.2.2.2), (101, .own 48 0), (1, .fn 73 [.ia [LL a25 p1_c0] 0, .ia [LL a25 p1_c1] 0]), (5, .own 40 0), (6, .own 48 0), (7, .own 56 0), (8, .own 64 0), (9, I z0.2.2.2.2), (10, .own 80 0), (11, I z1.2.2.2.2.2), (12, I (subI .i64 (lenL z1.2.2.2.2.1) 1)), (66, B false)] [(40, RR 3 1 I z1.1 0 false), (48, RR 3 1 I z1.2.1 0 false), (56, RR 26 4 a25 z1.2.2.1 0 false), (64, RR 26 4 a25 z1.2.2.2.1 0 false), (80, RR 26 4 a25 z1.2.2.2.2.1 0 false)] 149) (addrOE 102 3 1 48 0 false I .i64 z1.2.1 (addI .i64 z0.2.2.2.2 1)) (fun x41 => ?_)
        refine dv 105 (mkE [(104, .oa 48 0 x41 0), (103, I (addI .i64 z0.2.2.2.2 1)), (102, I z0.2.2.2.2), (101, .own 48 0), (1, .fn 73 [.ia [LL a25 p1_c0] 0, .ia [LL a25 p1_c1] 0]), (5, .own 40 0), (6, .own 48 0), (7, .own 56 0), (8, .own 64 0), (9, I z0.2.2.2.2), (10, .own 80 0), (11, I z1.2.2.2.2.2), (12, I (subI .i64 (lenL z1.2.2.2.2.1) 1)), (66, B false)] [(40, RR 3 1 I z1.1 0 false), (48, RR 3 1 I z1.2.1 0 false), (56, RR 26 4 a25 z1.2.2.1 0 false), (64, RR 26 4 a25 z1.2.2.2.1 0 false), (80, RR 26 4 a25 z1.2.2.2.2.1 0 false)] 149) (loadOE 3 48 0 x41 0 3 1 1 false false I (fun q : Int => I q) z1.2.1) (fun x42 => ?_)
        refine dg 26 [(some 82, qe (.own 80 0)), (some 83, qe (.own 40 0)), (some 84, qe (I z1.2.2.2.2.2)), (some 85, qe (.oa 40 0 x33 0)), (some 86, qe (I x34)), (some 87, qe (.own 48 0)), (some 88, qe (I z0.2.2.2.2)), (some 89, qe (.oa 48 0 x35 0)), (some 90, qe (I x36)), (some 91, qe (.own 40 0)), (some 92, qe (I z1.2.2.2.2.2)), (some 93, qe (I (addI .i64 z1.2.2.2.2.2 1))), (some 94, qe (.oa 40 0 x37 0)), (some 95, qe (I x38)), (some 96, qe (.own 40 0)), (some 97, qe (I z1.2.2.2.2.2)), (some 98, qe (.oa 40 0 x39 0)), (some 99, qe (I x40)), (some 100, qe (I (subI .i64 x38 x40))), (some 101, qe (.own 48 0)), (some 102, qe (I z0.2.2.2.2)), (some 103, qe (I (addI .i64 z0.2.2.2.2 1))), (some 104, qe (.oa 48 0 x41 0)), (some 105, qe (I x42)), (some 106, qe (.own 48 0)), (some 107, qe (I z0.2.2.2.2))] ?_
        refine dv 108 (mkE [(107, I z0.2.2.2.2), (106, .own 48 0), (1, .fn 73 [.ia [LL a25 p1_c0] 0, .ia [LL a25 p1_c1] 0]), (5, .own 40 0), (6, .own 48 0), (7, .own 56 0), (8, .own 64 0), (9, I z0.2.2.2.2), (10, .own 80 0), (11, I z1.2.2.2.2.2), (12, I (subI .i64 (lenL z1.2.2.2.2.1) 1)), (66, B false)] [(40, RR 3 1 I z1.1 0 false), (48, RR 3 1 I z1.2.1 0 false), (56, RR 26 4 a25 z1.2.2.1 0 false), (64, RR 26 4 a25 z1.2.2.2.1 0 false), (80, RR 26 4 a25 z1.2.2.2.2.1 0 false)] 149) (addrOE 102 3 1 48 0 false I .i64 z1.2.1 z0.2.2.2.2) (fun x43 => ?_)
        refine dv 109 (mkE [(108, .oa 48 0 x43 0), (107, I z0.2.2.2.2), (106, .own 48 0), (1, .fn 73 [.ia [LL a25 p1_c0] 0, .ia [LL a25 p1_c1] 0]), (5, .own 40 0), (6, .own 48 0), (7, .own 56 0), (8, .own 64 0), (9, I z0.2.2.2.2), (10, .own 80 0), (11, I z1.2.2.2.2.2), (12, I (subI .i64 (lenL z1.2.2.2.2.1) 1)), (66, B false)] [(40, RR 3 1 I z1.1 0 false), (48, RR 3 1 I z1.2.1 0 false), (56, RR 26 4 a25 z1.2.2.1 0 false), (64, RR 26 4 a25 z1.2.2.2.1 0 false), (80, RR 26 4 a25 z1.2.2.2.2.1 0 false)] 149) (loadOE 3 48 0 x43 0 3 1 1 false false I (fun q : Int => I q) z1.2.1) (fun x44 => ?_)
        refine dg 31 [(some 82, qe (.own 80 0)), (some 83, qe (.own 40 0)), (some 84, qe (I z1.2.2.2.2.2)), (some 85, qe (.oa 40 0 x33 0)), (some 86, qe (I x34)), (some 87, qe (.own 48 0)), (some 88, qe (I z0.2.2.2.2)), (some 89, qe (.oa 48 0 x35 0)), (some 90, qe (I x36)), (some 91, qe (.own 40 0)), (some 92, qe (I z1.2.2.2.2.2)), (some 93, qe (I (addI .i64 z1.2.2.2.2.2 1))), (some 94, qe (.oa 40 0 x37 0)), (some 95, qe (I x38)), (some 96, qe (.own 40 0)), (some 97, qe (I z1.2.2.2.2.2)), (some 98, qe (.oa 40 0 x39 0)), (some 99, qe (I x40)), (some 100, qe (I (subI .i64 x38 x40))), (some 101, qe (.own 48 0)), (some 102, qe (I z0.2.2.2.2)), (some 103, qe (I (addI .i64 z0.2.2.2.2 1))), (some 104, qe (.oa 48 0 x41 0)), (some 105, qe (I x42)), (some 106, qe (.own 48 0)), (some 107, qe (I z0.2.2.2.2)), (some 108, qe (.oa 48 0 x43 0)), (some 109, qe (I x44)), (some 110, qe (I (subI .i64 x42 x44))), (some 111, qe (.agg [I x34, I x36, I (subI .i64 x38 x40), I (subI .i64 x42 x44)])), (some 112, { e := { val := .own 896 0, news := [(896, RR 26 4 a25 ([(S25.mk x34 x36 (subI .i64 x38 x40) (subI .i64 x42 x44))] : List S25) 0 false)] } })] ?_
        refine de (mkE [(112, .own 896 0), (111, .agg [I x34, I x36, I (subI .i64 x38 x40), I (subI .i64 x42 x44)]), (110, I (subI .i64 x42 x44)), (109, I x44), (108, .oa 48 0 x43 0), (107, I z0.2.2.2.2), (106, .own 48 0), (105, I x42), (104, .oa 48 0 x41 0), (103, I (addI .i64 z0.2.2.2.2 1)), (102, I z0.2.2.2.2), (101, .own 48 0), (100, I (subI .i64 x38 x40)), (99, I x40), (98, .oa 40 0 x39 0), (97, I z1.2.2.2.2.2), (96, .own 40 0), (95, I x38), (94, .oa 40 0 x37 0), (93, I (addI .i64 z1.2.2.2.2.2 1)), (92, I z1.2.2.2.2.2), (91, .own 40 0), (90, I x36), (89, .oa 48 0 x35 0), (88, I z0.2.2.2.2), (87, .own 48 0), (86, I x34), (85, .oa 40 0 x33 0), (84, I z1.2.2.2.2.2), (83, .own 40 0), (82, .own 80 0), (1, .fn 73 [.ia [LL a25 p1_c0] 0, .ia [LL a25 p1_c1] 0]), (5, .own 40 0), (6, .own 48 0), (7, .own 56 0), (8, .own 64 0), (9, I z0.2.2.2.2), (10, .own 80 0), (11, I z1.2.2.2.2.2), (12, I (subI .i64 (lenL z1.2.2.2.2.1) 1)), (66, B false)] [(896, RR 26 4 a25 ([(S25.mk x34 x36 (subI .i64 x38 x40) (subI .i64 x42 x44))] : List S25) 0 false), (40, RR 3 1 I z1.1 0 false), (48, RR 3 1 I z1.2.1 0 false), (56, RR 26 4 a25 z1.2.2.1 0 false), (64, RR 26 4 a25 z1.2.2.2.1 0 false), (80, RR 26 4 a25 z1.2.2.2.2.1 0 false)] 149) ?_
        refine mo (some 113) (apO 42 26 4 32 80 a25 0 [896] (y := .own 896 0) (l2 := ([(S25.mk x34 x36 (subI .i64 x38 x40) (subI .i64 x42 x44))] : List S25))) (fun x45 => ?_)
        refine se (mkE [(1, .fn 73 [.ia [LL a25 p1_c0] 0, .ia [LL a25 p1_c1] 0]), (5, .own 40 0), (6, .own 48 0), (7, .own 56 0), (8, .own 64 0), (9, I z0.2.2.2.2), (10, .own 80 1), (11, I z1.2.2.2.2.2)] [(40, RR 3 1 I z1.1 0 false), (48, RR 3 1 I z1.2.1 0 false), (56, RR 26 4 a25 z1.2.2.1 0 false), (64, RR 26 4 a25 z1.2.2.2.1 0 false), (80, RR 26 4 a25 x45 1 false)] 149) ?_
        refine pB ?_
        refine pN ?_
        refine pS ?_
        refine gR 10 (rg Tryz.f60 10) ?_
        refine se (mkE [(1, .fn 73 [.ia [LL a25 p1_c0] 0, .ia [LL a25 p1_c1] 0]), (5, .own 40 0), (6, .own 48 0), (7, .own 56 0), (8, .own 64 0), (9, I z0.2.2.2.2), (10, .own 80 1), (11, I (addI .i64 z1.2.2.2.2.2 1))] [(40, RR 3 1 I z1.1 0 false), (48, RR 3 1 I z1.2.1 0 false), (56, RR 26 4 a25 z1.2.2.1 0 false), (64, RR 26 4 a25 z1.2.2.2.1 0 false), (80, RR 26 4 a25 x45 1 false)] 149) ?_
        exact pL
  · refine gX 2 ?_
    exact pL
noncomputable def L60_19 (p1_c0 : (List S25)) (p1_c1 : (List S25)) (z0 : ((List Int) × (List Int) × (List S25) × (List S25) × Int)) (y46 : (Int × Bool × (List Int) × (List Int) × (List S25) × (List S25) × (List S25))) (z2 : ((List Int) × (List Int) × (List S25) × (List S25) × (List S25) × Int)) : Option (((List Int) × (List Int) × (List S25) × (List S25) × (List S25) × Int) ⊕ (Int × Bool × (List Int) × (List Int) × (List S25) × (List S25) × (List S25))) := (bif (ltI z2.2.2.2.2.2 (lenL y46.2.2.2.2.2.1)) then ((idxO (List.length z2.2.2.2.1) z2.2.2.2.2.2).bind fun x48 => ((getN z2.2.2.2.1 x48).bind fun x49 => ((idxO (List.length z2.2.2.2.2.1) z2.2.2.2.2.2).bind fun x50 => ((getN z2.2.2.2.2.1 x50).bind fun x51 => ((idxO (List.length z2.2.2.2.1) z2.2.2.2.2.2).bind fun x52 => ((getN z2.2.2.2.1 x52).bind fun x53 => (some (.inl (z2.1, z2.2.1, z2.2.2.1, (List.set z2.2.2.2.1 x52 (S25.mk x53.f0 x53.f1 x53.f2 (addI .i64 x49.f3 x51.f3))), z2.2.2.2.2.1, (addI .i64 z2.2.2.2.2.2 1)))))))))) else (some (.inr (z2.2.2.2.2.2, (ltI z2.2.2.2.2.2 (lenL y46.2.2.2.2.2.1)), z2.1, z2.2.1, z2.2.2.1, z2.2.2.2.1, z2.2.2.2.2.1))))
theorem L60_19_ok (C : Callee) (p1_c0 : (List S25)) (p1_c1 : (List S25)) (z0 : ((List Int) × (List Int) × (List S25) × (List S25) × Int)) (y46 : (Int × Bool × (List Int) × (List Int) × (List S25) × (List S25) × (List S25))) (z2 : ((List Int) × (List Int) × (List S25) × (List S25) × (List S25) × Int)) : runs Tryz.prog C (cfg.fn 60) (finLoop ((cfg.fn 60).keep 19) ((cfg.fn 60).al 19)) [] (execA Tryz.prog C (cfg.fn 60) (nr Tryz.f60 [false, false, true, false, false, true, false, true, true, true, false, false, true, false, false, true, false, true, true, true, true]) ((fun z2 : ((List Int) × (List Int) × (List S25) × (List S25) × (List S25) × Int) => (mkE [(1, .fn 73 [.ia [LL a25 p1_c0] 0, .ia [LL a25 p1_c1] 0]), (5, .own 40 0), (6, .own 48 0), (7, .own 56 0), (8, .own 64 0), (9, I z0.2.2.2.2), (10, .own 80 0), (124, I (lenL y46.2.2.2.2.2.1)), (125, I z2.2.2.2.2.2)] [(40, RR 3 1 I z2.1 0 false), (48, RR 3 1 I z2.2.1 0 false), (56, RR 26 4 a25 z2.2.2.1 0 false), (64, RR 26 4 a25 z2.2.2.2.1 0 false), (80, RR 26 4 a25 z2.2.2.2.2.1 0 false)] 149)) z2)) = (L60_19 p1_c0 p1_c1 z0 y46 z2).map (Sum.elim (fun z => .inl ((fun z2 : ((List Int) × (List Int) × (List S25) × (List S25) × (List S25) × Int) => (mkE [(1, .fn 73 [.ia [LL a25 p1_c0] 0, .ia [LL a25 p1_c1] 0]), (5, .own 40 0), (6, .own 48 0), (7, .own 56 0), (8, .own 64 0), (9, I z0.2.2.2.2), (10, .own 80 0), (124, I (lenL y46.2.2.2.2.2.1)), (125, I z2.2.2.2.2.2)] [(40, RR 3 1 I z2.1 0 false), (48, RR 3 1 I z2.2.1 0 false), (56, RR 26 4 a25 z2.2.2.1 0 false), (64, RR 26 4 a25 z2.2.2.2.1 0 false), (80, RR 26 4 a25 z2.2.2.2.2.1 0 false)] 149)) z)) (fun x => .inr ((fun (x : (Int × Bool × (List Int) × (List Int) × (List S25) × (List S25) × (List S25))) => (.exit 4, (mkE [(1, .fn 73 [.ia [LL a25 p1_c0] 0, .ia [LL a25 p1_c1] 0]), (5, .own 40 0), (6, .own 48 0), (7, .own 56 0), (8, .own 64 0), (9, I z0.2.2.2.2), (10, .own 80 0), (124, I (lenL y46.2.2.2.2.2.1)), (125, I x.1), (126, B x.2.1)] [(40, RR 3 1 I x.2.2.1 0 false), (48, RR 3 1 I x.2.2.2.1 0 false), (56, RR 26 4 a25 x.2.2.2.2.1 0 false), (64, RR 26 4 a25 x.2.2.2.2.2.1 0 false), (80, RR 26 4 a25 x.2.2.2.2.2.2 0 false)] 149))) x))) := by
  unfold L60_19
  refine gS 0 ?_
  refine gR 19 (rg Tryz.f60 19) ?_
  refine se (mkE [(1, .fn 73 [.ia [LL a25 p1_c0] 0, .ia [LL a25 p1_c1] 0]), (5, .own 40 0), (6, .own 48 0), (7, .own 56 0), (8, .own 64 0), (9, I z0.2.2.2.2), (10, .own 80 0), (124, I (lenL y46.2.2.2.2.2.1)), (125, I z2.2.2.2.2.2), (126, B (ltI z2.2.2.2.2.2 (lenL y46.2.2.2.2.2.1)))] [(40, RR 3 1 I z2.1 0 false), (48, RR 3 1 I z2.2.1 0 false), (56, RR 26 4 a25 z2.2.2.1 0 false), (64, RR 26 4 a25 z2.2.2.2.1 0 false), (80, RR 26 4 a25 z2.2.2.2.2.1 0 false)] 149) ?_
  refine pN ?_
  refine pS ?_
  refine gS 20 ?_
  refine gC 126 (ltI z2.2.2.2.2.2 (lenL y46.2.2.2.2.2.1)) ?_ ?_
  · refine gK ?_
    refine pN ?_
    refine pS ?_
    refine gS 22 ?_
    refine gB 5 ?_
    refine gS 21 ?_
    refine gR 20 (rg Tryz.f60 20) ?_
    refine se (mkE [(1, .fn 73 [.ia [LL a25 p1_c0] 0, .ia [LL a25 p1_c1] 0]), (5, .own 40 0), (6, .own 48 0), (7, .own 56 0), (8, .own 64 0), (9, I z0.2.2.2.2), (10, .own 80 0), (14, I z2.2.2.2.2.2), (124, I (lenL y46.2.2.2.2.2.1)), (125, I z2.2.2.2.2.2)] [(40, RR 3 1 I z2.1 0 false), (48, RR 3 1 I z2.2.1 0 false), (56, RR 26 4 a25 z2.2.2.1 0 false), (64, RR 26 4 a25 z2.2.2.2.1 0 false), (80, RR 26 4 a25 z2.2.2.2.2.1 0 false)] 149) ?_
    refine pN ?_
    refine pS ?_
    refine gD 21 13 (rg Tryz.f60 21) [0, 1, 2, 3, 4, 5, 6, 7, 8, 9, 10, 11, 12, 13] ?_
    refine dg 2 [(some 128, qe (.own 64 0)), (some 129, qe (I z2.2.2.2.2.2))] ?_
    refine dv 130 (mkE [(129, I z2.2.2.2.2.2), (128, .own 64 0), (1, .fn 73 [.ia [LL a25 p1_c0] 0, .ia [LL a25 p1_c1] 0]), (5, .own 40 0), (6, .own 48 0), (7, .own 56 0), (8, .own 64 0), (9, I z0.2.2.2.2), (10, .own 80 0), (14, I z2.2.2.2.2.2), (124, I (lenL y46.2.2.2.2.2.1)), (125, I z2.2.2.2.2.2)] [(40, RR 3 1 I z2.1 0 false), (48, RR 3 1 I z2.2.1 0 false), (56, RR 26 4 a25 z2.2.2.1 0 false), (64, RR 26 4 a25 z2.2.2.2.1 0 false), (80, RR 26 4 a25 z2.2.2.2.2.1 0 false)] 149) (addrOE 42 26 4 64 0 false a25 .i64 z2.2.2.2.1 z2.2.2.2.2.2) (fun x48 => ?_)
    refine dg 4 [(some 128, qe (.own 64 0)), (some 129, qe (I z2.2.2.2.2.2)), (some 130, qe (.oa 64 0 x48 0)), (some 131, qe (.oa 64 0 x48 3))] ?_
    refine dv 132 (mkE [(131, .oa 64 0 x48 3), (130, .oa 64 0 x48 0), (129, I z2.2.2.2.2.2), (128, .own 64 0), (1, .fn 73 [.ia [LL a25 p1_c0] 0, .ia [LL a25 p1_c1] 0]), (5, .own 40 0), (6, .own 48 0), (7, .own 56 0), (8, .own 64 0), (9, I z0.2.2.2.2), (10, .own 80 0), (14, I z2.2.2.2.2.2), (124, I (lenL y46.2.2.2.2.2.1)), (125, I z2.2.2.2.2.2)] [(40, RR 3 1 I z2.1 0 false), (48, RR 3 1 I z2.2.1 0 false), (56, RR 26 4 a25 z2.2.2.1 0 false), (64, RR 26 4 a25 z2.2.2.2.1 0 false), (80, RR 26 4 a25 z2.2.2.2.2.1 0 false)] 149) (loadOE 3 64 0 x48 3 26 4 1 false false a25 (fun q : S25 => I q.f3) z2.2.2.2.1) (fun x49 => ?_)
    refine dg 7 [(some 128, qe (.own 64 0)), (some 129, qe (I z2.2.2.2.2.2)), (some 130, qe (.oa 64 0 x48 0)), (some 131, qe (.oa 64 0 x48 3)), (some 132, qe (I x49.f3)), (some 133, qe (.own 80 0)), (some 134, qe (I z2.2.2.2.2.2))] ?_
    refine dv 135 (mkE [(134, I z2.2.2.2.2.2), (133, .own 80 0), (1, .fn 73 [.ia [LL a25 p1_c0] 0, .ia [LL a25 p1_c1] 0]), (5, .own 40 0), (6, .own 48 0), (7, .own 56 0), (8, .own 64 0), (9, I z0.2.2.2.2), (10, .own 80 0), (14, I z2.2.2.2.2.2), (124, I (lenL y46.2.2.2.2.2.1)), (125, I z2.2.2.2.2.2)] [(40, RR 3 1 I z2.1 0 false), (48, RR 3 1 I z2.2.1 0 false), (56, RR 26 4 a25 z2.2.2.1 0 false), (64, RR 26 4 a25 z2.2.2.2.1 0 false), (80, RR 26 4 a25 z2.2.2.2.2.1 0 false)] 149) (addrOE 42 26 4 80 0 false a25 .i64 z2.2.2.2.2.1 z2.2.2.2.2.2) (fun x50 => ?_)
    refine dg 9 [(some 128, qe (.own 64 0)), (some 129, qe (I z2.2.2.2.2.2)), (some 130, qe (.oa 64 0 x48 0)), (some 131, qe (.oa 64 0 x48 3)), (some 132, qe (I x49.f3)), (some 133, qe (.own 80 0)), (some 134, qe (I z2.2.2.2.2.2)), (some 135, qe (.oa 80 0 x50 0)), (some 136, qe (.oa 80 0 x50 3))] ?_
    refine dv 137 (mkE [(136, .oa 80 0 x50 3), (135, .oa 80 0 x50 0), (134, I z2.2.2.2.2.2), (133, .own 80 0), (1, .fn 73 [.ia [LL a25 p1_c0] 0, .ia [LL a25 p1_c1] 0]), (5, .own 40 0), (6, .own 48 0), (7, .own 56 0), (8, .own 64 0), (9, I z0.2.2.2.2), (10, .own 80 0), (14, I z2.2.2.2.2.2), (124, I (lenL y46.2.2.2.2.2.1)), (125, I z2.2.2.2.2.2)] [(40, RR 3 1 I z2.1 0 false), (48, RR 3 1 I z2.2.1 0 false), (56, RR 26 4 a25 z2.2.2.1 0 false), (64, RR 26 4 a25 z2.2.2.2.1 0 false), (80, RR 26 4 a25 z2.2.2.2.2.1 0 false)] 149) (loadOE 3 80 0 x50 3 26 4 1 false false a25 (fun q : S25 => I q.f3) z2.2.2.2.2.1) (fun x51 => ?_)
    refine dg 11 [(some 128, qe (.own 64 0)), (some 129, qe (I z2.2.2.2.2.2)), (some 130, qe (.oa 64 0 x48 0)), (some 131, qe (.oa 64 0 x48 3)), (some 132, qe (I x49.f3)), (some 133, qe (.own 80 0)), (some 134, qe (I z2.2.2.2.2.2)), (some 135, qe (.oa 80 0 x50 0)), (some 136, qe (.oa 80 0 x50 3)), (some 137, qe (I x51.f3)), (some 138, qe (I (addI .i64 x49.f3 x51.f3)))] ?_
    refine dv 139 (mkE [(138, I (addI .i64 x49.f3 x51.f3)), (137, I x51.f3), (136, .oa 80 0 x50 3), (135, .oa 80 0 x50 0), (134, I z2.2.2.2.2.2), (133, .own 80 0), (132, I x49.f3), (131, .oa 64 0 x48 3), (130, .oa 64 0 x48 0), (129, I z2.2.2.2.2.2), (128, .own 64 0), (1, .fn 73 [.ia [LL a25 p1_c0] 0, .ia [LL a25 p1_c1] 0]), (5, .own 40 0), (6, .own 48 0), (7, .own 56 0), (8, .own 64 0), (9, I z0.2.2.2.2), (10, .own 80 0), (14, I z2.2.2.2.2.2), (124, I (lenL y46.2.2.2.2.2.1)), (125, I z2.2.2.2.2.2)] [(40, RR 3 1 I z2.1 0 false), (48, RR 3 1 I z2.2.1 0 false), (56, RR 26 4 a25 z2.2.2.1 0 false), (64, RR 26 4 a25 z2.2.2.2.1 0 false), (80, RR 26 4 a25 z2.2.2.2.2.1 0 false)] 149) (addrOE 42 26 4 64 0 false a25 .i64 z2.2.2.2.1 z2.2.2.2.2.2) (fun x52 => ?_)
    refine dg 13 [(some 128, qe (.own 64 0)), (some 129, qe (I z2.2.2.2.2.2)), (some 130, qe (.oa 64 0 x48 0)), (some 131, qe (.oa 64 0 x48 3)), (some 132, qe (I x49.f3)), (some 133, qe (.own 80 0)), (some 134, qe (I z2.2.2.2.2.2)), (some 135, qe (.oa 80 0 x50 0)), (some 136, qe (.oa 80 0 x50 3)), (some 137, qe (I x51.f3)), (some 138, qe (I (addI .i64 x49.f3 x51.f3))), (some 139, qe (.oa 64 0 x52 0)), (some 140, qe (.oa 64 0 x52 3))] ?_
    refine de (mkE [(140, .oa 64 0 x52 3), (139, .oa 64 0 x52 0), (138, I (addI .i64 x49.f3 x51.f3)), (137, I x51.f3), (136, .oa 80 0 x50 3), (135, .oa 80 0 x50 0), (134, I z2.2.2.2.2.2), (133, .own 80 0), (132, I x49.f3), (131, .oa 64 0 x48 3), (130, .oa 64 0 x48 0), (129, I z2.2.2.2.2.2), (128, .own 64 0), (1, .fn 73 [.ia [LL a25 p1_c0] 0, .ia [LL a25 p1_c1] 0]), (5, .own 40 0), (6, .own 48 0), (7, .own 56 0), (8, .own 64 0), (9, I z0.2.2.2.2), (10, .own 80 0), (14, I z2.2.2.2.2.2), (124, I (lenL y46.2.2.2.2.2.1)), (125, I z2.2.2.2.2.2)] [(40, RR 3 1 I z2.1 0 false), (48, RR 3 1 I z2.2.1 0 false), (56, RR 26 4 a25 z2.2.2.1 0 false), (64, RR 26 4 a25 z2.2.2.2.1 0 false), (80, RR 26 4 a25 z2.2.2.2.2.1 0 false)] 149) ?_
    refine mo none (stO 26 4 64 0 x52 3 a25 z2.2.2.2.1 [] [I (addI .i64 x49.f3 x51.f3)] (I (addI .i64 x49.f3 x51.f3)) (fun q : S25 => (S25.mk q.f0 q.f1 q.f2 (addI .i64 x49.f3 x51.f3))) 3 (.tmp 140) (.tmp 138) 1) (fun x53 => ?_)
    refine se (mkE [(1, .fn 73 [.ia [LL a25 p1_c0] 0, .ia [LL a25 p1_c1] 0]), (5, .own 40 0), (6, .own 48 0), (7, .own 56 0), (8, .own 64 0), (9, I z0.2.2.2.2), (10, .own 80 0), (124, I (lenL y46.2.2.2.2.2.1)), (125, I z2.2.2.2.2.2)] [(40, RR 3 1 I z2.1 0 false), (48, RR 3 1 I z2.2.1 0 false), (56, RR 26 4 a25 z2.2.2.1 0 false), (64, RR 26 4 a25 (List.set z2.2.2.2.1 x52 (S25.mk x53.f0 x53.f1 x53.f2 (addI .i64 x49.f3 x51.f3))) 0 false), (80, RR 26 4 a25 z2.2.2.2.2.1 0 false)] 149) ?_
    refine pB ?_
    refine pN ?_
    refine pS ?_
    refine gR 22 (rg Tryz.f60 22) ?_
    refine se (mkE [(1, .fn 73 [.ia [LL a25 p1_c0] 0, .ia [LL a25 p1_c1] 0]), (5, .own 40 0), (6, .own 48 0), (7, .own 56 0), (8, .own 64 0), (9, I z0.2.2.2.2), (10, .own 80 0), (124, I (lenL y46.2.2.2.2.2.1)), (125, I (addI .i64 z2.2.2.2.2.2 1))] [(40, RR 3 1 I z2.1 0 false), (48, RR 3 1 I z2.2.1 0 false), (56, RR 26 4 a25 z2.2.2.1 0 false), (64, RR 26 4 a25 (List.set z2.2.2.2.1 x52 (S25.mk x53.f0 x53.f1 x53.f2 (addI .i64 x49.f3 x51.f3))) 0 false), (80, RR 26 4 a25 z2.2.2.2.2.1 0 false)] 149) ?_
    exact pL
  · refine gX 4 ?_
    exact pL
noncomputable def L60_5 (p1_c0 : (List S25)) (p1_c1 : (List S25)) (z0 : ((List Int) × (List Int) × (List S25) × (List S25) × Int)) : Option (((List Int) × (List Int) × (List S25) × (List S25) × Int) ⊕ (Int × Bool × (List Int) × (List Int) × (List S25) × (List S25))) := (bif (ltI (addI .i64 z0.2.2.2.2 1) (lenL z0.2.1)) then ((iter (L60_9 p1_c0 p1_c1 z0) (z0.1, z0.2.1, z0.2.2.1, z0.2.2.2.1, [], 0)).bind fun y46 => ((T82 y46.2.2.2.2.2.2 y46.2.2.2.2.2.1).bind fun x47 => (bif x47 then (bif (ltI 0 (lenL y46.2.2.2.2.2.2)) then ((iter (L60_19 p1_c0 p1_c1 z0 y46) (y46.2.2.1, y46.2.2.2.1, y46.2.2.2.2.1, y46.2.2.2.2.2.1, y46.2.2.2.2.2.2, 0)).bind fun y54 => (some (.inl (y54.2.2.1, y54.2.2.2.1, y54.2.2.2.2.1, y54.2.2.2.2.2.1, (addI .i64 z0.2.2.2.2 1))))) else ((appO 32 y46.2.2.2.2.1 y46.2.2.2.2.2.1).bind fun x55 => (some (.inl (y46.2.2.1, y46.2.2.2.1, x55, y46.2.2.2.2.2.2, (addI .i64 z0.2.2.2.2 1)))))) else ((appO 32 y46.2.2.2.2.1 y46.2.2.2.2.2.1).bind fun x56 => (some (.inl (y46.2.2.1, y46.2.2.2.1, x56, y46.2.2.2.2.2.2, (addI .i64 z0.2.2.2.2 1)))))))) else (some (.inr (z0.2.2.2.2, (ltI (addI .i64 z0.2.2.2.2 1) (lenL z0.2.1)), z0.1, z0.2.1, z0.2.2.1, z0.2.2.2.1))))
theorem L60_5_ok (C : Callee) (h73 : ∀ (p0 : Int) (p1 : Int) (p2_c0 : (List S25)) (p3_c0 : (List S25)), C 73 [I p0, I p1, .ia [LL a25 p2_c0] 0, .ia [LL a25 p3_c0] 0] = (T73 p0 p1 p2_c0 p3_c0).map B) (h82 : ∀ (p0 : (List S25)) (p1 : (List S25)), C 82 [LL a25 p0, LL a25 p1, .fn 83 []] = (T82 p0 p1).map B) (p1_c0 : (List S25)) (p1_c1 : (List S25)) (z0 : ((List Int) × (List Int) × (List S25) × (List S25) × Int)) : runs Tryz.prog C (cfg.fn 60) (finLoop ((cfg.fn 60).keep 5) ((cfg.fn 60).al 5)) [] (execA Tryz.prog C (cfg.fn 60) (nr Tryz.f60 [false, false, true, false, true, true, true, true]) ((fun z0 : ((List Int) × (List Int) × (List S25) × (List S25) × Int) => (mkE [(1, .fn 73 [.ia [LL a25 p1_c0] 0, .ia [LL a25 p1_c1] 0]), (5, .own 40 0), (6, .own 48 0), (7, .own 56 0), (8, .own 64 0), (9, I z0.2.2.2.2)] [(40, RR 3 1 I z0.1 0 false), (48, RR 3 1 I z0.2.1 0 false), (56, RR 26 4 a25 z0.2.2.1 0 false), (64, RR 26 4 a25 z0.2.2.2.1 0 false)] 149)) z0)) = (L60_5 p1_c0 p1_c1 z0).map (Sum.elim (fun z => .inl ((fun z0 : ((List Int) × (List Int) × (List S25) × (List S25) × Int) => (mkE [(1, .fn 73 [.ia [LL a25 p1_c0] 0, .ia [LL a25 p1_c1] 0]), (5, .own 40 0), (6, .own 48 0), (7, .own 56 0), (8, .own 64 0), (9, I z0.2.2.2.2)] [(40, RR 3 1 I z0.1 0 false), (48, RR 3 1 I z0.2.1 0 false), (56, RR 26 4 a25 z0.2.2.1 0 false), (64, RR 26 4 a25 z0.2.2.2.1 0 false)] 149)) z)) (fun x => .inr ((fun (x : (Int × Bool × (List Int) × (List Int) × (List S25) × (List S25))) => (.exit 0, (mkE [(1, .fn 73 [.ia [LL a25 p1_c0] 0, .ia [LL a25 p1_c1] 0]), (5, .own 40 0), (6, .own 48 0), (7, .own 56 0), (8, .own 64 0), (9, I x.1), (23, B x.2.1)] [(40, RR 3 1 I x.2.2.1 0 false), (48, RR 3 1 I x.2.2.2.1 0 false), (56, RR 26 4 a25 x.2.2.2.2.1 0 false), (64, RR 26 4 a25 x.2.2.2.2.2 0 false)] 149))) x))) := by
  unfold L60_5
  refine gS 7 ?_
  refine gS 0 ?_
  refine gR 5 (rg Tryz.f60 5) ?_
  refine sg 3 (mkE [(21, .own 48 0), (20, I (addI .i64 z0.2.2.2.2 1)), (19, I z0.2.2.2.2), (1, .fn 73 [.ia [LL a25 p1_c0] 0, .ia [LL a25 p1_c1] 0]), (5, .own 40 0), (6, .own 48 0), (7, .own 56 0), (8, .own 64 0), (9, I z0.2.2.2.2)] [(40, RR 3 1 I z0.1 0 false), (48, RR 3 1 I z0.2.1 0 false), (56, RR 26 4 a25 z0.2.2.1 0 false), (64, RR 26 4 a25 z0.2.2.2.1 0 false)] 149) ?_
  refine eo 22 (I (lenL z0.2.1)) (lenOE 102 3 1 I z0.2.1) ?_
  refine se (mkE [(1, .fn 73 [.ia [LL a25 p1_c0] 0, .ia [LL a25 p1_c1] 0]), (5, .own 40 0), (6, .own 48 0), (7, .own 56 0), (8, .own 64 0), (9, I z0.2.2.2.2), (23, B (ltI (addI .i64 z0.2.2.2.2 1) (lenL z0.2.1)))] [(40, RR 3 1 I z0.1 0 false), (48, RR 3 1 I z0.2.1 0 false), (56, RR 26 4 a25 z0.2.2.1 0 false), (64, RR 26 4 a25 z0.2.2.2.1 0 false)] 149) ?_
  refine pN ?_
  refine pS ?_
  refine gC 23 (ltI (addI .i64 z0.2.2.2.2 1) (lenL z0.2.1)) ?_ ?_
  · refine gK ?_
    refine pN ?_
    refine pS ?_
    refine gS 6 ?_
    refine gB 1 ?_
    refine gS 8 ?_
    refine gR 7 (rg Tryz.f60 7) ?_
    refine se (mkE [(1, .fn 73 [.ia [LL a25 p1_c0] 0, .ia [LL a25 p1_c1] 0]), (5, .own 40 0), (6, .own 48 0), (7, .own 56 0), (8, .own 64 0), (9, I z0.2.2.2.2), (10, .nils)] [(40, RR 3 1 I z0.1 0 false), (48, RR 3 1 I z0.2.1 0 false), (56, RR 26 4 a25 z0.2.2.1 0 false), (64, RR 26 4 a25 z0.2.2.2.1 0 false)] 149) ?_
    refine pN ?_
    refine pS ?_
    refine gS 16 ?_
    refine gS 9 ?_
    refine gR 8 (rg Tryz.f60 8) ?_
    refine se (mkE [(1, .fn 73 [.ia [LL a25 p1_c0] 0, .ia [LL a25 p1_c1] 0]), (5, .own 40 0), (6, .own 48 0), (7, .own 56 0), (8, .own 64 0), (9, I z0.2.2.2.2), (10, .nils), (11, I 0)] [(40, RR 3 1 I z0.1 0 false), (48, RR 3 1 I z0.2.1 0 false), (56, RR 26 4 a25 z0.2.2.1 0 false), (64, RR 26 4 a25 z0.2.2.2.1 0 false)] 149) ?_
    refine pN ?_
    refine pS ?_
    refine gB 2 ?_
    refine lo [(1, none), (5, some (3, 1)), (6, some (3, 1)), (7, some (26, 4)), (8, some (26, 4)), (9, none), (10, some (26, 4)), (11, none)] [] (L60_9 p1_c0 p1_c1 z0) (fun z1 : ((List Int) × (List Int) × (List S25) × (List S25) × (List S25) × Int) => (mkE [(1, .fn 73 [.ia [LL a25 p1_c0] 0, .ia [LL a25 p1_c1] 0]), (5, .own 40 0), (6, .own 48 0), (7, .own 56 0), (8, .own 64 0), (9, I z0.2.2.2.2), (10, .own 80 0), (11, I z1.2.2.2.2.2)] [(40, RR 3 1 I z1.1 0 false), (48, RR 3 1 I z1.2.1 0 false), (56, RR 26 4 a25 z1.2.2.1 0 false), (64, RR 26 4 a25 z1.2.2.2.1 0 false), (80, RR 26 4 a25 z1.2.2.2.2.1 0 false)] 149)) (fun (x : (Int × Bool × (List Int) × (List Int) × (List S25) × (List S25) × (List S25))) => (.exit 2, (mkE [(1, .fn 73 [.ia [LL a25 p1_c0] 0, .ia [LL a25 p1_c1] 0]), (5, .own 40 0), (6, .own 48 0), (7, .own 56 0), (8, .own 64 0), (9, I z0.2.2.2.2), (10, .own 80 0), (11, I x.1), (30, B x.2.1)] [(40, RR 3 1 I x.2.2.1 0 false), (48, RR 3 1 I x.2.2.2.1 0 false), (56, RR 26 4 a25 x.2.2.2.2.1 0 false), (64, RR 26 4 a25 x.2.2.2.2.2.1 0 false), (80, RR 26 4 a25 x.2.2.2.2.2.2 0 false)] 149))) (z0.1, z0.2.1, z0.2.2.1, z0.2.2.2.1, [], 0) (fun z => L60_9_ok C h73 p1_c0 p1_c1 z0 z) ?_
    intro y46
    refine pH ?_
    refine pN ?_
    refine pS ?_
    refine gS 17 ?_
    refine gR 16 (rg Tryz.f60 16) ?_
    refine sg 2 (mkE [(115, .own 64 0), (114, .own 80 0), (1, .fn 73 [.ia [LL a25 p1_c0] 0, .ia [LL a25 p1_c1] 0]), (5, .own 40 0), (6, .own 48 0), (7, .own 56 0), (8, .own 64 0), (9, I z0.2.2.2.2), (10, .own 80 0), (11, I y46.1), (30, B y46.2.1)] [(40, RR 3 1 I y46.2.2.1 0 false), (48, RR 3 1 I y46.2.2.2.1 0 false), (56, RR 26 4 a25 y46.2.2.2.2.1 0 false), (64, RR 26 4 a25 y46.2.2.2.2.2.1 0 false), (80, RR 26 4 a25 y46.2.2.2.2.2.2 0 false)] 149) ?_
    refine co 116 [80, 64] (h82 y46.2.2.2.2.2.2 y46.2.2.2.2.2.1) (fun x47 => ?_)
    refine se (mkE [(1, .fn 73 [.ia [LL a25 p1_c0] 0, .ia [LL a25 p1_c1] 0]), (5, .own 40 0), (6, .own 48 0), (7, .own 56 0), (8, .own 64 0), (9, I z0.2.2.2.2), (10, .own 80 0), (13, B x47)] [(40, RR 3 1 I y46.2.2.1 0 false), (48, RR 3 1 I y46.2.2.2.1 0 false), (56, RR 26 4 a25 y46.2.2.2.2.1 0 false), (64, RR 26 4 a25 y46.2.2.2.2.2.1 0 false), (80, RR 26 4 a25 y46.2.2.2.2.2.2 0 false)] 149) ?_
    refine pN ?_
    refine pS ?_
    refine gS 23 ?_
    refine gS 0 ?_
    refine gR 17 (rg Tryz.f60 17) ?_
    refine sg 2 (mkE [(118, B x47), (117, B x47), (1, .fn 73 [.ia [LL a25 p1_c0] 0, .ia [LL a25 p1_c1] 0]), (5, .own 40 0), (6, .own 48 0), (7, .own 56 0), (8, .own 64 0), (9, I z0.2.2.2.2), (10, .own 80 0), (13, B x47)] [(40, RR 3 1 I y46.2.2.1 0 false), (48, RR 3 1 I y46.2.2.2.1 0 false), (56, RR 26 4 a25 y46.2.2.2.2.1 0 false), (64, RR 26 4 a25 y46.2.2.2.2.2.1 0 false), (80, RR 26 4 a25 y46.2.2.2.2.2.2 0 false)] 149) ?_
    refine sb 118 x47 ?_ ?_
    · refine sg 3 (mkE [(119, .own 80 0), (118, B true), (118, B x47), (117, B x47), (1, .fn 73 [.ia [LL a25 p1_c0] 0, .ia [LL a25 p1_c1] 0]), (5, .own 40 0), (6, .own 48 0), (7, .own 56 0), (8, .own 64 0), (9, I z0.2.2.2.2), (10, .own 80 0), (13, B x47)] [(40, RR 3 1 I y46.2.2.1 0 false), (48, RR 3 1 I y46.2.2.2.1 0 false), (56, RR 26 4 a25 y46.2.2.2.2.1 0 false), (64, RR 26 4 a25 y46.2.2.2.2.2.1 0 false), (80, RR 26 4 a25 y46.2.2.2.2.2.2 0 false)] 149) ?_
      refine eo 120 (I (lenL y46.2.2.2.2.2.2)) (lenOE 42 26 4 a25 y46.2.2.2.2.2.2) ?_
      refine se (mkE [(1, .fn 73 [.ia [LL a25 p1_c0] 0, .ia [LL a25 p1_c1] 0]), (5, .own 40 0), (6, .own 48 0), (7, .own 56 0), (8, .own 64 0), (9, I z0.2.2.2.2), (10, .own 80 0), (122, B (ltI 0 (lenL y46.2.2.2.2.2.2)))] [(40, RR 3 1 I y46.2.2.1 0 false), (48, RR 3 1 I y46.2.2.2.1 0 false), (56, RR 26 4 a25 y46.2.2.2.2.1 0 false), (64, RR 26 4 a25 y46.2.2.2.2.2.1 0 false), (80, RR 26 4 a25 y46.2.2.2.2.2.2 0 false)] 149) ?_
      refine pN ?_
      refine pS ?_
      refine gC 122 (ltI 0 (lenL y46.2.2.2.2.2.2)) ?_ ?_
      · refine gS 0 ?_
        refine gS 19 ?_
        refine gR 18 (rg Tryz.f60 18) ?_
        refine sg 1 (mkE [(123, .own 64 0), (1, .fn 73 [.ia [LL a25 p1_c0] 0, .ia [LL a25 p1_c1] 0]), (5, .own 40 0), (6, .own 48 0), (7, .own 56 0), (8, .own 64 0), (9, I z0.2.2.2.2), (10, .own 80 0), (122, B (ltI 0 (lenL y46.2.2.2.2.2.2)))] [(40, RR 3 1 I y46.2.2.1 0 false), (48, RR 3 1 I y46.2.2.2.1 0 false), (56, RR 26 4 a25 y46.2.2.2.2.1 0 false), (64, RR 26 4 a25 y46.2.2.2.2.2.1 0 false), (80, RR 26 4 a25 y46.2.2.2.2.2.2 0 false)] 149) ?_
        refine eo 124 (I (lenL y46.2.2.2.2.2.1)) (lenOE 42 26 4 a25 y46.2.2.2.2.2.1) ?_
        refine se (mkE [(1, .fn 73 [.ia [LL a25 p1_c0] 0, .ia [LL a25 p1_c1] 0]), (5, .own 40 0), (6, .own 48 0), (7, .own 56 0), (8, .own 64 0), (9, I z0.2.2.2.2), (10, .own 80 0), (124, I (lenL y46.2.2.2.2.2.1)), (125, I 0)] [(40, RR 3 1 I y46.2.2.1 0 false), (48, RR 3 1 I y46.2.2.2.1 0 false), (56, RR 26 4 a25 y46.2.2.2.2.1 0 false), (64, RR 26 4 a25 y46.2.2.2.2.2.1 0 false), (80, RR 26 4 a25 y46.2.2.2.2.2.2 0 false)] 149) ?_
        refine pN ?_
        refine pS ?_
        refine gB 4 ?_
        refine lo [(1, none), (5, some (3, 1)), (6, some (3, 1)), (7, some (26, 4)), (8, some (26, 4)), (9, none), (10, some (26, 4)), (124, none), (125, none)] [] (L60_19 p1_c0 p1_c1 z0 y46) (fun z2 : ((List Int) × (List Int) × (List S25) × (List S25) × (List S25) × Int) => (mkE [(1, .fn 73 [.ia [LL a25 p1_c0] 0, .ia [LL a25 p1_c1] 0]), (5, .own 40 0), (6, .own 48 0), (7, .own 56 0), (8, .own 64 0), (9, I z0.2.2.2.2), (10, .own 80 0), (124, I (lenL y46.2.2.2.2.2.1)), (125, I z2.2.2.2.2.2)] [(40, RR 3 1 I z2.1 0 false), (48, RR 3 1 I z2.2.1 0 false), (56, RR 26 4 a25 z2.2.2.1 0 false), (64, RR 26 4 a25 z2.2.2.2.1 0 false), (80, RR 26 4 a25 z2.2.2.2.2.1 0 false)] 149)) (fun (x : (Int × Bool × (List Int) × (List Int) × (List S25) × (List S25) × (List S25))) => (.exit 4, (mkE [(1, .fn 73 [.ia [LL a25 p1_c0] 0, .ia [LL a25 p1_c1] 0]), (5, .own 40 0), (6, .own 48 0), (7, .own 56 0), (8, .own 64 0), (9, I z0.2.2.2.2), (10, .own 80 0), (124, I (lenL y46.2.2.2.2.2.1)), (125, I x.1), (126, B x.2.1)] [(40, RR 3 1 I x.2.2.1 0 false), (48, RR 3 1 I x.2.2.2.1 0 false), (56, RR 26 4 a25 x.2.2.2.2.1 0 false), (64, RR 26 4 a25 x.2.2.2.2.2.1 0 false), (80, RR 26 4 a25 x.2.2.2.2.2.2 0 false)] 149))) (y46.2.2.1, y46.2.2.2.1, y46.2.2.2.2.1, y46.2.2.2.2.2.1, y46.2.2.2.2.2.2, 0) (fun z => L60_19_ok C p1_c0 p1_c1 z0 y46 z) ?_
        intro y54
        refine pH ?_
        refine pN ?_
        refine pS ?_
        refine gX 1 ?_
        refine pF ?_
        refine pO ?_
        refine pH ?_
        refine pN ?_
        refine pS ?_
        refine gR 6 (rg Tryz.f60 6) ?_
        refine se (mkE [(1, .fn 73 [.ia [LL a25 p1_c0] 0, .ia [LL a25 p1_c1] 0]), (5, .own 40 0), (6, .own 48 0), (7, .own 56 0), (8, .own 64 0), (9, I (addI .i64 z0.2.2.2.2 1))] [(40, RR 3 1 I y54.2.2.1 0 false), (48, RR 3 1 I y54.2.2.2.1 0 false), (56, RR 26 4 a25 y54.2.2.2.2.1 0 false), (64, RR 26 4 a25 y54.2.2.2.2.2.1 0 false), (80, RR 26 4 a25 y54.2.2.2.2.2.2 0 false)] 149) ?_
        exact pL
      · refine gK ?_
        refine pN ?_
        refine pS ?_
        refine gR 23 (rg Tryz.f60 23) ?_
        refine sg 2 (mkE [(143, .own 64 0), (142, .own 56 0), (1, .fn 73 [.ia [LL a25 p1_c0] 0, .ia [LL a25 p1_c1] 0]), (5, .own 40 0), (6, .own 48 0), (7, .own 56 0), (8, .own 64 0), (9, I z0.2.2.2.2), (10, .own 80 0), (122, B (ltI 0 (lenL y46.2.2.2.2.2.2)))] [(40, RR 3 1 I y46.2.2.1 0 false), (48, RR 3 1 I y46.2.2.2.1 0 false), (56, RR 26 4 a25 y46.2.2.2.2.1 0 false), (64, RR 26 4 a25 y46.2.2.2.2.2.1 0 false), (80, RR 26 4 a25 y46.2.2.2.2.2.2 0 false)] 149) ?_
        refine mo (some 144) (apO 42 26 4 32 56 a25 0 [64] (y := .own 64 0) (l2 := y46.2.2.2.2.2.1)) (fun x55 => ?_)
        refine se (mkE [(1, .fn 73 [.ia [LL a25 p1_c0] 0, .ia [LL a25 p1_c1] 0]), (5, .own 40 0), (6, .own 48 0), (7, .own 56 1), (8, .own 80 0), (9, I z0.2.2.2.2)] [(40, RR 3 1 I y46.2.2.1 0 false), (48, RR 3 1 I y46.2.2.2.1 0 false), (56, RR 26 4 a25 x55 1 false), (80, RR 26 4 a25 y46.2.2.2.2.2.2 0 false)] 149) ?_
        refine pB ?_
        refine pN ?_
        refine pS ?_
        refine gR 6 (rg Tryz.f60 6) ?_
        refine se (mkE [(1, .fn 73 [.ia [LL a25 p1_c0] 0, .ia [LL a25 p1_c1] 0]), (5, .own 40 0), (6, .own 48 0), (7, .own 56 1), (8, .own 80 0), (9, I (addI .i64 z0.2.2.2.2 1))] [(40, RR 3 1 I y46.2.2.1 0 false), (48, RR 3 1 I y46.2.2.2.1 0 false), (56, RR 26 4 a25 x55 1 false), (80, RR 26 4 a25 y46.2.2.2.2.2.2 0 false)] 149) ?_
        exact pL
    · refine se (mkE [(1, .fn 73 [.ia [LL a25 p1_c0] 0, .ia [LL a25 p1_c1] 0]), (5, .own 40 0), (6, .own 48 0), (7, .own 56 0), (8, .own 64 0), (9, I z0.2.2.2.2), (10, .own 80 0), (122, B false)] [(40, RR 3 1 I y46.2.2.1 0 false), (48, RR 3 1 I y46.2.2.2.1 0 false), (56, RR 26 4 a25 y46.2.2.2.2.1 0 false), (64, RR 26 4 a25 y46.2.2.2.2.2.1 0 false), (80, RR 26 4 a25 y46.2.2.2.2.2.2 0 false)] 149) ?_
      refine pN ?_
      refine pS ?_
      refine gF (.tmp 122) ?_
      refine gK ?_
      refine pN ?_
      refine pS ?_
      refine gR 23 (rg Tryz.f60 23) ?_
      refine sg 2 (mkE [(143, .own 64 0), (142, .own 56 0), (1, .fn 73 [.ia [LL a25 p1_c0] 0, .ia [LL a25 p1_c1] 0]), (5, .own 40 0), (6, .own 48 0), (7, .own 56 0), (8, .own 64 0), (9, I z0.2.2.2.2), (10, .own 80 0), (122, B false)] [(40, RR 3 1 I y46.2.2.1 0 false), (48, RR 3 1 I y46.2.2.2.1 0 false), (56, RR 26 4 a25 y46.2.2.2.2.1 0 false), (64, RR 26 4 a25 y46.2.2.2.2.2.1 0 false), (80, RR 26 4 a25 y46.2.2.2.2.2.2 0 false)] 149) ?_
      refine mo (some 144) (apO 42 26 4 32 56 a25 0 [64] (y := .own 64 0) (l2 := y46.2.2.2.2.2.1)) (fun x56 => ?_)
      refine se (mkE [(1, .fn 73 [.ia [LL a25 p1_c0] 0, .ia [LL a25 p1_c1] 0]), (5, .own 40 0), (6, .own 48 0), (7, .own 56 1), (8, .own 80 0), (9, I z0.2.2.2.2)] [(40, RR 3 1 I y46.2.2.1 0 false), (48, RR 3 1 I y46.2.2.2.1 0 false), (56, RR 26 4 a25 x56 1 false), (80, RR 26 4 a25 y46.2.2.2.2.2.2 0 false)] 149) ?_
      refine pB ?_
      refine pN ?_
      refine pS ?_
      refine gR 6 (rg Tryz.f60 6) ?_
      refine se (mkE [(1, .fn 73 [.ia [LL a25 p1_c0] 0, .ia [LL a25 p1_c1] 0]), (5, .own 40 0), (6, .own 48 0), (7, .own 56 1), (8, .own 80 0), (9, I (addI .i64 z0.2.2.2.2 1))] [(40, RR 3 1 I y46.2.2.1 0 false), (48, RR 3 1 I y46.2.2.2.1 0 false), (56, RR 26 4 a25 x56 1 false), (80, RR 26 4 a25 y46.2.2.2.2.2.2 0 false)] 149) ?_
      exact pL
  · refine gX 0 ?_
    exact pL
noncomputable def T60 (p0 : (List S25)) (p1_c0 : (List S25)) (p1_c1 : (List S25)) : Option (List S25) := ((T79 p0).bind fun x1 => ((T79_1 p0).bind fun x2 => ((iter (L60_5 p1_c0 p1_c1) (x1, x2, [], [], 0)).bind fun y57 => ((appO 32 y57.2.2.2.2.1 y57.2.2.2.2.2).bind fun x58 => (some x58)))))
theorem B60 (C : Callee) (h73 : ∀ (p0 : Int) (p1 : Int) (p2_c0 : (List S25)) (p3_c0 : (List S25)), C 73 [I p0, I p1, .ia [LL a25 p2_c0] 0, .ia [LL a25 p3_c0] 0] = (T73 p0 p1 p2_c0 p3_c0).map B) (h79 : ∀ (p0 : (List S25)), C 79 [LL a25 p0, .fn 80 []] = (T79 p0).map (fun l => AV.fr 3 1 (List.map I l))) (h79_1 : ∀ (p0 : (List S25)), C 79 [LL a25 p0, .fn 81 []] = (T79_1 p0).map (fun l => AV.fr 3 1 (List.map I l))) (h82 : ∀ (p0 : (List S25)) (p1 : (List S25)), C 82 [LL a25 p0, LL a25 p1, .fn 83 []] = (T82 p0 p1).map B) (p0 : (List S25)) (p1_c0 : (List S25)) (p1_c1 : (List S25)) : runs Tryz.prog C (cfg.fn 60) (finFn Tryz.prog (cfg.fn 60).byval Tryz.f60) [] (execA Tryz.prog C (cfg.fn 60) (nr Tryz.f60 []) (frame0 [LL a25 p0, .fn 73 [.ia [LL a25 p1_c0] 0, .ia [LL a25 p1_c1] 0]] 149 false)) = (T60 p0 p1_c0 p1_c1).map (fun l => AV.fr 26 4 (List.map a25 l)) := by
  unfold T60
  refine gS 1 ?_
  refine gR 0 (rg Tryz.f60 0) ?_
  refine se (mkE [(0, LL a25 p0), (1, .fn 73 [.ia [LL a25 p1_c0] 0, .ia [LL a25 p1_c1] 0])] [] 149) ?_
  refine pN ?_
  refine pS ?_
  refine gS 2 ?_
  refine gR 1 (rg Tryz.f60 1) ?_
  refine sg 1 (mkE [(15, LL a25 p0), (0, LL a25 p0), (1, .fn 73 [.ia [LL a25 p1_c0] 0, .ia [LL a25 p1_c1] 0])] [] 149) ?_
  refine co 16 [] (h79 p0) (fun x1 => ?_)
  refine se (mkE [(0, LL a25 p0), (1, .fn 73 [.ia [LL a25 p1_c0] 0, .ia [LL a25 p1_c1] 0]), (5, .own 128 0)] [(128, RR 3 1 I x1 0 false)] 149) ?_
  refine pN ?_
  refine pS ?_
  refine gS 3 ?_
  refine gR 2 (rg Tryz.f60 2) ?_
  refine sg 1 (mkE [(17, LL a25 p0), (0, LL a25 p0), (1, .fn 73 [.ia [LL a25 p1_c0] 0, .ia [LL a25 p1_c1] 0]), (5, .own 128 0)] [(128, RR 3 1 I x1 0 false)] 149) ?_
  refine co 18 [] (h79_1 p0) (fun x2 => ?_)
  refine se (mkE [(1, .fn 73 [.ia [LL a25 p1_c0] 0, .ia [LL a25 p1_c1] 0]), (5, .own 128 0), (6, .own 144 0)] [(128, RR 3 1 I x1 0 false), (144, RR 3 1 I x2 0 false)] 149) ?_
  refine pN ?_
  refine pS ?_
  refine gS 4 ?_
  refine gR 3 (rg Tryz.f60 3) ?_
  refine se (mkE [(1, .fn 73 [.ia [LL a25 p1_c0] 0, .ia [LL a25 p1_c1] 0]), (5, .own 128 0), (6, .own 144 0), (7, .nils), (8, .nils)] [(128, RR 3 1 I x1 0 false), (144, RR 3 1 I x2 0 false)] 149) ?_
  refine pN ?_
  refine pS ?_
  refine gS 24 ?_
  refine gS 5 ?_
  refine gR 4 (rg Tryz.f60 4) ?_
  refine se (mkE [(1, .fn 73 [.ia [LL a25 p1_c0] 0, .ia [LL a25 p1_c1] 0]), (5, .own 128 0), (6, .own 144 0), (7, .nils), (8, .nils), (9, I 0)] [(128, RR 3 1 I x1 0 false), (144, RR 3 1 I x2 0 false)] 149) ?_
  refine pN ?_
  refine pS ?_
  refine gB 0 ?_
  refine lo [(1, none), (5, some (3, 1)), (6, some (3, 1)), (7, some (26, 4)), (8, some (26, 4)), (9, none)] [] (L60_5 p1_c0 p1_c1) (fun z0 : ((List Int) × (List Int) × (List S25) × (List S25) × Int) => (mkE [(1, .fn 73 [.ia [LL a25 p1_c0] 0, .ia [LL a25 p1_c1] 0]), (5, .own 40 0), (6, .own 48 0), (7, .own 56 0), (8, .own 64 0), (9, I z0.2.2.2.2)] [(40, RR 3 1 I z0.1 0 false), (48, RR 3 1 I z0.2.1 0 false), (56, RR 26 4 a25 z0.2.2.1 0 false), (64, RR 26 4 a25 z0.2.2.2.1 0 false)] 149)) (fun (x : (Int × Bool × (List Int) × (List Int) × (List S25) × (List S25))) => (.exit 0, (mkE [(1, .fn 73 [.ia [LL a25 p1_c0] 0, .ia [LL a25 p1_c1] 0]), (5, .own 40 0), (6, .own 48 0), (7, .own 56 0), (8, .own 64 0), (9, I x.1), (23, B x.2.1)] [(40, RR 3 1 I x.2.2.1 0 false), (48, RR 3 1 I x.2.2.2.1 0 false), (56, RR 26 4 a25 x.2.2.2.2.1 0 false), (64, RR 26 4 a25 x.2.2.2.2.2 0 false)] 149))) (x1, x2, [], [], 0) (fun z => L60_5_ok C h73 h82 p1_c0 p1_c1 z) ?_
  intro y57
  refine pH ?_
  refine pN ?_
  refine pS ?_
  refine gS 0 ?_
  refine gR 24 (rg Tryz.f60 24) ?_
  refine sg 2 (mkE [(147, .own 64 0), (146, .own 56 0), (1, .fn 73 [.ia [LL a25 p1_c0] 0, .ia [LL a25 p1_c1] 0]), (5, .own 40 0), (6, .own 48 0), (7, .own 56 0), (8, .own 64 0), (9, I y57.1), (23, B y57.2.1)] [(40, RR 3 1 I y57.2.2.1 0 false), (48, RR 3 1 I y57.2.2.2.1 0 false), (56, RR 26 4 a25 y57.2.2.2.2.1 0 false), (64, RR 26 4 a25 y57.2.2.2.2.2 0 false)] 149) ?_
  refine mo (some 148) (apO 42 26 4 32 56 a25 0 [64] (y := .own 64 0) (l2 := y57.2.2.2.2.2)) (fun x58 => ?_)
  refine se (mkE [(4, .own 56 1)] [(56, RR 26 4 a25 x58 1 false)] 149) ?_
  refine pN ?_
  refine pS ?_
  refine gE ?_
  exact pL
theorem F60 (m : Nat) (hm : 8 ≤ m) (p0 : (List S25)) (p1_c0 : (List S25)) (p1_c1 : (List S25)) : callA Tryz.prog cfg m 60 [LL a25 p0, .fn 73 [.ia [LL a25 p1_c0] 0, .ia [LL a25 p1_c1] 0]] = (T60 p0 p1_c0 p1_c1).map (fun l => AV.fr 26 4 (List.map a25 l)) := by
  obtain ⟨q, rfl⟩ : ∃ q, m = q + 1 := ⟨m - 1, by omega⟩
  exact (callA_body (fn := Tryz.f60) (c := body_ Tryz.f60) q _ (by kernel_rfl) (by kernel_rfl) (by kernel_rfl)).trans (B60 _ (fun p0 p1 p2_c0 p3_c0 => F73 q (by omega) p0 p1 p2_c0 p3_c0) (fun p0 => F79 q (by omega) p0) (fun p0 => F79_1 q (by omega) p0) (fun p0 p1 => F82 q (by omega) p0 p1) p0 p1_c0 p1_c1)

noncomputable def T55 (p0 : (List S25)) (p1 : (List S25)) : Option (List S25) := ((T65 ([p0, p1] : List (List S25))).bind fun x1 => ((T60 x1 p0 p1).bind fun x2 => (some x2)))
theorem B55 (C : Callee) (h60 : ∀ (p0 : (List S25)) (p1_c0 : (List S25)) (p1_c1 : (List S25)), C 60 [LL a25 p0, .fn 73 [.ia [LL a25 p1_c0] 0, .ia [LL a25 p1_c1] 0]] = (T60 p0 p1_c0 p1_c1).map (fun l => AV.fr 26 4 (List.map a25 l))) (h65 : ∀ (p0 : (List (List S25))), C 65 [LL (LL a25) p0] = (T65 p0).map (fun l => AV.fr 26 4 (List.map a25 l))) (p0 : (List S25)) (p1 : (List S25)) : runs Tryz.prog C (cfg.fn 55) (finFn Tryz.prog (cfg.fn 55).byval Tryz.f55) [] (execA Tryz.prog C (cfg.fn 55) (nr Tryz.f55 []) (frame0 [LL a25 p0, LL a25 p1] 11 false)) = (T55 p0 p1).map (fun l => AV.fr 26 4 (List.map a25 l)) := by
  unfold T55
  refine gS 1 ?_
  refine gR 0 (rg Tryz.f55 0) ?_
  refine se (mkE [(2, .ba 16 0), (3, .ba 24 0)] [(16, .box [LL a25 p0] false), (24, .box [LL a25 p1] false)] 11) ?_
  refine pN ?_
  refine pS ?_
  refine gS 0 ?_
  refine gR 1 (rg Tryz.f55 1) ?_
  refine sg 3 (mkE [(7, .own 56 0), (6, LL a25 p1), (5, LL a25 p0), (2, .ba 16 0), (3, .ba 24 0)] [(56, RR 42 1 (LL a25) ([p0, p1] : List (List S25)) 0 false), (16, .box [LL a25 p0] false), (24, .box [LL a25 p1] false)] 11) ?_
  refine co 8 [56] (h65 ([p0, p1] : List (List S25))) (fun x1 => ?_)
  refine sg 5 (mkE [(9, .fn 73 [.ba 16 0, .ba 24 0]), (8, .own 64 0), (7, .own 56 0), (6, LL a25 p1), (5, LL a25 p0), (2, .ba 16 0), (3, .ba 24 0)] [(64, RR 26 4 a25 x1 0 false), (56, RR 42 1 (LL a25) ([p0, p1] : List (List S25)) 0 true), (56, RR 42 1 (LL a25) ([p0, p1] : List (List S25)) 0 false), (16, .box [LL a25 p0] false), (24, .box [LL a25 p1] false)] 11) ?_
  refine co 10 [64, 16, 24] (h60 x1 p0 p1) (fun x2 => ?_)
  refine se (mkE [(4, .own 80 0)] [(80, RR 26 4 a25 x2 0 false)] 11) ?_
  refine pN ?_
  refine pS ?_
  refine gE ?_
  exact pL
theorem F55 (m : Nat) (hm : 9 ≤ m) (p0 : (List S25)) (p1 : (List S25)) : callA Tryz.prog cfg m 55 [LL a25 p0, LL a25 p1] = (T55 p0 p1).map (fun l => AV.fr 26 4 (List.map a25 l)) := by
  obtain ⟨q, rfl⟩ : ∃ q, m = q + 1 := ⟨m - 1, by omega⟩
  exact (callA_body (fn := Tryz.f55) (c := body_ Tryz.f55) q _ (by kernel_rfl) (by kernel_rfl) (by kernel_rfl)).trans (B55 _ (fun p0 p1_c0 p1_c1 => F60 q (by omega) p0 p1_c0 p1_c1) (fun p0 => F65 q (by omega) p0) p0 p1)

noncomputable def T22 (p0 : S23) : Option (List S25) := ((T56 p0).bind fun x1 => ((T55 ([(S25.mk 0 0 p0.f1 p0.f2)] : List S25) x1).bind fun x2 => (some x2)))
theorem B22 (C : Callee) (h55 : ∀ (p0 : (List S25)) (p1 : (List S25)), C 55 [LL a25 p0, LL a25 p1] = (T55 p0 p1).map (fun l => AV.fr 26 4 (List.map a25 l))) (h56 : ∀ (p0 : S23), C 56 [a23 p0] = (T56 p0).map (fun l => AV.fr 26 4 (List.map a25 l))) (p0 : S23) : runs Tryz.prog C (cfg.fn 22) (finFn Tryz.prog (cfg.fn 22).byval Tryz.f22) [] (execA Tryz.prog C (cfg.fn 22) (nr Tryz.f22 []) (frame0 [a23 p0] 12 false)) = (T22 p0).map (fun l => AV.fr 26 4 (List.map a25 l)) := by
  unfold T22
  refine gS 1 ?_
  refine gR 0 (rg Tryz.f22 0) ?_
  refine se (mkE [(1, .ba 8 0)] [(8, .box [S p0.f0, I p0.f1, I p0.f2, LL a37 p0.f3] false)] 12) ?_
  refine pN ?_
  refine pS ?_
  refine gS 0 ?_
  refine gD 1 10 (rg Tryz.f22 1) [0, 1, 2, 3, 4, 5, 6, 7, 8, 9] ?_
  refine dg 7 [(some 3, qe (.ba 8 1)), (some 4, qe (I p0.f1)), (some 5, qe (.ba 8 2)), (some 6, qe (I p0.f2)), (some 7, qe (.agg [I 0, I 0, I p0.f1, I p0.f2])), (some 8, { e := { val := .own 64 0, news := [(64, RR 26 4 a25 ([(S25.mk 0 0 p0.f1 p0.f2)] : List S25) 0 false)] } }), (some 9, qe (a23 p0))] ?_
  refine dc 10 [] (mkE [(9, a23 p0), (1, .ba 8 0)] [(8, .box [S p0.f0, I p0.f1, I p0.f2, LL a37 p0.f3] false)] 12) (h56 p0) (fun x1 => ?_)
  refine dc 11 [64, 80] (mkE [(10, .own 80 0), (9, a23 p0), (8, .own 64 0), (7, .agg [I 0, I 0, I p0.f1, I p0.f2]), (6, I p0.f2), (5, .ba 8 2), (4, I p0.f1), (3, .ba 8 1), (1, .ba 8 0)] [(80, RR 26 4 a25 x1 0 false), (64, RR 26 4 a25 ([(S25.mk 0 0 p0.f1 p0.f2)] : List S25) 0 false), (8, .box [S p0.f0, I p0.f1, I p0.f2, LL a37 p0.f3] false)] 12) (h55 ([(S25.mk 0 0 p0.f1 p0.f2)] : List S25) x1) (fun x2 => ?_)
  refine dg 10 [(some 3, qe (.ba 8 1)), (some 4, qe (I p0.f1)), (some 5, qe (.ba 8 2)), (some 6, qe (I p0.f2)), (some 7, qe (.agg [I 0, I 0, I p0.f1, I p0.f2])), (some 8, { e := { val := .own 64 0, news := [(64, RR 26 4 a25 ([(S25.mk 0 0 p0.f1 p0.f2)] : List S25) 0 false)] } }), (some 9, qe (a23 p0)), (some 10, { e := { val := .own 80 0, news := [(80, RR 26 4 a25 x1 0 false)] } }), (some 11, { e := { val := .own 88 0, news := [(88, RR 26 4 a25 x2 0 false)], frz := [64, 80] } }), (some 2, qe (.own 88 0))] ?_
  refine de (mkE [(2, .own 88 0), (11, .own 88 0), (10, .own 80 0), (9, a23 p0), (8, .own 64 0), (7, .agg [I 0, I 0, I p0.f1, I p0.f2]), (6, I p0.f2), (5, .ba 8 2), (4, I p0.f1), (3, .ba 8 1), (1, .ba 8 0)] [(88, RR 26 4 a25 x2 0 false), (80, RR 26 4 a25 x1 0 true), (64, RR 26 4 a25 ([(S25.mk 0 0 p0.f1 p0.f2)] : List S25) 0 true), (80, RR 26 4 a25 x1 0 false), (64, RR 26 4 a25 ([(S25.mk 0 0 p0.f1 p0.f2)] : List S25) 0 false), (8, .box [S p0.f0, I p0.f1, I p0.f2, LL a37 p0.f3] false)] 12) ?_
  refine se (mkE [(2, .own 88 0)] [(88, RR 26 4 a25 x2 0 false)] 12) ?_
  refine pN ?_
  refine pS ?_
  refine gE ?_
  exact pL
theorem F22 (m : Nat) (hm : 10 ≤ m) (p0 : S23) : callA Tryz.prog cfg m 22 [a23 p0] = (T22 p0).map (fun l => AV.fr 26 4 (List.map a25 l)) := by
  obtain ⟨q, rfl⟩ : ∃ q, m = q + 1 := ⟨m - 1, by omega⟩
  exact (callA_body (fn := Tryz.f22) (c := body_ Tryz.f22) q _ (by kernel_rfl) (by kernel_rfl) (by kernel_rfl)).trans (B22 _ (fun p0 p1 => F55 q (by omega) p0 p1) (fun p0 => F56 q (by omega) p0) p0)

noncomputable def T21 (p0 : (List S25)) : Option ((List S25) × Int) := (bif (ltI 2000 (lenL p0)) then (some ([], 2)) else (some (p0, 0)))
theorem B21 (C : Callee) (p0 : (List S25)) : runs Tryz.prog C (cfg.fn 21) (finFn Tryz.prog (cfg.fn 21).byval Tryz.f21) [] (execA Tryz.prog C (cfg.fn 21) (nr Tryz.f21 []) (frame0 [LL a25 p0] 8 false)) = (T21 p0).map (fun r => AV.tup [(LL a25) r.1, I r.2]) := by
  unfold T21
  refine gS 1 ?_
  refine gR 0 (rg Tryz.f21 0) ?_
  refine se (mkE [(0, LL a25 p0)] [] 8) ?_
  refine pN ?_
  refine pS ?_
  refine gS 3 ?_
  refine gS 0 ?_
  refine gR 1 (rg Tryz.f21 1) ?_
  refine sg 1 (mkE [(4, LL a25 p0), (0, LL a25 p0)] [] 8) ?_
  refine eo 5 (I (lenL p0)) (lenE 42 a25 p0) ?_
  refine se (mkE [(0, LL a25 p0), (6, B (ltI 2000 (lenL p0)))] [] 8) ?_
  refine pN ?_
  refine pS ?_
  refine gC 6 (ltI 2000 (lenL p0)) ?_ ?_
  · refine gS 0 ?_
    refine gR 2 (rg Tryz.f21 2) ?_
    refine se (mkE [(2, .nils), (3, I 2)] [] 8) ?_
    refine pN ?_
    refine pS ?_
    refine gE ?_
    exact pL
  · refine gK ?_
    refine pN ?_
    refine pS ?_
    refine gS 0 ?_
    refine gR 3 (rg Tryz.f21 3) ?_
    refine se (mkE [(2, LL a25 p0), (3, I 0)] [] 8) ?_
    refine pN ?_
    refine pS ?_
    refine gE ?_
    exact pL
theorem F21 (m : Nat) (hm : 1 ≤ m) (p0 : (List S25)) : callA Tryz.prog cfg m 21 [LL a25 p0] = (T21 p0).map (fun r => AV.tup [(LL a25) r.1, I r.2]) := by
  obtain ⟨q, rfl⟩ : ∃ q, m = q + 1 := ⟨m - 1, by omega⟩
  exact (callA_body (fn := Tryz.f21) (c := body_ Tryz.f21) q _ (by kernel_rfl) (by kernel_rfl) (by kernel_rfl)).trans (B21 _ p0)

noncomputable def L23_3 (p0 : S23) (p1 : S25) (z0 : ((List S59) × Int)) : Option (((List S59) × Int) ⊕ (Int × Bool × (List S59))) := (bif (ltI z0.2 (lenL p0.f3)) then ((listAt p0.f3 z0.2).bind fun x1 => ((T49 x1.f1 p1).bind fun x2 => (bif x2.2 then ((appO 80 z0.1 ([(S59.mk x1.f0 (S25.mk (subI .i64 x2.1.f0 x1.f1.f0) (subI .i64 x2.1.f1 x1.f1.f1) x2.1.f2 x2.1.f3) (S25.mk (subI .i64 x2.1.f0 p1.f0) (subI .i64 x2.1.f1 p1.f1) x2.1.f2 x2.1.f3))] : List S59)).bind fun x3 => (some (.inl (x3, (addI .i64 z0.2 1))))) else (some (.inl (z0.1, (addI .i64 z0.2 1))))))) else (some (.inr (z0.2, (ltI z0.2 (lenL p0.f3)), z0.1))))
theorem L23_3_ok (C : Callee) (h49 : ∀ (p0 : S25) (p1 : S25), C 49 [a25 p0, a25 p1] = (T49 p0 p1).map (fun r => AV.tup [a25 r.1, B r.2])) (p0 : S23) (p1 : S25) (z0 : ((List S59) × Int)) : runs Tryz.prog C (cfg.fn 23) (finLoop ((cfg.fn 23).keep 3) ((cfg.fn 23).al 3)) [] (execA Tryz.prog C (cfg.fn 23) (nr Tryz.f23 [false, false, true, false, true, true]) ((fun z0 : ((List S59) × Int) => (mkE [(3, .ba 24 0), (5, .own 40 0), (13, LL a37 p0.f3), (14, I (lenL p0.f3)), (15, I z0.2)] [(24, .box [I p1.f0, I p1.f1, I p1.f2, I p1.f3] false), (40, RR 60 9 a59 z0.1 0 false)] 65)) z0)) = (L23_3 p0 p1 z0).map (Sum.elim (fun z => .inl ((fun z0 : ((List S59) × Int) => (mkE [(3, .ba 24 0), (5, .own 40 0), (13, LL a37 p0.f3), (14, I (lenL p0.f3)), (15, I z0.2)] [(24, .box [I p1.f0, I p1.f1, I p1.f2, I p1.f3] false), (40, RR 60 9 a59 z0.1 0 false)] 65)) z)) (fun x => .inr ((fun (x : (Int × Bool × (List S59))) => (.exit 0, (mkE [(3, .ba 24 0), (5, .own 40 0), (13, LL a37 p0.f3), (14, I (lenL p0.f3)), (15, I x.1), (16, B x.2.1)] [(24, .box [I p1.f0, I p1.f1, I p1.f2, I p1.f3] false), (40, RR 60 9 a59 x.2.2 0 false)] 65))) x))) := by
  unfold L23_3
  refine gS 0 ?_
  refine gR 3 (rg Tryz.f23 3) ?_
  refine se (mkE [(3, .ba 24 0), (5, .own 40 0), (13, LL a37 p0.f3), (14, I (lenL p0.f3)), (15, I z0.2), (16, B (ltI z0.2 (lenL p0.f3)))] [(24, .box [I p1.f0, I p1.f1, I p1.f2, I p1.f3] false), (40, RR 60 9 a59 z0.1 0 false)] 65) ?_
  refine pN ?_
  refine pS ?_
  refine gS 4 ?_
  refine gC 16 (ltI z0.2 (lenL p0.f3)) ?_ ?_
  · refine gK ?_
    refine pN ?_
    refine pS ?_
    refine gS 10 ?_
    refine gB 1 ?_
    refine gS 5 ?_
    refine gR 4 (rg Tryz.f23 4) ?_
    refine vo 17 (addrE 22 38 5 a37 .i64 p0.f3 z0.2) (fun x1 => ?_)
    refine se (mkE [(3, .ba 24 0), (5, .own 40 0), (7, .ba 56 0), (13, LL a37 p0.f3), (14, I (lenL p0.f3)), (15, I z0.2)] [(24, .box [I p1.f0, I p1.f1, I p1.f2, I p1.f3] false), (40, RR 60 9 a59 z0.1 0 false), (56, .box [S x1.f0, I x1.f1.f0, I x1.f1.f1, I x1.f1.f2, I x1.f1.f3] false)] 65) ?_
    refine pN ?_
    refine pS ?_
    refine gS 6 ?_
    refine gR 5 (rg Tryz.f23 5) ?_
    refine sg 3 (mkE [(22, a25 p1), (21, a25 x1.f1), (20, .ba 56 1), (3, .ba 24 0), (5, .own 40 0), (7, .ba 56 0), (13, LL a37 p0.f3), (14, I (lenL p0.f3)), (15, I z0.2)] [(24, .box [I p1.f0, I p1.f1, I p1.f2, I p1.f3] false), (40, RR 60 9 a59 z0.1 0 false), (56, .box [S x1.f0, I x1.f1.f0, I x1.f1.f1, I x1.f1.f2, I x1.f1.f3] false)] 65) ?_
    refine co 23 [] (h49 x1.f1 p1) (fun x2 => ?_)
    refine se (mkE [(3, .ba 24 0), (5, .own 40 0), (7, .ba 56 0), (8, .ba 64 0), (9, B x2.2), (13, LL a37 p0.f3), (14, I (lenL p0.f3)), (15, I z0.2)] [(24, .box [I p1.f0, I p1.f1, I p1.f2, I p1.f3] false), (40, RR 60 9 a59 z0.1 0 false), (56, .box [S x1.f0, I x1.f1.f0, I x1.f1.f1, I x1.f1.f2, I x1.f1.f3] false), (64, .box [I x2.1.f0, I x2.1.f1, I x2.1.f2, I x2.1.f3] false)] 65) ?_
    refine pN ?_
    refine pS ?_
    refine gS 0 ?_
    refine gR 6 (rg Tryz.f23 6) ?_
    refine se (mkE [(3, .ba 24 0), (5, .own 40 0), (7, .ba 56 0), (8, .ba 64 0), (13, LL a37 p0.f3), (14, I (lenL p0.f3)), (15, I z0.2), (26, B x2.2)] [(24, .box [I p1.f0, I p1.f1, I p1.f2, I p1.f3] false), (40, RR 60 9 a59 z0.1 0 false), (56, .box [S x1.f0, I x1.f1.f0, I x1.f1.f1, I x1.f1.f2, I x1.f1.f3] false), (64, .box [I x2.1.f0, I x2.1.f1, I x2.1.f2, I x2.1.f3] false)] 65) ?_
    refine pN ?_
    refine pS ?_
    refine gC 26 x2.2 ?_ ?_
    · refine gS 8 ?_
      refine gD 7 5 (rg Tryz.f23 7) [0, 1, 2, 3, 4, 5] ?_
      refine dg 5 [(some 27, qe (a25 x2.1)), (some 28, qe (a25 x2.1)), (some 10, { e := { val := .ba 80 0, news := [(80, .box [I 0, I 0, I 0, I 0] false)] } }), (some 11, { e := { val := .ba 88 0, news := [(88, .box [I 0, I 0, I 0, I 0] false)] } }), (none, { e := { val := .und }, st := some (80, .box [I x2.1.f0, I x2.1.f1, I x2.1.f2, I x2.1.f3] false, 0, 4) })] ?_
      refine de (mkE [(11, .ba 88 0), (10, .ba 80 0), (28, a25 x2.1), (27, a25 x2.1), (3, .ba 24 0), (5, .own 40 0), (7, .ba 56 0), (8, .ba 64 0), (13, LL a37 p0.f3), (14, I (lenL p0.f3)), (15, I z0.2), (26, B x2.2)] [(80, .box [I x2.1.f0, I x2.1.f1, I x2.1.f2, I x2.1.f3] false), (88, .box [I 0, I 0, I 0, I 0] false), (80, .box [I 0, I 0, I 0, I 0] false), (24, .box [I p1.f0, I p1.f1, I p1.f2, I p1.f3] false), (40, RR 60 9 a59 z0.1 0 false), (56, .box [S x1.f0, I x1.f1.f0, I x1.f1.f1, I x1.f1.f2, I x1.f1.f3] false), (64, .box [I x2.1.f0, I x2.1.f1, I x2.1.f2, I x2.1.f3] false)] 65) ?_
      refine se (mkE [(3, .ba 24 0), (5, .own 40 0), (7, .ba 56 0), (8, .ba 64 0), (10, .ba 80 0), (11, .ba 88 0), (13, LL a37 p0.f3), (14, I (lenL p0.f3)), (15, I z0.2)] [(24, .box [I p1.f0, I p1.f1, I p1.f2, I p1.f3] false), (40, RR 60 9 a59 z0.1 0 false), (56, .box [S x1.f0, I x1.f1.f0, I x1.f1.f1, I x1.f1.f2, I x1.f1.f3] false), (64, .box [I x2.1.f0, I x2.1.f1, I x2.1.f2, I x2.1.f3] false), (80, .box [I x2.1.f0, I x2.1.f1, I x2.1.f2, I x2.1.f3] false), (88, .box [I x2.1.f0, I x2.1.f1, I x2.1.f2, I x2.1.f3] false)] 65) ?_
      refine pN ?_
      refine pS ?_
      refine gS 9 ?_
      refine gD 8 28 (rg Tryz.f23 8) [0, 1, 2, 3, 4, 5, 6, 7, 8, 9, 10, 11, 12, 13, 14, 15, 16, 17, 18, 19, 20, 21, 22, 23, 24, 25, 26, 27, 28, 29] ?_
      refine dg 28 [(some 29, qe (.ba 64 0)), (some 30, qe (I x2.1.f0)), (some 31, qe (.ba 56 1)), (some 32, qe (.ba 56 1)), (some 33, qe (I x1.f1.f0)), (some 34, qe (I (subI .i64 x2.1.f0 x1.f1.f0))), (some 35, qe (.ba 64 1)), (some 36, qe (I x2.1.f1)), (some 37, qe (.ba 56 1)), (some 38, qe (.ba 56 2)), (some 39, qe (I x1.f1.f1)), (some 40, qe (I (subI .i64 x2.1.f1 x1.f1.f1))), (some 41, qe (.ba 64 0)), (some 42, qe (I x2.1.f0)), (some 43, qe (.ba 24 0)), (some 44, qe (I p1.f0)), (some 45, qe (I (subI .i64 x2.1.f0 p1.f0))), (some 46, qe (.ba 64 1)), (some 47, qe (I x2.1.f1)), (some 48, qe (.ba 24 1)), (some 49, qe (I p1.f1)), (some 50, qe (I (subI .i64 x2.1.f1 p1.f1))), (some 51, qe (.ba 80 0)), (none, { e := { val := .und }, st := some (80, .box [I (subI .i64 x2.1.f0 x1.f1.f0), I x2.1.f1, I x2.1.f2, I x2.1.f3] false, 0, 1) }), (some 52, qe (.ba 80 1)), (none, { e := { val := .und }, st := some (80, .box [I (subI .i64 x2.1.f0 x1.f1.f0), I (subI .i64 x2.1.f1 x1.f1.f1), I x2.1.f2, I x2.1.f3] false, 1, 1) }), (some 53, qe (.ba 88 0)), (none, { e := { val := .und }, st := some (88, .box [I (subI .i64 x2.1.f0 p1.f0), I x2.1.f1, I x2.1.f2, I x2.1.f3] false, 0, 1) })] ?_
      refine de (mkE [(53, .ba 88 0), (52, .ba 80 1), (51, .ba 80 0), (50, I (subI .i64 x2.1.f1 p1.f1)), (49, I p1.f1), (48, .ba 24 1), (47, I x2.1.f1), (46, .ba 64 1), (45, I (subI .i64 x2.1.f0 p1.f0)), (44, I p1.f0), (43, .ba 24 0), (42, I x2.1.f0), (41, .ba 64 0), (40, I (subI .i64 x2.1.f1 x1.f1.f1)), (39, I x1.f1.f1), (38, .ba 56 2), (37, .ba 56 1), (36, I x2.1.f1), (35, .ba 64 1), (34, I (subI .i64 x2.1.f0 x1.f1.f0)), (33, I x1.f1.f0), (32, .ba 56 1), (31, .ba 56 1), (30, I x2.1.f0), (29, .ba 64 0), (3, .ba 24 0), (5, .own 40 0), (7, .ba 56 0), (8, .ba 64 0), (10, .ba 80 0), (11, .ba 88 0), (13, LL a37 p0.f3), (14, I (lenL p0.f3)), (15, I z0.2)] [(88, .box [I (subI .i64 x2.1.f0 p1.f0), I x2.1.f1, I x2.1.f2, I x2.1.f3] false), (80, .box [I (subI .i64 x2.1.f0 x1.f1.f0), I (subI .i64 x2.1.f1 x1.f1.f1), I x2.1.f2, I x2.1.f3] false), (80, .box [I (subI .i64 x2.1.f0 x1.f1.f0), I x2.1.f1, I x2.1.f2, I x2.1.f3] false), (24, .box [I p1.f0, I p1.f1, I p1.f2, I p1.f3] false), (40, RR 60 9 a59 z0.1 0 false), (56, .box [S x1.f0, I x1.f1.f0, I x1.f1.f1, I x1.f1.f2, I x1.f1.f3] false), (64, .box [I x2.1.f0, I x2.1.f1, I x2.1.f2, I x2.1.f3] false), (80, .box [I x2.1.f0, I x2.1.f1, I x2.1.f2, I x2.1.f3] false), (88, .box [I x2.1.f0, I x2.1.f1, I x2.1.f2, I x2.1.f3] false)] 65) ?_
      refine se (mkE [(3, .ba 24 0), (5, .own 40 0), (7, .ba 56 0), (10, .ba 80 0), (11, .ba 88 0), (13, LL a37 p0.f3), (14, I (lenL p0.f3)), (15, I z0.2)] [(24, .box [I p1.f0, I p1.f1, I p1.f2, I p1.f3] false), (40, RR 60 9 a59 z0.1 0 false), (56, .box [S x1.f0, I x1.f1.f0, I x1.f1.f1, I x1.f1.f2, I x1.f1.f3] false), (80, .box [I (subI .i64 x2.1.f0 x1.f1.f0), I (subI .i64 x2.1.f1 x1.f1.f1), I x2.1.f2, I x2.1.f3] false), (88, .box [I (subI .i64 x2.1.f0 p1.f0), I (subI .i64 x2.1.f1 p1.f1), I x2.1.f2, I x2.1.f3] false)] 65) ?_
      refine pN ?_
      refine pS ?_
      refine gR 9 (rg Tryz.f23 9) ?_
      refine sg 7 (mkE [(61, .own 488 0), (60, .agg [S x1.f0, I (subI .i64 x2.1.f0 x1.f1.f0), I (subI .i64 x2.1.f1 x1.f1.f1), I x2.1.f2, I x2.1.f3, I (subI .i64 x2.1.f0 p1.f0), I (subI .i64 x2.1.f1 p1.f1), I x2.1.f2, I x2.1.f3]), (59, .agg [I (subI .i64 x2.1.f0 p1.f0), I (subI .i64 x2.1.f1 p1.f1), I x2.1.f2, I x2.1.f3]), (58, .agg [I (subI .i64 x2.1.f0 x1.f1.f0), I (subI .i64 x2.1.f1 x1.f1.f1), I x2.1.f2, I x2.1.f3]), (57, S x1.f0), (56, .ba 56 0), (55, .own 40 0), (3, .ba 24 0), (5, .own 40 0), (7, .ba 56 0), (10, .ba 80 0), (11, .ba 88 0), (13, LL a37 p0.f3), (14, I (lenL p0.f3)), (15, I z0.2)] [(488, RR 60 9 a59 ([(S59.mk x1.f0 (S25.mk (subI .i64 x2.1.f0 x1.f1.f0) (subI .i64 x2.1.f1 x1.f1.f1) x2.1.f2 x2.1.f3) (S25.mk (subI .i64 x2.1.f0 p1.f0) (subI .i64 x2.1.f1 p1.f1) x2.1.f2 x2.1.f3))] : List S59) 0 false), (24, .box [I p1.f0, I p1.f1, I p1.f2, I p1.f3] false), (40, RR 60 9 a59 z0.1 0 false), (56, .box [S x1.f0, I x1.f1.f0, I x1.f1.f1, I x1.f1.f2, I x1.f1.f3] false), (80, .box [I (subI .i64 x2.1.f0 x1.f1.f0), I (subI .i64 x2.1.f1 x1.f1.f1), I x2.1.f2, I x2.1.f3] false), (88, .box [I (subI .i64 x2.1.f0 p1.f0), I (subI .i64 x2.1.f1 p1.f1), I x2.1.f2, I x2.1.f3] false)] 65) ?_
      refine mo (some 62) (apO 45 60 9 80 40 a59 0 [488] (y := .own 488 0) (l2 := ([(S59.mk x1.f0 (S25.mk (subI .i64 x2.1.f0 x1.f1.f0) (subI .i64 x2.1.f1 x1.f1.f1) x2.1.f2 x2.1.f3) (S25.mk (subI .i64 x2.1.f0 p1.f0) (subI .i64 x2.1.f1 p1.f1) x2.1.f2 x2.1.f3))] : List S59))) (fun x3 => ?_)
      refine se (mkE [(3, .ba 24 0), (5, .own 40 1), (13, LL a37 p0.f3), (14, I (lenL p0.f3)), (15, I z0.2)] [(24, .box [I p1.f0, I p1.f1, I p1.f2, I p1.f3] false), (40, RR 60 9 a59 x3 1 false)] 65) ?_
      refine pB ?_
      refine pN ?_
      refine pS ?_
      refine gR 10 (rg Tryz.f23 10) ?_
      refine se (mkE [(3, .ba 24 0), (5, .own 40 1), (13, LL a37 p0.f3), (14, I (lenL p0.f3)), (15, I (addI .i64 z0.2 1))] [(24, .box [I p1.f0, I p1.f1, I p1.f2, I p1.f3] false), (40, RR 60 9 a59 x3 1 false)] 65) ?_
      exact pL
    · refine gK ?_
      refine pB ?_
      refine pN ?_
      refine pS ?_
      refine gR 10 (rg Tryz.f23 10) ?_
      refine se (mkE [(3, .ba 24 0), (5, .own 40 0), (13, LL a37 p0.f3), (14, I (lenL p0.f3)), (15, I (addI .i64 z0.2 1))] [(24, .box [I p1.f0, I p1.f1, I p1.f2, I p1.f3] false), (40, RR 60 9 a59 z0.1 0 false)] 65) ?_
      exact pL
  · refine gX 0 ?_
    exact pL
noncomputable def T23 (p0 : S23) (p1 : S25) : Option (List S59) := ((iter (L23_3 p0 p1) ([], 0)).bind fun y4 => (some y4.2.2))
theorem B23 (C : Callee) (h49 : ∀ (p0 : S25) (p1 : S25), C 49 [a25 p0, a25 p1] = (T49 p0 p1).map (fun r => AV.tup [a25 r.1, B r.2])) (p0 : S23) (p1 : S25) : runs Tryz.prog C (cfg.fn 23) (finFn Tryz.prog (cfg.fn 23).byval Tryz.f23) [] (execA Tryz.prog C (cfg.fn 23) (nr Tryz.f23 []) (frame0 [a23 p0, a25 p1] 65 false)) = (T23 p0 p1).map (fun l => AV.fr 60 9 (List.map a59 l)) := by
  unfold T23
  refine gS 1 ?_
  refine gR 0 (rg Tryz.f23 0) ?_
  refine se (mkE [(2, .ba 16 0), (3, .ba 24 0)] [(16, .box [S p0.f0, I p0.f1, I p0.f2, LL a37 p0.f3] false), (24, .box [I p1.f0, I p1.f1, I p1.f2, I p1.f3] false)] 65) ?_
  refine pN ?_
  refine pS ?_
  refine gS 2 ?_
  refine gR 1 (rg Tryz.f23 1) ?_
  refine se (mkE [(2, .ba 16 0), (3, .ba 24 0), (5, .nils)] [(16, .box [S p0.f0, I p0.f1, I p0.f2, LL a37 p0.f3] false), (24, .box [I p1.f0, I p1.f1, I p1.f2, I p1.f3] false)] 65) ?_
  refine pN ?_
  refine pS ?_
  refine gS 11 ?_
  refine gS 3 ?_
  refine gR 2 (rg Tryz.f23 2) ?_
  refine sg 2 (mkE [(13, LL a37 p0.f3), (12, .ba 16 3), (2, .ba 16 0), (3, .ba 24 0), (5, .nils)] [(16, .box [S p0.f0, I p0.f1, I p0.f2, LL a37 p0.f3] false), (24, .box [I p1.f0, I p1.f1, I p1.f2, I p1.f3] false)] 65) ?_
  refine eo 14 (I (lenL p0.f3)) (lenE 22 a37 p0.f3) ?_
  refine se (mkE [(3, .ba 24 0), (5, .nils), (13, LL a37 p0.f3), (14, I (lenL p0.f3)), (15, I 0)] [(24, .box [I p1.f0, I p1.f1, I p1.f2, I p1.f3] false)] 65) ?_
  refine pN ?_
  refine pS ?_
  refine gB 0 ?_
  refine lo [(3, none), (5, some (60, 9)), (13, none), (14, none), (15, none)] [] (L23_3 p0 p1) (fun z0 : ((List S59) × Int) => (mkE [(3, .ba 24 0), (5, .own 40 0), (13, LL a37 p0.f3), (14, I (lenL p0.f3)), (15, I z0.2)] [(24, .box [I p1.f0, I p1.f1, I p1.f2, I p1.f3] false), (40, RR 60 9 a59 z0.1 0 false)] 65)) (fun (x : (Int × Bool × (List S59))) => (.exit 0, (mkE [(3, .ba 24 0), (5, .own 40 0), (13, LL a37 p0.f3), (14, I (lenL p0.f3)), (15, I x.1), (16, B x.2.1)] [(24, .box [I p1.f0, I p1.f1, I p1.f2, I p1.f3] false), (40, RR 60 9 a59 x.2.2 0 false)] 65))) ([], 0) (fun z => L23_3_ok C h49 p0 p1 z) ?_
  intro y4
  refine pH ?_
  refine pN ?_
  refine pS ?_
  refine gS 0 ?_
  refine gR 11 (rg Tryz.f23 11) ?_
  refine se (mkE [(4, .own 40 0)] [(40, RR 60 9 a59 y4.2.2 0 false)] 65) ?_
  refine pN ?_
  refine pS ?_
  refine gE ?_
  exact pL
theorem F23 (m : Nat) (hm : 2 ≤ m) (p0 : S23) (p1 : S25) : callA Tryz.prog cfg m 23 [a23 p0, a25 p1] = (T23 p0 p1).map (fun l => AV.fr 60 9 (List.map a59 l)) := by
  obtain ⟨q, rfl⟩ : ∃ q, m = q + 1 := ⟨m - 1, by omega⟩
  exact (callA_body (fn := Tryz.f23) (c := body_ Tryz.f23) q _ (by kernel_rfl) (by kernel_rfl) (by kernel_rfl)).trans (B23 _ (fun p0 p1 => F49 q (by omega) p0 p1) p0 p1)

noncomputable def L24_4 (p0 : (List S25)) (p1 : (List S25)) (z0 : Int) : Option (Int ⊕ ((Int × Bool) ⊕ Unit)) := (bif (ltI z0 (lenL p0)) then ((listAt p0 z0).bind fun x1 => ((listAt p1 z0).bind fun x2 => (bif (!allB [eqI x1.f0 x2.f0, eqI x1.f1 x2.f1, eqI x1.f2 x2.f2, eqI x1.f3 x2.f3]) then (some (.inr (.inr ()))) else (some (.inl (addI .i64 z0 1)))))) else (some (.inr (.inl (z0, (ltI z0 (lenL p0)))))))
theorem L24_4_ok (C : Callee) (p0 : (List S25)) (p1 : (List S25)) (z0 : Int) : runs Tryz.prog C (cfg.fn 24) (finLoop ((cfg.fn 24).keep 4) ((cfg.fn 24).al 4)) [] (execA Tryz.prog C (cfg.fn 24) (nr Tryz.f24 [false, false, true, false, true, true]) ((fun z0 : Int => (mkE [(0, LL a25 p0), (1, LL a25 p1), (12, I (lenL p0)), (13, I z0)] [] 26)) z0)) = (L24_4 p0 p1 z0).map (Sum.elim (fun z => .inl ((fun z0 : Int => (mkE [(0, LL a25 p0), (1, LL a25 p1), (12, I (lenL p0)), (13, I z0)] [] 26)) z)) (fun x => .inr ((Sum.elim (fun (x : (Int × Bool)) => (.exit 0, (mkE [(0, LL a25 p0), (1, LL a25 p1), (12, I (lenL p0)), (13, I x.1), (14, B x.2)] [] 26))) (fun (x : Unit) => (.ret, (mkE [(4, B false)] [] 26)))) x))) := by
  unfold L24_4
  refine gS 0 ?_
  refine gR 4 (rg Tryz.f24 4) ?_
  refine se (mkE [(0, LL a25 p0), (1, LL a25 p1), (12, I (lenL p0)), (13, I z0), (14, B (ltI z0 (lenL p0)))] [] 26) ?_
  refine pN ?_
  refine pS ?_
  refine gS 5 ?_
  refine gC 14 (ltI z0 (lenL p0)) ?_ ?_
  · refine gK ?_
    refine pN ?_
    refine pS ?_
    refine gS 8 ?_
    refine gB 1 ?_
    refine gS 6 ?_
    refine gR 5 (rg Tryz.f24 5) ?_
    refine se (mkE [(0, LL a25 p0), (1, LL a25 p1), (5, I z0), (12, I (lenL p0)), (13, I z0)] [] 26) ?_
    refine pN ?_
    refine pS ?_
    refine gS 0 ?_
    refine gD 6 9 (rg Tryz.f24 6) [0, 1, 2, 3, 4, 5, 6, 7, 8] ?_
    refine dg 2 [(some 16, qe (LL a25 p0)), (some 17, qe (I z0))] ?_
    refine dv 18 (mkE [(17, I z0), (16, LL a25 p0), (0, LL a25 p0), (1, LL a25 p1), (5, I z0), (12, I (lenL p0)), (13, I z0)] [] 26) (addrE 42 26 4 a25 .i64 p0 z0) (fun x1 => ?_)
    refine dg 6 [(some 16, qe (LL a25 p0)), (some 17, qe (I z0)), (some 18, qe (.ia [I x1.f0, I x1.f1, I x1.f2, I x1.f3] 0)), (some 19, qe (a25 x1)), (some 20, qe (LL a25 p1)), (some 21, qe (I z0))] ?_
    refine dv 22 (mkE [(21, I z0), (20, LL a25 p1), (0, LL a25 p0), (1, LL a25 p1), (5, I z0), (12, I (lenL p0)), (13, I z0)] [] 26) (addrE 42 26 4 a25 .i64 p1 z0) (fun x2 => ?_)
    refine dg 8 [(some 16, qe (LL a25 p0)), (some 17, qe (I z0)), (some 18, qe (.ia [I x1.f0, I x1.f1, I x1.f2, I x1.f3] 0)), (some 19, qe (a25 x1)), (some 20, qe (LL a25 p1)), (some 21, qe (I z0)), (some 22, qe (.ia [I x2.f0, I x2.f1, I x2.f2, I x2.f3] 0)), (some 23, qe (a25 x2))] ?_
    refine df 24 (B (!allB [eqI x1.f0 x2.f0, eqI x1.f1 x2.f1, eqI x1.f2 x2.f2, eqI x1.f3 x2.f3])) (mkE [(23, a25 x2), (22, .ia [I x2.f0, I x2.f1, I x2.f2, I x2.f3] 0), (21, I z0), (20, LL a25 p1), (19, a25 x1), (18, .ia [I x1.f0, I x1.f1, I x1.f2, I x1.f3] 0), (17, I z0), (16, LL a25 p0), (0, LL a25 p0), (1, LL a25 p1), (5, I z0), (12, I (lenL p0)), (13, I z0)] [] 26) (neqE 26 (.tmp 19) (.tmp 23) [I x1.f0, I x1.f1, I x1.f2, I x1.f3] [I x2.f0, I x2.f1, I x2.f2, I x2.f3] [.int .i64 x1.f0, .int .i64 x1.f1, .int .i64 x1.f2, .int .i64 x1.f3] [.int .i64 x2.f0, .int .i64 x2.f1, .int .i64 x2.f2, .int .i64 x2.f3] [eqI x1.f0 x2.f0, eqI x1.f1 x2.f1, eqI x1.f2 x2.f2, eqI x1.f3 x2.f3]) ?_
    refine de (mkE [(24, B (!allB [eqI x1.f0 x2.f0, eqI x1.f1 x2.f1, eqI x1.f2 x2.f2, eqI x1.f3 x2.f3])), (23, a25 x2), (22, .ia [I x2.f0, I x2.f1, I x2.f2, I x2.f3] 0), (21, I z0), (20, LL a25 p1), (19, a25 x1), (18, .ia [I x1.f0, I x1.f1, I x1.f2, I x1.f3] 0), (17, I z0), (16, LL a25 p0), (0, LL a25 p0), (1, LL a25 p1), (5, I z0), (12, I (lenL p0)), (13, I z0)] [] 26) ?_
    refine se (mkE [(0, LL a25 p0), (1, LL a25 p1), (12, I (lenL p0)), (13, I z0), (24, B (!allB [eqI x1.f0 x2.f0, eqI x1.f1 x2.f1, eqI x1.f2 x2.f2, eqI x1.f3 x2.f3]))] [] 26) ?_
    refine pN ?_
    refine pS ?_
    refine gC 24 (!allB [eqI x1.f0 x2.f0, eqI x1.f1 x2.f1, eqI x1.f2 x2.f2, eqI x1.f3 x2.f3]) ?_ ?_
    · refine gS 0 ?_
      refine gR 7 (rg Tryz.f24 7) ?_
      refine se (mkE [(4, B false)] [] 26) ?_
      refine pN ?_
      refine pS ?_
      refine gE ?_
      exact pL
    · refine gK ?_
      refine pB ?_
      refine pN ?_
      refine pS ?_
      refine gR 8 (rg Tryz.f24 8) ?_
      refine se (mkE [(0, LL a25 p0), (1, LL a25 p1), (12, I (lenL p0)), (13, I (addI .i64 z0 1))] [] 26) ?_
      exact pL
  · refine gX 0 ?_
    exact pL
noncomputable def T24 (p0 : (List S25)) (p1 : (List S25)) : Option Bool := (bif (neI (lenL p0) (lenL p1)) then (some false) else ((iter (L24_4 p0 p1) 0).bind fun y3 => (Sum.elim (fun y3a => (some true)) (fun y3b => (some false)) y3)))
theorem B24 (C : Callee) (p0 : (List S25)) (p1 : (List S25)) : runs Tryz.prog C (cfg.fn 24) (finFn Tryz.prog (cfg.fn 24).byval Tryz.f24) [] (execA Tryz.prog C (cfg.fn 24) (nr Tryz.f24 []) (frame0 [LL a25 p0, LL a25 p1] 26 false)) = (T24 p0 p1).map B := by
  unfold T24
  refine gS 1 ?_
  refine gR 0 (rg Tryz.f24 0) ?_
  refine se (mkE [(0, LL a25 p0), (1, LL a25 p1)] [] 26) ?_
  refine pN ?_
  refine pS ?_
  refine gS 3 ?_
  refine gS 0 ?_
  refine gR 1 (rg Tryz.f24 1) ?_
  refine sg 1 (mkE [(6, LL a25 p0), (0, LL a25 p0), (1, LL a25 p1)] [] 26) ?_
  refine eo 7 (I (lenL p0)) (lenE 42 a25 p0) ?_
  refine sg 3 (mkE [(8, LL a25 p1), (7, I (lenL p0)), (6, LL a25 p0), (0, LL a25 p0), (1, LL a25 p1)] [] 26) ?_
  refine eo 9 (I (lenL p1)) (lenE 42 a25 p1) ?_
  refine se (mkE [(0, LL a25 p0), (1, LL a25 p1), (10, B (neI (lenL p0) (lenL p1)))] [] 26) ?_
  refine pN ?_
  refine pS ?_
  refine gC 10 (neI (lenL p0) (lenL p1)) ?_ ?_
  · refine gS 0 ?_
    refine gR 2 (rg Tryz.f24 2) ?_
    refine se (mkE [(4, B false)] [] 26) ?_
    refine pN ?_
    refine pS ?_
    refine gE ?_
    exact pL
  · refine gK ?_
    refine pN ?_
    refine pS ?_
    refine gS 9 ?_
    refine gS 4 ?_
    refine gR 3 (rg Tryz.f24 3) ?_
    refine sg 1 (mkE [(11, LL a25 p0), (0, LL a25 p0), (1, LL a25 p1), (10, B (neI (lenL p0) (lenL p1)))] [] 26) ?_
    refine eo 12 (I (lenL p0)) (lenE 42 a25 p0) ?_
    refine se (mkE [(0, LL a25 p0), (1, LL a25 p1), (12, I (lenL p0)), (13, I 0)] [] 26) ?_
    refine pN ?_
    refine pS ?_
    refine gB 0 ?_
    refine lo [(0, none), (1, none), (12, none), (13, none)] [] (L24_4 p0 p1) (fun z0 : Int => (mkE [(0, LL a25 p0), (1, LL a25 p1), (12, I (lenL p0)), (13, I z0)] [] 26)) (Sum.elim (fun (x : (Int × Bool)) => (.exit 0, (mkE [(0, LL a25 p0), (1, LL a25 p1), (12, I (lenL p0)), (13, I x.1), (14, B x.2)] [] 26))) (fun (x : Unit) => (.ret, (mkE [(4, B false)] [] 26)))) 0 (fun z => L24_4_ok C p0 p1 z) ?_
    intro y3
    refine ss y3 (Z := (Sum.elim (fun (x : (Int × Bool)) => (.exit 0, (mkE [(0, LL a25 p0), (1, LL a25 p1), (12, I (lenL p0)), (13, I x.1), (14, B x.2)] [] 26))) (fun (x : Unit) => (.ret, (mkE [(4, B false)] [] 26))))) (fun y3a => ?_) (fun y3b => ?_)
    · refine pH ?_
      refine pN ?_
      refine pS ?_
      refine gS 0 ?_
      refine gR 9 (rg Tryz.f24 9) ?_
      refine se (mkE [(4, B true)] [] 26) ?_
      refine pN ?_
      refine pS ?_
      refine gE ?_
      exact pL
    · exact pL
theorem F24 (m : Nat) (hm : 1 ≤ m) (p0 : (List S25)) (p1 : (List S25)) : callA Tryz.prog cfg m 24 [LL a25 p0, LL a25 p1] = (T24 p0 p1).map B := by
  obtain ⟨q, rfl⟩ : ∃ q, m = q + 1 := ⟨m - 1, by omega⟩
  exact (callA_body (fn := Tryz.f24) (c := body_ Tryz.f24) q _ (by kernel_rfl) (by kernel_rfl) (by kernel_rfl)).trans (B24 _ p0 p1)

noncomputable def L25_4 (p0 : (List S59)) (p1 : (List S59)) (z0 : Int) : Option (Int ⊕ ((Int × Bool) ⊕ Unit)) := (bif (ltI z0 (lenL p0)) then ((listAt p0 z0).bind fun x1 => ((listAt p1 z0).bind fun x2 => (bif (!allB [eqB x1.f0 x2.f0, allB [eqI x1.f1.f0 x2.f1.f0, eqI x1.f1.f1 x2.f1.f1, eqI x1.f1.f2 x2.f1.f2, eqI x1.f1.f3 x2.f1.f3], allB [eqI x1.f2.f0 x2.f2.f0, eqI x1.f2.f1 x2.f2.f1, eqI x1.f2.f2 x2.f2.f2, eqI x1.f2.f3 x2.f2.f3]]) then (some (.inr (.inr ()))) else (some (.inl (addI .i64 z0 1)))))) else (some (.inr (.inl (z0, (ltI z0 (lenL p0)))))))
theorem L25_4_ok (C : Callee) (p0 : (List S59)) (p1 : (List S59)) (z0 : Int) : runs Tryz.prog C (cfg.fn 25) (finLoop ((cfg.fn 25).keep 4) ((cfg.fn 25).al 4)) [] (execA Tryz.prog C (cfg.fn 25) (nr Tryz.f25 [false, false, true, false, true, true]) ((fun z0 : Int => (mkE [(0, LL a59 p0), (1, LL a59 p1), (12, I (lenL p0)), (13, I z0)] [] 26)) z0)) = (L25_4 p0 p1 z0).map (Sum.elim (fun z => .inl ((fun z0 : Int => (mkE [(0, LL a59 p0), (1, LL a59 p1), (12, I (lenL p0)), (13, I z0)] [] 26)) z)) (fun x => .inr ((Sum.elim (fun (x : (Int × Bool)) => (.exit 0, (mkE [(0, LL a59 p0), (1, LL a59 p1), (12, I (lenL p0)), (13, I x.1), (14, B x.2)] [] 26))) (fun (x : Unit) => (.ret, (mkE [(4, B false)] [] 26)))) x))) := by
  unfold L25_4
  refine gS 0 ?_
  refine gR 4 (rg Tryz.f25 4) ?_
  refine se (mkE [(0, LL a59 p0), (1, LL a59 p1), (12, I (lenL p0)), (13, I z0), (14, B (ltI z0 (lenL p0)))] [] 26) ?_
  refine pN ?_
  refine pS ?_
  refine gS 5 ?_
  refine gC 14 (ltI z0 (lenL p0)) ?_ ?_
  · refine gK ?_
    refine pN ?_
    refine pS ?_
    refine gS 8 ?_
    refine gB 1 ?_
    refine gS 6 ?_
    refine gR 5 (rg Tryz.f25 5) ?_
    refine se (mkE [(0, LL a59 p0), (1, LL a59 p1), (5, I z0), (12, I (lenL p0)), (13, I z0)] [] 26) ?_
    refine pN ?_
    refine pS ?_
    refine gS 0 ?_
    refine gD 6 9 (rg Tryz.f25 6) [0, 1, 2, 3, 4, 5, 6, 7, 8] ?_
    refine dg 2 [(some 16, qe (LL a59 p0)), (some 17, qe (I z0))] ?_
    refine dv 18 (mkE [(17, I z0), (16, LL a59 p0), (0, LL a59 p0), (1, LL a59 p1), (5, I z0), (12, I (lenL p0)), (13, I z0)] [] 26) (addrE 45 60 9 a59 .i64 p0 z0) (fun x1 => ?_)
    refine dg 6 [(some 16, qe (LL a59 p0)), (some 17, qe (I z0)), (some 18, qe (.ia [S x1.f0, I x1.f1.f0, I x1.f1.f1, I x1.f1.f2, I x1.f1.f3, I x1.f2.f0, I x1.f2.f1, I x1.f2.f2, I x1.f2.f3] 0)), (some 19, qe (a59 x1)), (some 20, qe (LL a59 p1)), (some 21, qe (I z0))] ?_
    refine dv 22 (mkE [(21, I z0), (20, LL a59 p1), (0, LL a59 p0), (1, LL a59 p1), (5, I z0), (12, I (lenL p0)), (13, I z0)] [] 26) (addrE 45 60 9 a59 .i64 p1 z0) (fun x2 => ?_)
    refine dg 8 [(some 16, qe (LL a59 p0)), (some 17, qe (I z0)), (some 18, qe (.ia [S x1.f0, I x1.f1.f0, I x1.f1.f1, I x1.f1.f2, I x1.f1.f3, I x1.f2.f0, I x1.f2.f1, I x1.f2.f2, I x1.f2.f3] 0)), (some 19, qe (a59 x1)), (some 20, qe (LL a59 p1)), (some 21, qe (I z0)), (some 22, qe (.ia [S x2.f0, I x2.f1.f0, I x2.f1.f1, I x2.f1.f2, I x2.f1.f3, I x2.f2.f0, I x2.f2.f1, I x2.f2.f2, I x2.f2.f3] 0)), (some 23, qe (a59 x2))] ?_
    refine df 24 (B (!allB [eqB x1.f0 x2.f0, allB [eqI x1.f1.f0 x2.f1.f0, eqI x1.f1.f1 x2.f1.f1, eqI x1.f1.f2 x2.f1.f2, eqI x1.f1.f3 x2.f1.f3], allB [eqI x1.f2.f0 x2.f2.f0, eqI x1.f2.f1 x2.f2.f1, eqI x1.f2.f2 x2.f2.f2, eqI x1.f2.f3 x2.f2.f3]])) (mkE [(23, a59 x2), (22, .ia [S x2.f0, I x2.f1.f0, I x2.f1.f1, I x2.f1.f2, I x2.f1.f3, I x2.f2.f0, I x2.f2.f1, I x2.f2.f2, I x2.f2.f3] 0), (21, I z0), (20, LL a59 p1), (19, a59 x1), (18, .ia [S x1.f0, I x1.f1.f0, I x1.f1.f1, I x1.f1.f2, I x1.f1.f3, I x1.f2.f0, I x1.f2.f1, I x1.f2.f2, I x1.f2.f3] 0), (17, I z0), (16, LL a59 p0), (0, LL a59 p0), (1, LL a59 p1), (5, I z0), (12, I (lenL p0)), (13, I z0)] [] 26) (neqE 60 (.tmp 19) (.tmp 23) [S x1.f0, I x1.f1.f0, I x1.f1.f1, I x1.f1.f2, I x1.f1.f3, I x1.f2.f0, I x1.f2.f1, I x1.f2.f2, I x1.f2.f3] [S x2.f0, I x2.f1.f0, I x2.f1.f1, I x2.f1.f2, I x2.f1.f3, I x2.f2.f0, I x2.f2.f1, I x2.f2.f2, I x2.f2.f3] [.string x1.f0, .int .i64 x1.f1.f0, .int .i64 x1.f1.f1, .int .i64 x1.f1.f2, .int .i64 x1.f1.f3, .int .i64 x1.f2.f0, .int .i64 x1.f2.f1, .int .i64 x1.f2.f2, .int .i64 x1.f2.f3] [.string x2.f0, .int .i64 x2.f1.f0, .int .i64 x2.f1.f1, .int .i64 x2.f1.f2, .int .i64 x2.f1.f3, .int .i64 x2.f2.f0, .int .i64 x2.f2.f1, .int .i64 x2.f2.f2, .int .i64 x2.f2.f3] [eqB x1.f0 x2.f0, allB [eqI x1.f1.f0 x2.f1.f0, eqI x1.f1.f1 x2.f1.f1, eqI x1.f1.f2 x2.f1.f2, eqI x1.f1.f3 x2.f1.f3], allB [eqI x1.f2.f0 x2.f2.f0, eqI x1.f2.f1 x2.f2.f1, eqI x1.f2.f2 x2.f2.f2, eqI x1.f2.f3 x2.f2.f3]] (hb := (hb_of (hb_step 0 (by kernel_rfl) (by kernel_rfl) (hb_step 1 (by kernel_rfl) (fieldEq_sub 9998 [.int .i64 x1.f1.f0, .int .i64 x1.f1.f1, .int .i64 x1.f1.f2, .int .i64 x1.f1.f3] [.int .i64 x2.f1.f0, .int .i64 x2.f1.f1, .int .i64 x2.f1.f2, .int .i64 x2.f1.f3] [eqI x1.f1.f0 x2.f1.f0, eqI x1.f1.f1 x2.f1.f1, eqI x1.f1.f2 x2.f1.f2, eqI x1.f1.f3 x2.f1.f3] (by kernel_rfl) (by kernel_rfl) (by kernel_rfl) (by kernel_rfl) (by kernel_rfl) (by kernel_rfl)) (hb_step 2 (by kernel_rfl) (fieldEq_sub 9998 [.int .i64 x1.f2.f0, .int .i64 x1.f2.f1, .int .i64 x1.f2.f2, .int .i64 x1.f2.f3] [.int .i64 x2.f2.f0, .int .i64 x2.f2.f1, .int .i64 x2.f2.f2, .int .i64 x2.f2.f3] [eqI x1.f2.f0 x2.f2.f0, eqI x1.f2.f1 x2.f2.f1, eqI x1.f2.f2 x2.f2.f2, eqI x1.f2.f3 x2.f2.f3] (by kernel_rfl) (by kernel_rfl) (by kernel_rfl) (by kernel_rfl) (by kernel_rfl) (by kernel_rfl)) (hb_end 3 (by kernel_rfl)))))))) ?_
    refine de (mkE [(24, B (!allB [eqB x1.f0 x2.f0, allB [eqI x1.f1.f0 x2.f1.f0, eqI x1.f1.f1 x2.f1.f1, eqI x1.f1.f2 x2.f1.f2, eqI x1.f1.f3 x2.f1.f3], allB [eqI x1.f2.f0 x2.f2.f0, eqI x1.f2.f1 x2.f2.f1, eqI x1.f2.f2 x2.f2.f2, eqI x1.f2.f3 x2.f2.f3]])), (23, a59 x2), (22, .ia [S x2.f0, I x2.f1.f0, I x2.f1.f1, I x2.f1.f2, I x2.f1.f3, I x2.f2.f0, I x2.f2.f1, I x2.f2.f2, I x2.f2.f3] 0), (21, I z0), (20, LL a59 p1), (19, a59 x1), (18, .ia [S x1.f0, I x1.f1.f0, I x1.f1.f1, I x1.f1.f2, I x1.f1.f3, I x1.f2.f0, I x1.f2.f1, I x1.f2.f2, I x1.f2.f3] 0), (17, I z0), (16, LL a59 p0), (0, LL a59 p0), (1, LL a59 p1), (5, I z0), (12, I (lenL p0)), (13, I z0)] [] 26) ?_
    refine se (mkE [(0, LL a59 p0), (1, LL a59 p1), (12, I (lenL p0)), (13, I z0), (24, B (!allB [eqB x1.f0 x2.f0, allB [eqI x1.f1.f0 x2.f1.f0, eqI x1.f1.f1 x2.f1.f1, eqI x1.f1.f2 x2.f1.f2, eqI x1.f1.f3 x2.f1.f3], allB [eqI x1.f2.f0 x2.f2.f0, eqI x1.f2.f1 x2.f2.f1, eqI x1.f2.f2 x2.f2.f2, eqI x1.f2.f3 x2.f2.f3]]))] [] 26) ?_
    refine pN ?_
    refine pS ?_
    refine gC 24 (!allB [eqB x1.f0 x2.f0, allB [eqI x1.f1.f0 x2.f1.f0, eqI x1.f1.f1 x2.f1.f1, eqI x1.f1.f2 x2.f1.f2, eqI x1.f1.f3 x2.f1.f3], allB [eqI x1.f2.f0 x2.f2.f0, eqI x1.f2.f1 x2.f2.f1, eqI x1.f2.f2 x2.f2.f2, eqI x1.f2.f3 x2.f2.f3]]) ?_ ?_
    · refine gS 0 ?_
      refine gR 7 (rg Tryz.f25 7) ?_
      refine se (mkE [(4, B false)] [] 26) ?_
      refine pN ?_
      refine pS ?_
      refine gE ?_
      exact pL
    · refine gK ?_
      refine pB ?_
      refine pN ?_
      refine pS ?_
      refine gR 8 (rg Tryz.f25 8) ?_
      refine se (mkE [(0, LL a59 p0), (1, LL a59 p1), (12, I (lenL p0)), (13, I (addI .i64 z0 1))] [] 26) ?_
      exact pL
  · refine gX 0 ?_
    exact pL
noncomputable def T25 (p0 : (List S59)) (p1 : (List S59)) : Option Bool := (bif (neI (lenL p0) (lenL p1)) then (some false) else ((iter (L25_4 p0 p1) 0).bind fun y3 => (Sum.elim (fun y3a => (some true)) (fun y3b => (some false)) y3)))
theorem B25 (C : Callee) (p0 : (List S59)) (p1 : (List S59)) : runs Tryz.prog C (cfg.fn 25) (finFn Tryz.prog (cfg.fn 25).byval Tryz.f25) [] (execA Tryz.prog C (cfg.fn 25) (nr Tryz.f25 []) (frame0 [LL a59 p0, LL a59 p1] 26 false)) = (T25 p0 p1).map B := by
  unfold T25
  refine gS 1 ?_
  refine gR 0 (rg Tryz.f25 0) ?_
  refine se (mkE [(0, LL a59 p0), (1, LL a59 p1)] [] 26) ?_
  refine pN ?_
  refine pS ?_
  refine gS 3 ?_
  refine gS 0 ?_
  refine gR 1 (rg Tryz.f25 1) ?_
  refine sg 1 (mkE [(6, LL a59 p0), (0, LL a59 p0), (1, LL a59 p1)] [] 26) ?_
  refine eo 7 (I (lenL p0)) (lenE 45 a59 p0) ?_
  refine sg 3 (mkE [(8, LL a59 p1), (7, I (lenL p0)), (6, LL a59 p0), (0, LL a59 p0), (1, LL a59 p1)] [] 26) ?_
  refine eo 9 (I (lenL p1)) (lenE 45 a59 p1) ?_
  refine se (mkE [(0, LL a59 p0), (1, LL a59 p1), (10, B (neI (lenL p0) (lenL p1)))] [] 26) ?_
  refine pN ?_
  refine pS ?_
  refine gC 10 (neI (lenL p0) (lenL p1)) ?_ ?_
  · refine gS 0 ?_
    refine gR 2 (rg Tryz.f25 2) ?_
    refine se (mkE [(4, B false)] [] 26) ?_
    refine pN ?_
    refine pS ?_
    refine gE ?_
    exact pL
  · refine gK ?_
    refine pN ?_
    refine pS ?_
    refine gS 9 ?_
    refine gS 4 ?_
    refine gR 3 (rg Tryz.f25 3) ?_
    refine sg 1 (mkE [(11, LL a59 p0), (0, LL a59 p0), (1, LL a59 p1), (10, B (neI (lenL p0) (lenL p1)))] [] 26) ?_
    refine eo 12 (I (lenL p0)) (lenE 45 a59 p0) ?_
    refine se (mkE [(0, LL a59 p0), (1, LL a59 p1), (12, I (lenL p0)), (13, I 0)] [] 26) ?_
    refine pN ?_
    refine pS ?_
    refine gB 0 ?_
    refine lo [(0, none), (1, none), (12, none), (13, none)] [] (L25_4 p0 p1) (fun z0 : Int => (mkE [(0, LL a59 p0), (1, LL a59 p1), (12, I (lenL p0)), (13, I z0)] [] 26)) (Sum.elim (fun (x : (Int × Bool)) => (.exit 0, (mkE [(0, LL a59 p0), (1, LL a59 p1), (12, I (lenL p0)), (13, I x.1), (14, B x.2)] [] 26))) (fun (x : Unit) => (.ret, (mkE [(4, B false)] [] 26)))) 0 (fun z => L25_4_ok C p0 p1 z) ?_
    intro y3
    refine ss y3 (Z := (Sum.elim (fun (x : (Int × Bool)) => (.exit 0, (mkE [(0, LL a59 p0), (1, LL a59 p1), (12, I (lenL p0)), (13, I x.1), (14, B x.2)] [] 26))) (fun (x : Unit) => (.ret, (mkE [(4, B false)] [] 26))))) (fun y3a => ?_) (fun y3b => ?_)
    · refine pH ?_
      refine pN ?_
      refine pS ?_
      refine gS 0 ?_
      refine gR 9 (rg Tryz.f25 9) ?_
      refine se (mkE [(4, B true)] [] 26) ?_
      refine pN ?_
      refine pS ?_
      refine gE ?_
      exact pL
    · exact pL
theorem F25 (m : Nat) (hm : 1 ≤ m) (p0 : (List S59)) (p1 : (List S59)) : callA Tryz.prog cfg m 25 [LL a59 p0, LL a59 p1] = (T25 p0 p1).map B := by
  obtain ⟨q, rfl⟩ : ∃ q, m = q + 1 := ⟨m - 1, by omega⟩
  exact (callA_body (fn := Tryz.f25) (c := body_ Tryz.f25) q _ (by kernel_rfl) (by kernel_rfl) (by kernel_rfl)).trans (B25 _ p0 p1)

noncomputable def L75_4 (p0 : (List S25)) (z0 : Int) : Option (Int ⊕ ((Int × Bool) ⊕ Int)) := (bif (ltI z0 (lenL p0)) then ((listAt p0 z0).bind fun x1 => ((T43 x1).bind fun x2 => (bif (neI x2 0) then (some (.inr (.inr x2))) else (some (.inl (addI .i64 z0 1)))))) else (some (.inr (.inl (z0, (ltI z0 (lenL p0)))))))
theorem L75_4_ok (C : Callee) (h43 : ∀ (p0 : S25), C 43 [a25 p0] = (T43 p0).map I) (p0 : (List S25)) (z0 : Int) : runs Tryz.prog C (cfg.fn 75) (finLoop ((cfg.fn 75).keep 4) ((cfg.fn 75).al 4)) [] (execA Tryz.prog C (cfg.fn 75) (nr Tryz.f75 [false, false, true, false, true, true]) ((fun z0 : Int => (mkE [(9, LL a25 p0), (10, I (lenL p0)), (11, I z0)] [] 21)) z0)) = (L75_4 p0 z0).map (Sum.elim (fun z => .inl ((fun z0 : Int => (mkE [(9, LL a25 p0), (10, I (lenL p0)), (11, I z0)] [] 21)) z)) (fun x => .inr ((Sum.elim (fun (x : (Int × Bool)) => (.exit 0, (mkE [(9, LL a25 p0), (10, I (lenL p0)), (11, I x.1), (12, B x.2)] [] 21))) (fun (x : Int) => (.ret, (mkE [(2, I x)] [] 21)))) x))) := by
  unfold L75_4
  refine gS 0 ?_
  refine gR 4 (rg Tryz.f75 4) ?_
  refine se (mkE [(9, LL a25 p0), (10, I (lenL p0)), (11, I z0), (12, B (ltI z0 (lenL p0)))] [] 21) ?_
  refine pN ?_
  refine pS ?_
  refine gS 5 ?_
  refine gC 12 (ltI z0 (lenL p0)) ?_ ?_
  · refine gK ?_
    refine pN ?_
    refine pS ?_
    refine gS 9 ?_
    refine gB 1 ?_
    refine gS 6 ?_
    refine gR 5 (rg Tryz.f75 5) ?_
    refine vo 13 (addrE 42 26 4 a25 .i64 p0 z0) (fun x1 => ?_)
    refine se (mkE [(4, .ba 32 0), (9, LL a25 p0), (10, I (lenL p0)), (11, I z0)] [(32, .box [I x1.f0, I x1.f1, I x1.f2, I x1.f3] false)] 21) ?_
    refine pN ?_
    refine pS ?_
    refine gS 7 ?_
    refine gR 6 (rg Tryz.f75 6) ?_
    refine sg 1 (mkE [(15, a25 x1), (4, .ba 32 0), (9, LL a25 p0), (10, I (lenL p0)), (11, I z0)] [(32, .box [I x1.f0, I x1.f1, I x1.f2, I x1.f3] false)] 21) ?_
    refine co 16 [] (h43 x1) (fun x2 => ?_)
    refine se (mkE [(5, I x2), (9, LL a25 p0), (10, I (lenL p0)), (11, I z0)] [] 21) ?_
    refine pN ?_
    refine pS ?_
    refine gS 0 ?_
    refine gR 7 (rg Tryz.f75 7) ?_
    refine se (mkE [(5, I x2), (9, LL a25 p0), (10, I (lenL p0)), (11, I z0), (18, B (neI x2 0))] [] 21) ?_
    refine pN ?_
    refine pS ?_
    refine gC 18 (neI x2 0) ?_ ?_
    · refine gS 0 ?_
      refine gR 8 (rg Tryz.f75 8) ?_
      refine se (mkE [(2, I x2)] [] 21) ?_
      refine pN ?_
      refine pS ?_
      refine gE ?_
      exact pL
    · refine gK ?_
      refine pB ?_
      refine pN ?_
      refine pS ?_
      refine gR 9 (rg Tryz.f75 9) ?_
      refine se (mkE [(9, LL a25 p0), (10, I (lenL p0)), (11, I (addI .i64 z0 1))] [] 21) ?_
      exact pL
  · refine gX 0 ?_
    exact pL
noncomputable def T75 (p0 : (List S25)) : Option Int := (bif (ltI 2000 (lenL p0)) then (some 2) else ((iter (L75_4 p0) 0).bind fun y3 => (Sum.elim (fun y3a => (some 0)) (fun y3b => (some y3b)) y3)))
theorem B75 (C : Callee) (h43 : ∀ (p0 : S25), C 43 [a25 p0] = (T43 p0).map I) (p0 : (List S25)) : runs Tryz.prog C (cfg.fn 75) (finFn Tryz.prog (cfg.fn 75).byval Tryz.f75) [] (execA Tryz.prog C (cfg.fn 75) (nr Tryz.f75 []) (frame0 [LL a25 p0] 21 false)) = (T75 p0).map I := by
  unfold T75
  refine gS 1 ?_
  refine gR 0 (rg Tryz.f75 0) ?_
  refine se (mkE [(0, LL a25 p0)] [] 21) ?_
  refine pN ?_
  refine pS ?_
  refine gS 3 ?_
  refine gS 0 ?_
  refine gR 1 (rg Tryz.f75 1) ?_
  refine sg 1 (mkE [(6, LL a25 p0), (0, LL a25 p0)] [] 21) ?_
  refine eo 7 (I (lenL p0)) (lenE 42 a25 p0) ?_
  refine se (mkE [(0, LL a25 p0), (8, B (ltI 2000 (lenL p0)))] [] 21) ?_
  refine pN ?_
  refine pS ?_
  refine gC 8 (ltI 2000 (lenL p0)) ?_ ?_
  · refine gS 0 ?_
    refine gR 2 (rg Tryz.f75 2) ?_
    refine se (mkE [(2, I 2)] [] 21) ?_
    refine pN ?_
    refine pS ?_
    refine gE ?_
    exact pL
  · refine gK ?_
    refine pN ?_
    refine pS ?_
    refine gS 10 ?_
    refine gS 4 ?_
    refine gR 3 (rg Tryz.f75 3) ?_
    refine sg 1 (mkE [(9, LL a25 p0), (0, LL a25 p0), (8, B (ltI 2000 (lenL p0)))] [] 21) ?_
    refine eo 10 (I (lenL p0)) (lenE 42 a25 p0) ?_
    refine se (mkE [(9, LL a25 p0), (10, I (lenL p0)), (11, I 0)] [] 21) ?_
    refine pN ?_
    refine pS ?_
    refine gB 0 ?_
    refine lo [(9, none), (10, none), (11, none)] [] (L75_4 p0) (fun z0 : Int => (mkE [(9, LL a25 p0), (10, I (lenL p0)), (11, I z0)] [] 21)) (Sum.elim (fun (x : (Int × Bool)) => (.exit 0, (mkE [(9, LL a25 p0), (10, I (lenL p0)), (11, I x.1), (12, B x.2)] [] 21))) (fun (x : Int) => (.ret, (mkE [(2, I x)] [] 21)))) 0 (fun z => L75_4_ok C h43 p0 z) ?_
    intro y3
    refine ss y3 (Z := (Sum.elim (fun (x : (Int × Bool)) => (.exit 0, (mkE [(9, LL a25 p0), (10, I (lenL p0)), (11, I x.1), (12, B x.2)] [] 21))) (fun (x : Int) => (.ret, (mkE [(2, I x)] [] 21))))) (fun y3a => ?_) (fun y3b => ?_)
    · refine pH ?_
      refine pN ?_
      refine pS ?_
      refine gS 0 ?_
      refine gR 10 (rg Tryz.f75 10) ?_
      refine se (mkE [(2, I 0)] [] 21) ?_
      refine pN ?_
      refine pS ?_
      refine gE ?_
      exact pL
    · exact pL
theorem F75 (m : Nat) (hm : 3 ≤ m) (p0 : (List S25)) : callA Tryz.prog cfg m 75 [LL a25 p0] = (T75 p0).map I := by
  obtain ⟨q, rfl⟩ : ∃ q, m = q + 1 := ⟨m - 1, by omega⟩
  exact (callA_body (fn := Tryz.f75) (c := body_ Tryz.f75) q _ (by kernel_rfl) (by kernel_rfl) (by kernel_rfl)).trans (B75 _ (fun p0 => F43 q (by omega) p0) p0)

noncomputable def L59_3 (p0 : (List S25)) (z0 : (Int × Int)) : Option ((Int × Int) ⊕ (Int × Int × Bool)) := (bif (ltI z0.2 (lenL p0)) then ((listAt p0 z0.2).bind fun x1 => (some (.inl ((addI .i64 z0.1 (mulI .i64 x1.f2 x1.f3)), (addI .i64 z0.2 1))))) else (some (.inr (z0.1, z0.2, (ltI z0.2 (lenL p0))))))
theorem L59_3_ok (C : Callee) (p0 : (List S25)) (z0 : (Int × Int)) : runs Tryz.prog C (cfg.fn 59) (finLoop ((cfg.fn 59).keep 3) ((cfg.fn 59).al 3)) [] (execA Tryz.prog C (cfg.fn 59) (nr Tryz.f59 [false, false, true, false, true, true]) ((fun z0 : (Int × Int) => (mkE [(3, I z0.1), (6, LL a25 p0), (7, I (lenL p0)), (8, I z0.2)] [] 21)) z0)) = (L59_3 p0 z0).map (Sum.elim (fun z => .inl ((fun z0 : (Int × Int) => (mkE [(3, I z0.1), (6, LL a25 p0), (7, I (lenL p0)), (8, I z0.2)] [] 21)) z)) (fun x => .inr ((fun (x : (Int × Int × Bool)) => (.exit 0, (mkE [(3, I x.1), (6, LL a25 p0), (7, I (lenL p0)), (8, I x.2.1), (9, B x.2.2)] [] 21))) x))) := by
  unfold L59_3
  refine gS 0 ?_
  refine gR 3 (rg Tryz.f59 3) ?_
  refine se (mkE [(3, I z0.1), (6, LL a25 p0), (7, I (lenL p0)), (8, I z0.2), (9, B (ltI z0.2 (lenL p0)))] [] 21) ?_
  refine pN ?_
  refine pS ?_
  refine gS 4 ?_
  refine gC 9 (ltI z0.2 (lenL p0)) ?_ ?_
  · refine gK ?_
    refine pN ?_
    refine pS ?_
    refine gS 6 ?_
    refine gB 1 ?_
    refine gS 5 ?_
    refine gR 4 (rg Tryz.f59 4) ?_
    refine vo 10 (addrE 42 26 4 a25 .i64 p0 z0.2) (fun x1 => ?_)
    refine se (mkE [(3, I z0.1), (5, .ba 40 0), (6, LL a25 p0), (7, I (lenL p0)), (8, I z0.2)] [(40, .box [I x1.f0, I x1.f1, I x1.f2, I x1.f3] false)] 21) ?_
    refine pN ?_
    refine pS ?_
    refine gR 5 (rg Tryz.f59 5) ?_
    refine se (mkE [(3, I (addI .i64 z0.1 (mulI .i64 x1.f2 x1.f3))), (6, LL a25 p0), (7, I (lenL p0)), (8, I z0.2)] [] 21) ?_
    refine pB ?_
    refine pN ?_
    refine pS ?_
    refine gR 6 (rg Tryz.f59 6) ?_
    refine se (mkE [(3, I (addI .i64 z0.1 (mulI .i64 x1.f2 x1.f3))), (6, LL a25 p0), (7, I (lenL p0)), (8, I (addI .i64 z0.2 1))] [] 21) ?_
    exact pL
  · refine gX 0 ?_
    exact pL
noncomputable def T59 (p0 : (List S25)) : Option Int := ((iter (L59_3 p0) (0, 0)).bind fun y2 => (some y2.1))
theorem B59 (C : Callee) (p0 : (List S25)) : runs Tryz.prog C (cfg.fn 59) (finFn Tryz.prog (cfg.fn 59).byval Tryz.f59) [] (execA Tryz.prog C (cfg.fn 59) (nr Tryz.f59 []) (frame0 [LL a25 p0] 21 false)) = (T59 p0).map I := by
  unfold T59
  refine gS 1 ?_
  refine gR 0 (rg Tryz.f59 0) ?_
  refine se (mkE [(0, LL a25 p0)] [] 21) ?_
  refine pN ?_
  refine pS ?_
  refine gS 2 ?_
  refine gR 1 (rg Tryz.f59 1) ?_
  refine se (mkE [(0, LL a25 p0), (3, I 0)] [] 21) ?_
  refine pN ?_
  refine pS ?_
  refine gS 7 ?_
  refine gS 3 ?_
  refine gR 2 (rg Tryz.f59 2) ?_
  refine sg 1 (mkE [(6, LL a25 p0), (0, LL a25 p0), (3, I 0)] [] 21) ?_
  refine eo 7 (I (lenL p0)) (lenE 42 a25 p0) ?_
  refine se (mkE [(3, I 0), (6, LL a25 p0), (7, I (lenL p0)), (8, I 0)] [] 21) ?_
  refine pN ?_
  refine pS ?_
  refine gB 0 ?_
  refine lo [(3, none), (6, none), (7, none), (8, none)] [] (L59_3 p0) (fun z0 : (Int × Int) => (mkE [(3, I z0.1), (6, LL a25 p0), (7, I (lenL p0)), (8, I z0.2)] [] 21)) (fun (x : (Int × Int × Bool)) => (.exit 0, (mkE [(3, I x.1), (6, LL a25 p0), (7, I (lenL p0)), (8, I x.2.1), (9, B x.2.2)] [] 21))) (0, 0) (fun z => L59_3_ok C p0 z) ?_
  intro y2
  refine pH ?_
  refine pN ?_
  refine pS ?_
  refine gS 0 ?_
  refine gR 7 (rg Tryz.f59 7) ?_
  refine se (mkE [(2, I y2.1)] [] 21) ?_
  refine pN ?_
  refine pS ?_
  refine gE ?_
  exact pL
theorem F59 (m : Nat) (hm : 1 ≤ m) (p0 : (List S25)) : callA Tryz.prog cfg m 59 [LL a25 p0] = (T59 p0).map I := by
  obtain ⟨q, rfl⟩ : ∃ q, m = q + 1 := ⟨m - 1, by omega⟩
  exact (callA_body (fn := Tryz.f59) (c := body_ Tryz.f59) q _ (by kernel_rfl) (by kernel_rfl) (by kernel_rfl)).trans (B59 _ p0)

noncomputable def T57 (p0 : (List S25)) : Option (Int × Int) := ((T75 p0).bind fun x1 => (bif (neI x1 0) then (some (0, x1)) else ((T41 p0 []).bind fun x2 => ((T59 x2).bind fun x3 => (some (x3, 0))))))
theorem B57 (C : Callee) (h41 : ∀ (p0 : (List S25)) (p1 : (List S25)), C 41 [LL a25 p0, LL a25 p1] = (T41 p0 p1).map (fun l => AV.fr 26 4 (List.map a25 l))) (h59 : ∀ (p0 : (List S25)), C 59 [LL a25 p0] = (T59 p0).map I) (h75 : ∀ (p0 : (List S25)), C 75 [LL a25 p0] = (T75 p0).map I) (p0 : (List S25)) : runs Tryz.prog C (cfg.fn 57) (finFn Tryz.prog (cfg.fn 57).byval Tryz.f57) [] (execA Tryz.prog C (cfg.fn 57) (nr Tryz.f57 []) (frame0 [LL a25 p0] 13 false)) = (T57 p0).map (fun r => AV.tup [I r.1, I r.2]) := by
  unfold T57
  refine gS 1 ?_
  refine gR 0 (rg Tryz.f57 0) ?_
  refine se (mkE [(0, LL a25 p0)] [] 13) ?_
  refine pN ?_
  refine pS ?_
  refine gS 4 ?_
  refine gS 2 ?_
  refine gR 1 (rg Tryz.f57 1) ?_
  refine sg 1 (mkE [(5, LL a25 p0), (0, LL a25 p0)] [] 13) ?_
  refine co 6 [] (h75 p0) (fun x1 => ?_)
  refine se (mkE [(0, LL a25 p0), (4, I x1)] [] 13) ?_
  refine pN ?_
  refine pS ?_
  refine gS 0 ?_
  refine gR 2 (rg Tryz.f57 2) ?_
  refine se (mkE [(0, LL a25 p0), (4, I x1), (8, B (neI x1 0))] [] 13) ?_
  refine pN ?_
  refine pS ?_
  refine gC 8 (neI x1 0) ?_ ?_
  · refine gS 0 ?_
    refine gR 3 (rg Tryz.f57 3) ?_
    refine se (mkE [(2, I 0), (3, I x1)] [] 13) ?_
    refine pN ?_
    refine pS ?_
    refine gE ?_
    exact pL
  · refine gK ?_
    refine pN ?_
    refine pS ?_
    refine gS 0 ?_
    refine gR 4 (rg Tryz.f57 4) ?_
    refine sg 1 (mkE [(10, LL a25 p0), (0, LL a25 p0), (4, I x1), (8, B (neI x1 0))] [] 13) ?_
    refine co 11 [] (h41 p0 []) (fun x2 => ?_)
    refine co 12 [88] (h59 x2) (fun x3 => ?_)
    refine se (mkE [(2, I x3), (3, I 0)] [] 13) ?_
    refine pN ?_
    refine pS ?_
    refine gE ?_
    exact pL
theorem F57 (m : Nat) (hm : 5 ≤ m) (p0 : (List S25)) : callA Tryz.prog cfg m 57 [LL a25 p0] = (T57 p0).map (fun r => AV.tup [I r.1, I r.2]) := by
  obtain ⟨q, rfl⟩ : ∃ q, m = q + 1 := ⟨m - 1, by omega⟩
  exact (callA_body (fn := Tryz.f57) (c := body_ Tryz.f57) q _ (by kernel_rfl) (by kernel_rfl) (by kernel_rfl)).trans (B57 _ (fun p0 p1 => F41 q (by omega) p0 p1) (fun p0 => F59 q (by omega) p0) (fun p0 => F75 q (by omega) p0) p0)

noncomputable def T26 : Option Bool := ((T57 ([(S25.mk 0 0 2 2), (S25.mk 1 1 2 2)] : List S25)).bind fun x1 => (bif (eqI x1.2 0) then (some (eqI x1.1 7)) else (some false)))
theorem B26 (C : Callee) (h57 : ∀ (p0 : (List S25)), C 57 [LL a25 p0] = (T57 p0).map (fun r => AV.tup [I r.1, I r.2])) : runs Tryz.prog C (cfg.fn 26) (finFn Tryz.prog (cfg.fn 26).byval Tryz.f26) [] (execA Tryz.prog C (cfg.fn 26) (nr Tryz.f26 []) (frame0 [] 16 false)) = (T26).map B := by
  unfold T26
  refine gS 1 ?_
  refine gR 0 (rg Tryz.f26 0) ?_
  refine se (mkE [] [] 16) ?_
  refine pN ?_
  refine pS ?_
  refine gS 2 ?_
  refine gR 1 (rg Tryz.f26 1) ?_
  refine sg 3 (mkE [(6, .own 48 0), (5, .agg [I 1, I 1, I 2, I 2]), (4, .agg [I 0, I 0, I 2, I 2])] [(48, RR 26 4 a25 ([(S25.mk 0 0 2 2), (S25.mk 1 1 2 2)] : List S25) 0 false)] 16) ?_
  refine co 7 [48] (h57 ([(S25.mk 0 0 2 2), (S25.mk 1 1 2 2)] : List S25)) (fun x1 => ?_)
  refine se (mkE [(1, I x1.1), (2, I x1.2)] [] 16) ?_
  refine pN ?_
  refine pS ?_
  refine gS 0 ?_
  refine gR 2 (rg Tryz.f26 2) ?_
  refine sg 3 (mkE [(12, B (eqI x1.2 0)), (11, B (eqI x1.2 0)), (10, I x1.2), (1, I x1.1), (2, I x1.2)] [] 16) ?_
  refine sb 12 (eqI x1.2 0) ?_ ?_
  · refine se (mkE [(0, B (eqI x1.1 7))] [] 16) ?_
    refine pN ?_
    refine pS ?_
    refine gE ?_
    exact pL
  · refine se (mkE [(0, B false)] [] 16) ?_
    refine pN ?_
    refine pS ?_
    refine gE ?_
    exact pL
theorem F26 (m : Nat) (hm : 6 ≤ m) : callA Tryz.prog cfg m 26 [] = (T26).map B := by
  obtain ⟨q, rfl⟩ : ∃ q, m = q + 1 := ⟨m - 1, by omega⟩
  exact (callA_body (fn := Tryz.f26) (c := body_ Tryz.f26) q _ (by kernel_rfl) (by kernel_rfl) (by kernel_rfl)).trans (B26 _ (fun p0 => F57 q (by omega) p0))

end Go.Abs.TU
